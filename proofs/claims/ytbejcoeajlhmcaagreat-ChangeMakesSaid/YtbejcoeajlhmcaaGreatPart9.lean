/- Walks. -/
import Derived.Test.YtbejcoeajlhmcaaGreatPart8
set_option linter.unusedVariables false
set_option linter.unusedSimpArgs false
set_option linter.unusedSectionVars false

namespace Go.Proofs.Gr
open Go.SL Go.RowKit Go.Proofs Go.GP Go.MyPlain
def Ch (R : Vtx -> Vtx -> Prop) : List Vtx -> Prop
 | a :: b :: l => R a b /\ Ch R (b :: l)
 | _ => True
theorem Ch.pw {R : Vtx -> Vtx -> Prop} (ht : ∀ a b c, R a b -> R b c -> R a c) : ∀ {l : List Vtx}, Ch R l -> l.Pairwise R
 | [], _ => .nil
 | [a], _ => List.pairwise_singleton _ _
 | a :: b :: l, h => by
  have ih := Ch.pw ht (l := b :: l) h.2
  refine List.pairwise_cons.2 ⟨fun x hx => ?_, ih⟩
  rcases List.mem_cons.1 hx with rfl | hx
  ·exact h.1
  exact ht _ _ _ h.1 ((List.pairwise_cons.1 ih).1 x hx)
theorem Ch.of_pw {R : Vtx -> Vtx -> Prop} : ∀ {l : List Vtx}, l.Pairwise R -> Ch R l
 | [], _ => trivial
 | [a], _ => trivial
 | a :: b :: l, h => ⟨(List.pairwise_cons.1 h).1 b (by simp), Ch.of_pw (List.pairwise_cons.1 h).2⟩
theorem Ch.cons {R : Vtx -> Vtx -> Prop} {a : Vtx} {l : List Vtx} (h : Ch R l) (hh : ∀ x, l.head? = some x -> R a x) : Ch R (a :: l) := by
 cases l with
 | nil => trivial
 | cons b l => exact ⟨hh b rfl, h⟩
theorem Ch.append {R : Vtx -> Vtx -> Prop} : ∀ {l m : List Vtx}, Ch R l -> Ch R m -> (∀ x y, l.getLast? = some x -> m.head? = some y -> R x y) -> Ch R (l ++ m)
 | [], m, _, h, _ => h
 | [a], m, _, h, hh => Ch.cons h fun x hx => hh a x rfl hx
 | a :: b :: l, m, h1, h2, hh => ⟨h1.1, Ch.append (l := b :: l) h1.2 h2 fun x y hx hy => hh x y (by rw [List.getLast?_cons_cons]; exact hx) hy⟩
theorem live_chain {ps : List PartP} {V : List Vtx} (hs : Sq ps) (hV : ∀ v, v ∈ V ↔ v ∈ allV ps /\ aliveV ps v = true) (hc : V.Pairwise (Rch (allE ps))) : live (linesP ps) = V.map (lineP ps) := by
 have hasym : ∀ a b, Rch (allE ps) a b -> Rch (allE ps) b a -> False := fun a b h k => hs.irrefl (h.trans k)
 have hVn : V.Nodup := hc.imp fun h e => by subst e; exact hs.irrefl h
 have hFn : ((topoF ps).filter (aliveV ps)).Nodup := List.filter_sublist.nodup (topoF_nodup hs)
 have hF : ∀ v, v ∈ (topoF ps).filter (aliveV ps) ↔ v ∈ V := fun v => by
  rw [List.mem_filter, hV, (topoF_perm_all hs).mem_iff]
 have hp : ((topoF ps).filter (aliveV ps)).Perm V := (List.perm_ext_iff_of_nodup hFn hVn).2 hF
 have hpw : ((topoF ps).filter (aliveV ps)).Pairwise (Rch (allE ps)) := by
  have h1 : (topoF ps).Pairwise fun a b => ¬ Bef ps b a /\ a ≠ b := by
   rw [List.pairwise_iff_getElem]
   intro i j hi hj hij
   refine ⟨topoF_order hs hj (Nat.le_of_lt hij), fun e => ?_⟩
   have := (List.getElem_inj (topoF_nodup hs)).1 e
   omega
  refine List.Pairwise.imp_of_mem (fun {a b} ha hb h => ?_) (h1.filter _)
  obtain ⟨hn, hne⟩ := h
  obtain ⟨i, hi, rfl⟩ := List.mem_iff_getElem.1 ((hF a).1 ha)
  obtain ⟨j, hj, rfl⟩ := List.mem_iff_getElem.1 ((hF b).1 hb)
  have hw := List.pairwise_iff_getElem.1 hc
  rcases Nat.lt_or_gt_of_ne (fun e : i = j => hne (by subst e; rfl)) with h | h
  ·exact hw i j hi hj h
  exfalso
  have hr := hw j i hj hi h
  have ha2 := ((hV _).1 (List.getElem_mem hi)).1
  have hb2 := ((hV _).1 (List.getElem_mem hj)).1
  exact hn ⟨.inr (.inr hb2), .inr (.inr ha2), fun e => hne e.symm, (hs.line hb2).2, (hs.line ha2).1, .inr (.inr hr)⟩
 have := eq_of_chain hasym hp hpw hc
 unfold live linesP
 rw [List.filter_map]
 rw [show ((fun x : LineP => x.alive) ∘ lineP ps) = aliveV ps from rfl, this]
theorem chain_items2 {ps : List PartP} {V : List Vtx} (hs : Sq ps) (hV : ∀ v, v ∈ V ↔ v ∈ allV ps /\ aliveV ps v = true) (hc : V.Pairwise (Rch (allE ps))) : itemsP ps = (V.map (lineP ps)).map oneI := by
 unfold itemsP
 rw [live_chain hs hV hc]
 refine itemsL_solid fun x hx => ?_
 rw [solidP_iff]
 intro y hy
 obtain ⟨a, ha, rfl⟩ := List.mem_map.1 hx
 obtain ⟨b, hb, rfl⟩ := List.mem_map.1 hy
 show (decide (a = b) || ordP ps a b) = true
 by_cases e : a = b
 ·simp [e]
 have ha2 := ((hV a).1 ha).1
 have hb2 := ((hV b).1 hb).1
 have h1 := Sq.line hs ha2
 have h2 := Sq.line hs hb2
 have hor : Rch (allE ps) a b ∨ Rch (allE ps) b a := by
  obtain ⟨i, hi, rfl⟩ := List.mem_iff_getElem.1 ha
  obtain ⟨j, hj, rfl⟩ := List.mem_iff_getElem.1 hb
  have hpw := List.pairwise_iff_getElem.1 hc
  rcases Nat.lt_or_gt_of_ne (fun h : i = j => e (by subst h; rfl)) with h | h
  ·exact .inl (hpw i j hi hj h)
  exact .inr (hpw j i hj hi h)
 have : ordP ps a b = true := by
  unfold ordP
  rw [Bool.or_eq_true, befP_iff, befP_iff]
  rcases hor with h | h
  ·exact .inl ⟨.inr (.inr ha2), .inr (.inr hb2), e, h1.2, h2.1, .inr (.inr h)⟩
  exact .inr ⟨.inr (.inr hb2), .inr (.inr ha2), fun e2 => e e2.symm, h2.2, h1.1, .inr (.inr h)⟩
 rw [this, Bool.or_true]
def verE (I : List ItemP) (K : List Bool) : Nat -> Nat -> List Elt -> List Vtx
 | _, _, [] => []
 | i, f, .keep k :: l => headV I[k]! :: verE I K i f l
 | i, f, .run r :: l => own (partE I K i f r) ++ verE I K (i + 1) (f + r.lines.length) l
section
variable {I : List ItemP} {K : List Bool}
theorem up_at {j : Nat} (h : solidK I K j = true) : upK I K (j + 1) = headV I[j]! := by
 rw [<- upF_end (I := I) (K := K) (fr := j + 1) (k := j + 1) (Nat.le_refl _)]
 exact upF_yes (Nat.lt_succ_self j) h
theorem down_at {k : Nat} (hk : k < I.length) (h : solidK I K k = true) : downK I K k = headV I[k]! := downK_at hk (Nat.le_refl _) h (fun i hi hh => by omega)
theorem own_pw {q : PartP} {R : Vtx -> Vtx -> Prop} (h : ∀ u v, Rch (edges q) u v -> R u v) : (own q).Pairwise R := by
 rw [List.pairwise_iff_getElem]
 intro i j hi hj hij
 rw [own_get, own_get]
 rw [own_len] at hj
 exact h _ _ (edge_in hij hj)
theorem own_head {q : PartP} {x : Vtx} (h : (own q).head? = some x) : 0 < q.lines.length /\ x = q.vtx 0 := by
 have hp : 0 < (own q).length := by
  cases e : own q with
  | nil => rw [e] at h; cases h
  | cons a l => simp
 rw [List.head?_eq_getElem?, List.getElem?_eq_getElem hp, own_get] at h
 rw [own_len] at hp
 exact ⟨hp, (Option.some.inj h).symm⟩
theorem own_last {q : PartP} {x : Vtx} (h : (own q).getLast? = some x) : 0 < q.lines.length /\ x = q.vtx (q.lines.length - 1) := by
 have hp : 0 < (own q).length := by
  cases e : own q with
  | nil => rw [e] at h; cases h
  | cons a l => simp
 rw [List.getLast?_eq_getElem?, List.getElem?_eq_getElem (by omega), own_get, own_len] at h
 rw [own_len] at hp
 exact ⟨hp, (Option.some.inj h).symm⟩
theorem ver_chain {R : Vtx -> Vtx -> Prop} {a n : Nat} {l : List Elt} (h : Tile a l n) : ∀ i f, (∀ k, .keep k ∈ l -> k < I.length /\ solidK I K k = true) -> (∀ x y, .keep x ∈ l -> .keep y ∈ l -> x < y -> R (headV I[x]!) (headV I[y]!)) ->
  (∀ q ∈ partsR I K i f (runsE l), ∀ u v, Rch (edges q) u v -> R u v) ->
  Ch R (verE I K i f l) /\ ∀ j, j + 1 = a -> solidK I K j = true -> (∀ y, .keep y ∈ l -> R (headV I[j]!) (headV I[y]!)) -> ∀ x, (verE I K i f l).head? = some x -> R (headV I[j]!) x := by
 induction h with
 | nil => intro i f _ _ _; exact ⟨trivial, fun j _ _ _ x hx => by cases hx⟩
 | @keep a n l h ih =>
  intro i f hk hkk hq
  obtain ⟨ih1, ih2⟩ := ih i f (fun k h => hk k (List.mem_cons_of_mem _ h)) (fun x y hx hy => hkk x y (List.mem_cons_of_mem _ hx) (List.mem_cons_of_mem _ hy)) hq
  have hm := h.mem
  refine ⟨Ch.cons ih1 (ih2 a rfl (hk a (by simp)).2 fun y hy => hkk a y (by simp) (List.mem_cons_of_mem _ hy) (by have := hm.1 y hy; omega)), fun j hj hs hy x hx => ?_⟩
  simp only [verE, List.head?_cons, Option.some.injEq] at hx
  subst hx
  exact hy a (by simp)
 | @last r h =>
  intro i f hk hkk hq
  have hq1 := hq (partE I K i f r) (by simp [runsE, partsR])
  refine ⟨?_, fun j hj hs hy x hx => ?_⟩
  ·show Ch R (own (partE I K i f r) ++ [])
   rw [List.append_nil]
   exact Ch.of_pw (own_pw hq1)
  have hx2 : (own (partE I K i f r)).head? = some x := by simpa [verE] using hx
  obtain ⟨h1, rfl⟩ := own_head hx2
  have := hq1 _ _ (edge_up (p := partE I K i f r) h1)
  rwa [show (partE I K i f r).up = headV I[j]! by show upK I K r.fr = _; rw [<- hj]; exact up_at hs] at this
 | @run r l n h t ih =>
  intro i f hk hkk hq
  have hq1 := hq (partE I K i f r) (by rw [runsE_run]; exact List.mem_cons_self)
  obtain ⟨ih1, _⟩ := ih (i + 1) (f + r.lines.length) (fun k h => hk k (List.mem_cons_of_mem _ h)) (fun x y hx hy => hkk x y (List.mem_cons_of_mem _ hx) (List.mem_cons_of_mem _ hy)) (fun q hq2 => hq q (by rw [runsE_run]; exact List.mem_cons_of_mem _ hq2))
  have hto := hk r.to (by simp)
  refine ⟨?_, fun j hj hs hy x hx => ?_⟩
  ·refine Ch.append (Ch.of_pw (own_pw hq1)) ih1 fun x y hx hy => ?_
   obtain ⟨h1, rfl⟩ := own_last hx
   simp only [verE, List.head?_cons, Option.some.injEq] at hy
   subst hy
   have := hq1 _ _ (edge_down (p := partE I K i f r) (i := (partE I K i f r).lines.length - 1) (by omega))
   rwa [show (partE I K i f r).down = headV I[r.to]! from down_at hto.1 hto.2] at this
  have hx2 : (own (partE I K i f r) ++ verE I K (i + 1) (f + r.lines.length) (.keep r.to :: l)).head? = some x := hx
  rw [List.head?_append] at hx2
  cases e : (own (partE I K i f r)).head? with
  | none =>
   rw [e] at hx2
   simp only [verE, List.head?_cons, Option.none_or, Option.some.injEq] at hx2
   subst hx2
   exact hy r.to (by simp)
  | some z =>
   rw [e] at hx2
   obtain rfl : z = x := by simpa using hx2
   obtain ⟨h1, rfl⟩ := own_head e
   have := hq1 _ _ (edge_up (p := partE I K i f r) h1)
   rwa [show (partE I K i f r).up = headV I[j]! by show upK I K r.fr = _; rw [<- hj]; exact up_at hs] at this
theorem ver_mem {v : Vtx} : ∀ (l : List Elt) (i f : Nat), v ∈ verE I K i f l ↔ (∃ k, .keep k ∈ l /\ v = headV I[k]!) ∨ ∃ q ∈ partsR I K i f (runsE l), v ∈ own q
 | [], i, f => by simp [verE, runsE, partsR]
 | .keep k :: l, i, f => by
  simp only [verE, List.mem_cons, runsE_keep, ver_mem l i f]
  constructor
  ·rintro (h | ⟨j, h1, h2⟩ | h)
   ·exact .inl ⟨k, .inl rfl, h⟩
   ·exact .inl ⟨j, .inr h1, h2⟩
   exact .inr h
  rintro (⟨j, h1 | h1, h2⟩ | h)
  ·cases h1; exact .inl h2
  ·exact .inr (.inl ⟨j, h1, h2⟩)
  exact .inr (.inr h)
 | .run r :: l, i, f => by
  simp only [verE, List.mem_append, runsE_run, partsR, ver_mem l (i + 1) (f + r.lines.length), List.mem_cons]
  constructor
  ·rintro (h | ⟨j, h1, h2⟩ | ⟨q, h1, h2⟩)
   ·exact .inr ⟨_, .inl rfl, h⟩
   ·exact .inl ⟨j, .inr h1, h2⟩
   exact .inr ⟨q, .inr h1, h2⟩
  rintro (⟨j, h1 | h1, h2⟩ | ⟨q, h1 | h1, h2⟩)
  ·cases h1
  ·exact .inr (.inl ⟨j, h1, h2⟩)
  ·subst h1; exact .inl h2
  exact .inr (.inr ⟨q, h1, h2⟩)
theorem ver_text {T : List ByteArray} {tx : Vtx -> ByteArray} : ∀ (l : List Elt) (i f : Nat), (∀ k, .keep k ∈ l -> tx (headV I[k]!) = T[k]!) -> (∀ q ∈ partsR I K i f (runsE l), (own q).map tx = q.lines) -> (verE I K i f l).map tx = wordsE T l
 | [], _, _, _, _ => rfl
 | .keep k :: l, i, f, h1, h2 => by
  simp only [verE, List.map_cons, wordsE]
  rw [h1 k (by simp), ver_text l i f (fun j hj => h1 j (List.mem_cons_of_mem _ hj)) h2]
 | .run r :: l, i, f, h1, h2 => by
  simp only [verE, List.map_append, wordsE]
  rw [h2 (partE I K i f r) (by rw [runsE_run]; exact List.mem_cons_self), ver_text l (i + 1) (f + r.lines.length) (fun j hj => h1 j (List.mem_cons_of_mem _ hj)) (fun q hq => h2 q (by rw [runsE_run]; exact List.mem_cons_of_mem _ hq))]
  rfl
theorem part_mem : ∀ (rs : List Run) (i f : Nat) (q : PartP), q ∈ partsR I K i f rs -> q.patch = ppH /\ ∃ r ∈ rs, q.gone = sortL (goneK I r)
 | [], _, _, q, h => by cases h
 | r :: rs, i, f, q, h => by
  rcases List.mem_cons.1 h with rfl | h
  ·exact ⟨rfl, r, by simp, rfl⟩
  obtain ⟨h1, s, hs, h2⟩ := part_mem rs _ _ q h
  exact ⟨h1, s, List.mem_cons_of_mem _ hs, h2⟩
theorem mem_part : ∀ (rs : List Run) (i f : Nat) (r : Run), r ∈ rs -> ∃ q ∈ partsR I K i f rs, q.gone = sortL (goneK I r)
 | [], _, _, r, h => by cases h
 | s :: rs, i, f, r, h => by
  rcases List.mem_cons.1 h with rfl | h
  ·exact ⟨_, List.mem_cons_self, rfl⟩
  obtain ⟨q, h1, h2⟩ := mem_part rs (i + 1) (f + s.lines.length) r h
  exact ⟨q, List.mem_cons_of_mem _ h1, h2⟩
end
theorem alive_iff {ps : List PartP} {v : Vtx} : aliveV ps v = true ↔ ∀ p ∈ ps, v ∉ p.gone := by
 unfold aliveV
 simp only [Bool.not_eq_true', List.contains_eq_mem, decide_eq_false_iff_not, List.mem_flatMap, not_exists, not_and]
theorem toks_marks {I : List ItemP} : ∀ (w : List ByteArray) (fr : Nat), (∀ s ∈ w, Ln.markP s = false) -> toks I fr w = w.map Tok.free
 | [], _, _ => rfl
 | s :: w, fr, h => by
  have hr : recAt I fr (s :: w) = none := by
   cases e : recAt I fr (s :: w) with
   | none => rfl
   | some k =>
    exfalso
    obtain ⟨_, _, h3, h4⟩ := recAt_some e
    unfold begT at h4
    rw [Bool.and_eq_true, decide_eq_true_eq, decide_eq_true_eq] at h4
    have h5 : oneT I[k]! = beginB :: (rowsT I[k]! I[k]!.lines.length ++ [closeB]) := by unfold oneT; rw [h3]; rfl
    rw [h5] at h4
    have h6 := h4.2
    simp only [List.length_cons, List.take_succ_cons, List.cons.injEq] at h6
    have h7 := h s (by simp)
    rw [h6.1] at h7
    exact absurd h7 (by decide +kernel)
  rw [toks_free hr, toks_marks w fr (fun t ht => h t (List.mem_cons_of_mem _ ht))]
  rfl
theorem isP_never : Ln.isP neverB = false := by decide +kernel
theorem makes {ps : List PartP} (hs : Sq ps) (hP : ∀ p ∈ ps, p.patch ≠ ppH) {w : List ByteArray} (hE : errH (itemsP ps) w = 0) (hm : ∀ s ∈ w, Ln.markP s = false) :
  (itemsP ((partsR (itemsP ps) (keptH (itemsP ps) w) 0 0 (runsH (itemsP ps) w)).reverse ++ ps)).any (·.block) = false /\
  textI (itemsP ((partsR (itemsP ps) (keptH (itemsP ps) w) 0 0 (runsH (itemsP ps) w)).reverse ++ ps)) = w := by
 obtain ⟨I, hI⟩ : ∃ z, z = itemsP ps := ⟨_, rfl⟩
 obtain ⟨K, hK⟩ : ∃ z, z = keptH I w := ⟨_, rfl⟩
 rw [<- hI] at hE ⊢
 rw [<- hK]
 have htk := toks_marks (I := I) w 0 hm
 have hisw : ∀ s ∈ w, Ln.isP s = true := by
  have := (checkP_zero hE).2
  rw [secs_frees htk] at this
  unfold badS at this
  simp only [List.any_cons, List.any_nil, Bool.or_false, List.any_eq_false] at this
  intro s h
  simpa using this s h
 obtain ⟨hr, hk⟩ := runs_frees htk
 have hnI := I.length
 obtain ⟨E, hEe⟩ : ∃ z, z = nf w (scr (I.map txtI) w) 0 none := ⟨_, rfl⟩
 have htile : Tile 0 E I.length := by
  have := nf_tile (ls := w) (scr (I.map txtI) w) 0 none (fun t h => scr_op h) (fun r h => by cases h)
  rw [<- hEe, scr_takes, List.length_map, Nat.zero_add] at this
  exact this
 have hrunsE : runsH I w = runsE E := by
  rw [hr, hEe]
  have := nf_runs (ls := w) (scr (I.map txtI) w) 0 none [] (List.replicate I.length false)
  simp only [Option.isSome_none, Option.toList_none, List.append_nil, List.nil_append] at this
  rw [<- this]
  unfold runsR
  rw [txts_all]
 have hkeep : ∀ k, k < I.length -> (K[k]! = true ↔ .keep k ∈ E) := by
  intro k hkI
  have := nf_kept (ls := w) (k := k) (scr (I.map txtI) w) 0 none ⟨0, false, [], List.replicate I.length false⟩ rfl (by simpa using hkI)
  rw [<- hEe, mem_keptE] at this
  rw [hK, hk]
  unfold runsR
  rw [txts_all]
  rw [this]
  have h0 : ((⟨0, false, [], List.replicate I.length false⟩ : RS).K)[k]! = false := by
   show (List.replicate I.length false)[k]! = false
   rw [getElem!_pos _ _ (by simpa using hkI), List.getElem_replicate]
  rw [h0]
  simp
 have hwords : wordsE (I.map txtI) E = w := by
  rw [hEe]
  have := nf_words (T := I.map txtI) (ls := w) _ 0 0 0 (I.map txtI) w none (Nat.le_refl _) rfl rfl
  unfold scr
  rw [this]; rfl
 have hrange : ∀ k, .keep k ∈ E -> k < I.length := fun k h => (htile.mem.1 k h).2
 have hTk : ∀ k (hk : k < I.length), (I.map txtI)[k]! = txtI I[k] := fun k hk => by rw [getElem!_pos _ _ (by simpa using hk), List.getElem_map]
 have hnb : ∀ k, .keep k ∈ E -> ∀ hk : k < I.length, I[k].block = false := fun k h hk => by
  have h1 : (I.map txtI)[k]! ∈ w := by
   rw [hEe] at h
   exact nf_same (T := I.map txtI) (ls := w) _ 0 0 0 (I.map txtI) w none rfl k h
  have h2 := hisw _ h1
  rw [hTk k hk] at h2
  cases e : I[k].block with
  | false => rfl
  | true =>
   unfold txtI at h2
   rw [e, if_pos rfl, isP_never] at h2
   cases h2
 have hsol : ∀ k, .keep k ∈ E -> k < I.length /\ solidK I K k = true := fun k h => by
  have hkI := hrange k h
  refine ⟨hkI, ?_⟩
  unfold solidK
  rw [(hkeep k hkI).2 h, getElem!_pos I k hkI, hnb k h hkI]; rfl
 obtain ⟨qs, hqs⟩ : ∃ z, z = partsR I K 0 0 (runsE E) := ⟨_, rfl⟩
 rw [hrunsE, <- hqs]
 have hcm : Comes ps qs := by
  rw [hqs, hI]
  refine comes_parts hs _ 0 0 ps hs (fun p h => h) (fun q hq => .inl (hP q hq)) (fun r h => ?_)
  have := htile.mem.2 r (mem_runsE.1 h)
  rw [<- hI]
  exact ⟨this.2.1, this.2.2⟩
 have hs2 := comes_sq hs hcm
 obtain ⟨ps2, hps2⟩ : ∃ z, z = qs.reverse ++ ps := ⟨_, rfl⟩
 rw [<- hps2] at hs2 ⊢
 have hin1 : ∀ p ∈ ps, p ∈ ps2 := fun p h => by rw [hps2]; exact List.mem_append_right _ h
 have hin2 : ∀ q ∈ qs, q ∈ ps2 := fun q h => by rw [hps2]; exact List.mem_append_left _ (List.mem_reverse.2 h)
 have hin : ∀ q ∈ ps2, q ∈ qs ∨ q ∈ ps := fun q h => by
  rw [hps2] at h
  rcases List.mem_append.1 h with h | h
  ·exact .inl (List.mem_reverse.1 h)
  exact .inr h
 have hall : ∀ v, v ∈ allV ps -> v ∈ allV ps2 := fun v hv => by
  obtain ⟨p, hp, h⟩ := mem_allV.1 hv
  exact mem_allV.2 ⟨p, hin1 p hp, h⟩
 have hpat : ∀ v, v ∈ allV ps -> v.1 ≠ ppH := fun v hv => by
  obtain ⟨p, hp, h⟩ := mem_allV.1 hv
  obtain ⟨i, _, rfl⟩ := mem_own.1 h
  exact hP p hp
 have hgq : ∀ q ∈ qs, ∀ v ∈ q.gone, ∃ r, .run r ∈ E /\ v ∈ goneK I r := fun q hq v hv => by
  rw [hqs] at hq
  obtain ⟨_, r, hr2, e⟩ := part_mem _ _ _ q hq
  rw [e] at hv
  exact ⟨r, mem_runsE.1 hr2, (sortL_perm _).mem_iff.1 hv⟩
 have hix : ∀ k k2 (hk : k < I.length) (hk2 : k2 < I.length) v, v ∈ I[k].lines.map LineP.v -> v ∈ I[k2].lines.map LineP.v -> k = k2 := by
  intro k k2 hk hk2 v h1 h2
  have hn : (I.flatMap fun x => x.lines.map LineP.v).Pairwise (· ≠ ·) := by
   have e : (I.flatMap fun x => x.lines.map LineP.v) = (live (linesP ps)).map LineP.v := by rw [hI, <- (itemsP_good hs).2, List.map_flatMap]
   rw [e]
   have e2 : ((linesP ps).map LineP.v) = topoF ps := by unfold linesP; rw [List.map_map]; exact List.map_id' _
   have hn := topoF_nodup hs
   rw [<- e2] at hn
   exact (List.filter_sublist.map LineP.v).nodup hn
  rw [List.pairwise_flatMap] at hn
  have hp := List.pairwise_iff_getElem.1 hn.2
  rcases Nat.lt_trichotomy k k2 with h | h | h
  ·exact absurd rfl (hp k k2 hk hk2 h v h1 v h2)
  ·exact h
  exact absurd rfl (hp k2 k hk2 hk h v h2 v h1)
 have hhead : ∀ k (hk : k < I.length), I[k].block = false -> headV I[k] ∈ I[k].lines.map LineP.v /\ ∀ v ∈ I[k].lines.map LineP.v, v = headV I[k] := by
  intro k hk hb
  have hmem : I[k] ∈ itemsP ps := by rw [<- hI]; exact List.getElem_mem hk
  obtain ⟨y, h1, h2, _, _⟩ := solid_one hs hmem hb
  rw [h1, h2]
  simp
 have hV : ∀ v, v ∈ verE I K 0 0 E ↔ v ∈ allV ps2 /\ aliveV ps2 v = true := by
  intro v
  rw [ver_mem, <- hqs]
  constructor
  ·rintro (⟨k, hk, rfl⟩ | ⟨q, hq, hv⟩)
   ·have hkI := hrange k hk
    rw [getElem!_pos I k hkI]
    have hmem : I[k] ∈ itemsP ps := by rw [<- hI]; exact List.getElem_mem hkI
    have hh := hhead k hkI (hnb k hk hkI)
    have ha := item_all hs hmem hh.1
    refine ⟨hall _ ha.1, alive_iff.2 fun p hp hg => ?_⟩
    rcases hin p hp with h | h
    ·obtain ⟨r, hr1, hr2⟩ := hgq p h _ hg
     obtain ⟨k2, hk2, h3, h4, h5⟩ := gone_mem hr2
     have := hix k k2 hkI hk2 _ hh.1 h5
     subst this
     exact htile.apart k r hk hr1 h3 h4
    exact alive_iff.1 ha.2 p h hg
   have hvp : v.1 = ppH := by
    obtain ⟨j, _, rfl⟩ := mem_own.1 hv
    rw [hqs] at hq
    exact (part_mem _ _ _ q hq).1
   refine ⟨mem_allV.2 ⟨q, hin2 q hq, hv⟩, alive_iff.2 fun p hp hg => ?_⟩
   rcases hin p hp with h | h
   ·obtain ⟨r, _, hr2⟩ := hgq p h _ hg
    obtain ⟨k2, hk2, _, _, h5⟩ := gone_mem hr2
    have hmem : I[k2] ∈ itemsP ps := by rw [<- hI]; exact List.getElem_mem hk2
    exact hpat v (item_all hs hmem h5).1 hvp
   exact hpat v (hs.gone_all h hg) hvp
  rintro ⟨hv, ha⟩
  obtain ⟨p, hp, hvo⟩ := mem_allV.1 hv
  rcases hin p hp with h | h
  ·exact .inr ⟨p, h, hvo⟩
  refine .inl ?_
  have hv1 : v ∈ allV ps := mem_allV.2 ⟨p, h, hvo⟩
  have ha1 : aliveV ps v = true := alive_iff.2 fun q hq => alive_iff.1 ha q (hin1 q hq)
  have hl : lineP ps v ∈ live (linesP ps) := List.mem_filter.2 ⟨List.mem_map.2 ⟨v, (topoF_perm_all hs).mem_iff.2 hv1, rfl⟩, ha1⟩
  rw [<- (itemsP_good hs).2, <- hI] at hl
  obtain ⟨x, hx, hy⟩ := List.mem_flatMap.1 hl
  obtain ⟨k, hk, rfl⟩ := List.getElem_of_mem hx
  have hvk : v ∈ I[k].lines.map LineP.v := List.mem_map.2 ⟨_, hy, rfl⟩
  rcases htile.cover k (Nat.zero_le _) hk with h1 | ⟨r, h1, h2, h3⟩
  ·exact ⟨k, h1, by rw [getElem!_pos I k hk]; exact (hhead k hk (hnb k h1 hk)).2 v hvk⟩
  exfalso
  obtain ⟨q, hq, e⟩ := mem_part (I := I) (K := K) (runsE E) 0 0 r (mem_runsE.2 h1)
  rw [<- hqs] at hq
  refine alive_iff.1 ha q (hin2 q hq) ?_
  rw [e, (sortL_perm _).mem_iff]
  exact mem_gone hk h2 h3 hvk
 have hedge : ∀ q ∈ qs, ∀ u v, Rch (edges q) u v -> Rch (allE ps2) u v := fun q hq u v h => h.mono fun e he => mem_allE.2 ⟨q, hin2 q hq, he⟩
 have hkk : ∀ x y, .keep x ∈ E -> .keep y ∈ E -> x < y -> Rch (allE ps2) (headV I[x]!) (headV I[y]!) := by
  intro x y hx hy hxy
  have hxI := hrange x hx
  have hyI := hrange y hy
  rw [getElem!_pos I x hxI, getElem!_pos I y hyI]
  have hbx := hnb x hx hxI
  have hby := hnb y hy hyI
  subst hI
  have hb := befP_iff.1 (solid_bef hs hxy hyI hbx hby)
  have h1 := head_all hs (List.getElem_mem hxI) hbx
  have h2 := head_all hs (List.getElem_mem hyI) hby
  rcases hb.2.2.2.2.2 with h | h | h
  ·exact absurd h (hs.line h1).1
  ·exact absurd h (hs.line h2).2
  exact h.mono fun e he => by
   obtain ⟨p, hp, h3⟩ := mem_allE.1 he
   exact mem_allE.2 ⟨p, hin1 p hp, h3⟩
 have hch := (ver_chain (I := I) (K := K) (R := Rch (allE ps2)) htile 0 0 hsol hkk (by rw [<- hqs]; exact hedge)).1
 have hpw := hch.pw (fun a b c => Rch.trans)
 have hit := chain_items2 hs2 hV hpw
 have htext : (verE I K 0 0 E).map (textV ps2) = w := by
  rw [<- hwords]
  refine ver_text E 0 0 (fun k hk => ?_) (fun q hq => ?_)
  ·have hkI := hrange k hk
   rw [getElem!_pos I k hkI, hTk k hkI]
   have hmem : I[k] ∈ itemsP ps := by rw [<- hI]; exact List.getElem_mem hkI
   obtain ⟨y, h1, h2, h3, h4⟩ := solid_one hs hmem (hnb k hk hkI)
   rw [h2, h3, (line_all h4).2.1]
   obtain ⟨p, hp, hvo⟩ := mem_allV.1 (line_all h4).1
   obtain ⟨i, hi, e⟩ := mem_own.1 hvo
   rw [<- e, text_at hs2 (hin1 p hp) (List.getElem?_eq_getElem hi), text_at hs hp (List.getElem?_eq_getElem hi)]
  rw [<- hqs] at hq
  refine List.ext_getElem (by rw [List.length_map, own_len]) fun i h1 h2 => ?_
  rw [List.getElem_map, own_get]
  exact text_at hs2 (hin2 q hq) (List.getElem?_eq_getElem h2)
 rw [hit]
 refine ⟨?_, ?_⟩
 ·rw [List.any_eq_false]
  intro x hx
  obtain ⟨y, _, rfl⟩ := List.mem_map.1 hx
  simp [oneI]
 rw [textI_ones, List.map_map]
 exact htext
theorem recF_skip {I : List ItemP} {w : List ByteArray} {k : Nat} (hk : k < I.length) (hb : (I[k].block && begT w (oneT I[k])) = true) : ∀ (d f i : Nat), i + d = k -> i + f = I.length -> (∀ j, i <= j -> j < k -> ∀ hj : j < I.length, I[j].block = false) -> recF I w f i = some k
 | d, 0, i, h1, h2, _ => by omega
 | 0, f + 1, i, h1, h2, h => by
  obtain rfl : i = k := by omega
  unfold recF
  rw [getElem!_pos I i hk, hb]; rfl
 | d + 1, f + 1, i, h1, h2, h => by
  unfold recF
  rw [getElem!_pos I i (by omega), h i (Nat.le_refl _) (by omega) (by omega), Bool.false_and, if_neg (by simp)]
  exact recF_skip hk hb d f (i + 1) (by omega) (by omega) fun j h3 h4 hj => h j (by omega) h4 hj
theorem recAt_skip {I : List ItemP} {w : List ByteArray} {fr k : Nat} (hk : k < I.length) (hf : fr <= k) (hb : (I[k].block && begT w (oneT I[k])) = true) (h : ∀ j, fr <= j -> j < k -> ∀ hj : j < I.length, I[j].block = false) : recAt I fr w = some k :=
 recF_skip hk hb (k - fr) _ fr (by omega) (by omega) h
theorem recAt_mark {I : List ItemP} {fr : Nat} {s : ByteArray} {w : List ByteArray} (h : Ln.markP s = false) : recAt I fr (s :: w) = none := by
 cases e : recAt I fr (s :: w) with
 | none => rfl
 | some k =>
  exfalso
  obtain ⟨_, _, h3, h4⟩ := recAt_some e
  unfold begT at h4
  rw [Bool.and_eq_true, decide_eq_true_eq, decide_eq_true_eq] at h4
  have h5 : oneT I[k]! = beginB :: (rowsT I[k]! I[k]!.lines.length ++ [closeB]) := by unfold oneT; rw [h3]; rfl
  rw [h5] at h4
  have h6 := h4.2
  simp only [List.length_cons, List.take_succ_cons, List.cons.injEq] at h6
  rw [h6.1] at h
  exact absurd h (by decide +kernel)
theorem begT_self (a b : List ByteArray) : begT (a ++ b) a = true := by
 unfold begT
 rw [List.length_append, decide_eq_true (Nat.le_add_right _ _), List.take_left' rfl, decide_eq_true rfl]; rfl
theorem txts_snoc {I : List ItemP} {fr k : Nat} (hf : fr <= k) (hk : k < I.length) : txts I fr (k + 1) = txts I fr k ++ [txtI I[k]] := by
 unfold txts
 rw [ltake_snoc hk, List.drop_append, List.length_take, Nat.min_eq_left (by omega), show fr - k = 0 by omega, List.map_append]
 rfl
theorem txts_nil (I : List ItemP) (k : Nat) : txts I k k = [] := by
 unfold txts
 rw [List.drop_eq_nil_of_le (by rw [List.length_take]; exact Nat.min_le_left _ _)]; rfl
theorem told_secs {I : List ItemP} (h1 : ∀ x ∈ I, x.block = false -> oneT x = [txtI x] /\ Ln.markP (txtI x) = false) : ∀ (d k fr : Nat), k + d = I.length -> fr <= k -> (∀ j, fr <= j -> j < k -> ∀ hj : j < I.length, I[j].block = false) ->
  ∀ s ∈ secsT I.length (toks I fr (textI (I.drop k))) fr (txts I fr k), s.lines = txts I s.fr s.to
 | 0, k, fr, hd, hf, hb, s, hs => by
  rw [List.drop_eq_nil_of_le (by omega)] at hs
  simp only [textI, List.flatMap_nil, toks_nil, secsT, List.mem_singleton] at hs
  subst hs
  show txts I fr k = txts I fr I.length
  rw [show k = I.length by omega]
 | d + 1, k, fr, hd, hf, hb, s, hs => by
  have hk : k < I.length := by omega
  have hw : textI (I.drop k) = oneT I[k] ++ textI (I.drop (k + 1)) := by
   rw [List.drop_eq_getElem_cons hk]; unfold textI; rw [List.flatMap_cons]
  cases e : I[k].block with
  | true =>
   have hr : recAt I fr (textI (I.drop k)) = some k := recAt_skip hk hf (by rw [e, hw, begT_self]; rfl) hb
   have hpos : 0 < (textI (I.drop k)).length := by rw [hw, List.length_append]; have := oneT_pos e; omega
   rw [secsT_blk hpos hr, getElem!_pos I k hk] at hs
   have hdr : (textI (I.drop k)).drop (oneT I[k]).length = textI (I.drop (k + 1)) := by rw [hw, List.drop_left' rfl]
   rw [hdr] at hs
   rcases List.mem_cons.1 hs with rfl | hs
   ·rfl
   rw [<- txts_nil I (k + 1)] at hs
   exact told_secs h1 d (k + 1) (k + 1) (by omega) (Nat.le_refl _) (fun j h3 h4 => by omega) s hs
  | false =>
   obtain ⟨h2, h3⟩ := h1 _ (List.getElem_mem hk) e
   rw [hw, h2, List.singleton_append, secsT_free (recAt_mark h3), <- txts_snoc hf hk] at hs
   refine told_secs h1 d (k + 1) fr (by omega) (by omega) (fun j h4 h5 hj => ?_) s hs
   rcases Nat.lt_or_ge j k with h6 | h6
   ·exact hb j h4 h6 hj
   obtain rfl : j = k := by omega
   exact e
theorem runsR_same {I : List ItemP} {s : Sec} {K : List Bool} (h : s.lines = txts I s.fr s.to) : (runsR I s K).runs = [] := by
 unfold runsR
 rw [<- h]
 have : scr s.lines s.lines = keeps 0 0 s.lines := scrF_self s.lines _ 0 0 (Nat.le_add_right _ _)
 rw [this, (fold_keeps s.lines 0 0 _).2.1]
theorem allR_same {I : List ItemP} : ∀ (l : List Sec) (K : List Bool), (∀ s ∈ l, s.lines = txts I s.fr s.to) -> (allR I l K).1 = []
 | [], _, _ => rfl
 | s :: l, K, h => by
  simp only [allR]
  rw [runsR_same (h s (by simp)), allR_same l _ fun x hx => h x (List.mem_cons_of_mem _ hx)]
  rfl
theorem told_none {ps : List PartP} (hs : Sq ps) (hp : ∀ p ∈ ps, ∀ s ∈ p.lines, Ln.isP s = true) : hunksP (itemsP ps) (textI (itemsP ps)) = [] := by
 unfold hunksP
 split
 ·have : runsH (itemsP ps) (textI (itemsP ps)) = [] := by
   unfold runsH
   refine allR_same _ _ fun s h => ?_
   refine told_secs (fun x hx hb => ?_) (itemsP ps).length 0 0 (by omega) (Nat.le_refl _) (fun j _ h => by omega) s (by rw [txts_nil]; exact h)
   have hl := ((itemsP_good hs).1.one x hx).2.1 hb
   refine ⟨oneT_one hb hl, ?_⟩
   obtain ⟨y, h1, h2, h3, h4⟩ := solid_one hs hx hb
   have := items_plain hs hp x hx y (by rw [h1]; simp)
   rw [h3]
   unfold Ln.isP at this
   rw [Bool.and_eq_true] at this
   simpa using this.2
  rw [this]; rfl
 rfl
theorem Tile.few {a n : Nat} {l : List Elt} (h : Tile a l n) : (runsE l).length <= n - a + 1 /\ ∀ k r, l = .keep k :: r -> (runsE l).length <= n - a := by
 induction h with
 | nil => exact ⟨Nat.zero_le _, fun k r e => by cases e⟩
 | @keep a n l h ih =>
  have := h.le
  rw [runsE_keep]
  exact ⟨by omega, fun _ _ _ => by omega⟩
 | @last r h => exact ⟨by show 1 <= _; omega, fun k s e => by cases e⟩
 | @run r l n h t ih =>
  have := t.le
  rw [runsE_run, List.length_cons]
  have := ih.2 _ _ rfl
  exact ⟨by omega, fun k s e => by cases e⟩
def linesR (l : List Run) : Nat := (l.map fun r => r.lines.length).sum
theorem linesR_app (a b : List Run) : linesR (a ++ b) = linesR a + linesR b := by unfold linesR; rw [List.map_append, List.sum_append]
theorem words_len (T : List ByteArray) : ∀ l : List Elt, linesR (runsE l) <= (wordsE T l).length
 | [] => Nat.zero_le _
 | .keep k :: l => by have := words_len T l; rw [runsE_keep]; simp only [wordsE, List.length_cons]; omega
 | .run r :: l => by
  have := words_len T l
  rw [runsE_run]
  simp only [wordsE, List.length_append]
  show linesR ([r] ++ runsE l) <= _
  rw [linesR_app]
  have : linesR [r] = r.lines.length := by simp [linesR]
  omega
theorem runsR_small {I : List ItemP} {s : Sec} {K : List Bool} (hf : s.fr <= s.to) (ht : s.to <= I.length) : (runsR I s K).runs.length <= s.to - s.fr + 1 /\ linesR (runsR I s K).runs <= s.lines.length := by
 have h1 := nf_runs (ls := s.lines) (scr (txts I s.fr s.to) s.lines) s.fr none [] K
 simp only [Option.isSome_none, Option.toList_none, List.append_nil, List.nil_append] at h1
 have h2 := nf_tile (ls := s.lines) (scr (txts I s.fr s.to) s.lines) s.fr none (fun t h => scr_op h) (fun r h => by cases h)
 rw [scr_takes, txts_len hf ht] at h2
 have h3 := h2.few.1
 have h4 := words_len ((I.take s.to).map txtI) (nf s.lines (scr (txts I s.fr s.to) s.lines) s.fr none)
 have h5 := nf_words (T := (I.take s.to).map txtI) (ls := s.lines) _ 0 0 s.fr (txts I s.fr s.to) s.lines none (Nat.le_refl _) rfl (by unfold txts; rw [List.map_drop])
 have h6 : wordsE ((I.take s.to).map txtI) (nf s.lines (scr (txts I s.fr s.to) s.lines) s.fr none) = s.lines := by unfold scr; rw [h5]; rfl
 rw [h6] at h4
 unfold runsR
 rw [h1]
 exact ⟨by simp only [frO] at h3; omega, h4⟩
theorem allR_small {I : List ItemP} : ∀ (l : List Sec) (K : List Bool), (∀ s ∈ l, s.fr <= s.to /\ s.to <= I.length) -> (allR I l K).1.length <= (l.map fun s => s.to - s.fr + 1).sum /\ linesR (allR I l K).1 <= manyS l
 | [], _, _ => ⟨Nat.le_refl _, Nat.le_refl _⟩
 | s :: l, K, h => by
  obtain ⟨h1, h2⟩ := runsR_small (K := K) (h s (by simp)).1 (h s (by simp)).2
  obtain ⟨h3, h4⟩ := allR_small l (runsR I s K).K fun x hx => h x (List.mem_cons_of_mem _ hx)
  have e : manyS (s :: l) = s.lines.length + manyS l := by unfold manyS; rw [List.map_cons, List.sum_cons]
  simp only [allR, List.length_append, List.map_cons, List.sum_cons]
  rw [linesR_app, e]
  exact ⟨by omega, by omega⟩
theorem secsF_sum {I : List ItemP} : ∀ (f fr : Nat) (w cur : List ByteArray), fr <= I.length -> ((secsT I.length (toksF I f fr w) fr cur).map fun s => s.to - s.fr + 1).sum = I.length + 1 - fr
 | 0, fr, w, cur, h => by simp only [toksF, secsT, List.map_cons, List.map_nil, List.sum_cons, List.sum_nil]; omega
 | f + 1, fr, [], cur, h => by simp only [toksF, secsT, List.map_cons, List.map_nil, List.sum_cons, List.sum_nil]; omega
 | f + 1, fr, t :: w, cur, h => by
  simp only [toksF]
  cases e : recAt I fr (t :: w) with
  | none => simp only [secsT]; exact secsF_sum f fr w _ h
  | some k =>
   obtain ⟨k1, k2, _, _⟩ := recAt_some e
   simp only [secsT, List.map_cons, List.sum_cons]
   rw [secsF_sum f (k + 1) _ [] k2]
   omega
theorem runsH_small {I : List ItemP} {w : List ByteArray} (hE : errH I w = 0) : (runsH I w).length <= I.length + 1 /\ linesR (runsH I w) <= 256 := by
 obtain ⟨h1, h2⟩ := allR_small (I := I) (secs I w) (keepT (List.replicate I.length false) (toks I 0 w)) (fun s hs => (secs_ok hs).1)
 have h3 := secsF_sum (I := I) w.length 0 w [] (Nat.zero_le _)
 have h4 := (checkP_zero hE).1
 unfold runsH
 have h5 : ((secs I w).map fun s => s.to - s.fr + 1).sum = I.length + 1 - 0 := h3
 exact ⟨by omega, by omega⟩
end Go.Proofs.Gr

namespace Go.Proofs.Gr
open Go.SL Go.RowKit Go.Proofs Go.GP
set_option maxHeartbeats 1000000
theorem gs_q {a : GrM} {t : Seg} {S : SS} : Sub (GS a ++ S) (GS a ++ (t :: S)) := Sub.sel [0, 1, 2, 3] 5 (by decide) (GS a ++ (t :: S))
def chgP (i f : Nat) (x : ChgM) : PartM := ⟨ppH, (i : Int), (f : Int), x.up, x.down, x.A, x.c, x.lines, x.G, x.gc, x.gone⟩
def linesN (l : List ChgM) : Nat := (l.map fun x => x.lines.length).sum
def hpl : Nat -> Nat -> List ChgM -> List PartP
 | _, _, [] => []
 | i, f, x :: l => (chgP i f x).pl :: hpl (i + 1) (f + x.lines.length) l
theorem hpl_len : ∀ (l : List ChgM) (i f : Nat), (hpl i f l).length = l.length
 | [], _, _ => rfl
 | x :: l, i, f => by simp only [hpl, List.length_cons, hpl_len l]
theorem linesN_cons (x : ChgM) (l : List ChgM) : linesN (x :: l) = x.lines.length + linesN l := by unfold linesN; rw [List.map_cons, List.sum_cons]
theorem hpl_get : ∀ (l : List ChgM) (i f k : Nat) (hk : k < l.length), (hpl i f l)[k]'(by rw [hpl_len]; exact hk) = (chgP (i + k) (f + linesN (l.take k)) l[k]).pl
 | x :: l, i, f, 0, _ => by simp [hpl, linesN]
 | x :: l, i, f, k + 1, h => by
  simp only [hpl, List.getElem_cons_succ, List.take_succ_cons, linesN_cons]
  rw [hpl_get l (i + 1) (f + x.lines.length) k (by simpa using h)]
  rw [show i + 1 + k = i + (k + 1) by omega, show f + x.lines.length + linesN (l.take k) = f + (x.lines.length + linesN (l.take k)) by omega]
theorem linesN_snoc {l : List ChgM} {k : Nat} (hk : k < l.length) : linesN (l.take (k + 1)) = linesN (l.take k) + l[k].lines.length := by
 rw [ltake_snoc hk]; unfold linesN; rw [List.map_append, List.sum_append]; simp
theorem linesN_le (l : List ChgM) (k : Nat) : linesN (l.take k) <= linesN l := by
 conv => rhs; rw [<- List.take_append_drop k l]
 unfold linesN; rw [List.map_append, List.sum_append]; omega
theorem hpl_parts {I : List ItemP} {K : List Bool} : ∀ (l : List ChgM) (rs : List Run) (i f : Nat), l.map ChgM.pl = rs.map (hunkP I K) -> hpl i f l = partsR I K i f rs
 | [], [], _, _, _ => rfl
 | [], r :: rs, _, _, h => by cases h
 | x :: l, [], _, _, h => by cases h
 | x :: l, r :: rs, i, f, h => by
  simp only [List.map_cons, List.cons.injEq] at h
  obtain ⟨h1, h2⟩ := h
  have e1 := congrArg HunkP.up h1
  have e2 := congrArg HunkP.down h1
  have e3 := congrArg HunkP.lines h1
  have e4 := congrArg HunkP.gone h1
  simp only [hpl, partsR]
  have e5 : (chgP i f x).pl = partE I K i f r := by
   show (⟨ppH, (i : Int), (f : Int), x.up, x.down, x.lines, x.gone⟩ : PartP) = ⟨ppH, (i : Int), (f : Int), upK I K r.fr, downK I K r.to, r.lines, sortL (goneK I r)⟩
   rw [show x.up = upK I K r.fr from e1, show x.down = downK I K r.to from e2, show x.lines = r.lines from e3, show x.gone = sortL (goneK I r) from e4]
  rw [e5, hpl_parts l rs (i + 1) (f + x.lines.length) h2, show x.lines = r.lines from e3]
theorem partR_new {w0 : World} {X : SS} {m : GrM} {ps : List PartP} (hg : GG w0 X m ps) {p : PartM} (hn : New ps p.pl) (h1 : -9223372036854775808 <= p.at_ /\ p.at_ <= 9223372036854775807) (h2 : p.first <= 4611686018427387904) (h3 : p.lines.length <= 1000000000) (h4 : p.gone.length <= 1000000000) (h5 : p.gone.length <= p.gc) (h6 : p.GA = none -> p.gc = 0) : PartR p := by
 have hv : ∀ v, HasV ps v -> okV v := by
  rintro v (rfl | rfl | h)
  ·exact okRoot
  ·exact okEnd
  exact hg.okV h
 have h7 : (0 : Int) <= p.first := hn.first
 exact ⟨h1, ⟨by omega, h2⟩, h3, h4, h5, h6, hv _ hn.up, hv _ hn.down, fun v h => hg.okV (hn.gone v h)⟩
theorem told_size {ps : List PartP} (hs : Sq ps) (hp : ∀ p ∈ ps, ∀ s ∈ p.lines, Ln.isP s = true) : ∀ s ∈ textI (itemsP ps), s.size <= 80 := by
 intro s h
 obtain ⟨x, hx, h⟩ := List.mem_flatMap.1 h
 have ht := items_plain hs hp x hx
 unfold oneT rowsT at h
 rcases List.mem_append.1 h with h | h
 ·rcases List.mem_append.1 h with h | h
  ·split at h
   ·rw [List.mem_singleton.1 h]; decide
   cases h
  obtain ⟨i, hi, h⟩ := List.mem_flatMap.1 h
  have hil := List.mem_range.1 hi
  rcases List.mem_append.1 h with h | h
  ·split at h
   ·rw [List.mem_singleton.1 h]; decide
   cases h
  rw [List.mem_singleton.1 h, getElem!_pos x.lines i hil]
  exact isP_size (ht _ (List.getElem_mem hil))
 split at h
 ·rw [List.mem_singleton.1 h]; decide
 cases h
theorem item_len {ps : List PartP} (hs : Sq ps) : ∀ x ∈ itemsP ps, x.lines.length <= (allV ps).length := by
 intro x hx
 have h1 : x.lines.length <= ((itemsP ps).flatMap (·.lines)).length := by
  obtain ⟨a, b, e⟩ := List.append_of_mem hx
  rw [e, List.flatMap_append, List.flatMap_cons, List.length_append, List.length_append]; omega
 rw [(itemsP_good hs).2] at h1
 have h2 := linesP_len hs
 have h3 : (live (linesP ps)).length <= (linesP ps).length := List.length_filter_le _ _
 omega
theorem told_len {ps : List PartP} (hs : Sq ps) (h : (allV ps).length <= 120) : (textI (itemsP ps)).length <= 100000 := by
 have h1 := textI_len (l := itemsP ps) (N := 120) (fun x hx => Nat.le_trans (item_len hs x hx) h) (itemsP ps).length (Nat.le_refl _)
 rw [List.take_length] at h1
 have := items_len hs
 omega
theorem gone_len {ps : List PartP} (hs : Sq ps) (r : Run) : (sortL (goneK (itemsP ps) r)).length <= (allV ps).length := by
 rw [sortL_len]
 have h1 : (goneK (itemsP ps) r).length <= ((itemsP ps).flatMap fun x => x.lines.map LineP.v).length := by
  unfold goneK
  exact (sub_flat ((List.drop_sublist _ _).trans (List.take_sublist _ _))).length_le
 rw [show ((itemsP ps).flatMap fun x => x.lines.map LineP.v) = (live (linesP ps)).map LineP.v by rw [<- (itemsP_good hs).2, List.map_flatMap], List.length_map] at h1
 have h2 := linesP_len hs
 have h3 : (live (linesP ps)).length <= (linesP ps).length := List.length_filter_le _ _
 omega
theorem foreign_fc {w0 : World} {S : SS} {A : Option Addr} {c : Nat} {l : List PartM} (h : PartsIn w0 A l) (hs : SmallC l) :
  FC Tryz.prog w0 13 [.slice A l.length c] S (fun v S' => ∃ b, v = .bool b /\ S' = S /\ (b = false -> ∀ x ∈ l, x.patch ≠ ppH)) := by
 have hlen := hs.len
 refine FC.ofD Tryz.known13 (by simp) ?_
 unfold Tryz.pc13
 simp only [argT]
 refine PW.seqOps (OL.dp rfl (OL.nil (PW.k1 0 rfl ?_)))
 refine PW.seq fun K1 hK1 => ?_
 refine PW.seqOps (OL.dp rfl (OL.nil (PW.k2 0 3 rfl (PW.block (PW.k2 0 3 rfl ?_)))))
 refine PW.loopK (I := fun mm T S' => ∃ k : Nat, (k <= l.length /\ mm = l.length - k /\ ∀ x ∈ l.take k, x.patch ≠ ppH) /\ T = ([(0, .slice A l.length c), (3, .int .i64 k)] : TT) /\ S' = S) (m := l.length) ⟨0, ⟨by omega, by omega, by simp⟩, rfl, rfl⟩ ?_
 rintro mm _ _ ⟨k, ⟨hk, hmm, hall⟩, rfl, rfl⟩
 refine PW.seq fun K2 hK2 => ?_
 refine PW.seqOps (OL.dp rfl (OL.dp rfl (OL.dp rfl (OL.dp rfl (OL.nil (PW.k3 0 3 7 rfl ?_))))))
 refine PW.cond rfl (fun c7 => ?_) (fun c7 => ?_)
 ·try simp only [cvS] at c7
  have hkl : k < l.length := by omega
  obtain ⟨a0, ha0⟩ := partS_some h.rd (by omega)
  have hrd := h.rd
  rw [ha0] at hrd
  refine PW.skip ?_
  refine hK2 _ _ ?_
  refine PW.k2 0 3 rfl ?_
  refine PW.seq fun K3 hK3 => ?_
  refine PW.block (PW.seqOps (OL.dp rfl (OL.dp rfl ?_)))
  rw [ha0]
  refine OL.det trivial (.ixN rfl rfl rfl hkl) (OL.dp rfl (OL.det trivial (.ldA rfl (hb_len _) (partS_patch hrd.any hkl)) (OL.det trivial (.bldA (cs := bytesC ppH.1) rfl) (OL.det trivial (.eqD (neg := false) rfl rfl (eqL_hash _ _)) (OL.nil (PW.k3 0 3 16 rfl ?_))))))
  refine PW.cond rfl (fun c16 => ?_) (fun c16 => ?_)
  ·skip
   refine PW.seqOps (OL.dp rfl (OL.nil (PW.k1 2 rfl (PW.ret ?_))))
   change (Exit.ret = Exit.normal ∨ Exit.ret = Exit.ret) /\ ∃ v, resV _ _ = some v /\ _
   exact ⟨.inr rfl, _, rfl, _, Sub.refl _, true, rfl, rfl, fun h => by cases h⟩
  skip
  have hnp : l[k].patch ≠ ppH := by simpa using c16
  refine PW.skip ?_
  refine hK3 _ _ ?_
  refine PW.k2 0 3 rfl (PW.ops (OL.dp rfl ?_))
  refine OL.det trivial (.add64 rfl rfl (by omega) (by omega)) ?_
  refine OL.dp rfl (OL.nil ?_)
  repeat rw [inBlk_n]
  try rw [thenK_n]
  refine LoopEnd.mk (T'' := [(0, _), (3, _)]) (wi rfl) ?_
  try rw [ha0]
  refine ⟨l.length - (k + 1), by omega, k + 1, ⟨by omega, rfl, ?_⟩, rfl, rfl⟩
  rw [ltake_snoc hkl]
  intro x hx
  rcases List.mem_append.1 hx with hx | hx
  ·exact hall x hx
  rw [List.mem_singleton] at hx; subst hx; exact hnp
 try simp only [cvS] at c7
 refine PW.exit ?_
 refine hK1 _ _ ?_
 refine PW.keep (T' := []) trivial (PW.seqOps (OL.dp rfl (OL.nil (PW.k1 2 rfl (PW.ret ?_)))))
 change (Exit.ret = Exit.normal ∨ Exit.ret = Exit.ret) /\ ∃ v, resV _ _ = some v /\ _
 have hke : k = l.length := by omega
 rw [hke, List.take_length] at hall
 exact ⟨.inr rfl, _, rfl, _, Sub.refl _, false, rfl, rfl, fun _ => hall⟩
theorem chg_up_at {w0 : World} {S : SS} {a : Addr} {l : List ChgM} (h : Rd w0 S (some a) (chgS l)) {k : Nat} (hk : k < l.length) : ∀ (j : Nat) (v : Value), (vtxL l[k].up)[j]? = some v -> Cell w0 S (((a.add (k * 105)).add 37).add j) v := fun j v hj => by
 rw [addr_add_add (a.add (k * 105))]; exact chg_at h hk _ _ (chgC_up hj)
theorem chg_down_at {w0 : World} {S : SS} {a : Addr} {l : List ChgM} (h : Rd w0 S (some a) (chgS l)) {k : Nat} (hk : k < l.length) : ∀ (j : Nat) (v : Value), (vtxL l[k].down)[j]? = some v -> Cell w0 S (((a.add (k * 105)).add 70).add j) v := fun j v hj => by
 rw [addr_add_add (a.add (k * 105))]; exact chg_at h hk _ _ (chgC_down hj)
theorem put_fc {w0 : World} {S : SS} {m : GrM} {ps : List PartP} {A : Option Addr} {c : Nat} {hs : List ChgM} (hg : GG w0 [] m ps) (hrd : Rd w0 S A (chgS hs)) (hok : ∀ x ∈ hs, Rd w0 S x.A (strs x.lines) /\ Rd w0 S x.G (vtxs x.gone) /\ x.gone.length <= x.gc /\ (x.G = none -> x.gc = 0) /\ x.gone.length <= 1000) (hcm : Comes ps (hpl 0 0 hs)) (hn : hs.length <= 1000) (hl : linesN hs <= 1000) (hps : (allV ps).length + ps.length <= 1000) (hlim : m.lim <= 100000) :
  FC Tryz.prog w0 17 [m.ptr, .slice A hs.length c] (GS m ++ S) (fun v S' => ∃ m', v = .bool true /\ S' = GS m' ++ S /\ GG w0 [] m' ((hpl 0 0 hs).reverse ++ ps) /\ m'.r = m.r /\ (allV ((hpl 0 0 hs).reverse ++ ps)).length <= 5000) := by
 have hhl := hpl_len hs 0 0
 refine FC.ofD Tryz.known17 (by simp) ?_
 unfold Tryz.pc17
 simp only [argT]
 refine PW.seqOps (OL.dp rfl (OL.nil (PW.k2 0 1 rfl (PW.seqOps (OL.dp rfl (OL.nil (PW.k3 0 1 5 rfl ?_)))))))
 refine PW.seq fun K1 hK1 => ?_
 refine PW.seqOps (OL.dp rfl (OL.nil (PW.k4 0 1 5 6 rfl (PW.block (PW.k4 0 1 5 6 rfl ?_)))))
 refine PW.loopK (I := fun mm T S' => ∃ (k : Nat) (mk : GrM), (k <= hs.length /\ mm = hs.length - k /\ GG w0 [] mk (((hpl 0 0 hs).take k).reverse ++ ps) /\ mk.r = m.r /\ mk.lim <= m.lim + 3003 * k /\ (allV (((hpl 0 0 hs).take k).reverse ++ ps)).length + (((hpl 0 0 hs).take k).reverse ++ ps).length <= 1000 + linesN (hs.take k) + k) /\ T = ([(0, m.ptr), (1, .slice A hs.length c), (5, .int .i64 (linesN (hs.take k) : Int)), (6, .int .i64 k)] : TT) /\ S' = GS mk ++ S) (m := hs.length) ⟨0, m, ⟨by omega, by omega, by simpa using hg, rfl, by omega, by simpa [linesN] using hps⟩, rfl, rfl⟩ ?_
 rintro mm _ _ ⟨k, mk, ⟨hk, hmm, hgk, hr, hlk, hal⟩, rfl, rfl⟩
 refine PW.seq fun K2 hK2 => ?_
 refine PW.seqOps (OL.dp rfl (OL.dp rfl (OL.dp rfl (OL.dp rfl (OL.nil (PW.k5 0 1 5 6 11 rfl ?_))))))
 refine PW.cond rfl (fun c11 => ?_) (fun c11 => ?_)
 ·try simp only [cvS] at c11
  have hkl : k < hs.length := by omega
  obtain ⟨a0, ha0⟩ := chgS_some hrd (by omega)
  have hrd3 := hrd
  rw [ha0] at hrd3
  have hrd2 : ∀ Z : SS, Rd w0 (Z ++ S) (some a0) (chgS hs) := fun Z => hrd3.mono (Over.appR (fun q h => h))
  have hls := linesN_snoc hkl
  have hle := linesN_le hs (k + 1)
  have hgo := (hok _ (List.getElem_mem hkl)).2.2.2.2
  have hnew : New (((hpl 0 0 hs).take k).reverse ++ ps) (chgP k (linesN (hs.take k)) hs[k]).pl := by
   have := Comes.at hcm (k := k) (by omega)
   rwa [hpl_get hs 0 0 k hkl, Nat.zero_add, Nat.zero_add] at this
  have hpr : PartR (chgP k (linesN (hs.take k)) hs[k]) := partR_new hgk hnew ⟨by show (-9223372036854775808 : Int) <= (k : Int); omega, by show (k : Int) <= 9223372036854775807; omega⟩ (by show ((linesN (hs.take k) : Nat) : Int) <= 4611686018427387904; omega) (by show hs[k].lines.length <= _; omega) (by show hs[k].gone.length <= _; omega) (hok _ (List.getElem_mem hkl)).2.2.1 (hok _ (List.getElem_mem hkl)).2.2.2.1
  refine PW.skip ?_
  refine hK2 _ _ ?_
  refine PW.k4 0 1 5 6 rfl ?_
  refine PW.seq fun K3 hK3 => ?_
  refine PW.block ?_
  refine PW.seq fun K4 hK4 => ?_
  refine PW.quietG (Ss := Over _) (fr := true) [(0, 0), (1, 0), (2, 0), (3, 0), (4, 0), (5, 0), (6, 0), (7, 0), (8, 0), (9, 0), (10, 0), (11, 0), (12, 0), (13, 0), (14, 0), (15, 0), (16, 0), (17, 0), (18, 0), (19, 0), (20, 0), (21, 0), (22, 0), (23, 0), (24, 3)] Tryz.mixed (by decide +kernel) (Over.refl _) (fun _ _ _ h => h.cons) ?_
  refine GL.det trivial (fun Sx hSx => Yields.bldA (cs := bytesC ppH.1) rfl) ?_
  refine GL.dp rfl ?_
  refine GL.dp rfl ?_
  refine GL.dp rfl ?_
  refine GL.dp rfl ?_
  try rw [ha0]
  refine GL.det trivial (fun Sx hSx => Yields.ixN rfl rfl rfl hkl) ?_
  refine GL.dp rfl ?_
  refine GL.det trivial (fun Sx hSx => Yields.ldA rfl (vtxL_len _) (chg_up_at ((hrd2 _).mono hSx) hkl)) ?_
  refine GL.dp rfl ?_
  refine GL.dp rfl ?_
  try rw [ha0]
  refine GL.det trivial (fun Sx hSx => Yields.ixN rfl rfl rfl hkl) ?_
  refine GL.dp rfl ?_
  refine GL.det trivial (fun Sx hSx => Yields.ldA rfl (vtxL_len _) (chg_down_at ((hrd2 _).mono hSx) hkl)) ?_
  refine GL.dp rfl ?_
  refine GL.dp rfl ?_
  try rw [ha0]
  refine GL.det trivial (fun Sx hSx => Yields.ixN rfl rfl rfl hkl) ?_
  refine GL.dp rfl ?_
  refine GL.det trivial (fun Sx hSx => Yields.ld rfl (chg_at ((hrd2 _).mono hSx) hkl 104 _ (chgC_gone ..).2)) ?_
  refine GL.dp rfl ?_
  refine GL.dp rfl ?_
  try rw [ha0]
  refine GL.det trivial (fun Sx hSx => Yields.ixN rfl rfl rfl hkl) ?_
  refine GL.dp rfl ?_
  refine GL.det trivial (fun Sx hSx => Yields.ld rfl (chg_at ((hrd2 _).mono hSx) hkl 103 _ (chgC_gone ..).1)) ?_
  refine GL.det trivial (fun Sx hSx => Yields.build (cs := partC (chgP k (linesN (hs.take k)) hs[k])) (fill_part7 rfl rfl rfl rfl rfl rfl rfl)) ?_
  refine GL.fresh trivial fun r7 => ?_
  change OL _ _ _ [_] _ _ _
  refine OL.cons trivial (part_stk (k := 0) (u := (chgP k (linesN (hs.take k)) hs[k])) rfl rfl rfl rfl) ?_
  rintro _ _ rfl
  change OL _ _ _ _ _ (pseg r7 (chgP k (linesN (hs.take k)) hs[k]) :: (GS mk ++ S)) _
  refine OL.nil ?_
  refine hK4 _ _ ?_
  refine PW.k5 0 1 5 6 7 rfl ?_
  refine PW.seq fun K5 hK5 => ?_
  refine PW.seqOps (OL.dp rfl (OL.det trivial (.ldA rfl (partC_len _) (all_at zM0)) ?_))
  refine OL.call trivial rfl (by rw [<- ptr_eq hr]; exact FC.subS gs_a (add2_fc (S := pseg r7 (chgP k (linesN (hs.take k)) hs[k]) :: S) hgk over_nil hpr ((hok _ (List.getElem_mem hkl)).1.cons) ((hok _ (List.getElem_mem hkl)).2.1.cons) (by show _ + _ + hs[k].lines.length + 1 <= _; omega) (by unfold addL; show mk.lim + (hs[k].lines.length + 2 * hs[k].gone.length + 3) <= _; omega))) ?_
  rintro _ _ ⟨m1, rfl, rfl, hg1, hl1, hr1, _⟩
  rw [came_new hnew] at hg1
  rw [(addE_zero hgk.inv hgk.sq).2 hnew]
  have hl1 : m1.lim <= mk.lim + (hs[k].lines.length + 2 * hs[k].gone.length + 3) := hl1
  refine OL.det trivial (.to (v' := .bool false) (Yields.pure rfl) rfl) (OL.nil (PW.k5 0 1 5 6 41 rfl (PW.ite (b := false) rfl ?_)))
  rw [if_neg Bool.false_ne_true]
  refine PW.skip ?_
  refine hK5 _ _ ?_
  refine PW.k4 0 1 5 6 rfl (PW.ops (OL.dp rfl (OL.dp rfl (OL.dp rfl ?_))))
  rw [ha0]
  refine OL.det trivial (.ixN rfl rfl rfl hkl) (OL.dp rfl ?_)
  refine OL.det trivial (.ld rfl (chg_at (hrd3.mono (Over.trans (Over.cons (Over.refl S)) (Over.appR (fun q h => h)))) hkl 104 _ (chgC_gone ..).2)) ?_
  refine OL.dp rfl ?_
  refine OL.det trivial (.to (v' := .int .i64 (linesN (hs.take (k + 1)) : Int)) (Yields.add64 rfl rfl (show -9223372036854775808 <= (linesN (hs.take k) : Int) + (hs[k].lines.length : Int) by omega) (show (linesN (hs.take k) : Int) + (hs[k].lines.length : Int) <= 9223372036854775807 by omega)) (congrArg (Value.int .i64) (show (linesN (hs.take k) : Int) + (hs[k].lines.length : Int) = _ by omega))) ?_
  refine OL.dp rfl (OL.nil ?_)
  refine hK3 _ _ ?_
  refine PW.k4 0 1 5 6 rfl (PW.ops (OL.dp rfl ?_))
  refine OL.det trivial (.add64 rfl rfl (by omega) (by omega)) ?_
  refine OL.dp rfl (OL.nil ?_)
  repeat rw [inBlk_n]
  try rw [thenK_n]
  refine LoopEnd.mkS (gs_q) (T'' := [(0, _), (1, _), (5, _), (6, _)]) (wi rfl) ?_
  try rw [ha0]
  have hst : ((hpl 0 0 hs).take (k + 1)).reverse ++ ps = (chgP k (linesN (hs.take k)) hs[k]).pl :: (((hpl 0 0 hs).take k).reverse ++ ps) := by
   rw [ltake_snoc (show k < (hpl 0 0 hs).length by omega), hpl_get hs 0 0 k hkl, Nat.zero_add, Nat.zero_add, List.reverse_append]; rfl
  refine ⟨hs.length - (k + 1), by omega, k + 1, m1, ⟨by omega, rfl, by rw [hst]; exact hg1, hr1.trans hr, by omega, ?_⟩, rfl, rfl⟩
  rw [hst, allV_cons, List.length_append, own_len, List.length_cons]
  have : (chgP k (linesN (hs.take k)) hs[k]).pl.lines.length = hs[k].lines.length := rfl
  omega
 try simp only [cvS] at c11
 refine PW.exit ?_
 refine hK1 _ _ ?_
 refine PW.keep (T' := []) trivial (PW.seqOps (OL.dp rfl (OL.nil (PW.k1 4 rfl (PW.ret ?_)))))
 change (Exit.ret = Exit.normal ∨ Exit.ret = Exit.ret) /\ ∃ v, resV _ _ = some v /\ _
 have hke : k = hs.length := by omega
 rw [hke, show (hpl 0 0 hs).take hs.length = hpl 0 0 hs by rw [<- hhl, List.take_length]] at hgk hal
 rw [List.take_length] at hal
 exact ⟨.inr rfl, _, rfl, _, Sub.refl _, mk, rfl, rfl, hgk, hr, by omega⟩
theorem linesN_R {I : List ItemP} {K : List Bool} : ∀ (hs : List ChgM) (rs : List Run), hs.map ChgM.pl = rs.map (hunkP I K) -> hs.length = rs.length /\ linesN hs = linesR rs
 | [], [], _ => ⟨rfl, rfl⟩
 | [], r :: rs, h => by cases h
 | x :: l, [], h => by cases h
 | x :: l, r :: rs, h => by
  simp only [List.map_cons, List.cons.injEq] at h
  obtain ⟨h1, h2⟩ := h
  obtain ⟨h3, h4⟩ := linesN_R l rs h2
  have e3 : x.lines = r.lines := congrArg HunkP.lines h1
  refine ⟨by rw [List.length_cons, List.length_cons, h3], ?_⟩
  rw [linesN_cons, h4, e3]
  unfold linesR; rw [List.map_cons, List.sum_cons]
theorem hunks_small {ps : List PartP} (hs : Sq ps) {w : List ByteArray} {K : List Bool} {l : List ChgM} (hE : errH (itemsP ps) w = 0) (hpl : l.map ChgM.pl = (runsH (itemsP ps) w).map (hunkP (itemsP ps) K)) (hN : (itemsP ps).length <= 900) : l.length <= 1000 /\ linesN l <= 1000 := by
 obtain ⟨h1, h2⟩ := linesN_R l _ hpl
 obtain ⟨h3, h4⟩ := runsH_small hE
 omega
theorem gs_t {a : GrM} {s t u v : Seg} : Sub (GS a ++ (s :: [])) (s :: t :: u :: (GS a ++ (v :: []))) := Sub.sel [3, 4, 5, 6, 0] 8 (by decide) (s :: t :: u :: (GS a ++ (v :: [])))
theorem gs_u {a : GrM} {s t u : Seg} : Sub (GS a ++ []) (s :: t :: (GS a ++ (u :: []))) := Sub.sel [2, 3, 4, 5] 7 (by decide) (s :: t :: (GS a ++ (u :: [])))
theorem changeMakes_fc {w0 : World} {A W : Option Addr} {c cw : Nat} {l : List PartM} {w : List ByteArray} (h : PartsIn w0 A l) (hw : Rd w0 [] W (strs w)) (hwc : w.length <= cw) (hwl : w.length <= 1000000000000000) (hws : ∀ s ∈ w, s.size <= 140737488351232) :
  FC Tryz.prog w0 4 [.slice A l.length c, .slice W w.length cw] [] (fun v _ => v = .bool true) := by
 refine FC.ofD Tryz.known4 (by simp) ?_
 unfold Tryz.pc4
 simp only [argT]
 refine PW.seqOps (OL.dp rfl (OL.nil (PW.k2 0 1 rfl ?_)))
 refine PW.seq fun K1 hK1 => ?_
 refine PW.seqOps (OL.dp rfl (OL.dp rfl (OL.call trivial rfl (large_fc h hw hwl hws) ?_)))
 rintro _ _ ⟨b, rfl, rfl, hb⟩
 refine OL.bool trivial (Yields.pure rfl) (fun g17 => ?_) (fun g17 => ?_)
 ·try simp only [cvS] at g17
  refine OL.off rfl rfl (OL.off rfl rfl (OL.dp rfl (OL.dp rfl (OL.off rfl rfl (OL.off rfl rfl (OL.off rfl rfl (OL.dp rfl (OL.nil (PW.k3 0 1 25 rfl (PW.ite (b := true) rfl ?_))))))))))
  rw [if_pos rfl]
  refine PW.seqOps (OL.call trivial rfl (awake_fc) ?_)
  rintro _ Sx ⟨rfl, hSx⟩
  rw [hSx]
  clear hSx
  refine OL.dp rfl (OL.nil (PW.k1 4 rfl (PW.ret ?_)))
  change (Exit.ret = Exit.normal ∨ Exit.ret = Exit.ret) /\ ∃ v, resV _ _ = some v /\ _
  exact ⟨.inr rfl, _, rfl, _, Sub.refl _, rfl⟩
 try simp only [cvS] at g17
 have hsm := (hb g17).1
 have hsw := (hb g17).2
 refine OL.det rfl (.pure rfl) (OL.call rfl rfl (foreign_fc h hsm) ?_)
 rintro _ _ ⟨b1, rfl, rfl, hb1⟩
 refine OL.dp rfl ?_
 refine OL.bool trivial (Yields.pure rfl) (fun g21 => ?_) (fun g21 => ?_)
 ·try simp only [cvS] at g21
  refine OL.off rfl rfl (OL.off rfl rfl (OL.off rfl rfl (OL.dp rfl (OL.nil (PW.k3 0 1 25 rfl (PW.ite (b := true) rfl ?_))))))
  rw [if_pos rfl]
  refine PW.seqOps (OL.call trivial rfl (awake_fc) ?_)
  rintro _ Sx ⟨rfl, hSx⟩
  rw [hSx]
  clear hSx
  refine OL.dp rfl (OL.nil (PW.k1 4 rfl (PW.ret ?_)))
  change (Exit.ret = Exit.normal ∨ Exit.ret = Exit.ret) /\ ∃ v, resV _ _ = some v /\ _
  exact ⟨.inr rfl, _, rfl, _, Sub.refl _, rfl⟩
 try simp only [cvS] at g21
 have hpf2 : b1 = false := g21
 refine OL.det rfl (.pure rfl) (OL.call rfl rfl (plainL_fc h hsm) ?_)
 rintro _ _ ⟨b2, rfl, rfl, hb2⟩
 refine OL.det rfl (.pure rfl) (OL.dp rfl (OL.nil (PW.k3 0 1 25 rfl ?_)))
 refine PW.cond rfl (fun c25 => ?_) (fun c25 => ?_)
 ·skip
  refine PW.seqOps (OL.call trivial rfl (awake_fc) ?_)
  rintro _ Sx ⟨rfl, hSx⟩
  rw [hSx]
  clear hSx
  refine OL.dp rfl (OL.nil (PW.k1 4 rfl (PW.ret ?_)))
  change (Exit.ret = Exit.normal ∨ Exit.ret = Exit.ret) /\ ∃ v, resV _ _ = some v /\ _
  exact ⟨.inr rfl, _, rfl, _, Sub.refl _, rfl⟩
 skip
 have hpl2 : b2 = true := by simpa using c25
 refine PW.skip ?_
 refine hK1 _ _ ?_
 refine PW.k2 0 1 rfl (PW.seqOps (OL.dp rfl (OL.call trivial rfl (both_fc h hsm) ?_)))
 rintro _ _ ⟨m, cms, Ac, cc, sg, rfl, rfl, hg, hsg, hcb, hcl, hal, hlim⟩
 obtain ⟨ps, hps⟩ : ∃ z, z = (pls cms).reverse := ⟨_, rfl⟩
 have hpp : ∀ p ∈ ps, ∀ s ∈ p.lines, Ln.isP s = true := fun p hp s hs => by
  rw [hps, List.mem_reverse] at hp
  obtain ⟨q, hq, rfl⟩ := List.mem_map.1 hp
  exact hb2 hpl2 q (hcb q hq).2 s hs
 have hpf : ∀ p ∈ ps, p.patch ≠ ppH := fun p hp => by
  rw [hps, List.mem_reverse] at hp
  obtain ⟨q, hq, rfl⟩ := List.mem_map.1 hp
  exact hb1 hpf2 q (hcb q hq).2
 have hpn : ps.length <= 12 := by rw [hps, List.length_reverse]; unfold pls; rw [List.length_map]; exact hcl
 rw [<- hps] at hg hal
 have hil := items_len hg.sq
 have htl := told_len hg.sq hal
 refine OL.dp rfl (OL.dp rfl (OL.dp rfl (OL.dp rfl (OL.dp rfl (OL.nil (PW.k2 1 5 rfl (PW.seqOps (OL.dp rfl ?_))))))))
 refine OL.call trivial rfl (items_fc (S := sg :: []) hg over_nil (by omega)) ?_
 rintro v33 _ ⟨its, seg, junk, rfl, hmap, hsi, hio, hitn⟩
 obtain ⟨Ai, ci, rfl, hni, hci, hri⟩ := slv_rdL (w0 := w0) hsi
 have hml : (itemsP ps).length = its.length := by rw [<- hmap, List.length_map]
 refine OL.call trivial rfl (textI_fc (l := its) (rd_mem (hri []) (by simp)) (fun x hx => (hio x hx).rd (by simp)) (by omega)) ?_
 rintro v34 _ ⟨segt, rfl, hst, -⟩
 rw [show pli its = itemsP ps from hmap] at hst
 obtain ⟨At, ct, rfl, hnt, hct, hrt⟩ := slv_rdL (w0 := w0) hst
 refine OL.dp rfl (OL.nil (PW.k3 1 5 7 rfl (PW.seqOps (OL.subS (S' := GS m ++ (segt :: [])) gs_t (OL.det trivial (.build (cs := vtxL v0) rfl) (OL.dp rfl (OL.dp rfl ?_)))))))
 refine OL.call trivial rfl (hunks_fc (S := GS m ++ (segt :: [])) (file := v0) (w := textI (itemsP ps)) (itemsFC_gg hg over_nil (by omega)) (by omega) (items_solid hg.sq) (rd_mem (hrt []) (by simp)) hct htl (fun s hs => Nat.le_trans (told_size hg.sq hpp s hs) (by decide))) ?_
 rintro v39 _ ⟨va, hs, sgh, jh, rfl, rfl, hsh, -, hpl⟩
 rw [told_none hg.sq hpp] at hpl
 obtain rfl : hs = [] := by simpa using hpl
 obtain ⟨Ah, ch, rfl, -, -, -⟩ := slv_rdL (w0 := w0) hsh
 refine OL.dp rfl (OL.dp rfl (OL.dp rfl (OL.dp rfl (OL.dp rfl (OL.nil (PW.k4 1 5 8 9 rfl ?_))))))
 refine PW.seq fun K2 hK2 => ?_
 refine PW.seqOps (OL.dp rfl (OL.dp rfl ?_))
 refine OL.bool trivial (Yields.pure rfl) (fun g44 => ?_) (fun g44 => ?_)
 ·try simp only [cvS] at g44
  refine OL.det rfl (.pure rfl) (OL.det rfl (.pure rfl) (OL.det rfl (.to (v' := .bool false) (Yields.pure rfl) rfl) (OL.dp rfl (OL.nil (PW.k3 1 5 48 rfl (PW.ite (b := false) rfl ?_))))))
  rw [if_neg Bool.false_ne_true]
  refine PW.skip ?_
  refine hK2 _ _ ?_
  refine PW.k2 1 5 rfl (PW.seqOps (OL.subS (S' := GS m ++ []) gs_u (OL.det trivial (.build (cs := vtxL v0) rfl) (OL.dp rfl (OL.dp rfl ?_)))))
  refine OL.call trivial rfl (hunks_fc (S := GS m ++ []) (file := v0) (w := w) (itemsFC_gg hg over_nil (by omega)) (by omega) (items_solid hg.sq) (hw.mono (Over.appR (fun q h => h))) hwc (by have := hsw.len; omega) (fun s hs => Nat.le_trans (hsw.size s hs) (by decide))) ?_
  rintro v53 _ ⟨vb, hs, sg2, jh2, rfl, rfl, hsh2, hok, hpl⟩
  obtain ⟨Ah2, ch2, rfl, hnh2, hch2, hrh2⟩ := slv_rdL (w0 := w0) hsh2
  refine OL.dp rfl (OL.dp rfl (OL.dp rfl (OL.dp rfl (OL.dp rfl (OL.nil (PW.k4 1 5 10 11 rfl ?_))))))
  refine PW.seq fun K3 hK3 => ?_
  refine PW.seqOps (OL.dp rfl (OL.dp rfl (OL.nil (PW.k4 1 5 10 57 rfl ?_))))
  refine PW.cond rfl (fun c57 => ?_) (fun c57 => ?_)
  ·try simp only [cvS] at c57
   have hse : hs = [] := by
    have : hunksP (itemsP ps) w = [] := by unfold hunksP; rw [if_neg (by omega)]
    rw [this] at hpl
    simpa using hpl
   refine PW.seqOps (OL.dp rfl (OL.dp rfl ?_))
   refine OL.det trivial (.to (v' := .bool true) (Yields.pure rfl) (by rw [hse]; rfl)) ?_
   refine OL.dp rfl (OL.call rfl rfl (awake_fc) ?_)
   rintro _ Sx ⟨rfl, hSx⟩
   rw [hSx]
   clear hSx
   refine OL.dp rfl (OL.dp rfl (OL.nil (PW.k1 4 rfl (PW.ret ?_))))
   change (Exit.ret = Exit.normal ∨ Exit.ret = Exit.ret) /\ ∃ v, resV _ _ = some v /\ _
   exact ⟨.inr rfl, _, rfl, _, Sub.refl _, rfl⟩
  try simp only [cvS] at c57
  have hE : errH (itemsP ps) w = 0 := by omega
  refine PW.skip ?_
  refine hK3 _ _ ?_
  refine PW.k3 1 5 10 rfl ?_
  refine PW.seq fun K4 hK4 => ?_
  refine PW.seqOps ?_
  have hpl2' : hs.map ChgM.pl = (runsH (itemsP ps) w).map (hunkP (itemsP ps) (keptH (itemsP ps) w)) := by rw [hpl]; unfold hunksP; rw [if_pos hE]
  have hparts := hpl_parts hs (runsH (itemsP ps) w) 0 0 hpl2'
  have hin : ∀ r ∈ runsH (itemsP ps) w, r.fr <= r.to /\ r.to <= (itemsP ps).length := allR_in _ _ (fun s hs => (secs_ok hs).1)
  have hcomes := comes_parts hg.sq (K := keptH (itemsP ps) w) (runsH (itemsP ps) w) 0 0 ps hg.sq (fun p h => h) (fun q hq => .inl (hpf q hq)) hin
  have hgn : ∀ x ∈ hs, x.gone.length <= 1000 := fun x hx => by
   have h1 : x.pl ∈ hs.map ChgM.pl := List.mem_map_of_mem hx
   rw [hpl2'] at h1
   obtain ⟨r, _, e⟩ := List.mem_map.1 h1
   have := gone_len hg.sq r
   have h2 : x.gone = sortL (goneK (itemsP ps) r) := (congrArg HunkP.gone e).symm
   rw [h2]; omega
  obtain ⟨hhn, hlN⟩ := hunks_small hg.sq hE hpl2' (by omega)
  refine OL.subS (S' := GS m ++ (sg2 :: jh2 :: [])) gs_a2 (OL.dp rfl (OL.dp rfl ?_))
  refine OL.call trivial rfl (put_fc (S := sg2 :: jh2 :: []) (hs := hs) hg (rd_mem (hrh2 []) (by simp)) (fun x hx => ⟨rd_mem (hok x hx).1.rdL (by simp), rd_mem (hok x hx).1.rdG (by simp), (hok x hx).1.capG, (hok x hx).1.nilG, hgn x hx⟩) (by rw [hparts]; exact hcomes) hhn hlN (by omega) hlim) ?_
  rintro _ _ ⟨m2, rfl, rfl, hg2, hr2, hal2⟩
  rw [hparts] at hg2 hal2
  refine OL.det trivial (.to (v' := .bool false) (Yields.pure rfl) rfl) (OL.nil (PW.k3 1 5 67 rfl (PW.ite (b := false) rfl ?_)))
  rw [if_neg Bool.false_ne_true]
  refine PW.skip ?_
  refine hK4 _ _ ?_
  refine PW.k2 1 5 rfl ?_
  refine PW.seq fun K5 hK5 => ?_
  refine PW.seqOps (OL.dp rfl (OL.nil (PW.k3 1 5 12 rfl (PW.block (PW.k3 1 5 12 rfl ?_)))))
  refine PW.loopK (I := fun mm T S' => ∃ k : Nat, (k <= w.length /\ mm = w.length - k /\ ∀ s ∈ w.take k, Ln.markP s = false) /\ T = ([(1, .slice W w.length cw), (5, m.ptr), (12, .int .i64 k)] : TT) /\ S' = GS m2 ++ (sg2 :: jh2 :: [])) (m := w.length) ⟨0, ⟨by omega, by omega, by simp⟩, rfl, rfl⟩ ?_
  rintro mm _ _ ⟨k, ⟨hk, hmm, hmks⟩, rfl, rfl⟩
  refine PW.seq fun K6 hK6 => ?_
  refine PW.seqOps (OL.dp rfl (OL.dp rfl (OL.dp rfl (OL.dp rfl (OL.nil (PW.k4 1 5 12 71 rfl ?_))))))
  refine PW.cond rfl (fun c71 => ?_) (fun c71 => ?_)
  ·try simp only [cvS] at c71
   have hkw : k < w.length := by omega
   refine PW.skip ?_
   refine hK6 _ _ ?_
   refine PW.k3 1 5 12 rfl ?_
   refine PW.seq fun K7 hK7 => ?_
   refine PW.block (PW.seqOps (OL.dp rfl (OL.dp rfl ?_)))
   obtain ⟨b0, hb0⟩ := strs_some hw (by omega)
   have hw2 := hw
   rw [hb0] at hw2 ⊢
   refine OL.det trivial (.ixN1 rfl rfl rfl hkw) (OL.det trivial (.ld rfl (str_at hw2.any hkw)) (OL.call trivial rfl (Ln.mark_fc) ?_))
   rintro _ Sx ⟨rfl, hSx⟩
   rw [hSx]
   clear hSx
   refine OL.nil (PW.k4 1 5 12 78 rfl ?_)
   refine PW.cond rfl (fun c78 => ?_) (fun c78 => ?_)
   ·skip
    refine PW.seqOps (OL.call trivial rfl (awake_fc) ?_)
    rintro _ Sx ⟨rfl, hSx⟩
    rw [hSx]
    clear hSx
    refine OL.dp rfl (OL.nil (PW.k1 4 rfl (PW.ret ?_)))
    change (Exit.ret = Exit.normal ∨ Exit.ret = Exit.ret) /\ ∃ v, resV _ _ = some v /\ _
    exact ⟨.inr rfl, _, rfl, _, Sub.refl _, rfl⟩
   skip
   have hmk : Ln.markP w[k] = false := c78
   refine PW.skip ?_
   refine hK7 _ _ ?_
   refine PW.k3 1 5 12 rfl (PW.ops (OL.dp rfl ?_))
   refine OL.det trivial (.add64 rfl rfl (by omega) (by omega)) ?_
   refine OL.dp rfl (OL.nil ?_)
   repeat rw [inBlk_n]
   try rw [thenK_n]
   refine LoopEnd.mk (T'' := [(1, _), (5, _), (12, _)]) (wi rfl) ?_
   rw [<- hb0]
   refine ⟨w.length - (k + 1), by omega, k + 1, ⟨by omega, rfl, ?_⟩, rfl, rfl⟩
   rw [ltake_snoc hkw]
   intro x hx
   rcases List.mem_append.1 hx with hx | hx
   ·exact hmks x hx
   rw [List.mem_singleton] at hx; subst hx; exact hmk
  try simp only [cvS] at c71
  refine PW.exit ?_
  refine hK5 _ _ ?_
  refine PW.k2 1 5 rfl (PW.seqOps ?_)
  have hke : k = w.length := by omega
  rw [hke, List.take_length] at hmks
  have hmarks := hmks
  refine OL.dp rfl ?_
  refine OL.call trivial rfl (by rw [<- ptr_eq hr2]; exact items_fc (S := sg2 :: jh2 :: []) hg2 over_nil (by omega)) ?_
  rintro v81 _ ⟨its2, seg2, junk2, rfl, hmap2, hsi2, hio2, hitn2⟩
  obtain ⟨Ai2, ci2, rfl, hni2, hci2, hri2⟩ := slv_rdL (w0 := w0) hsi2
  obtain ⟨hmk1, hmk2⟩ := makes hg.sq hpf hE hmarks
  have hany : its2.any (·.block) = false := by rw [<- hmk1, <- hmap2, List.any_map]; rfl
  refine OL.dp rfl (OL.nil (PW.k2 1 13 rfl (PW.seqOps (OL.dp rfl ?_))))
  refine OL.call trivial rfl (conflict_fc (l := its2) (rd_mem (hri2 []) (by simp)) (by omega)) ?_
  rintro _ Sx ⟨rfl, hSx⟩
  rw [hSx]
  clear hSx
  rw [hany]
  refine OL.det trivial (.to (v' := .bool true) (Yields.pure rfl) rfl) (OL.dp rfl (OL.det rfl (.pure rfl) ?_))
  refine OL.call rfl rfl (textI_fc (l := its2) (rd_mem (hri2 []) (by simp)) (fun x hx => (hio2 x hx).rd (by simp)) (by omega)) ?_
  rintro v87 _ ⟨segt2, rfl, hst2, -⟩
  rw [show pli its2 = _ from hmap2, hmk2] at hst2
  obtain ⟨At2, ct2, rfl, hnt2, hct2, hrt2⟩ := slv_rdL (w0 := w0) hst2
  refine OL.det rfl (.pure rfl) ?_
  refine OL.call rfl rfl (texts_fc (a := w) (b := w) (rd_mem (hrt2 []) (by simp)) hw.any (by have := hsw.len; omega) (by have := hsw.len; omega)) ?_
  rintro _ Sx ⟨rfl, hSx⟩
  rw [hSx]
  clear hSx
  rw [decide_eq_true (rfl : w = w)]
  refine OL.dp rfl (OL.dp rfl (OL.call rfl rfl (awake_fc) ?_))
  rintro _ Sx ⟨rfl, hSx⟩
  rw [hSx]
  clear hSx
  refine OL.dp rfl (OL.dp rfl (OL.nil (PW.k1 4 rfl (PW.ret ?_))))
  change (Exit.ret = Exit.normal ∨ Exit.ret = Exit.ret) /\ ∃ v, resV _ _ = some v /\ _
  exact ⟨.inr rfl, _, rfl, _, Sub.refl _, rfl⟩
 try simp only [cvS] at g44
 refine OL.off rfl rfl (OL.off rfl rfl (OL.off rfl rfl (OL.dp rfl (OL.nil (PW.k3 1 5 48 rfl (PW.ite (b := false) rfl ?_))))))
 rw [if_neg Bool.false_ne_true]
 refine PW.skip ?_
 refine hK2 _ _ ?_
 refine PW.k2 1 5 rfl (PW.seqOps (OL.subS (S' := GS m ++ []) gs_u (OL.det trivial (.build (cs := vtxL v0) rfl) (OL.dp rfl (OL.dp rfl ?_)))))
 refine OL.call trivial rfl (hunks_fc (S := GS m ++ []) (file := v0) (w := w) (itemsFC_gg hg over_nil (by omega)) (by omega) (items_solid hg.sq) (hw.mono (Over.appR (fun q h => h))) hwc (by have := hsw.len; omega) (fun s hs => Nat.le_trans (hsw.size s hs) (by decide))) ?_
 rintro v53 _ ⟨vb, hs, sg2, jh2, rfl, rfl, hsh2, hok, hpl⟩
 obtain ⟨Ah2, ch2, rfl, hnh2, hch2, hrh2⟩ := slv_rdL (w0 := w0) hsh2
 refine OL.dp rfl (OL.dp rfl (OL.dp rfl (OL.dp rfl (OL.dp rfl (OL.nil (PW.k4 1 5 10 11 rfl ?_))))))
 refine PW.seq fun K8 hK8 => ?_
 refine PW.seqOps (OL.dp rfl (OL.dp rfl (OL.nil (PW.k4 1 5 10 57 rfl ?_))))
 refine PW.cond rfl (fun c57 => ?_) (fun c57 => ?_)
 ·try simp only [cvS] at c57
  have hse : hs = [] := by
   have : hunksP (itemsP ps) w = [] := by unfold hunksP; rw [if_neg (by omega)]
   rw [this] at hpl
   simpa using hpl
  refine PW.seqOps (OL.dp rfl (OL.dp rfl ?_))
  refine OL.det trivial (.to (v' := .bool true) (Yields.pure rfl) (by rw [hse]; rfl)) ?_
  refine OL.dp rfl (OL.call rfl rfl (awake_fc) ?_)
  rintro _ Sx ⟨rfl, hSx⟩
  rw [hSx]
  clear hSx
  refine OL.dp rfl (OL.dp rfl (OL.nil (PW.k1 4 rfl (PW.ret ?_))))
  change (Exit.ret = Exit.normal ∨ Exit.ret = Exit.ret) /\ ∃ v, resV _ _ = some v /\ _
  exact ⟨.inr rfl, _, rfl, _, Sub.refl _, rfl⟩
 try simp only [cvS] at c57
 have hE : errH (itemsP ps) w = 0 := by omega
 refine PW.skip ?_
 refine hK8 _ _ ?_
 refine PW.k3 1 5 10 rfl ?_
 refine PW.seq fun K9 hK9 => ?_
 refine PW.seqOps ?_
 have hpl2' : hs.map ChgM.pl = (runsH (itemsP ps) w).map (hunkP (itemsP ps) (keptH (itemsP ps) w)) := by rw [hpl]; unfold hunksP; rw [if_pos hE]
 have hparts := hpl_parts hs (runsH (itemsP ps) w) 0 0 hpl2'
 have hin : ∀ r ∈ runsH (itemsP ps) w, r.fr <= r.to /\ r.to <= (itemsP ps).length := allR_in _ _ (fun s hs => (secs_ok hs).1)
 have hcomes := comes_parts hg.sq (K := keptH (itemsP ps) w) (runsH (itemsP ps) w) 0 0 ps hg.sq (fun p h => h) (fun q hq => .inl (hpf q hq)) hin
 have hgn : ∀ x ∈ hs, x.gone.length <= 1000 := fun x hx => by
  have h1 : x.pl ∈ hs.map ChgM.pl := List.mem_map_of_mem hx
  rw [hpl2'] at h1
  obtain ⟨r, _, e⟩ := List.mem_map.1 h1
  have := gone_len hg.sq r
  have h2 : x.gone = sortL (goneK (itemsP ps) r) := (congrArg HunkP.gone e).symm
  rw [h2]; omega
 obtain ⟨hhn, hlN⟩ := hunks_small hg.sq hE hpl2' (by omega)
 refine OL.subS (S' := GS m ++ (sg2 :: jh2 :: [])) gs_a2 (OL.dp rfl (OL.dp rfl ?_))
 refine OL.call trivial rfl (put_fc (S := sg2 :: jh2 :: []) (hs := hs) hg (rd_mem (hrh2 []) (by simp)) (fun x hx => ⟨rd_mem (hok x hx).1.rdL (by simp), rd_mem (hok x hx).1.rdG (by simp), (hok x hx).1.capG, (hok x hx).1.nilG, hgn x hx⟩) (by rw [hparts]; exact hcomes) hhn hlN (by omega) hlim) ?_
 rintro _ _ ⟨m2, rfl, rfl, hg2, hr2, hal2⟩
 rw [hparts] at hg2 hal2
 refine OL.det trivial (.to (v' := .bool false) (Yields.pure rfl) rfl) (OL.nil (PW.k3 1 5 67 rfl (PW.ite (b := false) rfl ?_)))
 rw [if_neg Bool.false_ne_true]
 refine PW.skip ?_
 refine hK9 _ _ ?_
 refine PW.k2 1 5 rfl ?_
 refine PW.seq fun K10 hK10 => ?_
 refine PW.seqOps (OL.dp rfl (OL.nil (PW.k3 1 5 12 rfl (PW.block (PW.k3 1 5 12 rfl ?_)))))
 refine PW.loopK (I := fun mm T S' => ∃ k : Nat, (k <= w.length /\ mm = w.length - k /\ ∀ s ∈ w.take k, Ln.markP s = false) /\ T = ([(1, .slice W w.length cw), (5, m.ptr), (12, .int .i64 k)] : TT) /\ S' = GS m2 ++ (sg2 :: jh2 :: [])) (m := w.length) ⟨0, ⟨by omega, by omega, by simp⟩, rfl, rfl⟩ ?_
 rintro mm _ _ ⟨k, ⟨hk, hmm, hmks⟩, rfl, rfl⟩
 refine PW.seq fun K11 hK11 => ?_
 refine PW.seqOps (OL.dp rfl (OL.dp rfl (OL.dp rfl (OL.dp rfl (OL.nil (PW.k4 1 5 12 71 rfl ?_))))))
 refine PW.cond rfl (fun c71 => ?_) (fun c71 => ?_)
 ·try simp only [cvS] at c71
  have hkw : k < w.length := by omega
  refine PW.skip ?_
  refine hK11 _ _ ?_
  refine PW.k3 1 5 12 rfl ?_
  refine PW.seq fun K12 hK12 => ?_
  refine PW.block (PW.seqOps (OL.dp rfl (OL.dp rfl ?_)))
  obtain ⟨b0, hb0⟩ := strs_some hw (by omega)
  have hw2 := hw
  rw [hb0] at hw2 ⊢
  refine OL.det trivial (.ixN1 rfl rfl rfl hkw) (OL.det trivial (.ld rfl (str_at hw2.any hkw)) (OL.call trivial rfl (Ln.mark_fc) ?_))
  rintro _ Sx ⟨rfl, hSx⟩
  rw [hSx]
  clear hSx
  refine OL.nil (PW.k4 1 5 12 78 rfl ?_)
  refine PW.cond rfl (fun c78 => ?_) (fun c78 => ?_)
  ·skip
   refine PW.seqOps (OL.call trivial rfl (awake_fc) ?_)
   rintro _ Sx ⟨rfl, hSx⟩
   rw [hSx]
   clear hSx
   refine OL.dp rfl (OL.nil (PW.k1 4 rfl (PW.ret ?_)))
   change (Exit.ret = Exit.normal ∨ Exit.ret = Exit.ret) /\ ∃ v, resV _ _ = some v /\ _
   exact ⟨.inr rfl, _, rfl, _, Sub.refl _, rfl⟩
  skip
  have hmk : Ln.markP w[k] = false := c78
  refine PW.skip ?_
  refine hK12 _ _ ?_
  refine PW.k3 1 5 12 rfl (PW.ops (OL.dp rfl ?_))
  refine OL.det trivial (.add64 rfl rfl (by omega) (by omega)) ?_
  refine OL.dp rfl (OL.nil ?_)
  repeat rw [inBlk_n]
  try rw [thenK_n]
  refine LoopEnd.mk (T'' := [(1, _), (5, _), (12, _)]) (wi rfl) ?_
  rw [<- hb0]
  refine ⟨w.length - (k + 1), by omega, k + 1, ⟨by omega, rfl, ?_⟩, rfl, rfl⟩
  rw [ltake_snoc hkw]
  intro x hx
  rcases List.mem_append.1 hx with hx | hx
  ·exact hmks x hx
  rw [List.mem_singleton] at hx; subst hx; exact hmk
 try simp only [cvS] at c71
 refine PW.exit ?_
 refine hK10 _ _ ?_
 refine PW.k2 1 5 rfl (PW.seqOps ?_)
 have hke : k = w.length := by omega
 rw [hke, List.take_length] at hmks
 have hmarks := hmks
 refine OL.dp rfl ?_
 refine OL.call trivial rfl (by rw [<- ptr_eq hr2]; exact items_fc (S := sg2 :: jh2 :: []) hg2 over_nil (by omega)) ?_
 rintro v81 _ ⟨its2, seg2, junk2, rfl, hmap2, hsi2, hio2, hitn2⟩
 obtain ⟨Ai2, ci2, rfl, hni2, hci2, hri2⟩ := slv_rdL (w0 := w0) hsi2
 obtain ⟨hmk1, hmk2⟩ := makes hg.sq hpf hE hmarks
 have hany : its2.any (·.block) = false := by rw [<- hmk1, <- hmap2, List.any_map]; rfl
 refine OL.dp rfl (OL.nil (PW.k2 1 13 rfl (PW.seqOps (OL.dp rfl ?_))))
 refine OL.call trivial rfl (conflict_fc (l := its2) (rd_mem (hri2 []) (by simp)) (by omega)) ?_
 rintro _ Sx ⟨rfl, hSx⟩
 rw [hSx]
 clear hSx
 rw [hany]
 refine OL.det trivial (.to (v' := .bool true) (Yields.pure rfl) rfl) (OL.dp rfl (OL.det rfl (.pure rfl) ?_))
 refine OL.call rfl rfl (textI_fc (l := its2) (rd_mem (hri2 []) (by simp)) (fun x hx => (hio2 x hx).rd (by simp)) (by omega)) ?_
 rintro v87 _ ⟨segt2, rfl, hst2, -⟩
 rw [show pli its2 = _ from hmap2, hmk2] at hst2
 obtain ⟨At2, ct2, rfl, hnt2, hct2, hrt2⟩ := slv_rdL (w0 := w0) hst2
 refine OL.det rfl (.pure rfl) ?_
 refine OL.call rfl rfl (texts_fc (a := w) (b := w) (rd_mem (hrt2 []) (by simp)) hw.any (by have := hsw.len; omega) (by have := hsw.len; omega)) ?_
 rintro _ Sx ⟨rfl, hSx⟩
 rw [hSx]
 clear hSx
 rw [decide_eq_true (rfl : w = w)]
 refine OL.dp rfl (OL.dp rfl (OL.call rfl rfl (awake_fc) ?_))
 rintro _ Sx ⟨rfl, hSx⟩
 rw [hSx]
 clear hSx
 refine OL.dp rfl (OL.dp rfl (OL.nil (PW.k1 4 rfl (PW.ret ?_))))
 change (Exit.ret = Exit.normal ∨ Exit.ret = Exit.ret) /\ ∃ v, resV _ _ = some v /\ _
 exact ⟨.inr rfl, _, rfl, _, Sub.refl _, rfl⟩
end Go.Proofs.Gr

namespace Go.Proofs.Gr
open Go.SL Go.RowKit Go.Proofs Go.GP Go.ChangeShapes Go.WideShapes Go.ChangeAt
set_option maxRecDepth 100000 in
theorem parts_arg {H : Type} {enc : TypeId × Value -> H} {W : World} {r : Reach} {base j : Nat} {v : Value} {d : DataW H} {ps : List MemPlace} {ts : List TypeId} {ds : List (DataW H)} (hv : Value.okWide Tryz.prog W r base 22 v)
  (h : DataW.Trod enc Tryz.prog W 0 (fun _ => true) true 22 v d ps) (hsz : (DataW.weightsEach Tryz.prog ts ds).all (· <= reachBytes) = true) (ht : ts[j]? = some 22) (hd : ds[j]? = some d) :
  ∃ (A : Option Addr) (c : Nat) (l : List PartM), v = .slice A l.length c /\ PartsIn W A l := by
 have hu : Tryz.prog.underlying 22 = some (.slice 59) := by kernel_rfl
 obtain ⟨A, len, cap, rfl⟩ := okWide_slice hu hv
 obtain ⟨l, rfl, hr, hR, hy, hc⟩ := arg_listW (j := j) (f := partC) (R := fun a => PartA W a) hu (fun n cs y hh _ hw => part_of hh hw) h hsz ht hd
 rw [show Tryz.prog.bytesOf 59 = 176 by kernel_rfl] at hy
 simp only [reachBytes] at hy
 exact ⟨A, cap, l, rfl, hr, hR, by omega⟩
end Go.Proofs.Gr
