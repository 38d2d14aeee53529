/- Walks. -/
import Derived.Test.YtbejcoeajlhmcaaGreatPart8
set_option linter.unusedVariables false
set_option linter.unusedSimpArgs false
set_option linter.unusedSectionVars false

namespace Go.Proofs.Gr
open Go.SL Go.RowKit Go.Proofs Go.GP Go.MyPlain
section
variable {α : Type} [DecidableEq α]
theorem lcs_le2 (xs ys : List α) : lcs xs ys <= ys.length := by
 induction ys with
 | nil => rw [lcs_nil_right]; exact Nat.le_refl _
 | cons y ys ih => have := ((lcs_mono xs ys).2 y).2; simp only [List.length_cons]; omega
theorem lcs_self (xs : List α) : lcs xs xs = xs.length := by
 induction xs with
 | nil => rw [lcs_nil_left]; rfl
 | cons x xs ih => rw [lcs_cons, if_pos rfl, ih]; rfl
def keeps (i j : Nat) : List α -> List (Int × Int × Int)
 | [] => []
 | _ :: l => (0, (i : Int), (j : Int)) :: keeps (i + 1) (j + 1) l
theorem scrF_self : ∀ (xs : List α) (f i j : Nat), xs.length <= f -> scrF f i j xs xs = keeps i j xs
 | [], f, i, j, h => by cases f <;> rfl
 | x :: xs, 0, i, j, h => by cases h
 | x :: xs, f + 1, i, j, h => by
  simp only [scrF, if_true, keeps]
  rw [scrF_self xs f (i + 1) (j + 1) (by simp only [List.length_cons] at h; omega)]
theorem scrF_more : ∀ (p q : List α) (t : α) (f i j : Nat), (p ++ q).length + (p ++ t :: q).length <= f -> ∃ a b, p ++ q = a ++ b /\ p ++ t :: q = a ++ t :: b /\ scrF f i j (p ++ q) (p ++ t :: q) = keeps i j a ++ (2, 0, ((j + a.length : Nat) : Int)) :: keeps (i + a.length) (j + a.length + 1) b
 | x :: p, q, t, 0, i, j, h => by simp at h
 | x :: p, q, t, f + 1, i, j, h => by
  obtain ⟨a, b, h1, h2, h3⟩ := scrF_more p q t f (i + 1) (j + 1) (by simp only [List.cons_append, List.length_cons] at h; omega)
  refine ⟨x :: a, b, by rw [List.cons_append, h1]; rfl, by rw [List.cons_append, h2]; rfl, ?_⟩
  simp only [List.cons_append, scrF, if_true, keeps]
  rw [h3]
  simp only [List.length_cons]
  rw [show j + 1 + a.length = j + (a.length + 1) by omega, show i + 1 + a.length = i + (a.length + 1) by omega]
 | [], q, t, 0, i, j, h => by simp at h
 | [], [], t, f + 1, i, j, h => ⟨[], [], rfl, rfl, by cases f <;> simp [scrF, keeps]⟩
 | [], x :: q, t, f + 1, i, j, h => by
  simp only [List.nil_append, List.length_cons] at h
  by_cases e : x = t
  ·subst e
   obtain ⟨a, b, h1, h2, h3⟩ := scrF_more [] q x f (i + 1) (j + 1) (by simp only [List.nil_append, List.length_cons]; omega)
   simp only [List.nil_append] at h1 h2 h3
   refine ⟨x :: a, b, by rw [List.nil_append, h1]; rfl, by rw [List.nil_append, h2]; rfl, ?_⟩
   simp only [List.nil_append, scrF, if_true, keeps]
   rw [h3]
   simp only [List.length_cons, List.cons_append]
   rw [show j + 1 + a.length = j + (a.length + 1) by omega, show i + 1 + a.length = i + (a.length + 1) by omega]
  refine ⟨[], x :: q, rfl, rfl, ?_⟩
  have h1 := lcs_self (x :: q)
  have h2 := lcs_le q (t :: x :: q)
  simp only [List.length_cons] at h1
  simp only [List.nil_append, scrF, if_neg e]
  rw [if_neg (by omega), scrF_self (x :: q) f i (j + 1) (by simp only [List.length_cons]; omega)]
  rfl
theorem scrF_less : ∀ (p q : List α) (t : α) (f i j : Nat), (p ++ t :: q).length + (p ++ q).length <= f -> ∃ a b, p ++ q = a ++ b /\ p ++ t :: q = a ++ t :: b /\ scrF f i j (p ++ t :: q) (p ++ q) = keeps i j a ++ (1, ((i + a.length : Nat) : Int), 0) :: keeps (i + a.length + 1) (j + a.length) b
 | x :: p, q, t, 0, i, j, h => by simp at h
 | x :: p, q, t, f + 1, i, j, h => by
  obtain ⟨a, b, h1, h2, h3⟩ := scrF_less p q t f (i + 1) (j + 1) (by simp only [List.cons_append, List.length_cons] at h; omega)
  refine ⟨x :: a, b, by rw [List.cons_append, h1]; rfl, by rw [List.cons_append, h2]; rfl, ?_⟩
  simp only [List.cons_append, scrF, if_true, keeps]
  rw [h3]
  simp only [List.length_cons]
  rw [show j + 1 + a.length = j + (a.length + 1) by omega, show i + 1 + a.length = i + (a.length + 1) by omega]
 | [], q, t, 0, i, j, h => by simp at h
 | [], [], t, f + 1, i, j, h => ⟨[], [], rfl, rfl, by cases f <;> simp [scrF, keeps]⟩
 | [], y :: q, t, f + 1, i, j, h => by
  simp only [List.nil_append, List.length_cons] at h
  by_cases e : t = y
  ·subst e
   obtain ⟨a, b, h1, h2, h3⟩ := scrF_less [] q t f (i + 1) (j + 1) (by simp only [List.nil_append, List.length_cons]; omega)
   simp only [List.nil_append] at h1 h2 h3
   refine ⟨t :: a, b, by rw [List.nil_append, h1]; rfl, by rw [List.nil_append, h2]; rfl, ?_⟩
   simp only [List.nil_append, scrF, if_true, keeps]
   rw [h3]
   simp only [List.length_cons, List.cons_append]
   rw [show j + 1 + a.length = j + (a.length + 1) by omega, show i + 1 + a.length = i + (a.length + 1) by omega]
  refine ⟨[], y :: q, rfl, rfl, ?_⟩
  have h1 := lcs_self (y :: q)
  have h2 := lcs_le2 (t :: y :: q) q
  simp only [List.length_cons] at h1
  simp only [List.nil_append, scrF, if_neg e]
  rw [if_pos (by omega), scrF_self (y :: q) f (i + 1) j (by simp only [List.length_cons]; omega)]
  rfl
end
theorem fold_keeps {α : Type} {ls : List ByteArray} : ∀ (l : List α) (i j : Nat) (st : RS), ((keeps i j l).foldl (stepU ls) st).at_ = st.at_ + l.length /\ ((keeps i j l).foldl (stepU ls) st).runs = st.runs /\ (st.op = false -> ((keeps i j l).foldl (stepU ls) st).op = false)
 | [], i, j, st => ⟨rfl, rfl, id⟩
 | x :: l, i, j, st => by
  simp only [keeps, List.foldl_cons]
  obtain ⟨h1, h2, h3⟩ := fold_keeps (ls := ls) l (i + 1) (j + 1) (stepU ls st (0, (i : Int), (j : Int)))
  have e : stepU ls st (0, (i : Int), (j : Int)) = ⟨st.at_ + 1, false, st.runs, st.K.set st.at_ true⟩ := by unfold stepU; rw [if_pos rfl]
  rw [e] at h1 h2 h3 ⊢
  refine ⟨by rw [h1, List.length_cons]; show st.at_ + 1 + l.length = _; omega, h2, fun _ => h3 rfl⟩
theorem recF_none {I : List ItemP} (h : ∀ x ∈ I, x.block = false) {w : List ByteArray} : ∀ (f i : Nat), i + f <= I.length -> recF I w f i = none
 | 0, _, _ => rfl
 | f + 1, i, hf => by
  unfold recF
  rw [getElem!_pos I i (by omega), h _ (List.getElem_mem _), Bool.false_and, if_neg (by simp)]
  exact recF_none h f (i + 1) (by omega)
theorem recAt_none {I : List ItemP} (h : ∀ x ∈ I, x.block = false) {w : List ByteArray} {fr : Nat} : recAt I fr w = none := by
 unfold recAt
 by_cases hf : fr <= I.length
 ·exact recF_none h _ _ (by omega)
 rw [show I.length - fr = 0 by omega]; rfl
theorem toks_all {I : List ItemP} (h : ∀ fr w, recAt I fr w = none) {fr : Nat} : ∀ w, toks I fr w = w.map Tok.free
 | [] => rfl
 | s :: w => by rw [toks_free (h _ _), toks_all h w]; rfl
theorem secsT_frees {n fr : Nat} : ∀ (w cur : List ByteArray), secsT n (w.map Tok.free) fr cur = [⟨fr, n, cur ++ w⟩]
 | [], cur => by rw [List.append_nil]; rfl
 | s :: w, cur => by
  rw [List.map_cons]
  simp only [secsT]
  rw [secsT_frees w, List.append_assoc]; rfl
theorem keepT_frees {K : List Bool} : ∀ (w : List ByteArray), keepT K (w.map Tok.free) = K
 | [] => rfl
 | s :: w => keepT_frees w
section
variable {I : List ItemP} {w : List ByteArray}
theorem secs_frees (h : toks I 0 w = w.map Tok.free) : secs I w = [⟨0, I.length, w⟩] := by
 unfold secs; rw [h, secsT_frees]; rfl
theorem err_frees (h : toks I 0 w = w.map Tok.free) (hi : ∀ s ∈ w, Ln.isP s = true) (hn : w.length <= 256) : errH I w = 0 := by
 unfold errH checkP
 rw [secs_frees h]
 rw [if_neg (by unfold manyS; simp; omega), if_neg ?_]
 unfold badS
 simp only [List.any_cons, List.any_nil, Bool.or_false]
 rw [Bool.not_eq_true, List.any_eq_false]
 intro s hs
 rw [hi s hs]; simp
theorem runs_frees (h : toks I 0 w = w.map Tok.free) : runsH I w = (runsR I ⟨0, I.length, w⟩ (List.replicate I.length false)).runs /\ keptH I w = (runsR I ⟨0, I.length, w⟩ (List.replicate I.length false)).K := by
 unfold runsH keptH
 rw [secs_frees h, h, keepT_frees]
 exact ⟨by simp only [allR, List.append_nil], by simp only [allR]⟩
end
structure Ones (I : List ItemP) : Prop where
 noB : ∀ x ∈ I, x.block = false
 one : ∀ x ∈ I, x.lines.length = 1
theorem oneT_one {x : ItemP} (h1 : x.block = false) (h2 : x.lines.length = 1) : oneT x = [txtI x] := by
 unfold oneT txtI rowsT
 rw [h1, h2]
 simp
theorem flat_one {α β : Type} {f : α -> List β} {g : α -> β} : ∀ {l : List α}, (∀ x ∈ l, f x = [g x]) -> l.flatMap f = l.map g
 | [], _ => rfl
 | x :: l, h => by rw [List.flatMap_cons, List.map_cons, h x (by simp), flat_one (fun y hy => h y (List.mem_cons_of_mem _ hy))]; rfl
theorem Ones.text {I : List ItemP} (h : Ones I) : textI I = I.map txtI := flat_one fun x hx => oneT_one (h.noB x hx) (h.one x hx)
theorem txts_all (I : List ItemP) : txts I 0 I.length = I.map txtI := by unfold txts; rw [List.take_length, List.drop_zero]
theorem goneK_none (I : List ItemP) (a : Nat) (l : List ByteArray) : goneK I ⟨a, a, l⟩ = [] := by
 unfold goneK
 rw [show ((I.take (Run.to ⟨a, a, l⟩)).drop (Run.fr ⟨a, a, l⟩)) = [] from List.drop_eq_nil_of_le (by rw [List.length_take]; exact Nat.min_le_left _ _)]; rfl
theorem sortL_nil : sortL [] = [] := by simp [sortL]
theorem fold_more {I : List ItemP} {w : List ByteArray} {K : List Bool} {a b : List ByteArray} {t : ByteArray} (hs : scr (txts I 0 I.length) w = keeps 0 0 a ++ (2, 0, (a.length : Int)) :: keeps a.length (a.length + 1) b) (hw : w = a ++ t :: b) :
  (runsR I ⟨0, I.length, w⟩ K).runs = [⟨a.length, a.length, [t]⟩] := by
 unfold runsR
 simp only
 rw [hs, List.foldl_append, List.foldl_cons]
 obtain ⟨h1, h2, h3⟩ := fold_keeps (ls := w) a 0 0 ⟨0, false, [], K⟩
 obtain ⟨st, hst⟩ : ∃ z, z = (keeps 0 0 a).foldl (stepU w) ⟨0, false, [], K⟩ := ⟨_, rfl⟩
 rw [<- hst] at h1 h2 h3 ⊢
 have hop : st.op = false := h3 rfl
 have e : stepU w st (2, 0, (a.length : Int)) = ⟨a.length, true, [⟨a.length, a.length, [t]⟩], st.K⟩ := by
  unfold stepU
  rw [if_neg (show ¬ ((2 : Int) = 0) by decide), if_neg (show ¬ ((2 : Int) = 1) by decide)]
  unfold growR
  rw [hop, if_neg (by simp), h2, h1]
  have e2 : w[((2 : Int), (0 : Int), (a.length : Int)).2.2.toNat]! = t := by
   subst hw
   show (a ++ t :: b)[a.length]! = t
   rw [getElem!_pos _ _ (by simp), List.getElem_append_right (by omega)]
   simp
  rw [e2]
  simp [modLast]
 rw [e, (fold_keeps b _ _ _).2.1]
theorem fold_less {I : List ItemP} {w : List ByteArray} {K : List Bool} {a b : List ByteArray} (hs : scr (txts I 0 I.length) w = keeps 0 0 a ++ (1, (a.length : Int), 0) :: keeps (a.length + 1) a.length b) :
  (runsR I ⟨0, I.length, w⟩ K).runs = [⟨a.length, a.length + 1, []⟩] := by
 unfold runsR
 simp only
 rw [hs, List.foldl_append, List.foldl_cons]
 obtain ⟨h1, h2, h3⟩ := fold_keeps (ls := w) a 0 0 ⟨0, false, [], K⟩
 obtain ⟨st, hst⟩ : ∃ z, z = (keeps 0 0 a).foldl (stepU w) ⟨0, false, [], K⟩ := ⟨_, rfl⟩
 rw [<- hst] at h1 h2 h3 ⊢
 have hop : st.op = false := h3 rfl
 have e : stepU w st (1, (a.length : Int), 0) = ⟨a.length + 1, true, [⟨a.length, a.length + 1, []⟩], st.K⟩ := by
  unfold stepU
  rw [if_neg (show ¬ ((1 : Int) = 0) by decide), if_pos rfl]
  unfold growR
  rw [hop, if_neg (by simp), h2, h1]
  simp [modLast]
 rw [e, (fold_keeps b _ _ _).2.1]
section
variable {I : List ItemP} {k : Nat} {t : ByteArray}
theorem small_more (h : Ones I) (hi : ∀ s ∈ textI I, Ln.isP s = true) (ht : Ln.isP t = true) (hn : I.length <= 100) :
  errH I ((textI I).take k ++ t :: (textI I).drop k) = 0 /\ ∃ y, hunksP I ((textI I).take k ++ t :: (textI I).drop k) = [y] /\ y.gone = [] /\ y.lines = [t] := by
 have htx := toks_all (I := I) (fun fr w => recAt_none h.noB) (fr := 0)
 have hl : (textI I).length = I.length := by rw [h.text, List.length_map]
 have hE : errH I ((textI I).take k ++ t :: (textI I).drop k) = 0 := by
  refine err_frees (htx _) (fun s hs => ?_) ?_
  ·rcases List.mem_append.1 hs with h1 | h1
   ·exact hi s (List.mem_of_mem_take h1)
   rcases List.mem_cons.1 h1 with rfl | h1
   ·exact ht
   exact hi s (List.mem_of_mem_drop h1)
  rw [List.length_append, List.length_cons, List.length_take, List.length_drop]; omega
 refine ⟨hE, ?_⟩
 obtain ⟨hr, hK⟩ := runs_frees (w := (textI I).take k ++ t :: (textI I).drop k) (htx _)
 obtain ⟨a, b, h1, h2, h3⟩ := scrF_more ((textI I).take k) ((textI I).drop k) t _ 0 0 (Nat.le_refl _)
 have hs : scr (txts I 0 I.length) ((textI I).take k ++ t :: (textI I).drop k) = keeps 0 0 a ++ (2, 0, (a.length : Int)) :: keeps a.length (a.length + 1) b := by
  rw [txts_all, <- h.text]
  unfold scr
  rw [List.take_append_drop] at h3
  rw [h3]
  simp only [Nat.zero_add]
 unfold hunksP
 rw [if_pos hE, hr, fold_more hs h2]
 refine ⟨_, rfl, ?_, rfl⟩
 show sortL (goneK I ⟨a.length, a.length, [t]⟩) = []
 rw [goneK_none, sortL_nil]
theorem small_less (h : Ones I) (hi : ∀ s ∈ textI I, Ln.isP s = true) (hn : I.length <= 100) (hk : k < I.length) :
  errH I ((textI I).take k ++ (textI I).drop (k + 1)) = 0 /\ ∃ y, hunksP I ((textI I).take k ++ (textI I).drop (k + 1)) = [y] /\ y.lines = [] /\ y.gone.length = 1 := by
 have htx := toks_all (I := I) (fun fr w => recAt_none h.noB) (fr := 0)
 have hl : (textI I).length = I.length := by rw [h.text, List.length_map]
 have hE : errH I ((textI I).take k ++ (textI I).drop (k + 1)) = 0 := by
  refine err_frees (htx _) (fun s hs => ?_) ?_
  ·rcases List.mem_append.1 hs with h1 | h1
   ·exact hi s (List.mem_of_mem_take h1)
   exact hi s (List.mem_of_mem_drop h1)
  rw [List.length_append, List.length_take, List.length_drop]; omega
 refine ⟨hE, ?_⟩
 obtain ⟨hr, hK⟩ := runs_frees (w := (textI I).take k ++ (textI I).drop (k + 1)) (htx _)
 have hkt : k < (textI I).length := by omega
 obtain ⟨a, b, h1, h2, h3⟩ := scrF_less ((textI I).take k) ((textI I).drop (k + 1)) (textI I)[k] _ 0 0 (Nat.le_refl _)
 have hxs : (textI I).take k ++ (textI I)[k] :: (textI I).drop (k + 1) = textI I := by
  rw [<- List.drop_eq_getElem_cons hkt, List.take_append_drop]
 have hs : scr (txts I 0 I.length) ((textI I).take k ++ (textI I).drop (k + 1)) = keeps 0 0 a ++ (1, (a.length : Int), 0) :: keeps (a.length + 1) a.length b := by
  rw [txts_all, <- h.text]
  unfold scr
  rw [hxs] at h3
  rw [h3]
  simp only [Nat.zero_add]
 have hal : a.length < I.length := by
  have := congrArg List.length h2
  rw [hxs, hl, List.length_append, List.length_cons] at this
  omega
 unfold hunksP
 rw [if_pos hE, hr, fold_less hs]
 refine ⟨_, rfl, rfl, ?_⟩
 show (sortL (goneK I ⟨a.length, a.length + 1, []⟩)).length = 1
 rw [sortL_len]
 unfold goneK
 have e : (I.take (a.length + 1)).drop a.length = [I[a.length]] := by
  rw [ltake_snoc hal, List.drop_append, List.drop_eq_nil_of_le (by rw [List.length_take]; omega), List.length_take, Nat.min_eq_left (by omega), Nat.sub_self]
  rfl
 show (((I.take (a.length + 1)).drop a.length).flatMap fun x => x.lines.map LineP.v).length = 1
 rw [e]
 simp [h.one _ (List.getElem_mem hal)]
end
theorem text_mem {ps : List PartP} {v : Vtx} (hv : v ∈ allV ps) : ∃ p ∈ ps, textV ps v ∈ p.lines := by
 unfold textV
 obtain ⟨p, hp, hv2⟩ := mem_allV.1 hv
 obtain ⟨i, hi, rfl⟩ := mem_own.1 hv2
 cases e : (ps.flatMap fun p => (own p).zip p.lines).find? fun q => decide (q.1 = p.vtx i) with
 | none =>
  exfalso
  rw [List.find?_eq_none] at e
  have := e (p.vtx i, p.lines[i]) (List.mem_flatMap.2 ⟨p, hp, zip_mem.2 ⟨i, List.getElem?_eq_getElem hi, rfl⟩⟩)
  simp at this
 | some q =>
  obtain ⟨p2, hp2, hq⟩ := List.mem_flatMap.1 (List.mem_of_find?_eq_some e)
  obtain ⟨j, hj, _⟩ := zip_mem.1 hq
  exact ⟨p2, hp2, List.mem_of_getElem? hj⟩
theorem items_plain {ps : List PartP} (hs : Sq ps) (hp : ∀ p ∈ ps, ∀ s ∈ p.lines, Ln.isP s = true) : ∀ x ∈ itemsP ps, ∀ y ∈ x.lines, Ln.isP y.text = true := by
 intro x hx y hy
 have h1 : y ∈ live (linesP ps) := by rw [<- (itemsP_good hs).2]; exact List.mem_flatMap.2 ⟨x, hx, hy⟩
 obtain ⟨v, hv, rfl⟩ := List.mem_map.1 (List.mem_filter.1 h1).1
 obtain ⟨p, hp2, ht⟩ := text_mem (topoF_mem hv)
 exact hp p hp2 _ ht
theorem items_len {ps : List PartP} (hs : Sq ps) : (itemsP ps).length <= (allV ps).length := by
 have hg := itemsP_good hs
 have h1 : (itemsP ps).length <= ((itemsP ps).flatMap (·.lines)).length := by
  have hpos : ∀ x ∈ itemsP ps, 1 <= x.lines.length := fun x hx => by
   obtain ⟨h1, h2, _⟩ := hg.1.one x hx
   cases e : x.block with
   | true => have := h1 e; omega
   | false => have := h2 e; omega
  generalize itemsP ps = I at hpos
  induction I with
  | nil => exact Nat.le_refl _
  | cons x I ih =>
   have h2 := ih (fun y hy => hpos y (List.mem_cons_of_mem _ hy))
   have h3 := hpos x (by simp)
   rw [List.flatMap_cons, List.length_append, List.length_cons]
   omega
 rw [hg.2] at h1
 have h2 := linesP_len hs
 have h3 : (live (linesP ps)).length <= (linesP ps).length := List.length_filter_le _ _
 omega
theorem items_solid {ps : List PartP} (hs : Sq ps) : ∀ x ∈ itemsP ps, x.block = false -> 0 < x.lines.length := fun x hx hb => by
 have := ((itemsP_good hs).1.one x hx).2.1 hb
 omega
theorem items_ones {ps : List PartP} (hs : Sq ps) (hb : (itemsP ps).any (·.block) = false) : Ones (itemsP ps) := by
 have h : ∀ x ∈ itemsP ps, x.block = false := fun x hx => by
  have := List.any_eq_false.1 hb x hx
  simpa using this
 exact ⟨h, fun x hx => ((itemsP_good hs).1.one x hx).2.1 (h x hx)⟩
theorem ones_plain {ps : List PartP} (hs : Sq ps) (hp : ∀ p ∈ ps, ∀ s ∈ p.lines, Ln.isP s = true) (ho : Ones (itemsP ps)) : ∀ s ∈ textI (itemsP ps), Ln.isP s = true := by
 intro s hs2
 rw [ho.text] at hs2
 obtain ⟨x, hx, rfl⟩ := List.mem_map.1 hs2
 have h1 := ho.one x hx
 unfold txtI
 rw [ho.noB x hx, if_neg (by simp), getElem!_pos x.lines 0 (by omega)]
 exact items_plain hs hp x hx _ (List.getElem_mem _)
end Go.Proofs.Gr

namespace Go.Proofs.Gr
open Go.SL Go.RowKit Go.Proofs Go.GP
set_option maxHeartbeats 1000000
theorem cutT {A : Option Addr} {cap i : Nat} {l : List ByteArray} (hi : i <= l.length) : cutV A cap 1 0 i = .slice A (l.take i).length cap /\ ∀ (w0 : World) (S : SS), Rd w0 S A (strs l) -> Rd w0 S A (strs (l.take i)) := by
 refine ⟨by rw [cutV0, List.length_take, Nat.min_eq_left hi], fun w0 S h => strs_pre h⟩
theorem cut_nil {A : Option Addr} {cap i : Nat} (h : A = none -> cap = 0) (hi : i <= cap) : ∀ A' n c', cutV A cap 1 i n = .slice A' (n - i) c' -> A' = none -> c' = 0 := by
 intro A' n c' e e2
 unfold cutV at e
 simp only [Value.slice.injEq] at e
 obtain ⟨h1, _, h3⟩ := e
 split at h1
 ·omega
 subst e2
 cases A with
 | none => have := h rfl; omega
 | some a => cases h1
section
variable {w0 : World} {P : Program} {n : Nat} {T : TT} {S F : SS}
theorem OW.frameB0 {E : TypeId} : OW P w0 n (.bsl0 E) T (F ++ S) (fun v S' => ∃ S1, (F ++ S1).Perm S' /\ ∃ r, v = .slice (some ⟨r, 0, none⟩) 0 0 /\ S1 = [(r, .cells [] E 0)] :: S) := by
 refine OW.bsl0.mono ?_
 rintro v S' ⟨r, rfl, rfl⟩
 exact ⟨_, List.perm_middle, r, rfl, rfl⟩
theorem OW.frameApp {t E sz bytes m q c k : Nat} {z v : Value} {s x : PV} {A : Option Addr} {xs news : List Value} {seg : Seg} (hs' : s.val T = some v) (hk : S[k]? = some seg) (hv : SlV E sz v m xs seg)
  (hx : x.val T = some (.slice A q c)) (hl : news.length = q * sz) (hsz : 0 < sz) (hrd : Rd w0 S A news) (hc : A = none -> c = 0) (h1 : news.all (·.oneCell') = true) (hb : (m + q) * bytes <= 140737488355328) (h63 : m + q <= maxLen) :
  OW P w0 n (.app t E sz bytes z s x) T (F ++ S) (fun v' S' => ∃ S1, (F ++ S1).Perm S' /\ ∃ seg', S1 = S.set k seg' /\ SlV E sz v' (m + q) (xs ++ news) seg') := by
 refine (OW.appW (k := F.length + k) hs' (by rw [List.getElem?_append_right (by omega)]; simpa using hk) hv hx hl hsz (hrd.mono fun p hp => by rw [List.flatten_append]; exact List.mem_append_right _ hp) hc h1 hb h63).mono ?_
 rintro v' S' ⟨seg', rfl, h⟩
 refine ⟨_, ?_, seg', rfl, h⟩
 rw [List.set_append_right _ _ (by omega)]
 simp
end
theorem bsl0_slv {r : Nat} : SlV 9 1 (.slice (some ⟨r, 0, none⟩) 0 0) 0 [] [(r, .cells [] 9 0)] := ⟨rfl, .inr ⟨r, 0, rfl, rfl, Nat.le_refl _, Nat.zero_le _⟩⟩
theorem gs_o {a : GrM} {s t u v w x : Seg} {S : SS} : Sub (GS a ++ (t :: u :: S)) (s :: t :: u :: v :: w :: (GS a ++ (x :: S))) := Sub.sel [5, 6, 7, 8, 1, 2] 10 (by decide) (s :: t :: u :: v :: w :: (GS a ++ (x :: S)))
theorem gs_p {a : GrM} {s t u v w : Seg} {S : SS} : Sub (GS a ++ (s :: S)) (s :: t :: u :: (GS a ++ (v :: w :: S))) := Sub.sel [3, 4, 5, 6, 0] 9 (by decide) (s :: t :: u :: (GS a ++ (v :: w :: S)))
theorem isP_size {s : ByteArray} (h : Ln.isP s = true) : s.size <= 80 := by
 unfold Ln.isP Ln.plainP at h
 simp only [Bool.and_eq_true, decide_eq_true_eq] at h
 exact h.1.2
theorem changeSmall_fc {w0 : World} {A : Option Addr} {c : Nat} {l : List PartM} {z : Int} {t : ByteArray} (h : PartsIn w0 A l) (hz0 : 0 <= z) (hz1 : z <= 65535) (ht : t.size <= 140737488351232) :
  FC Tryz.prog w0 5 [.slice A l.length c, .int .u16 z, .string t] [] (fun v _ => v = .bool true) := by
 refine FC.ofD Tryz.known5 (by simp) ?_
 unfold Tryz.pc5
 simp only [argT]
 refine PW.seqOps (OL.dp rfl (OL.nil (PW.k3 0 1 2 rfl rfl rfl ?_)))
 refine PW.seq fun K1 hK1 => ?_
 refine PW.seqOps (OL.dp rfl ?_)
 refine OL.call trivial rfl (large_fc (W := none) (w := []) (cw := 0) h Rd.nil (Nat.zero_le _) (fun s hs => by cases hs)) ?_
 rintro _ _ ⟨b, rfl, rfl, hb⟩
 refine OL.bool trivial (Yields.pure rfl) (fun g20 => ?_) (fun g20 => ?_)
 ·try simp only [cvS] at g20
  refine OL.off rfl rfl (OL.off rfl rfl (OL.off rfl rfl (OL.dp rfl (OL.dp rfl (OL.off rfl rfl (OL.off rfl rfl (OL.off rfl rfl (OL.dp rfl (OL.dp rfl (OL.off rfl rfl (OL.off rfl rfl ?_)))))))))))
  refine OL.off rfl rfl (OL.dp rfl (OL.nil (PW.k4 0 1 2 34 rfl rfl rfl rfl (PW.ite (b := true) rfl ?_))))
  rw [if_pos rfl]
  refine PW.seqOps (OL.call trivial rfl (awake_fc) ?_)
  rintro _ Sx ⟨rfl, hSx⟩
  rw [hSx]
  clear hSx
  refine OL.dp rfl (OL.nil (PW.k1 6 rfl (PW.ret ?_)))
  change (_ ∨ _) /\ ∃ v, resV _ _ = some v /\ _
  exact ⟨.inr rfl, _, rfl, _, Sub.refl _, rfl⟩
 try simp only [cvS] at g20
 have hsm := (hb g20).1
 refine OL.det rfl (.pure rfl) (OL.det rfl (.pure rfl) (OL.det rfl (.pure rfl) (OL.dp rfl ?_)))
 refine OL.bool trivial (Yields.pure rfl) (fun g25 => ?_) (fun g25 => ?_)
 ·try simp only [cvS] at g25
  refine OL.off rfl rfl (OL.off rfl rfl (OL.off rfl rfl (OL.dp rfl (OL.dp rfl (OL.off rfl rfl (OL.off rfl rfl (OL.off rfl rfl (OL.dp rfl (OL.nil (PW.k4 0 1 2 34 rfl rfl rfl rfl (PW.ite (b := true) rfl ?_)))))))))))
  rw [if_pos rfl]
  refine PW.seqOps (OL.call trivial rfl (awake_fc) ?_)
  rintro _ Sx ⟨rfl, hSx⟩
  rw [hSx]
  clear hSx
  refine OL.dp rfl (OL.nil (PW.k1 6 rfl (PW.ret ?_)))
  change (_ ∨ _) /\ ∃ v, resV _ _ = some v /\ _
  exact ⟨.inr rfl, _, rfl, _, Sub.refl _, rfl⟩
 try simp only [cvS] at g25
 refine OL.det rfl (.pure rfl) ?_
 refine OL.call rfl rfl (Ln.is_fc (by omega)) ?_
 rintro _ Sx ⟨rfl, hSx⟩
 rw [hSx]
 clear hSx
 refine OL.det rfl (.pure rfl) (OL.dp rfl ?_)
 refine OL.bool trivial (Yields.pure rfl) (fun g30 => ?_) (fun g30 => ?_)
 ·try simp only [cvS] at g30
  refine OL.off rfl rfl (OL.off rfl rfl (OL.off rfl rfl (OL.dp rfl (OL.nil (PW.k4 0 1 2 34 rfl rfl rfl rfl (PW.ite (b := true) rfl ?_))))))
  rw [if_pos rfl]
  refine PW.seqOps (OL.call trivial rfl (awake_fc) ?_)
  rintro _ Sx ⟨rfl, hSx⟩
  rw [hSx]
  clear hSx
  refine OL.dp rfl (OL.nil (PW.k1 6 rfl (PW.ret ?_)))
  change (_ ∨ _) /\ ∃ v, resV _ _ = some v /\ _
  exact ⟨.inr rfl, _, rfl, _, Sub.refl _, rfl⟩
 try simp only [cvS] at g30
 refine OL.det rfl (.pure rfl) (OL.call rfl rfl (plainL_fc h hsm) ?_)
 rintro _ _ ⟨b2, rfl, rfl, hb2⟩
 refine OL.det rfl (.pure rfl) (OL.dp rfl (OL.nil (PW.k4 0 1 2 34 rfl rfl rfl rfl ?_)))
 refine PW.cond rfl (fun c34 => ?_) (fun c34 => ?_)
 ·skip
  refine PW.seqOps (OL.call trivial rfl (awake_fc) ?_)
  rintro _ Sx ⟨rfl, hSx⟩
  rw [hSx]
  clear hSx
  refine OL.dp rfl (OL.nil (PW.k1 6 rfl (PW.ret ?_)))
  change (_ ∨ _) /\ ∃ v, resV _ _ = some v /\ _
  exact ⟨.inr rfl, _, rfl, _, Sub.refl _, rfl⟩
 skip
 have hpl2 : b2 = true := by simpa using c34
 have htp : Ln.isP t = true := by simpa using g30
 refine PW.skip ?_
 refine hK1 _ _ ?_
 refine PW.k3 0 1 2 rfl rfl rfl (PW.seqOps (OL.dp rfl (OL.call trivial rfl (both_fc h hsm) ?_)))
 rintro _ _ ⟨m, cms, Ac, cc, sg, rfl, rfl, hg, hsg, hcb, hcl, hal, hlim⟩
 obtain ⟨ps, hps⟩ : ∃ z, z = (pls cms).reverse := ⟨_, rfl⟩
 have hpp : ∀ p ∈ ps, ∀ s ∈ p.lines, Ln.isP s = true := fun p hp s hs => by
  rw [hps, List.mem_reverse] at hp
  obtain ⟨q, hq, rfl⟩ := List.mem_map.1 hp
  exact hb2 hpl2 q (hcb q hq).2 s hs
 rw [<- hps] at hg hal
 have hil := items_len hg.sq
 refine OL.dp rfl (OL.dp rfl (OL.dp rfl (OL.dp rfl (OL.dp rfl (OL.nil (PW.k3 1 2 7 rfl rfl rfl (PW.seqOps (OL.dp rfl ?_))))))))
 refine OL.call trivial rfl (items_fc (S := sg :: []) hg over_nil (by omega)) ?_
 rintro v42 _ ⟨its, seg, junk, rfl, hmap, hsi, hio, hitn⟩
 obtain ⟨Ai, ci, rfl, hni, hci, hri⟩ := slv_rdL (w0 := w0) hsi
 have hml : (itemsP ps).length = its.length := by rw [<- hmap, List.length_map]
 refine OL.dp rfl (OL.nil (PW.k4 1 2 7 9 rfl rfl rfl rfl (PW.seqOps (OL.dp rfl ?_))))
 refine OL.call trivial rfl (textI_fc (l := its) (rd_mem (hri []) (by simp)) (fun x hx => (hio x hx).rd (by simp)) (by omega)) ?_
 rintro v44 _ ⟨segt, rfl, hst, -⟩
 rw [show pli its = itemsP ps from hmap] at hst
 obtain ⟨T, hT⟩ : ∃ z, z = textI (itemsP ps) := ⟨_, rfl⟩
 rw [<- hT] at hst
 obtain ⟨At, ct, rfl, hnt, hct, hrt⟩ := slv_rdL (w0 := w0) hst
 refine OL.dp rfl (OL.nil (PW.k5 1 2 7 9 10 rfl rfl rfl rfl rfl ?_))
 refine PW.seq fun K2 hK2 => ?_
 refine PW.seqOps (OL.dp rfl ?_)
 refine OL.call trivial rfl (conflict_fc (l := its) (rd_mem (hri []) (by simp)) (by omega)) ?_
 rintro _ Sx ⟨rfl, hSx⟩
 rw [hSx]
 clear hSx
 refine OL.bool trivial (Yields.pure rfl) (fun g47 => ?_) (fun g47 => ?_)
 ·try simp only [cvS] at g47
  refine OL.off rfl rfl (OL.off rfl rfl (OL.off rfl rfl (OL.dp rfl (OL.nil (PW.k5 1 2 7 10 51 rfl rfl rfl rfl rfl (PW.ite (b := true) rfl ?_))))))
  rw [if_pos rfl]
  refine PW.seqOps (OL.call trivial rfl (awake_fc) ?_)
  rintro _ Sx ⟨rfl, hSx⟩
  rw [hSx]
  clear hSx
  refine OL.dp rfl (OL.nil (PW.k1 6 rfl (PW.ret ?_)))
  change (_ ∨ _) /\ ∃ v, resV _ _ = some v /\ _
  exact ⟨.inr rfl, _, rfl, _, Sub.refl _, rfl⟩
 try simp only [cvS] at g47
 refine OL.det rfl (.pure rfl) (OL.det rfl (.pure rfl) (OL.det rfl (.pure rfl) (OL.dp rfl (OL.nil (PW.k5 1 2 7 10 51 rfl rfl rfl rfl rfl ?_)))))
 refine PW.cond rfl (fun c51 => ?_) (fun c51 => ?_)
 ·try simp only [cvS] at c51
  refine PW.seqOps (OL.call trivial rfl (awake_fc) ?_)
  rintro _ Sx ⟨rfl, hSx⟩
  rw [hSx]
  clear hSx
  refine OL.dp rfl (OL.nil (PW.k1 6 rfl (PW.ret ?_)))
  change (_ ∨ _) /\ ∃ v, resV _ _ = some v /\ _
  exact ⟨.inr rfl, _, rfl, _, Sub.refl _, rfl⟩
 try simp only [cvS] at c51
 have hones : Ones (itemsP ps) := items_ones hg.sq (by
  have h1 : (itemsP ps).any (·.block) = its.any (·.block) := by rw [<- hmap, List.any_map]; rfl
  rw [h1]; exact g47)
 have htis := ones_plain hg.sq hpp hones
 rw [<- hT] at htis
 have hTl : T.length = (itemsP ps).length := by rw [hT, hones.text, List.length_map]
 have hTb : T.length <= 100 := by omega
 refine PW.skip ?_
 refine hK2 _ _ ?_
 refine PW.k4 1 2 7 10 rfl rfl rfl rfl (PW.seqOps (OL.dp rfl (OL.dp rfl (OL.dp rfl (OL.dp rfl ?_)))))
 refine OL.det trivial (.to (v' := .int .i64 ((T.length + 1 : Nat) : Int)) (Yields.add64 rfl rfl (by omega) (by omega)) rfl) ?_
 refine OL.det trivial (.to (v' := .int .i64 ((z.toNat % (T.length + 1) : Nat) : Int)) (Yields.rem rfl rfl (by omega)) (congrArg (Value.int .i64) (tmod_nat (n := z.toNat) (b := T.length + 1) (by rw [i64_id (by omega) (by omega)]; omega)))) ?_
 obtain ⟨k, hk⟩ : ∃ k, k = z.toNat % (T.length + 1) := ⟨_, rfl⟩
 rw [<- hk]
 have hkT : k <= T.length := by have := Nat.mod_lt z.toNat (show 0 < T.length + 1 by omega); omega
 refine OL.dp rfl (OL.nil (PW.k4 2 7 10 11 rfl rfl rfl rfl ?_))
 refine PW.seq fun K3 hK3 => ?_
 refine PW.quietGz (fun c => if c.d = some 65 then (9, [.string t], fun r => .slice (some ⟨r, 0, none⟩) 1 1) else ezOf c) (Ss := Over (segt :: seg :: junk :: (GS m ++ (sg :: [])))) (fr := true) [(1, 0), (2, 0), (3, 0), (5, 0), (8, 0), (9, 0), (10, 0), (0, 2), (4, 2), (6, 3), (7, 2)] Tryz.mixed (by decide +kernel) (Over.refl _) (fun _ _ _ h => h.cons) ?_
 refine GL.dp rfl ?_
 refine GL.dp rfl ?_
 refine GL.det trivial (fun Sx hSx => Yields.to (v' := .slice At (T.take k).length ct) (Yields.slS (l := 0) (h := k) rfl rfl rfl (.inr ⟨rfl, rfl⟩) (.inl rfl) (by omega) (by omega)) (cutT hkT).1) ?_
 refine GL.dp rfl ?_
 refine GL.dp rfl ?_
 refine GL.dp rfl ?_
 obtain ⟨A2, c2, hcut2, hc2, hr2⟩ := cutW (A := At) (i := k) (l := T) hkT hct
 have hn2 := cut_nil hnt (show k <= ct by omega) A2 T.length c2 (by rw [hcut2, List.length_drop])
 refine GL.det trivial (fun Sx hSx => Yields.to (v' := .slice A2 (T.drop k).length c2) (Yields.slS (l := k) (h := T.length) rfl rfl rfl (.inl rfl) (.inr ⟨rfl, rfl⟩) (by omega) (by omega)) hcut2) ?_
 refine GL.loF trivial fun F => OW.mono (OW.frameB0) ?_
 rintro v59 S59 ⟨S1, hperm, r59, rfl, rfl⟩
 refine ⟨_, hperm, (Over.refl _).cons, ?_⟩
 refine GL.loF trivial fun F => OW.mono (OW.frameApp (k := 0) (news := strs (T.take k)) rfl rfl bsl0_slv rfl (by rw [strs_len, Nat.mul_one]) (by decide) ((cutT (A := At) (cap := ct) hkT).2 _ _ (rd_mem (hrt []) (by simp))) hnt (strs_one _) (by rw [List.length_take]; omega) (by unfold maxLen; rw [List.length_take]; omega)) ?_
 rintro v63 S63 ⟨S1, hperm, sg63, rfl, hs63⟩
 refine ⟨_, hperm, (Over.refl _).cons, ?_⟩
 refine GL.freshB trivial rfl rfl fun r65 => ?_
 refine GL.loF trivial fun F => OW.mono (OW.frameApp (k := 1) (news := [.string t]) rfl rfl hs63 rfl rfl (by decide) (Rd.own (E := 9) (tot := 1) (List.mem_flatten.2 ⟨_, .head _, List.mem_singleton.2 rfl⟩)) (fun h => by cases h) rfl (by rw [List.length_take]; omega) (by unfold maxLen; rw [List.length_take]; omega)) ?_
 rintro v66 S66 ⟨S1, hperm, sg66, rfl, hs66⟩
 refine ⟨_, hperm, (Over.refl _).cons.cons, ?_⟩
 change OL _ _ _ [_, _] _ _ _
 refine OL.cons trivial (OW.appW (k := 1) (news := strs (T.drop k)) rfl rfl hs66 rfl (by rw [strs_len, Nat.mul_one]) (by decide) (hr2 _ _ (rd_mem (hrt []) (by simp))) hn2 (strs_one _) (by rw [List.length_take, List.length_drop]; omega) (by unfold maxLen; rw [List.length_take, List.length_drop]; omega)) ?_
 rintro v70 _ ⟨sg70, rfl, hs70⟩
 refine OL.dp rfl (OL.nil ?_)
 refine hK3 _ _ ?_
 refine PW.k5 2 7 10 11 12 rfl rfl rfl rfl rfl (PW.seqOps ?_)
 obtain ⟨hE, y, hy, hy1, hy2⟩ := small_more (I := itemsP ps) (k := k) (t := t) hones (by rw [<- hT]; exact htis) htp (by omega)
 rw [<- hT] at hE hy
 have hwl : (T.take k ++ t :: T.drop k).length = T.length + 1 := by rw [List.length_append, List.length_cons, List.length_take, List.length_drop]; omega
 have hwi : ∀ s ∈ T.take k ++ t :: T.drop k, Ln.isP s = true := fun s hs => by
  rcases List.mem_append.1 hs with h1 | h1
  ·exact htis s (List.mem_of_mem_take h1)
  rcases List.mem_cons.1 h1 with rfl | h1
  ·exact htp
  exact htis s (List.mem_of_mem_drop h1)
 have hs70b : SlV 9 1 v70 (T.take k ++ t :: T.drop k).length (strs (T.take k ++ t :: T.drop k)) sg70 := by
  have e : [] ++ strs (T.take k) ++ [Value.string t] ++ strs (T.drop k) = strs (T.take k ++ t :: T.drop k) := by simp [strs]
  rw [e] at hs70
  exact slv_len hs70 (by rw [hwl, List.length_take, List.length_drop]; omega)
 obtain ⟨A70, c70, rfl, hn70, hc70, hrd70⟩ := slv_rdL (w0 := w0) hs70b
 refine OL.subS (S' := GS m ++ (sg70 :: segt :: [])) gs_o (OL.det trivial (.build (cs := vtxL v0) rfl) (OL.dp rfl (OL.dp rfl ?_)))
 refine OL.call trivial rfl (hunks_fc (S := GS m ++ (sg70 :: segt :: [])) (file := v0) (w := (T.take k ++ t :: T.drop k)) (itemsFC_gg hg over_nil (by omega)) (by omega) (items_solid hg.sq) (rd_mem (hrd70 []) (by simp)) hc70 (by rw [hwl]; omega) (fun s hs => Nat.le_trans (isP_size (hwi s hs)) (by decide))) ?_
 rintro v75 _ ⟨va, hs, sgh, jh, rfl, rfl, hsh, hok, hpl⟩
 rw [hE]
 rw [hy] at hpl
 obtain ⟨x, rfl⟩ : ∃ x, hs = [x] := by
  match hs, hpl with
  | [x], _ => exact ⟨x, rfl⟩
 obtain rfl : ChgM.pl x = y := by simpa using hpl
 have hox := (hok x (by simp)).1
 obtain ⟨Ah, ch, rfl, hnh, hch, hrh⟩ := slv_rdL (w0 := w0) hsh
 obtain ⟨ah, rfl⟩ := chgS_some (hrh []) (by simp)
 refine OL.dp rfl (OL.dp rfl (OL.dp rfl (OL.dp rfl (OL.dp rfl (OL.nil (PW.k6 2 7 10 11 13 14 rfl rfl rfl rfl rfl rfl ?_))))))
 refine PW.seq fun K4 hK4 => ?_
 refine PW.seqOps (OL.dp rfl (OL.det trivial (.to (v' := .bool false) (Yields.pure rfl) rfl) (OL.dp rfl (OL.det rfl (.pure rfl) (OL.det rfl (.pure rfl) (OL.det rfl (.to (v' := .bool false) (Yields.pure rfl) rfl) (OL.dp rfl (OL.dp rfl (OL.det rfl (.pure rfl) (OL.det rfl (.ixN (j := 0) rfl rfl rfl Nat.zero_lt_one) (OL.det rfl (.pure rfl) ?_)))))))))))
 refine OL.det rfl (.ld rfl (chg_at (l := [x]) (k := 0) (rd_mem (hrh []) (by simp)) Nat.zero_lt_one 103 _ (chgC_gone ..).1)) ?_
 refine OL.det rfl (.pure rfl) ?_
 refine OL.det rfl (.to (v' := .bool false) (Yields.pure rfl) (by show Value.bool ((x.gone.length : Int) != 0) = _; rw [show x.gone = [] from hy1]; rfl)) ?_
 refine OL.dp rfl (OL.dp rfl (OL.det rfl (.pure rfl) (OL.det rfl (.ixN (j := 0) rfl rfl rfl Nat.zero_lt_one) (OL.det rfl (.pure rfl) ?_))))
 refine OL.det rfl (.ld rfl (chg_at (l := [x]) (k := 0) (rd_mem (hrh []) (by simp)) Nat.zero_lt_one 104 _ (chgC_gone ..).2)) ?_
 refine OL.det rfl (.pure rfl) ?_
 refine OL.det rfl (.to (v' := .bool false) (Yields.pure rfl) (by show Value.bool ((x.lines.length : Int) != 1) = _; rw [show x.lines = [t] from hy2]; rfl)) ?_
 refine OL.dp rfl (OL.dp rfl (OL.det rfl (.pure rfl) (OL.det rfl (.ixN (j := 0) rfl rfl rfl Nat.zero_lt_one) (OL.det rfl (.pure rfl) ?_))))
 refine OL.det rfl (.ld rfl (chg_at (l := [x]) (k := 0) (rd_mem (hrh []) (by simp)) Nat.zero_lt_one 104 _ (chgC_gone ..).2)) ?_
 obtain ⟨al, hal2⟩ := strs_some hox.rdL (by rw [show x.lines = [t] from hy2]; exact Nat.zero_lt_one)
 have hal3 : ([x] : List ChgM)[0].A = some al := hal2
 rw [hal3]
 refine OL.det rfl (.ixN1 (j := 0) rfl rfl rfl (by show 0 < x.lines.length; rw [show x.lines = [t] from hy2]; exact Nat.zero_lt_one)) ?_
 refine OL.det rfl (.ld rfl (str_at (l := [t]) (k := 0) (by have := rd_mem hox.rdL (show jh ∈ sgh :: jh :: (GS m ++ (sg70 :: segt :: [])) by simp); rw [show x.lines = [t] from hy2, hal2] at this; exact this) Nat.zero_lt_one)) ?_
 refine OL.det rfl (.pure rfl) ?_
 refine OL.det rfl (.to (v' := .bool false) (Yields.pure rfl) (congrArg Value.bool (by simp))) ?_
 refine OL.dp rfl (OL.nil (PW.k4 7 10 11 110 rfl rfl rfl rfl (PW.ite (b := false) rfl ?_)))
 rw [if_neg Bool.false_ne_true]
 refine PW.skip ?_
 refine hK4 _ _ ?_
 refine PW.k3 7 10 11 rfl rfl rfl ?_
 refine PW.seq fun K5 hK5 => ?_
 refine PW.seqOps (OL.dp rfl (OL.dp rfl (OL.dp rfl (OL.dp rfl (OL.nil (PW.k4 7 10 11 114 rfl rfl rfl rfl ?_))))))
 refine PW.cond rfl (fun c114 => ?_) (fun c114 => ?_)
 ·try simp only [cvS] at c114
  refine PW.seqOps (OL.call trivial rfl (awake_fc) ?_)
  rintro _ Sx ⟨rfl, hSx⟩
  rw [hSx]
  clear hSx
  refine OL.dp rfl (OL.nil (PW.k1 6 rfl (PW.ret ?_)))
  change (_ ∨ _) /\ ∃ v, resV _ _ = some v /\ _
  exact ⟨.inr rfl, _, rfl, _, Sub.refl _, rfl⟩
 try simp only [cvS] at c114
 have hkl : k < T.length := by omega
 refine PW.skip ?_
 refine hK5 _ _ ?_
 refine PW.k3 7 10 11 rfl rfl rfl ?_
 refine PW.seq fun K6 hK6 => ?_
 refine PW.quietG (Ss := Over (sgh :: jh :: (GS m ++ (sg70 :: segt :: [])))) (fr := false) [(1, 0), (2, 0), (3, 0), (5, 0), (6, 0), (7, 0), (8, 0), (0, 2), (4, 2)] Tryz.mixed (by decide +kernel) (Over.refl _) (fun h => by cases h) ?_
 refine GL.dp rfl ?_
 refine GL.dp rfl ?_
 refine GL.det trivial (fun Sx hSx => Yields.to (v' := .slice At (T.take k).length ct) (Yields.slS (l := 0) (h := k) rfl rfl rfl (.inr ⟨rfl, rfl⟩) (.inl rfl) (by omega) (by omega)) (cutT hkT).1) ?_
 refine GL.dp rfl ?_
 refine GL.dp rfl ?_
 refine GL.det trivial (fun Sx hSx => Yields.to (v' := .int .i64 ((k + 1 : Nat) : Int)) (Yields.add64 rfl rfl (by omega) (by omega)) rfl) ?_
 obtain ⟨A3, c3, hcut3, hc3, hr3⟩ := cutW (A := At) (i := k + 1) (l := T) (by omega) hct
 have hn3 := cut_nil hnt (show k + 1 <= ct by omega) A3 T.length c3 (by rw [hcut3, List.length_drop])
 refine GL.det trivial (fun Sx hSx => Yields.to (v' := .slice A3 (T.drop (k + 1)).length c3) (Yields.slS (l := k + 1) (h := T.length) rfl rfl rfl (.inl rfl) (.inr ⟨rfl, rfl⟩) (by omega) (by omega)) hcut3) ?_
 refine GL.lo trivial (OW.mono (OW.bsl0) ?_)
 rintro _ _ ⟨r116, rfl, rfl⟩
 refine ⟨(Over.refl _).cons, ?_⟩
 refine GL.lo trivial (OW.mono (OW.appW (k := 0) (news := strs (T.take k)) rfl rfl bsl0_slv rfl (by rw [strs_len, Nat.mul_one]) (by decide) ((cutT (A := At) (cap := ct) hkT).2 _ _ (rd_mem (hrt []) (by simp))) hnt (strs_one _) (by rw [List.length_take]; omega) (by unfold maxLen; rw [List.length_take]; omega)) ?_)
 rintro v120 _ ⟨sg120, rfl, hs120⟩
 refine ⟨(Over.refl _).cons, ?_⟩
 change OL _ _ _ [_, _] _ _ _
 refine OL.cons trivial (OW.appW (k := 0) (news := strs (T.drop (k + 1))) rfl rfl hs120 rfl (by rw [strs_len, Nat.mul_one]) (by decide) (hr3 _ _ (rd_mem (hrt []) (by simp))) hn3 (strs_one _) (by rw [List.length_take, List.length_drop]; omega) (by unfold maxLen; rw [List.length_take, List.length_drop]; omega)) ?_
 rintro v125 _ ⟨sg125, rfl, hs125⟩
 refine OL.dp rfl (OL.nil ?_)
 refine hK6 _ _ ?_
 refine PW.k2 7 15 rfl rfl (PW.seqOps ?_)
 obtain ⟨hE, y, hy, hy1, hy2⟩ := small_less (I := itemsP ps) (k := k) hones (by rw [<- hT]; exact htis) (by omega) (by omega)
 rw [<- hT] at hE hy
 have hxl : (T.take k ++ T.drop (k + 1)).length = T.length - 1 := by rw [List.length_append, List.length_take, List.length_drop]; omega
 have hxi : ∀ s ∈ T.take k ++ T.drop (k + 1), Ln.isP s = true := fun s hs => by
  rcases List.mem_append.1 hs with h1 | h1
  ·exact htis s (List.mem_of_mem_take h1)
  exact htis s (List.mem_of_mem_drop h1)
 have hs125b : SlV 9 1 v125 (T.take k ++ T.drop (k + 1)).length (strs (T.take k ++ T.drop (k + 1))) sg125 := by
  have e : [] ++ strs (T.take k) ++ strs (T.drop (k + 1)) = strs (T.take k ++ T.drop (k + 1)) := by simp [strs]
  rw [e] at hs125
  exact slv_len hs125 (by rw [hxl, List.length_take, List.length_drop]; omega)
 obtain ⟨A125, c125, rfl, hn125, hc125, hrd125⟩ := slv_rdL (w0 := w0) hs125b
 refine OL.subS (S' := GS m ++ (sg125 :: [])) gs_p (OL.det trivial (.build (cs := vtxL v0) rfl) (OL.dp rfl (OL.dp rfl ?_)))
 refine OL.call trivial rfl (hunks_fc (S := GS m ++ (sg125 :: [])) (file := v0) (w := (T.take k ++ T.drop (k + 1))) (itemsFC_gg hg over_nil (by omega)) (by omega) (items_solid hg.sq) (rd_mem (hrd125 []) (by simp)) hc125 (by rw [hxl]; omega) (fun s hs => Nat.le_trans (isP_size (hxi s hs)) (by decide))) ?_
 rintro v130 _ ⟨va, hs, sgh, jh, rfl, rfl, hsh, hok, hpl⟩
 rw [hE]
 rw [hy] at hpl
 obtain ⟨x, rfl⟩ : ∃ x, hs = [x] := by
  match hs, hpl with
  | [x], _ => exact ⟨x, rfl⟩
 obtain rfl : ChgM.pl x = y := by simpa using hpl
 have hox := (hok x (by simp)).1
 obtain ⟨Ah, ch, rfl, hnh, hch, hrh⟩ := slv_rdL (w0 := w0) hsh
 obtain ⟨ah, rfl⟩ := chgS_some (hrh []) (by simp)
 refine OL.dp rfl (OL.dp rfl (OL.dp rfl (OL.dp rfl (OL.dp rfl (OL.nil (PW.k2 16 17 rfl rfl (PW.seqOps (OL.dp rfl (OL.det trivial (.to (v' := .bool true) (Yields.pure rfl) rfl) (OL.dp rfl (OL.det rfl (.pure rfl) ?_)))))))))))
 refine OL.det rfl (.pure rfl) (OL.det rfl (.to (v' := .bool true) (Yields.pure rfl) rfl) (OL.dp rfl (OL.dp rfl (OL.det rfl (.pure rfl) (OL.det rfl (.ixN (j := 0) rfl rfl rfl Nat.zero_lt_one) (OL.det rfl (.pure rfl) ?_))))))
 refine OL.det rfl (.ld rfl (chg_at (l := [x]) (k := 0) (rd_mem (hrh []) (by simp)) Nat.zero_lt_one 104 _ (chgC_gone ..).2)) ?_
 refine OL.det rfl (.pure rfl) ?_
 refine OL.det rfl (.to (v' := .bool true) (Yields.pure rfl) (by show Value.bool ((x.lines.length : Int) == 0) = _; rw [show x.lines = [] from hy1]; rfl)) ?_
 refine OL.dp rfl (OL.dp rfl (OL.det rfl (.pure rfl) (OL.det rfl (.ixN (j := 0) rfl rfl rfl Nat.zero_lt_one) (OL.det rfl (.pure rfl) ?_))))
 refine OL.det rfl (.ld rfl (chg_at (l := [x]) (k := 0) (rd_mem (hrh []) (by simp)) Nat.zero_lt_one 103 _ (chgC_gone ..).1)) ?_
 refine OL.det rfl (.pure rfl) ?_
 refine OL.det rfl (.to (v' := .bool true) (Yields.pure rfl) (by show Value.bool ((x.gone.length : Int) == 1) = _; rw [show x.gone.length = 1 from hy2]; rfl)) ?_
 refine OL.dp rfl (OL.dp rfl (OL.call rfl rfl (awake_fc) ?_))
 rintro _ Sx ⟨rfl, hSx⟩
 rw [hSx]
 clear hSx
 refine OL.dp rfl (OL.dp rfl (OL.nil (PW.k1 6 rfl (PW.ret ?_))))
 change (_ ∨ _) /\ ∃ v, resV _ _ = some v /\ _
 exact ⟨.inr rfl, _, rfl, _, Sub.refl _, rfl⟩
end Go.Proofs.Gr

namespace Go.Proofs.Gr
open Go.SL Go.RowKit Go.Proofs Go.GP Go.ChangeShapes Go.WideShapes Go.ChangeAt
set_option maxRecDepth 100000 in
theorem parts_arg {H : Type} {enc : TypeId × Value -> H} {W : World} {r : Reach} {base j : Nat} {v : Value} {d : DataW H} {ps : List MemPlace} {ts : List TypeId} {ds : List (DataW H)} (hv : Value.okWide Tryz.prog W r base 22 v)
  (h : DataW.Trod enc Tryz.prog W 0 (fun _ => true) true 22 v d ps) (hsz : (DataW.weightsEach Tryz.prog ts ds).all (· <= reachBytes) = true) (ht : ts[j]? = some 22) (hd : ds[j]? = some d) :
  ∃ (A : Option Addr) (c : Nat) (l : List PartM), v = .slice A l.length c /\ PartsIn W A l := by
 have hu : Tryz.prog.underlying 22 = some (.slice 59) := by kernel_rfl
 obtain ⟨A, len, cap, rfl⟩ := okWide_slice hu hv
 obtain ⟨l, rfl, hr, hR, hy, hc⟩ := arg_listW (j := j) (f := partC) (R := fun a => PartA W a) hu (fun n cs y hh _ hw => part_of hh hw) h hsz ht hd
 rw [show Tryz.prog.bytesOf 59 = 176 by kernel_rfl] at hy
 simp only [reachBytes] at hy
 exact ⟨A, cap, l, rfl, hr, hR, by omega⟩
end Go.Proofs.Gr
