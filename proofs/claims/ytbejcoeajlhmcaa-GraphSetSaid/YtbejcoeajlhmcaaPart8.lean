/- Walks and plain facts for the laws of this seat: what each function answers, for every input. -/
import Derived.Test.YtbejcoeajlhmcaaPart7

set_option linter.unusedVariables false
namespace Go.Proofs.Gr
open Go.SL Go.RowKit Go.Proofs Go.GP
def stepR (E : List (Vtx × Vtx)) (l : List Vtx) : List Vtx := l ++ (E.filter fun e => decide (e.1 ∈ l) && !decide (e.2 ∈ l)).map (·.2)
def iterR (E : List (Vtx × Vtx)) : Nat → List Vtx → List Vtx
  | 0, l => l
  | n + 1, l => iterR E n (stepR E l)
def reachL (E : List (Vtx × Vtx)) (a : Vtx) : List Vtx := iterR E E.length ((E.filter fun e => decide (e.1 = a)).map (·.2))
def closedB (E : List (Vtx × Vtx)) (a : Vtx) : Bool := E.all fun e => !(decide (e.1 = a) || decide (e.1 ∈ reachL E a)) || decide (e.2 ∈ reachL E a)
theorem iterR_sound {E : List (Vtx × Vtx)} {a : Vtx} : ∀ (n : Nat) (l : List Vtx), (∀ v ∈ l, Rch E a v) → ∀ v ∈ iterR E n l, Rch E a v
  | 0, l, h => h
  | n + 1, l, h => by
    refine iterR_sound n _ fun v hv => ?_
    unfold stepR at hv
    rcases List.mem_append.1 hv with hv | hv
    · exact h v hv
    · obtain ⟨e, he, rfl⟩ := List.mem_map.1 hv
      rw [List.mem_filter, Bool.and_eq_true, decide_eq_true_eq] at he
      exact (h _ he.2.1).snoc he.1
theorem rch_iff {E : List (Vtx × Vtx)} {a b : Vtx} (hc : closedB E a = true) : Rch E a b ↔ b ∈ reachL E a := by
  unfold closedB at hc
  rw [List.all_eq_true] at hc
  have hc' : ∀ e ∈ E, (e.1 = a ∨ e.1 ∈ reachL E a) → e.2 ∈ reachL E a := by
    intro e he h
    have := hc e he
    rcases h with h | h
    · simpa [h] using this
    · simpa [h] using this
  constructor
  · have key : ∀ x y, Rch E x y → (x = a ∨ x ∈ reachL E a) → y ∈ reachL E a := by
      intro x y h
      induction h with
      | one h => exact fun hx => hc' _ h hx
      | cons h1 h2 ih => exact fun hx => ih (.inr (hc' _ h1 hx))
    exact fun h => key _ _ h (.inl rfl)
  · exact iterR_sound _ _ (fun v hv => by
      obtain ⟨e, he, rfl⟩ := List.mem_map.1 hv
      rw [List.mem_filter, decide_eq_true_eq] at he
      obtain ⟨h1, h2⟩ := he
      subst h2
      exact .one h1) b
def hasC (ps : List PartP) (v : Vtx) : Bool := decide (v = rootV) || decide (v = endV) || decide (v ∈ allV ps)
theorem hasC_iff {ps : List PartP} {v : Vtx} : hasC ps v = true ↔ HasV ps v := by
  unfold hasC HasV
  simp [or_assoc]
def befC (ps : List PartP) (a b : Vtx) : Bool := hasC ps a && hasC ps b && !decide (a = b) && !decide (a = endV) && !decide (b = rootV) && (decide (a = rootV) || decide (b = endV) || decide (b ∈ reachL (allE ps) a))
theorem befC_iff {ps : List PartP} {a b : Vtx} (hc : closedB (allE ps) a = true) : befC ps a b = true ↔ Bef ps a b := by
  unfold befC Bef
  rw [rch_iff hc]
  simp only [Bool.and_eq_true, hasC_iff, Bool.or_eq_true, decide_eq_true_eq, Bool.not_eq_true', decide_eq_false_iff_not, and_assoc, ne_eq, or_assoc]
def formedC (p : PartP) : Bool := decide p.gone.Nodup && (p.gone.all fun v => !decide (v = rootV) && !decide (v = endV)) && decide (0 ≤ p.first) && !decide (p.up = endV) && !decide (p.down = rootV)
theorem formedC_iff {p : PartP} : formedC p = true ↔ Formed p := by
  unfold formedC
  simp only [Bool.and_eq_true, decide_eq_true_eq, Bool.not_eq_true', decide_eq_false_iff_not, List.all_eq_true]
  constructor
  · rintro ⟨⟨⟨⟨h1, h2⟩, h3⟩, h4⟩, h5⟩
    exact ⟨h1, fun v hv => h2 v hv, h3, h4, h5⟩
  · rintro ⟨h1, h2, h3, h4, h5⟩
    exact ⟨⟨⟨⟨h1, fun v hv => h2 v hv⟩, h3⟩, h4⟩, h5⟩
def thereC (ps : List PartP) (p : PartP) : Bool := (ps.any fun q => decide (q.name = p.name)) || (own p).any fun v => decide (v ∈ allV ps)
def addC (ps : List PartP) (p : PartP) : Int :=
  if thereC ps p then 6 else if !formedC p then 4 else if !hasC ps p.up || !hasC ps p.down || (p.gone.any fun v => !decide (v ∈ allV ps)) then 10 else if !befC ps p.up p.down then 4 else 0
theorem thereC_iff {ps : List PartP} {G : Gr} (h : GP.Inv ps G) {p : PartP} : thereC ps p = true ↔ ThereG G p := by
  rw [h.there]
  unfold thereC
  simp only [Bool.or_eq_true, List.any_eq_true, decide_eq_true_eq]
theorem addC_eq {ps : List PartP} {G : Gr} (h : GP.Inv ps G) (hs : Sq ps) {p : PartP} (hc : closedB (allE ps) p.up = true) : addE G p = addC ps p := by
  unfold addC
  by_cases h1 : ThereG G p
  · rw [addE_there h1, if_pos ((thereC_iff h).2 h1)]
  rw [if_neg (fun k => h1 ((thereC_iff h).1 k))]
  by_cases h2 : ¬ Formed p
  · rw [addE_form h1 h2, if_pos (by
      cases e : formedC p with
      | false => rfl
      | true => exact absurd (formedC_iff.1 e) h2)]
  have h2 := Classical.not_not.1 h2
  rw [if_neg (by rw [formedC_iff.2 h2]; simp)]
  have hh : ∀ v, hasC ps v = false ↔ ¬ HasG G v := fun v => by
    rw [h.has, ← hasC_iff]; simp
  have hg : (p.gone.any fun v => !decide (v ∈ allV ps)) = true ↔ ∃ v ∈ p.gone, v ∉ mks G.nodes := by
    simp only [List.any_eq_true, Bool.not_eq_true', decide_eq_false_iff_not, h.keys]
  by_cases h3 : ¬ HasG G p.up ∨ ¬ HasG G p.down ∨ ∃ v ∈ p.gone, v ∉ mks G.nodes
  · rw [addE_dep h1 h2 h3, if_pos]
    simp only [Bool.or_eq_true, Bool.not_eq_true', hh, hg, or_assoc]
    exact h3
  rw [if_neg (by
    simp only [Bool.or_eq_true, Bool.not_eq_true', hh, hg, or_assoc]
    exact h3)]
  have k1 : HasG G p.up := Classical.byContradiction fun k => h3 (.inl k)
  have k2 : HasG G p.down := Classical.byContradiction fun k => h3 (.inr (.inl k))
  have k3 : ∀ v ∈ p.gone, v ∈ mks G.nodes := fun v hv => Classical.byContradiction fun k => h3 (.inr (.inr ⟨v, hv, k⟩))
  rw [addE_bef h1 h2 k1 k2 k3]
  have hb : befB G p.up p.down = befC ps p.up p.down := by
    rw [Bool.eq_iff_iff, befB_iff, h.bef hs, befC_iff hc]
  rw [hb]
  simp only [Bool.not_eq_true']
/-- this part can come -/
def newC (ps : List PartP) (p : PartP) : Bool := decide (addC ps p = 0) && closedB (allE ps) p.up
theorem newC_new {ps : List PartP} {p : PartP} (hs : Sq ps) (hi : ∃ G, GP.Inv ps G) (h : newC ps p = true) : New ps p := by
  unfold newC at h
  rw [Bool.and_eq_true, decide_eq_true_eq] at h
  obtain ⟨G, hG⟩ := hi
  exact (addE_zero hG hs).1 ((addC_eq hG hs h.2).trans h.1)
def comesC : List PartP → List PartP → Bool
  | _, [] => true
  | ps, p :: r => newC ps p && comesC (p :: ps) r
def Comes : List PartP → List PartP → Prop
  | _, [] => True
  | ps, p :: r => New ps p ∧ Comes (p :: ps) r
theorem comesC_comes : ∀ {l ps : List PartP} (hs : Sq ps) (hi : ∃ G, GP.Inv ps G) (h : comesC ps l = true), Comes ps l
  | [], _, _, _, _ => trivial
  | p :: r, ps, hs, hi, h => by
    unfold comesC at h
    rw [Bool.and_eq_true] at h
    have hn := newC_new hs hi h.1
    obtain ⟨G, hG⟩ := hi
    exact ⟨hn, comesC_comes (.cons hn hs) ⟨_, hG.add hs hn⟩ h.2⟩
theorem comes_start {l : List PartP} (h : comesC [] l = true) : Comes [] l := comesC_comes .nil ⟨_, GP.Inv.nil⟩ h
end Go.Proofs.Gr

set_option linter.unusedVariables false
set_option linter.unusedSimpArgs false
namespace Go.Proofs.Gr
open Go.SL Go.RowKit Go.Proofs Go.GP
set_option maxHeartbeats 1000000
def partS (l : List PartM) : List Value := l.flatMap partC
theorem partS_len (l : List PartM) : (partS l).length = l.length * 102 := by unfold partS; rw [List.length_flatMap]; simp [partC_len, List.map_const']
theorem partS_get {l : List PartM} {k : Nat} (hk : k < l.length) {j : Nat} (hj : j < 102) : (partS l)[k * 102 + j]? = (partC l[k])[j]? := by
  unfold partS
  rw [flat_get partC_len l (k * 102 + j) (by omega), show (k * 102 + j) / 102 = k from by omega, show (k * 102 + j) % 102 = j from by omega, getElem!_pos l k hk]
theorem partS_some {w0 : World} {S : SS} {A : Option Addr} {l : List PartM} (h : Rd w0 S A (partS l)) (hk : 0 < l.length) : ∃ a, A = some a :=
  h.some (fun e => by have := partS_len l; rw [e] at this; simp at this; omega)
theorem partS_at {w0 : World} {S : SS} {a : Addr} {l : List PartM} {k : Nat} (h : Rd w0 S (some a) (partS l)) (hk : k < l.length) : ∀ (j : Nat) (v : Value), (partC l[k])[j]? = some v → Cell w0 S ((a.add (k * 102)).add j) v := by
  intro j v hj
  have hj2 : j < 102 := by have := (List.getElem?_eq_some_iff.1 hj).1; rwa [partC_len] at this
  rw [addr_add_add]
  exact h.at (by rw [partS_get hk hj2]; exact hj)
/-- a part's rows read so -/
structure PartRd (w0 : World) (S : SS) (p : PartM) : Prop where
  rdL : Rd w0 S p.LA (strs p.lines)
  rdG : Rd w0 S p.GA (vtxs p.gone)
  rng : PartR p
  small : p.lines.length ≤ 100 ∧ p.gone.length ≤ 100
theorem PartRd.mono {w0 : World} {S S' : SS} {p : PartM} (h : PartRd w0 S p) (hs : Over S S') : PartRd w0 S' p := ⟨h.rdL.mono hs, h.rdG.mono hs, h.rng, h.small⟩
theorem Comes.at : ∀ {l : List PartP} {ps : List PartP} {k : Nat} (h : Comes ps l) (hk : k < l.length), New ((l.take k).reverse ++ ps) l[k]
  | [], _, _, _, hk => by simp at hk
  | p :: r, ps, 0, h, _ => by simpa using h.1
  | p :: r, ps, k + 1, h, hk => by
    have := Comes.at (k := k) h.2 (by simpa using hk)
    simpa using this
theorem over_nil {S : SS} : Over [] S := fun q h => by simp at h
def pls (l : List PartM) : List PartP := l.map PartM.pl
theorem pls_take {l : List PartM} {k : Nat} (hk : k < l.length) : (pls (l.take (k + 1))).reverse = l[k].pl :: (pls (l.take k)).reverse := by
  unfold pls
  rw [ltake_snoc hk, List.map_append, List.reverse_append]
  rfl
theorem small_n {l : List PartM} (h : ∀ p ∈ l, p.lines.length ≤ 100 ∧ p.gone.length ≤ 100) : ∀ k, k ≤ l.length → (allV (pls (l.take k)).reverse).length + (pls (l.take k)).reverse.length ≤ 101 * k
  | 0, _ => by simp [pls, allV]
  | k + 1, hk => by
    have hkl : k < l.length := by omega
    have ih := small_n h k (by omega)
    have h1 := (h _ (List.getElem_mem hkl)).1
    rw [pls_take hkl, allV_cons, List.length_append, List.length_cons, own_len]
    show l[k].lines.length + _ + _ ≤ _
    omega
theorem made_fc {w0 : World} {S : SS} {A : Option Addr} {c : Nat} {l : List PartM} (h : Rd w0 S A (partS l)) (hp : ∀ p ∈ l, PartRd w0 S p) (hl : l.length ≤ 100) (hn : Comes [] (pls l)) :
    FC Try.prog w0 22 [.slice A l.length c] S (fun v S' => ∃ m, v = m.ptr ∧ S' = GS m ++ S ∧ GG w0 [] m (pls l).reverse ∧ m.lim ≤ 100000) := by
  have hsm := small_n (fun p h => (hp p h).small)
  refine FC.ofD Try.known22 (by simp) ?_
  unfold Try.pc22
  simp only [argT]
  refine PW.seqOps ?_
  refine OL.det trivial (Yields.pure rfl) ?_
  refine OL.nil ?_
  refine PW.keep (T' := [(0, _)]) ⟨rfl, trivial⟩ ?_
  refine PW.seqOps ?_
  refine OL.call trivial rfl (new_fc (X := [])) ?_
  rintro _ _ ⟨m0, rfl, rfl, hm0, hg0, hl0⟩
  refine OL.det trivial (Yields.pure rfl) ?_
  refine OL.nil ?_
  refine PW.keep (T' := [(0, _), (3, _)]) ⟨rfl, rfl, trivial⟩ ?_
  refine PW.seq fun K1 hK1 => ?_
  refine PW.seqOps ?_
  refine OL.det trivial (Yields.pure rfl) ?_
  refine OL.nil ?_
  refine PW.keep (T' := [(0, _), (3, _), (4, _)]) ⟨rfl, rfl, rfl, trivial⟩ ?_
  refine PW.block ?_
  refine PW.keep (T' := [(0, _), (3, _), (4, _)]) ⟨rfl, rfl, rfl, trivial⟩ ?_
  refine PW.loopK (I := fun mm T S' => ∃ (k : Nat) (m : GrM), (k ≤ l.length ∧ mm = l.length - k ∧ GG w0 [] m (pls (l.take k)).reverse ∧ m.lim ≤ 303 * k ∧ m.r = m0.r) ∧ T = ([(0, .slice A l.length c), (3, m0.ptr), (4, .int .i64 k)] : TT) ∧ S' = GS m ++ S) (m := l.length) ⟨0, m0, ⟨by omega, by omega, ⟨hm0, by rw [hg0]; exact GP.Inv.nil, Sq.nil, by simp [pls, allV], by omega⟩, by omega, rfl⟩, rfl, rfl⟩ ?_
  rintro mm _ _ ⟨k, m, ⟨hk, hmm, hg, hlim, hr⟩, rfl, rfl⟩
  refine PW.seq fun K2 hK2 => ?_
  refine PW.seqOps ?_
  refine OL.det trivial (Yields.pure rfl) ?_
  refine OL.det trivial (Yields.pure rfl) ?_
  refine OL.det trivial (Yields.pure rfl) ?_
  refine OL.det trivial (Yields.pure rfl) ?_
  refine OL.nil ?_
  refine PW.keep (T' := [(0, _), (3, _), (4, _), (9, _)]) ⟨rfl, rfl, rfl, rfl, trivial⟩ ?_
  refine PW.cond rfl (fun c9 => ?_) (fun c9 => ?_)
  · try simp only [decide_eq_true_eq, decide_eq_false_iff_not, beq_iff_eq, bne_iff_ne, beq_eq_false_iff_ne, bne_eq_false_iff_eq, Bool.not_eq_true', Bool.not_eq_false', Bool.not_eq_true, ne_eq, Decidable.not_not, Bool.false_eq_true, if_false, if_true] at c9
    have hkl : k < l.length := by omega
    obtain ⟨a0, ha0⟩ := partS_some h (by omega)
    have hrd2 := h
    rw [ha0] at hrd2
    have hpk := hp _ (List.getElem_mem hkl)
    have hs1 := hsm k (by omega)
    have hsk := hpk.small
    have hnew : New (pls (l.take k)).reverse l[k].pl := by
      have := Comes.at (k := k) hn (by unfold pls; rw [List.length_map]; exact hkl)
      unfold pls at this ⊢
      rw [List.append_nil, List.getElem_map, ← List.map_take] at this
      exact this
    have hz := (addE_zero hg.inv hg.sq).2 hnew
    refine PW.skip ?_
    refine hK2 _ _ ?_
    refine PW.keep (T' := [(0, _), (3, _), (4, _)]) ⟨rfl, rfl, rfl, trivial⟩ ?_
    refine PW.seq fun K3 hK3 => ?_
    refine PW.block ?_
    refine PW.seqOps ?_
    refine OL.det trivial (Yields.pure rfl) ?_
    refine OL.det trivial (Yields.pure rfl) ?_
    refine OL.det trivial (Yields.pure rfl) ?_
    rw [ha0]
    refine OL.det trivial (Yields.ixN rfl rfl rfl (by omega)) ?_
    refine OL.det trivial (Yields.ldA rfl (partC_len _) (partS_at (hrd2.appR (A := GS m)) hkl)) ?_
    refine OL.call trivial rfl (by rw [← ptr_eq hr]; exact add2_fc hg over_nil hpk.rng hpk.rdL hpk.rdG (by omega) (by unfold addL; omega)) ?_
    rintro _ _ ⟨m2, rfl, rfl, hg2, hl2, hr2, _⟩
    rw [hz]
    refine OL.det trivial (Yields.pure rfl) ?_
    refine OL.nil ?_
    refine PW.keep (T' := [(0, _), (3, _), (4, _), (18, _)]) ⟨rfl, rfl, rfl, rfl, trivial⟩ ?_
    refine PW.cond rfl (fun c18 => ?_) (fun c18 => ?_)
    · skip
      exfalso; simp at c18
      -- done
    · skip
      refine PW.skip ?_
      refine hK3 _ _ ?_
      refine PW.keep (T' := [(0, _), (3, _), (4, _)]) ⟨rfl, rfl, rfl, trivial⟩ ?_
      refine PW.ops ?_
      refine OL.det trivial (Yields.pure rfl) ?_
      refine OL.det trivial (Yields.add64 rfl rfl (by omega) (by omega)) ?_
      refine OL.det trivial (Yields.pure rfl) ?_
      refine OL.nil ?_
      repeat rw [inBlk_n]
      try rw [thenK_n]
      refine LoopEnd.mk (T'' := [(0, _), (3, _), (4, _)]) ⟨rfl, rfl, rfl, trivial⟩ ?_
      rw [ha0]
      rw [came_new hnew, ← pls_take hkl] at hg2
      exact ⟨l.length - (k + 1), by omega, k + 1, m2, ⟨by omega, rfl, hg2, by unfold addL at hl2; omega, hr2.trans hr⟩, rfl, rfl⟩
  · try simp only [decide_eq_true_eq, decide_eq_false_iff_not, beq_iff_eq, bne_iff_ne, beq_eq_false_iff_ne, bne_eq_false_iff_eq, Bool.not_eq_true', Bool.not_eq_false', Bool.not_eq_true, ne_eq, Decidable.not_not, Bool.false_eq_true, if_false, if_true] at c9
    refine PW.exit ?_
    refine hK1 _ _ ?_
    refine PW.keep (T' := [(3, _)]) ⟨rfl, trivial⟩ ?_
    refine PW.seqOps ?_
    refine OL.det trivial (Yields.pure rfl) ?_
    refine OL.det trivial (Yields.pure rfl) ?_
    refine OL.nil ?_
    refine PW.keep (T' := [(2, _)]) ⟨rfl, trivial⟩ ?_
    refine PW.ret ?_
    change (Exit.ret = Exit.normal ∨ Exit.ret = Exit.ret) ∧ ∃ v, resV _ _ = some v ∧ _
    have hke : k = l.length := by omega
    rw [hke, List.take_length] at hg
    exact ⟨.inr rfl, _, rfl, _, Sub.refl _, m, (ptr_eq hr).symm, rfl, hg, by omega⟩
theorem fill_part1 {T : TT} {x : PV} {p : PartM} {zero : List Value} (hx : x.val T = some (partV p)) (hz : zero.length = 102) : fillP T zero [(0, 102, x)] = some (partS [p]) := by
  simp only [fillP, hx]
  rw [if_pos ⟨(List.size_toArray).trans (partC_len p), by omega⟩]
  refine congrArg some ((setAll (by rw [hz]; exact (partC_len p).symm)).trans ?_)
  show partC p = partS [p]
  simp [partS]
theorem fill_part3 {T : TT} {x y z : PV} {p q r : PartM} {zero : List Value} (hx : x.val T = some (partV p)) (hy : y.val T = some (partV q)) (hr : z.val T = some (partV r)) (hz : zero.length = 306) : fillP T zero [(0, 102, x), (102, 102, y), (204, 102, z)] = some (partS [p, q, r]) := by
  have e1 := partC_len p
  have e2 := partC_len q
  have e3 := partC_len r
  have f1 : (setAt zero 0 (partC p)).length = 306 := by rw [setAt_length]; exact hz
  have f2 : (setAt (setAt zero 0 (partC p)) 102 (partC q)).length = 306 := by rw [setAt_length]; exact f1
  simp only [fillP, hx, hy, hr]
  rw [if_pos ⟨(List.size_toArray).trans e1, by omega⟩]
  show (if (partV q).cells.size = 102 ∧ 102 + 102 ≤ (setAt zero 0 (partC p)).length then (if (partV r).cells.size = 102 ∧ 204 + 102 ≤ (setAt (setAt zero 0 (partC p)) 102 (partC q)).length then some (setAt (setAt (setAt zero 0 (partC p)) 102 (partC q)) 204 (partC r)) else none) else none) = _
  rw [if_pos ⟨(List.size_toArray).trans e2, by omega⟩, if_pos ⟨(List.size_toArray).trans e3, by omega⟩]
  congr 1
  have g1 : setAt zero 0 (partC p) = partC p ++ zero.drop 102 := by
    rw [setAt_eq zero 0 _ (by omega), show List.take 0 zero = [] from rfl, List.nil_append, Nat.zero_add, e1]
  have g2 : setAt (partC p ++ zero.drop 102) 102 (partC q) = partC p ++ (partC q ++ zero.drop 204) := by
    rw [setAt_eq _ _ _ (by rw [List.length_append, List.length_drop]; omega), List.take_append_of_le_length (by omega), List.take_of_length_le (by omega), List.drop_append, List.drop_eq_nil_of_le (by omega), e1, e2, List.drop_drop, List.nil_append, List.append_assoc]
  have g3 : setAt (partC p ++ (partC q ++ zero.drop 204)) 204 (partC r) = partC p ++ (partC q ++ partC r) := by
    have h1 : (partC p ++ partC q).length = 204 := by rw [List.length_append]; omega
    have h2 : (zero.drop 204).length = 102 := by rw [List.length_drop]; omega
    rw [← List.append_assoc, setAt_eq _ _ _ (by rw [List.length_append]; omega), List.take_append_of_le_length (by omega), List.take_of_length_le (by omega), List.drop_eq_nil_of_le (by rw [List.length_append]; omega)]
    simp
  rw [g1, g2, g3]
  simp [partS]
def q1 : PartP := (p1 0).pl
def q2 : PartP := (p2 0).pl
def q3 : PartP := (p3 0 0).pl
def rngC (p : PartP) : Bool := decide (-9223372036854775808 ≤ p.at_ ∧ p.at_ ≤ 9223372036854775807) && decide (-9223372036854775808 ≤ p.first ∧ p.first ≤ 4611686018427387904) && decide (p.lines.length ≤ 100) && decide (p.gone.length ≤ 100) && decide (-9223372036854775808 ≤ p.up.2 ∧ p.up.2 ≤ 9223372036854775807) && decide (-9223372036854775808 ≤ p.down.2 ∧ p.down.2 ≤ 9223372036854775807) && p.gone.all fun v => decide (-9223372036854775808 ≤ v.2 ∧ v.2 ≤ 9223372036854775807)
theorem rd_of {w0 : World} {S : SS} {p : PartM} (hL : Rd w0 S p.LA (strs p.lines)) (hG : Rd w0 S p.GA (vtxs p.gone)) (h : rngC p.pl = true) (hc : p.gone.length ≤ p.gc) (hn : p.GA = none → p.gc = 0) : PartRd w0 S p := by
  unfold rngC at h
  simp only [Bool.and_eq_true, decide_eq_true_eq, List.all_eq_true] at h
  obtain ⟨⟨⟨⟨⟨⟨h1, h2⟩, h3⟩, h4⟩, h5⟩, h6⟩, h7⟩ := h
  have h3' : p.lines.length ≤ 100 := h3
  have h4' : p.gone.length ≤ 100 := h4
  exact ⟨hL, hG, ⟨h1, h2, by omega, by omega, hc, hn, h5, h6, h7⟩, h3', h4'⟩
theorem p1_rd {w0 : World} {S : SS} {r : Nat} (h : [(r, AO.cells (strs [str1 97, str1 98]) 9 2)] ∈ S) : PartRd w0 S (p1 r) :=
  rd_of (p := p1 r) (Rd.own (E := 9) (tot := 2) (List.mem_flatten.2 ⟨_, h, List.mem_singleton.2 rfl⟩)) Rd.nil (show rngC q1 = true by decide +kernel) (Nat.le_refl _) (fun _ => rfl)
theorem p2_rd {w0 : World} {S : SS} {r : Nat} (h : [(r, AO.cells (strs [str1 120]) 9 1)] ∈ S) : PartRd w0 S (p2 r) :=
  rd_of (p := p2 r) (Rd.own (E := 9) (tot := 1) (List.mem_flatten.2 ⟨_, h, List.mem_singleton.2 rfl⟩)) Rd.nil (show rngC q2 = true by decide +kernel) (Nat.le_refl _) (fun _ => rfl)
theorem p3_rd {w0 : World} {S : SS} {r g : Nat} (h : [(r, AO.cells (strs [str1 121]) 9 1)] ∈ S) (h2 : [(g, AO.cells (vtxs [(hb1 1, 0)]) 32 33)] ∈ S) : PartRd w0 S (p3 r g) :=
  rd_of (p := p3 r g) (Rd.own (E := 9) (tot := 1) (List.mem_flatten.2 ⟨_, h, List.mem_singleton.2 rfl⟩)) (Rd.own (E := 32) (tot := 33) (List.mem_flatten.2 ⟨_, h2, List.mem_singleton.2 rfl⟩)) (show rngC q3 = true by decide +kernel) (Nat.le_refl _) (fun h => by cases h)
theorem small_txt {ps : List PartP} (h : (ps.all fun p => p.lines.all fun s => decide (s.size ≤ 140737488351232)) = true) : Txt ps := fun p hp s hs => by
  have := List.all_eq_true.1 (List.all_eq_true.1 h p hp) s hs
  simpa using this
theorem comes1 : Comes [] [q1] := comes_start (by decide +kernel)
theorem comes123 : Comes [] [q1, q2, q3] := comes_start (by decide +kernel)
theorem text1 : textP (linesP [q1]) = ⟨#[97, 32, 98, 32]⟩ := by decide +kernel
theorem text123 : textP (linesP [q3, q2, q1]) = ⟨#[40, 97, 41, 32, 120, 32, 121, 32, 98, 32]⟩ := by decide +kernel
set_option maxRecDepth 100000 in
theorem awake_fc {w0 : World} {S : SS} : FC Try.prog w0 13 [] S (fun v S' => v = .bool true ∧ S' = S) := by
  refine FC.ofD Try.known13 (by simp) ?_
  unfold Try.pc13
  simp only [argT]
  refine PW.seqOps ?_
  refine OL.det trivial (Yields.pure rfl) ?_
  refine OL.nil ?_
  refine PW.keep (T' := []) trivial ?_
  refine PW.seqOps ?_
  refine OL.call trivial rfl (first_fc) ?_
  rintro _ _ ⟨r1, rfl, rfl⟩
  refine OL.cons trivial (OW.bsl (cs := partS [p1 r1]) (fill_part1 rfl rfl)) ?_
  rintro _ _ ⟨r2, rfl, rfl⟩
  refine OL.call trivial rfl (made_fc (l := [p1 r1]) (Rd.own (E := 36) (tot := 102) (List.mem_flatten.2 ⟨_, .head _, List.mem_singleton.2 rfl⟩)) (fun p hp => by simp at hp; subst hp; exact p1_rd (by simp)) (show 1 ≤ 100 by decide) comes1) ?_
  rintro _ _ ⟨m1, rfl, rfl, hg1, hl1⟩
  change GG w0 [] m1 [q1] at hg1
  refine OL.call trivial rfl (text_fc hg1 over_nil (small_txt (by decide +kernel)) (by decide +kernel)) ?_
  rintro _ Sx ⟨rfl, hSx⟩
  rw [hSx]
  clear hSx
  rw [text1]
  refine OL.det trivial (Yields.to (v' := .bool true) (Yields.pure rfl) (congrArg Value.bool (beq_self_eq_true _))) ?_
  refine OL.det trivial (Yields.pure rfl) ?_
  refine OL.call rfl rfl (first_fc) ?_
  rintro _ _ ⟨r7, rfl, rfl⟩
  refine OL.call rfl rfl (second_fc) ?_
  rintro _ _ ⟨r8, rfl, rfl⟩
  refine OL.call rfl rfl (third_fc) ?_
  rintro _ _ ⟨r9, g9, rfl, rfl⟩
  refine OL.cons rfl (OW.bsl (cs := partS [p1 r7, p2 r8, p3 r9 g9]) (fill_part3 rfl rfl rfl rfl)) ?_
  rintro _ _ ⟨r10, rfl, rfl⟩
  refine OL.call rfl rfl (made_fc (l := [p1 r7, p2 r8, p3 r9 g9]) (Rd.own (E := 36) (tot := 306) (List.mem_flatten.2 ⟨_, .head _, List.mem_singleton.2 rfl⟩)) (fun p hp => by simp only [List.mem_cons, List.not_mem_nil, or_false] at hp; rcases hp with rfl | rfl | rfl; exact p1_rd (by simp); exact p2_rd (by simp); exact p3_rd (by simp) (by simp)) (show 3 ≤ 100 by decide) comes123) ?_
  rintro _ _ ⟨m2, rfl, rfl, hg2, hl2⟩
  change GG w0 [] m2 [q3, q2, q1] at hg2
  refine OL.call rfl rfl (text_fc hg2 over_nil (small_txt (by decide +kernel)) (by decide +kernel)) ?_
  rintro _ Sx ⟨rfl, hSx⟩
  rw [hSx]
  clear hSx
  rw [text123]
  refine OL.det rfl (Yields.to (v' := .bool true) (Yields.pure rfl) (congrArg Value.bool (beq_self_eq_true _))) ?_
  refine OL.det trivial (Yields.pure rfl) ?_
  refine OL.det trivial (Yields.pure rfl) ?_
  refine OL.nil ?_
  refine PW.keep (T' := [(0, _)]) ⟨rfl, trivial⟩ ?_
  refine PW.ret ?_
  change (Exit.ret = Exit.normal ∨ Exit.ret = Exit.ret) ∧ ∃ v, resV _ _ = some v ∧ _
  exact ⟨.inr rfl, _, rfl, _, Sub.drop (Sub.drop (Sub.drop (Sub.drop (Sub.drop (Sub.drop (Sub.drop (Sub.drop (Sub.drop (Sub.drop (Sub.drop (Sub.drop (Sub.drop (Sub.drop (Sub.drop (Sub.refl _))))))))))))))), rfl, rfl⟩
end Go.Proofs.Gr

set_option linter.unusedVariables false
set_option linter.unusedSimpArgs false
namespace Go.Proofs.Gr
open Go.SL Go.RowKit Go.Proofs Go.GP
set_option maxHeartbeats 1000000
theorem GG.okV {w0 : World} {X : SS} {m : GrM} {ps : List PartP} (h : GG w0 X m ps) {v : Vtx} (hv : v ∈ allV ps) : Gr.okV v := by
  have hk : mks m.gr.nodes = mks m.nodes := mks_plN _
  have hv2 := (h.inv.keys v).2 hv
  rw [hk] at hv2
  obtain ⟨n, hn⟩ := mem_mks.1 hv2
  exact h.ok.nk _ (mgt_some_mem hn)
theorem gs_swap {a b : GrM} {S : SS} : Sub (GS b ++ (GS a ++ S)) (GS a ++ (GS b ++ S)) := Sub.sel [4, 5, 6, 7, 0, 1, 2, 3] 8 (by decide) (GS a ++ (GS b ++ S))
theorem Acts.rngs {w0 : World} {A : Option Addr} {l : List ActM} (h : Acts w0 A l) (hs : Small l) {k : Nat} (hk : k < l.length) : PartR l[k].p ∧ l[k].p.lines.length ≤ 12 ∧ l[k].p.gone.length ≤ 12 := by
  have h1 := h.get hk
  obtain ⟨h2, h3, h4⟩ := hs.part _ (List.getElem_mem hk)
  exact ⟨h1.rng h2 h3 h4, h2, h3⟩
end Go.Proofs.Gr

set_option linter.unusedVariables false
set_option linter.unusedSectionVars false
namespace Go.Proofs.Gr
open Go.SL Go.RowKit Go.Proofs Go.GP
theorem _root_.Go.GP.New.more {ps qs : List PartP} {p : PartP} (h : New ps p) (hs : ∀ q ∈ ps, q ∈ qs) (hn : ∀ q ∈ qs, q.name ≠ p.name) (ho : ∀ v ∈ own p, v ∉ allV qs) : New qs p :=
  ⟨hn, ho, h.first, h.upE, h.downR, h.gone0, h.goneR, h.up.mono hs, h.down.mono hs, fun v hv => by
    obtain ⟨q, hq, hvq⟩ := mem_allV.1 (h.gone v hv)
    exact mem_allV.2 ⟨q, hs q hq, hvq⟩, h.bef.mono hs⟩
def Apart (p q : PartP) : Prop := p.name ≠ q.name ∧ ∀ v ∈ own p, v ∉ own q
theorem Apart.symm {p q : PartP} (h : Apart p q) : Apart q p := ⟨fun e => h.1 e.symm, fun v hv hm => h.2 v hm hv⟩
theorem _root_.Go.GP.Sq.apart {ps : List PartP} (h : Sq ps) : ps.Pairwise Apart := by
  induction h with
  | nil => exact .nil
  | cons h t ih => exact .cons (fun q hq => ⟨fun e => h.name q hq e.symm, fun v hv hm => h.own v hv (mem_allV.2 ⟨q, hq, hm⟩)⟩) ih
theorem apart_perm {ps qs : List PartP} (h : ps.Pairwise Apart) (hp : ps.Perm qs) : qs.Pairwise Apart := (hp.pairwise_iff fun h => h.symm).1 h
theorem _root_.Go.GP.New.formed {ps : List PartP} {p : PartP} (h : New ps p) : Formed p := ⟨h.gone0, h.goneR, h.first, h.upE, h.downR⟩
theorem _root_.Go.GP.Sq.formed {ps : List PartP} (h : Sq ps) : ∀ p ∈ ps, Formed p := by
  induction h with
  | nil => intro p hp; cases hp
  | cons h t ih =>
    intro p hp
    rcases List.mem_cons.1 hp with rfl | hp
    · exact h.formed
    · exact ih p hp
theorem _root_.Go.GP.Sq.gr {ps : List PartP} (h : Sq ps) : ∃ G, GP.Inv ps G := by
  induction h with
  | nil => exact ⟨_, GP.Inv.nil⟩
  | cons h t ih =>
    obtain ⟨G, hG⟩ := ih
    exact ⟨_, hG.add t h⟩
/-- the first one of those that are left can come -/
theorem next_can {L ds lf : List PartP} (hL : Sq L.reverse) (hd : Sq ds.reverse) (hp : (ds ++ lf).Perm L) (hne : lf ≠ []) : ∃ p ∈ lf, New ds.reverse p := by
  have hap : (ds ++ lf).Pairwise Apart := apart_perm (apart_perm hL.apart L.reverse_perm) hp.symm
  have key : ∀ L : List PartP, Sq L.reverse → (∃ p ∈ lf, p ∈ L) → (∀ p ∈ L, p ∈ ds ∨ p ∈ lf) → ∃ p ∈ lf, New ds.reverse p := by
    intro L
    induction h : L.length generalizing L with
    | zero =>
      intro _ ⟨p, _, hp⟩ _
      rw [List.eq_nil_of_length_eq_zero h] at hp
      cases hp
    | succ n ih =>
      intro hs ⟨p, hpl, hpL⟩ hall
      obtain ⟨A, x, rfl⟩ : ∃ A x, L = A ++ [x] := ⟨L.dropLast, L.getLast (by intro e; rw [e] at h; cases h), (List.dropLast_concat_getLast _).symm⟩
      rw [List.reverse_append] at hs
      cases hs with
      | cons hn ht =>
        by_cases hA : ∃ p ∈ lf, p ∈ A
        · exact ih A (by simpa using h) ht hA fun q hq => hall q (List.mem_append_left _ hq)
        · have hx : x ∈ lf := by
            rcases List.mem_append.1 hpL with hh | hh
            · exact absurd ⟨p, hpl, hh⟩ hA
            · rw [List.mem_singleton] at hh; exact hh ▸ hpl
          have hsub : ∀ q ∈ A.reverse, q ∈ ds.reverse := fun q hq => by
            rw [List.mem_reverse] at hq ⊢
            exact (hall q (List.mem_append_left _ hq)).resolve_right fun k => hA ⟨q, k, hq⟩
          have hap2 := (List.pairwise_append.1 hap).2.2
          refine ⟨x, hx, hn.more hsub (fun q hq => (hap2 q (List.mem_reverse.1 hq) x hx).1) fun v hv hm => ?_⟩
          obtain ⟨q, hq, hvq⟩ := mem_allV.1 hm
          exact (hap2 q (List.mem_reverse.1 hq) x hx).2 v hvq hv
  obtain ⟨p, hpm⟩ := List.exists_mem_of_ne_nil _ hne
  exact key L hL ⟨p, hpm, hp.mem_iff.1 (List.mem_append_right _ hpm)⟩ fun q hq => List.mem_append.1 (hp.mem_iff.2 hq)
theorem linesP_perm {ps qs : List PartP} (h : Sq ps) (k : Sq qs) (hp : ps.Perm qs) : linesP ps = linesP qs := by
  unfold linesP
  rw [topoF_perm hp]
  obtain ⟨G, hG⟩ := h.gr
  obtain ⟨G', hG'⟩ := k.gr
  refine List.map_congr_left fun v hv => ?_
  have hv2 := topoF_mem hv
  have hv1 : v ∈ allV ps := ((hp.flatMap_right own).mem_iff (a := v)).2 hv2
  unfold Gr.lineP
  congr 1
  · obtain ⟨p, hpm, hvo⟩ := mem_allV.1 hv1
    obtain ⟨i, hi, rfl⟩ := mem_own.1 hvo
    rw [hG.textV hv1, hG'.textV hv2, hG.text p hpm i _ (List.getElem?_eq_getElem hi), hG'.text p (hp.mem_iff.1 hpm) i _ (List.getElem?_eq_getElem hi)]
  · unfold aliveV
    congr 1
    rw [Bool.eq_iff_iff, List.contains_iff_mem, List.contains_iff_mem]
    exact (hp.flatMap_right (·.gone)).mem_iff
/-- the last one that came can go -/
theorem head_goes {p : PartP} {ps : List PartP} (h : Sq (p :: ps)) : Loose1 (p :: ps) p := by
  cases h with
  | cons n t =>
    obtain ⟨f1, f2⟩ := n.fresh t
    intro q hq v hv
    rcases List.mem_cons.1 hq with rfl | hq
    · unfold names at hv
      simp only [List.mem_cons] at hv
      rcases hv with rfl | rfl | hv
      · exact f2 _ n.up
      · exact f2 _ n.down
      · exact f2 _ (.inr (.inr (n.gone v hv)))
    · exact f2 _ (t.names_has hq hv)
theorem some_goes {ps : List PartP} (h : Sq ps) (hne : ps ≠ []) : ∃ p ∈ ps, Loose1 ps p := by
  cases ps with
  | nil => exact absurd rfl hne
  | cons p ps => exact ⟨p, by simp, head_goes h⟩
end Go.Proofs.Gr

set_option linter.unusedVariables false
set_option linter.unusedSimpArgs false
namespace Go.Proofs.Gr
open Go.SL Go.RowKit Go.Proofs Go.GP
set_option maxHeartbeats 1000000
theorem partS_app (a b : List PartM) : partS (a ++ b) = partS a ++ partS b := by unfold partS; rw [List.flatMap_append]
theorem partS_one (l : List PartM) : (partS l).all (·.oneCell') = true := by
  unfold partS
  rw [List.all_flatMap]
  exact List.all_eq_true.2 fun x _ => partC_one x
theorem appP {P : Program} {w0 : World} {n : Nat} {T : TT} {S : SS} {k m q c : Nat} {z v : Value} {s x : PV} {A : Option Addr} {xs l : List PartM} {seg : Seg} (hs' : s.val T = some v) (hk : S[k]? = some seg) (hv : SlV 36 102 v m (partS xs) seg)
    (hx : x.val T = some (.slice A q c)) (hq : l.length = q) (hrd : Rd w0 S A (partS l)) (hc : A = none → c = 0) (hb : m + q ≤ 1000000) :
    OW P w0 n (.app 45 36 102 176 z s x) T S (fun v' S' => ∃ seg', S' = S.set k seg' ∧ SlV 36 102 v' (m + q) (partS (xs ++ l)) seg') := by
  have h := OW.appL (P := P) (w0 := w0) (n := n) (t := 45) (z := z) (bytes := 176) hs' hk hv hx (by rw [partS_len, hq]) hrd (by decide) hc (partS_one l) (by omega) (by unfold maxLen; omega)
  rw [← partS_app] at h
  exact h
theorem cutP {A : Option Addr} {cap i : Nat} {l : List PartM} (hi : i ≤ l.length) (hc : A = none → cap = 0) (hl : l.length ≤ cap) :
    ∃ A' c', cutV A cap 102 i l.length = .slice A' (l.drop i).length c' ∧ (A' = none → c' = 0) ∧ ∀ (w0 : World) (S : SS), Rd w0 S A (partS l) → Rd w0 S A' (partS (l.drop i)) := by
  unfold cutV
  rw [List.length_drop]
  split
  · rename_i e
    exact ⟨A, cap - i, rfl, fun _ => by omega, fun w0 S h => by rw [List.drop_of_length_le (by omega)]; exact Rd.nil⟩
  · rename_i e
    refine ⟨_, _, rfl, fun h => ?_, fun w0 S h => ?_⟩
    · cases A with
      | none => rw [hc rfl]; simp
      | some a => cases h
    · intro j v hj
      have hlt := (List.getElem?_eq_some_iff.1 hj).1
      rw [partS_len, List.length_drop] at hlt
      obtain ⟨a, rfl⟩ := partS_some h (by omega)
      refine ⟨_, rfl, ?_⟩
      rw [addr_add_add]
      refine h.at ?_
      have hd : partS l = partS (l.take i) ++ partS (l.drop i) := by rw [← partS_app, List.take_append_drop]
      rw [hd, List.getElem?_append_right (by rw [partS_len, List.length_take]; omega), partS_len, List.length_take, show i * 102 + j - min i l.length * 102 = j from by omega]
      exact hj
theorem preP {w0 : World} {S : SS} {A : Option Addr} {i : Nat} {l : List PartM} (h : Rd w0 S A (partS l)) : Rd w0 S A (partS (l.take i)) :=
  h.pre (by rw [← List.take_append_drop i l, partS_app, List.take_append_drop]; exact List.prefix_append _ _)
section
variable {w0 : World} {S : SS} {a : Addr} {l : List PartM} {k : Nat}
theorem partS_hash (h : Rd w0 S (some a) (partS l)) (hk : k < l.length) : ∀ (j : Nat) (v : Value), (bytesC l[k].patch.1)[j]? = some v → Cell w0 S (((a.add (k * 102)).add 0).add j) v := by
  intro j v hj
  rw [addr_add_add (a.add (k * 102)), Nat.zero_add]
  refine partS_at h hk j v ?_
  rw [partC_split, List.getElem?_append_left (List.getElem?_eq_some_iff.1 hj).1]
  exact hj
theorem partS_num (h : Rd w0 S (some a) (partS l)) (hk : k < l.length) : Cell w0 S ((a.add (k * 102)).add 32) (.int .i64 l[k].at_) := partS_at h hk _ _ (partC_at _).1
end
/-- a part that an argument holds, and that is not large -/
structure PartB (w0 : World) (p : PartM) : Prop where
  rdL : Rd w0 [] p.LA (strs p.lines)
  rdG : Rd w0 [] p.GA (vtxs p.gone)
  rng : PartR p
  small : p.lines.length ≤ 12 ∧ p.gone.length ≤ 12
  text : ∀ s ∈ p.lines, s.size ≤ 140737488351232
theorem Acts.partB {w0 : World} {A : Option Addr} {l : List ActM} (h : Acts w0 A l) (hs : Small l) {k : Nat} (hk : k < l.length) : PartB w0 l[k].p := by
  obtain ⟨h1, h2, h3⟩ := h.rngs hs hk
  have h4 := h.get hk
  exact ⟨h4.rdL, h4.rdG, h1, ⟨h2, h3⟩, h4.text⟩
theorem bParts {w0 : World} {l : List PartM} (h : ∀ p ∈ l, PartB w0 p) : (allV (pls l).reverse).length + (pls l).reverse.length ≤ 101 * l.length := by
  have := small_n (l := l) (fun p hp => by have := (h p hp).small; omega) l.length (Nat.le_refl _)
  rwa [List.take_length] at this
theorem bTxt {w0 : World} {l : List PartM} (h : ∀ p ∈ l, PartB w0 p) : Txt (pls l).reverse := by
  intro p hp s hs
  rw [List.mem_reverse] at hp
  obtain ⟨q, hq, rfl⟩ := List.mem_map.1 hp
  exact (h q hq).text s hs
theorem pls_app (a b : List PartM) : pls (a ++ b) = pls a ++ pls b := List.map_append
theorem pls_snoc {l : List PartM} {p : PartM} : (pls (l ++ [p])).reverse = p.pl :: (pls l).reverse := by rw [pls_app, List.reverse_append]; rfl
theorem tmod_nat {x : Int} {n b : Nat} (h : x = (n : Int)) : x.tmod (b : Int) = ((n % b : Nat) : Int) := by
  subst h
  rw [Int.tmod_eq_emod_of_nonneg (by omega)]
  rfl
theorem cover {a L q : Nat} (hq : q < L) : ∃ j, j < L ∧ (a + j) % L = q := by
  refine ⟨(q + (L - a % L)) % L, Nat.mod_lt _ (by omega), ?_⟩
  rw [Nat.add_mod_mod]
  have h1 := Nat.div_add_mod a L
  have h2 := Nat.mod_lt a (show L > 0 by omega)
  have e : a + (q + (L - a % L)) = q + L * (a / L + 1) := by
    rw [Nat.mul_add, Nat.mul_one]
    omega
  rw [e, Nat.add_mul_mod_self_left, Nat.mod_eq_of_lt hq]
theorem cut_perm {l : List PartM} {i : Nat} (hi : i < l.length) : (l[i] :: (l.take i ++ l.drop (i + 1))).Perm l := by
  have e : l.take i ++ l[i] :: l.drop (i + 1) = l := by rw [List.getElem_cons_drop, List.take_append_drop]
  exact (List.perm_middle.symm).trans (List.Perm.of_eq e)
theorem cut_len {l : List PartM} {i : Nat} (hi : i < l.length) : (l.take i ++ l.drop (i + 1)).length + 1 = l.length := by
  rw [List.length_append, List.length_take, List.length_drop]
  omega
theorem GG.hasParts {w0 : World} {X : SS} {m : GrM} {ps : List PartP} (h : GG w0 X m ps) : ∀ q ∈ m.parts, q.1 = q.2.pl.name := by
  intro q hq
  exact h.inv.pname (q.1, q.2.pl) (List.mem_map.2 ⟨q, hq, rfl⟩)
theorem remove2_fc {w0 : World} {S X : SS} {m : GrM} {ps : List PartP} (h : GG w0 X m ps) (hX : Over X S) {p : PartP} (hp : p ∈ ps) (hat : Gr.okV p.name) (hlim : m.lim + 4000000000 ≤ 500000000000) :
    FC Try.prog w0 21 [m.ptr, hashV p.patch, .int .i64 p.at_] (GS m ++ S) (fun v S' => ∃ m', v = .int .i64 (remE m.gr p.name) ∧ S' = GS m' ++ S ∧ m'.r = m.r ∧ m'.lim ≤ m.lim + 4000000000 ∧ (remE m.gr p.name ≠ 0 → m' = m) ∧ (remE m.gr p.name = 0 → ∃ A B, ps = A ++ p :: B ∧ GG w0 X m' (A ++ B))) := by
  refine (remove_fc h.ok hX hat h.hasParts (by omega)).mono ?_
  rintro v S' ⟨m', h1, h2, h3, h4, h5, h6, h7⟩
  refine ⟨m', h1, h2, h5, h6, h7, fun he => ?_⟩
  obtain ⟨A, B, rfl⟩ := List.append_of_mem hp
  obtain ⟨i, s⟩ := remT_inv h.inv h.sq he
  refine ⟨A, B, rfl, h3, ?_, s, ?_, by omega⟩
  · have e : m'.gr = remT m.gr p.name := h4
    rw [e]; exact i
  · have hn := h.n
    rw [allV_app, allV_cons] at hn
    rw [allV_app]
    simp only [List.length_append, List.length_cons] at hn ⊢
    omega
/-- the codes of a part that is left -/
theorem left_code {w0 : World} {X : SS} {m : GrM} {ds lf L : List PartP} (h : GG w0 X m ds.reverse) (hL : Sq L.reverse) (hp : (ds ++ lf).Perm L) {p : PartP} (hpl : p ∈ lf) : addE m.gr p = 0 ∨ addE m.gr p = 4 ∨ addE m.gr p = 10 := by
  have hap : (ds ++ lf).Pairwise Apart := apart_perm (apart_perm hL.apart L.reverse_perm) hp.symm
  have hap2 := (List.pairwise_append.1 hap).2.2
  refine addE_codes h.inv (fun q hq => (hap2 q (List.mem_reverse.1 hq) p hpl).1) (fun v hv hm => ?_) (hL.formed p (List.mem_reverse.2 (hp.mem_iff.1 (List.mem_append_right _ hpl))))
  obtain ⟨q, hq, hvq⟩ := mem_allV.1 hm
  exact (hap2 q (List.mem_reverse.1 hq) p hpl).2 v hvq hv
end Go.Proofs.Gr

set_option linter.unusedVariables false
set_option linter.unusedSimpArgs false
namespace Go.Proofs.Gr
open Go.SL Go.RowKit Go.Proofs Go.GP
set_option maxHeartbeats 1000000
theorem slv_len {E sz m m' : Nat} {v : Value} {xs : List Value} {seg : Seg} (h : SlV E sz v m xs seg) (e : m = m') : SlV E sz v m' xs seg := e ▸ h
theorem gs_a {a : GrM} {s : Seg} {S : SS} : Sub (GS a ++ (s :: S)) (s :: (GS a ++ S)) := Sub.sel [1, 2, 3, 4, 0] 5 (by decide) (s :: (GS a ++ S))
theorem gs_b {a b : GrM} {s t : Seg} {S : SS} : Sub (GS b ++ (s :: (GS a ++ (t :: S)))) (s :: (GS a ++ (t :: (GS b ++ S)))) := Sub.sel [6, 7, 8, 9, 0, 1, 2, 3, 4, 5] 10 (by decide) (s :: (GS a ++ (t :: (GS b ++ S))))
theorem gs_c {a b : GrM} {s t : Seg} {S : SS} : Sub (GS a ++ (GS b ++ (s :: t :: S))) (GS b ++ (s :: (GS a ++ (t :: S)))) := Sub.sel [5, 6, 7, 8, 0, 1, 2, 3, 4, 9] 10 (by decide) (GS b ++ (s :: (GS a ++ (t :: S))))
theorem gs_d {a b : GrM} {s t : Seg} {S : SS} : Sub (t :: (GS a ++ S)) (GS a ++ (GS b ++ (s :: t :: S))) := Sub.sel [9, 0, 1, 2, 3] 10 (by decide) (GS a ++ (GS b ++ (s :: t :: S)))
theorem gs_e {a : GrM} {s t : Seg} {S : SS} : Sub (s :: (GS a ++ S)) (s :: (GS a ++ (t :: S))) := Sub.sel [0, 1, 2, 3, 4] 6 (by decide) (s :: (GS a ++ (t :: S)))
theorem gs_f {a : GrM} {s : Seg} {S : SS} : Sub (s :: (GS a ++ S)) (GS a ++ (s :: S)) := Sub.sel [4, 0, 1, 2, 3] 5 (by decide) (GS a ++ (s :: S))
theorem rd_mem {w0 : World} {S : SS} {s : Seg} {A : Option Addr} {l : List Value} (h : Rd w0 (s :: []) A l) (hm : s ∈ S) : Rd w0 S A l := h.mono fun p hp => List.mem_flatten.2 ⟨s, hm, by simpa using hp⟩
theorem i64_id {x : Int} (h1 : -9223372036854775808 ≤ x) (h2 : x ≤ 9223372036854775807) : IntKind.i64.wrap x = x := IntWalk.i64_in _ ⟨h1, h2⟩
theorem cut_slv {l : List PartM} {i : Nat} {v : Value} {seg : Seg} (hi : i < l.length) (h : SlV 36 102 v (i + (l.drop (i + 1)).length) (partS (l.take i ++ l.drop (i + 1))) seg) : SlV 36 102 v (l.take i ++ l.drop (i + 1)).length (partS (l.take i ++ l.drop (i + 1))) seg :=
  slv_len h (by rw [List.length_append, List.length_take, Nat.min_eq_left (by omega)])
theorem cut_perm2 {d l L : List PartM} {i : Nat} (hi : i < l.length) (h : (d ++ l).Perm L) : (d ++ [l[i]] ++ (l.take i ++ l.drop (i + 1))).Perm L := by
  rw [List.append_assoc]
  exact ((cut_perm hi).append_left d).trans h
theorem cut_pls {l : List PartM} {A B : List PartP} {i : Nat} (hi : i < l.length) (h : (A ++ l[i].pl :: B).Perm (pls l)) : (A ++ B).Perm (pls (l.take i ++ l.drop (i + 1))) := by
  have h1 : (l[i].pl :: pls (l.take i ++ l.drop (i + 1))).Perm (pls l) := (cut_perm hi).map PartM.pl
  exact (List.perm_cons _).1 ((List.perm_middle.symm.trans h).trans h1.symm)
theorem graphSet_fc {w0 : World} {A C : Option Addr} {c cch : Nat} {l : List ActM} {ch : List Int} (ha : Acts w0 A l) (hcr : Rd w0 [] C (ch.map (.int .u16))) (hcw : ∀ x ∈ ch, (Lit.int .u16 x).wf = true) (hcl : ch.length ≤ 1000000000000000) :
    FC Try.prog w0 4 [.slice A l.length c, .slice C ch.length cch] [] (fun v _ => v = .bool true) := by
  refine FC.ofD Try.known4 (by simp) ?_
  unfold Try.pc4
  simp only [argT]
  refine PW.seqOps ?_
  refine OL.det trivial (Yields.pure rfl) ?_
  refine OL.nil ?_
  refine PW.keep (T' := [(0, _), (1, _)]) ⟨rfl, rfl, trivial⟩ ?_
  refine PW.seq fun K1 hK1 => ?_
  refine PW.seqOps ?_
  refine OL.det trivial (Yields.pure rfl) ?_
  refine OL.call trivial rfl (large_fc ha) ?_
  rintro _ _ ⟨b, rfl, rfl, hb⟩
  refine OL.bool trivial (Yields.pure rfl) (fun g20 => ?_) (fun g20 => ?_)
  · try simp only [decide_eq_true_eq, decide_eq_false_iff_not, beq_iff_eq, bne_iff_ne, beq_eq_false_iff_ne, bne_eq_false_iff_eq, Bool.not_eq_true', Bool.not_eq_false', Bool.not_eq_true, ne_eq, Decidable.not_not, Bool.false_eq_true, if_false, if_true] at g20
    refine OL.off rfl rfl ?_
    refine OL.off rfl rfl ?_
    refine OL.off rfl rfl ?_
    refine OL.det trivial (Yields.pure rfl) ?_
    refine OL.nil ?_
    refine PW.keep (T' := [(0, _), (1, _), (24, _)]) ⟨rfl, rfl, rfl, trivial⟩ ?_
    refine PW.ite (b := true) rfl ?_
    rw [if_pos rfl]
    refine PW.seqOps ?_
    refine OL.call trivial rfl (awake_fc) ?_
    rintro _ Sx ⟨rfl, hSx⟩
    rw [hSx]
    clear hSx
    refine OL.det trivial (Yields.pure rfl) ?_
    refine OL.nil ?_
    refine PW.keep (T' := [(4, _)]) ⟨rfl, trivial⟩ ?_
    refine PW.ret ?_
    change (Exit.ret = Exit.normal ∨ Exit.ret = Exit.ret) ∧ ∃ v, resV _ _ = some v ∧ _
    exact ⟨.inr rfl, _, rfl, _, Sub.refl _, rfl⟩
  · try simp only [decide_eq_true_eq, decide_eq_false_iff_not, beq_iff_eq, bne_iff_ne, beq_eq_false_iff_ne, bne_eq_false_iff_eq, Bool.not_eq_true', Bool.not_eq_false', Bool.not_eq_true, ne_eq, Decidable.not_not, Bool.false_eq_true, if_false, if_true] at g20
    refine OL.det rfl (Yields.pure rfl) ?_
    refine OL.det rfl (Yields.pure rfl) ?_
    refine OL.det rfl (Yields.pure rfl) ?_
    refine OL.det trivial (Yields.pure rfl) ?_
    refine OL.nil ?_
    refine PW.keep (T' := [(0, _), (1, _), (24, _)]) ⟨rfl, rfl, rfl, trivial⟩ ?_
    refine PW.cond rfl (fun c24 => ?_) (fun c24 => ?_)
    · try simp only [decide_eq_true_eq, decide_eq_false_iff_not, beq_iff_eq, bne_iff_ne, beq_eq_false_iff_ne, bne_eq_false_iff_eq, Bool.not_eq_true', Bool.not_eq_false', Bool.not_eq_true, ne_eq, Decidable.not_not, Bool.false_eq_true, if_false, if_true] at c24
      refine PW.seqOps ?_
      refine OL.call trivial rfl (awake_fc) ?_
      rintro _ Sx ⟨rfl, hSx⟩
      rw [hSx]
      clear hSx
      refine OL.det trivial (Yields.pure rfl) ?_
      refine OL.nil ?_
      refine PW.keep (T' := [(4, _)]) ⟨rfl, trivial⟩ ?_
      refine PW.ret ?_
      change (Exit.ret = Exit.normal ∨ Exit.ret = Exit.ret) ∧ ∃ v, resV _ _ = some v ∧ _
      exact ⟨.inr rfl, _, rfl, _, Sub.refl _, rfl⟩
    · try simp only [decide_eq_true_eq, decide_eq_false_iff_not, beq_iff_eq, bne_iff_ne, beq_eq_false_iff_ne, bne_eq_false_iff_eq, Bool.not_eq_true', Bool.not_eq_false', Bool.not_eq_true, ne_eq, Decidable.not_not, Bool.false_eq_true, if_false, if_true] at c24
      have hsm := hb g20
      have hsl0 := hsm.len
      refine PW.skip ?_
      refine hK1 _ _ ?_
      refine PW.keep (T' := [(0, _), (1, _)]) ⟨rfl, rfl, trivial⟩ ?_
      refine PW.seqOps ?_
      refine OL.call trivial rfl (new_fc (X := [])) ?_
      rintro _ _ ⟨m0, rfl, rfl, hm0, hg0, hl0⟩
      refine OL.subS (S' := [] :: (GS m0 ++ [])) (Sub.nilL (Sub.refl _)) ?_
      refine OL.det trivial (Yields.pure rfl) ?_
      refine OL.nil ?_
      refine PW.keep (T' := [(0, _), (1, _), (5, _)]) ⟨rfl, rfl, rfl, trivial⟩ ?_
      refine PW.seqOps ?_
      refine OL.det trivial (Yields.pure rfl) ?_
      refine OL.nil ?_
      refine PW.keep (T' := [(0, _), (1, _), (5, _), (6, _)]) ⟨rfl, rfl, rfl, rfl, trivial⟩ ?_
      refine PW.seq fun K2 hK2 => ?_
      refine PW.seqOps ?_
      refine OL.det trivial (Yields.pure rfl) ?_
      refine OL.nil ?_
      refine PW.keep (T' := [(0, _), (1, _), (5, _), (6, _), (7, _)]) ⟨rfl, rfl, rfl, rfl, rfl, trivial⟩ ?_
      refine PW.block ?_
      refine PW.keep (T' := [(0, _), (1, _), (5, _), (6, _), (7, _)]) ⟨rfl, rfl, rfl, rfl, rfl, trivial⟩ ?_
      refine PW.loopK (I := fun mm T S' => ∃ (k : Nat) (m : GrM) (cms : List PartM) (vc : Value) (segc : Seg), (k ≤ l.length ∧ mm = l.length - k ∧ GG w0 [] m (pls cms).reverse ∧ cms.length ≤ k ∧ (∀ p ∈ cms, PartB w0 p) ∧ m.lim ≤ 39 * k ∧ m.r = m0.r ∧ SlV 36 102 vc cms.length (partS cms) segc) ∧ T = ([(0, .slice A l.length c), (1, .slice C ch.length cch), (5, m0.ptr), (6, vc), (7, .int .i64 k)] : TT) ∧ S' = segc :: (GS m ++ [])) (m := l.length) ⟨0, m0, [], _, [], ⟨by omega, by omega, ⟨hm0, by rw [hg0]; exact GP.Inv.nil, Sq.nil, by simp [allV, pls], by omega⟩, Nat.le_refl 0, (fun p hp => by cases hp), by omega, rfl, SlV.nil 36 102⟩, rfl, rfl⟩ ?_
      rintro mm _ _ ⟨k, m, cms, vc, segc, ⟨hk, hmm, hg, hcl2, hpB, hlim, hr, hsc⟩, rfl, rfl⟩
      refine PW.seq fun K3 hK3 => ?_
      refine PW.seqOps ?_
      refine OL.det trivial (Yields.pure rfl) ?_
      refine OL.det trivial (Yields.pure rfl) ?_
      refine OL.det trivial (Yields.pure rfl) ?_
      refine OL.det trivial (Yields.pure rfl) ?_
      refine OL.nil ?_
      refine PW.keep (T' := [(0, _), (1, _), (5, _), (6, _), (7, _), (30, _)]) ⟨rfl, rfl, rfl, rfl, rfl, rfl, trivial⟩ ?_
      refine PW.cond rfl (fun c30 => ?_) (fun c30 => ?_)
      · try simp only [decide_eq_true_eq, decide_eq_false_iff_not, beq_iff_eq, bne_iff_ne, beq_eq_false_iff_ne, bne_eq_false_iff_eq, Bool.not_eq_true', Bool.not_eq_false', Bool.not_eq_true, ne_eq, Decidable.not_not, Bool.false_eq_true, if_false, if_true] at c30
        have hkl : k < l.length := by omega
        obtain ⟨a0, ha0⟩ := actS_some ha.rd (by omega)
        have hrd := ha.rd
        rw [ha0] at hrd
        have hpb := ha.partB hsm hkl
        have hps := hpb.small
        have hbp := bParts hpB
        refine PW.skip ?_
        refine hK3 _ _ ?_
        refine PW.keep (T' := [(0, _), (1, _), (5, _), (6, _), (7, _)]) ⟨rfl, rfl, rfl, rfl, rfl, trivial⟩ ?_
        refine PW.seq fun K4 hK4 => ?_
        refine PW.block ?_
        refine PW.seqOps ?_
        refine OL.det trivial (Yields.pure rfl) ?_
        refine OL.det trivial (Yields.pure rfl) ?_
        refine OL.det trivial (Yields.pure rfl) ?_
        rw [ha0]
        refine OL.det trivial (Yields.ixN rfl rfl rfl (by omega)) ?_
        refine OL.det trivial (Yields.pure rfl) ?_
        refine OL.det trivial (Yields.ldA rfl (partC_len _) (act_part hrd.any hkl)) ?_
        refine OL.call trivial rfl (by rw [← ptr_eq hr]; exact FC.subS (Sub.sel [1, 2, 3, 4, 0] 5 (by decide) (segc :: (GS m ++ []))) (add2_fc (S := [segc]) hg over_nil hpb.rng hpb.rdL.any hpb.rdG.any (by omega) (by unfold addL; omega))) ?_
        rintro _ _ ⟨m2, rfl, rfl, hg2, hl2, hr2, hj2⟩
        unfold addL at hl2
        refine OL.det trivial (Yields.pure rfl) ?_
        refine OL.nil ?_
        refine PW.keep (T' := [(0, _), (1, _), (5, _), (6, _), (7, _), (40, _)]) ⟨rfl, rfl, rfl, rfl, rfl, rfl, trivial⟩ ?_
        refine PW.cond rfl (fun c40 => ?_) (fun c40 => ?_)
        · skip
          have hz : addE m.gr l[k].p.pl = 0 := by simpa using c40
          have hnew := (addE_zero hg.inv hg.sq).1 hz
          rw [came_new hnew, ← pls_snoc] at hg2
          refine PW.ops ?_
          refine OL.det trivial (Yields.pure rfl) ?_
          refine OL.det trivial (Yields.pure rfl) ?_
          refine OL.det trivial (Yields.pure rfl) ?_
          refine OL.det trivial (Yields.ixN rfl rfl rfl (by omega)) ?_
          refine OL.det trivial (Yields.pure rfl) ?_
          refine OL.det trivial (Yields.ldA rfl (partC_len _) (act_part hrd.any hkl)) ?_
          apply OL.app1 (k := 4)
          · rfl
          · rfl
          · exact (List.size_toArray).trans (partC_len _)
          · rfl
          · rfl
          · rfl
          · exact hsc
          · exact partC_one _
          · omega
          · unfold maxLen; omega
          intro v48 segd hsd
          change OL _ _ _ _ _ (GS m2 ++ (segd :: [])) _
          have hsd2 : SlV 36 102 v48 (cms ++ [l[k].p]).length (partS (cms ++ [l[k].p])) segd := by
            rw [partS_app, List.length_append]
            have e : partS [l[k].p] = partC l[k].p := by simp [partS]
            rw [e]
            exact hsd
          refine OL.det trivial (Yields.pure rfl) ?_
          refine OL.nil ?_
          refine hK4 _ _ ?_
          refine PW.keep (T' := [(0, _), (1, _), (5, _), (6, _), (7, _)]) ⟨rfl, rfl, rfl, rfl, rfl, trivial⟩ ?_
          refine PW.ops ?_
          refine OL.det trivial (Yields.pure rfl) ?_
          refine OL.det trivial (Yields.add64 rfl rfl (by omega) (by omega)) ?_
          refine OL.det trivial (Yields.pure rfl) ?_
          refine OL.nil ?_
          repeat rw [inBlk_n]
          try rw [thenK_n]
          refine LoopEnd.mkS (Sub.sel [4, 0, 1, 2, 3] 5 (by decide) (GS m2 ++ (_ :: []))) (T'' := [(0, _), (1, _), (5, _), (6, _), (7, _)]) ⟨rfl, rfl, rfl, rfl, rfl, trivial⟩ ?_
          rw [ha0]
          exact ⟨l.length - (k + 1), by omega, k + 1, m2, cms ++ [l[k].p], v48, segd, ⟨by omega, rfl, hg2, (by rw [List.length_append]; exact Nat.succ_le_succ hcl2), (fun p hp => by
            rcases List.mem_append.1 hp with h | h
            · exact hpB p h
            · rw [List.mem_singleton] at h; subst h; exact hpb), by omega, hr2.trans hr, hsd2⟩, rfl, rfl⟩
        · skip
          have hz : addE m.gr l[k].p.pl ≠ 0 := by simpa using c40
          have hnew := fun h => hz ((addE_zero hg.inv hg.sq).2 h)
          rw [came_not hnew] at hg2
          refine PW.skip ?_
          refine hK4 _ _ ?_
          refine PW.keep (T' := [(0, _), (1, _), (5, _), (6, _), (7, _)]) ⟨rfl, rfl, rfl, rfl, rfl, trivial⟩ ?_
          refine PW.ops ?_
          refine OL.det trivial (Yields.pure rfl) ?_
          refine OL.det trivial (Yields.add64 rfl rfl (by omega) (by omega)) ?_
          refine OL.det trivial (Yields.pure rfl) ?_
          refine OL.nil ?_
          repeat rw [inBlk_n]
          try rw [thenK_n]
          refine LoopEnd.mkS (Sub.sel [4, 0, 1, 2, 3] 5 (by decide) (GS m2 ++ (_ :: []))) (T'' := [(0, _), (1, _), (5, _), (6, _), (7, _)]) ⟨rfl, rfl, rfl, rfl, rfl, trivial⟩ ?_
          rw [ha0]
          exact ⟨l.length - (k + 1), by omega, k + 1, m2, cms, vc, segc, ⟨by omega, rfl, hg2, by omega, hpB, by omega, hr2.trans hr, hsc⟩, rfl, rfl⟩
      · try simp only [decide_eq_true_eq, decide_eq_false_iff_not, beq_iff_eq, bne_iff_ne, beq_eq_false_iff_ne, bne_eq_false_iff_eq, Bool.not_eq_true', Bool.not_eq_false', Bool.not_eq_true, ne_eq, Decidable.not_not, Bool.false_eq_true, if_false, if_true] at c30
        refine PW.exit ?_
        refine hK2 _ _ ?_
        refine PW.keep (T' := [(1, _), (5, _), (6, _)]) ⟨rfl, rfl, rfl, trivial⟩ ?_
        refine PW.seqOps ?_
        refine OL.call trivial rfl (new_fc (X := [])) ?_
        rintro _ _ ⟨mh0, rfl, rfl, hmh0, hgh0, hlh0⟩
        refine OL.det trivial (Yields.pure rfl) ?_
        refine OL.nil ?_
        refine PW.keep (T' := [(1, _), (5, _), (6, _), (8, _)]) ⟨rfl, rfl, rfl, rfl, trivial⟩ ?_
        refine PW.seqOps ?_
        refine OL.cons trivial OW.bsl0 ?_
        rintro _ _ ⟨r50, rfl, rfl⟩
        refine OL.det trivial (Yields.pure rfl) ?_
        obtain ⟨Ac, cc, rfl, hnc, hcc, hrdc⟩ := slv_rdL (w0 := w0) hsc
        refine OL.cons trivial (appP (k := 0) (m := 0) (xs := []) (l := cms) rfl rfl (SlV.mk' (cap := 0) rfl (Nat.le_refl 0) (by decide)) rfl rfl ((Rd.appR (A := GS mh0) (hrdc (GS m ++ []))).cons) hnc (by omega)) ?_
        rintro v52 _ ⟨seg52, rfl, hsl52⟩
        rw [Nat.zero_add, List.nil_append] at hsl52
        change OL _ _ _ _ _ (seg52 :: (GS mh0 ++ (segc :: (GS m ++ [])))) _
        refine OL.det trivial (Yields.pure rfl) ?_
        refine OL.nil ?_
        refine PW.keep (T' := [(1, _), (5, _), (6, _), (8, _), (9, _)]) ⟨rfl, rfl, rfl, rfl, rfl, trivial⟩ ?_
        refine PW.seq fun K5 hK5 => ?_
        refine PW.seqOps ?_
        refine OL.det trivial (Yields.pure rfl) ?_
        refine OL.nil ?_
        refine PW.keep (T' := [(1, _), (5, _), (6, _), (8, _), (9, _), (10, _)]) ⟨rfl, rfl, rfl, rfl, rfl, rfl, trivial⟩ ?_
        refine PW.block ?_
        refine PW.keep (T' := [(1, _), (5, _), (6, _), (8, _), (9, _), (10, _)]) ⟨rfl, rfl, rfl, rfl, rfl, rfl, trivial⟩ ?_
        refine PW.loopK (I := fun mm T S' => ∃ (mh : GrM) (ds lf : List PartM) (vl : Value) (sl : Seg), (mm = lf.length ∧ (ds ++ lf).Perm cms ∧ ds.length + lf.length = cms.length ∧ GG w0 [] mh (pls ds).reverse ∧ mh.lim ≤ 1209 * ds.length ∧ mh.r = mh0.r ∧ SlV 36 102 vl lf.length (partS lf) sl) ∧ T = ([(1, .slice C ch.length cch), (5, m0.ptr), (6, .slice Ac cms.length cc), (8, mh0.ptr), (9, vl), (10, .int .i64 ds.length)] : TT) ∧ S' = sl :: (GS mh ++ (segc :: (GS m ++ [])))) (m := cms.length) ⟨mh0, [], cms, v52, seg52, ⟨rfl, List.Perm.refl _, Nat.zero_add _, ⟨hmh0, by rw [hgh0]; exact GP.Inv.nil, Sq.nil, by simp [allV, pls], by omega⟩, by omega, rfl, hsl52⟩, rfl, rfl⟩ ?_
        rintro mm _ _ ⟨mh, ds, lf, vl, sl, ⟨hmm1, hpm1, hdl1, hgh, hlh, hrh, hsl1⟩, rfl, rfl⟩
        obtain ⟨A1, c1, rfl, hn1, hc1, hrd1⟩ := slv_rdL (w0 := w0) hsl1
        refine PW.seq fun K6 hK6 => ?_
        refine PW.seqOps ?_
        refine OL.det trivial (Yields.pure rfl) ?_
        refine OL.det trivial (Yields.pure rfl) ?_
        refine OL.det trivial (Yields.pure rfl) ?_
        refine OL.nil ?_
        refine PW.keep (T' := [(1, _), (5, _), (6, _), (8, _), (9, _), (10, _), (55, _)]) ⟨rfl, rfl, rfl, rfl, rfl, rfl, rfl, trivial⟩ ?_
        refine PW.cond rfl (fun c55 => ?_) (fun c55 => ?_)
        · try simp only [decide_eq_true_eq, decide_eq_false_iff_not, beq_iff_eq, bne_iff_ne, beq_eq_false_iff_ne, bne_eq_false_iff_eq, Bool.not_eq_true', Bool.not_eq_false', Bool.not_eq_true, ne_eq, Decidable.not_not, Bool.false_eq_true, if_false, if_true] at c55
          refine PW.skip ?_
          refine hK6 _ _ ?_
          refine PW.keep (T' := [(1, _), (5, _), (6, _), (8, _), (9, _), (10, _)]) ⟨rfl, rfl, rfl, rfl, rfl, rfl, trivial⟩ ?_
          refine PW.seq fun K7 hK7 => ?_
          refine PW.block ?_
          refine PW.seqOps ?_
          refine OL.det trivial (Yields.pure rfl) ?_
          refine OL.nil ?_
          refine PW.keep (T' := [(1, _), (5, _), (6, _), (8, _), (9, _), (10, _), (11, _)]) ⟨rfl, rfl, rfl, rfl, rfl, rfl, rfl, trivial⟩ ?_
          refine PW.seq fun K8 hK8 => ?_
          refine PW.seqOps ?_
          refine OL.det trivial (Yields.pure rfl) ?_
          refine OL.det trivial (Yields.pure rfl) ?_
          refine OL.det trivial (Yields.pure rfl) ?_
          refine OL.nil ?_
          refine PW.keep (T' := [(1, _), (5, _), (6, _), (8, _), (9, _), (10, _), (11, _), (60, _)]) ⟨rfl, rfl, rfl, rfl, rfl, rfl, rfl, rfl, trivial⟩ ?_
          refine PW.cond rfl (fun c60 => ?_) (fun c60 => ?_)
          · try simp only [decide_eq_true_eq, decide_eq_false_iff_not, beq_iff_eq, bne_iff_ne, beq_eq_false_iff_ne, bne_eq_false_iff_eq, Bool.not_eq_true', Bool.not_eq_false', Bool.not_eq_true, ne_eq, Decidable.not_not, Bool.false_eq_true, if_false, if_true] at c60
            refine PW.ops ?_
            refine OL.det trivial (Yields.pure rfl) ?_
            refine OL.det trivial (Yields.pure rfl) ?_
            refine OL.det trivial (Yields.pure rfl) ?_
            refine OL.det trivial (Yields.pure rfl) ?_
            refine OL.det trivial (Yields.to (v' := .int .i64 ((ds.length % ch.length : Nat) : Int)) (Yields.rem rfl rfl (by omega)) (congrArg (Value.int .i64) (tmod_nat rfl))) ?_
            obtain ⟨ac, hac⟩ := hcr.some (by intro e; simp at e; subst e; simp at c60)
            have hqc : ds.length % ch.length < ch.length := Nat.mod_lt _ (by omega)
            obtain ⟨q, hq⟩ : ∃ q, q = ds.length % ch.length := ⟨_, rfl⟩
            rw [← hq] at hqc ⊢
            rw [hac]
            have hcr2 := hcr
            rw [hac] at hcr2
            refine OL.det trivial (Yields.ixN1 rfl rfl rfl hqc) ?_
            refine OL.det trivial (Yields.ld rfl ((hcr2.any (S := _)).at (j := q) (by rw [List.getElem?_map, List.getElem?_eq_getElem hqc]; rfl))) ?_
            have hcz := hcw _ (List.getElem_mem hqc)
            simp only [Lit.wf, Bool.and_eq_true, decide_eq_true_eq] at hcz
            have hcz0 : (0 : Int) ≤ ch[q] := hcz.1
            have hcz1 : ch[q] ≤ 65535 := hcz.2
            obtain ⟨x, hx⟩ : ∃ x : Nat, (x : Int) = ch[q] := ⟨ch[q].toNat, by omega⟩
            rw [← hx]
            refine OL.det trivial (Yields.to (v' := .int .i64 (x : Int)) (Yields.pure rfl) (congrArg (Value.int .i64) (i64_id (by omega) (by omega)))) ?_
            refine OL.det trivial (Yields.pure rfl) ?_
            refine OL.det trivial (Yields.pure rfl) ?_
            refine OL.det trivial (Yields.to (v' := .int .i64 ((x % lf.length : Nat) : Int)) (Yields.rem rfl rfl (by omega)) (congrArg (Value.int .i64) (tmod_nat rfl))) ?_
            obtain ⟨a, ha2⟩ : ∃ a, a = x % lf.length := ⟨_, rfl⟩
            rw [← ha2, ← hac]
            have hab : a ≤ 65535 := by have := Nat.mod_le x lf.length; omega
            refine OL.det trivial (Yields.pure rfl) ?_
            refine OL.nil ?_
            refine hK8 _ _ ?_
            refine PW.keep (T' := [(1, _), (5, _), (6, _), (8, _), (9, _), (10, _), (11, _)]) ⟨rfl, rfl, rfl, rfl, rfl, rfl, rfl, trivial⟩ ?_
            refine PW.seqOps ?_
            refine OL.det trivial (Yields.pure rfl) ?_
            refine OL.nil ?_
            refine PW.keep (T' := [(1, _), (5, _), (6, _), (8, _), (9, _), (10, _), (11, _), (12, _)]) ⟨rfl, rfl, rfl, rfl, rfl, rfl, rfl, rfl, trivial⟩ ?_
            refine PW.seq fun K9 hK9 => ?_
            refine PW.seqOps ?_
            refine OL.det trivial (Yields.pure rfl) ?_
            refine OL.nil ?_
            refine PW.keep (T' := [(1, _), (5, _), (6, _), (8, _), (9, _), (10, _), (11, _), (12, _), (13, _)]) ⟨rfl, rfl, rfl, rfl, rfl, rfl, rfl, rfl, rfl, trivial⟩ ?_
            refine PW.block ?_
            refine PW.keep (T' := [(1, _), (5, _), (6, _), (8, _), (9, _), (10, _), (11, _), (12, _), (13, _)]) ⟨rfl, rfl, rfl, rfl, rfl, rfl, rfl, rfl, rfl, trivial⟩ ?_
            refine PW.loopK (I := fun mn T S' => ∃ (n : Nat) (dn : Bool) (m2 : GrM) (d2 f2 : List PartM) (v2 : Value) (s2 : Seg), (n ≤ lf.length ∧ mn = lf.length - n ∧ (d2 ++ f2).Perm cms ∧ GG w0 [] m2 (pls d2).reverse ∧ m2.lim ≤ 1209 * ds.length + 39 * n ∧ m2.r = mh0.r ∧ SlV 36 102 v2 f2.length (partS f2) s2 ∧ (dn = false → d2 = ds ∧ f2 = lf ∧ ∀ j, j < n → ¬ New (pls ds).reverse (lf[(a + j) % lf.length]!).pl) ∧ (dn = true → d2.length = ds.length + 1 ∧ f2.length + 1 = lf.length)) ∧ T = ([(1, .slice C ch.length cch), (5, m0.ptr), (6, .slice Ac cms.length cc), (8, mh0.ptr), (9, v2), (10, .int .i64 ds.length), (11, .int .i64 a), (12, .bool dn), (13, .int .i64 n)] : TT) ∧ S' = s2 :: (GS m2 ++ (segc :: (GS m ++ [])))) (m := lf.length) ⟨0, false, mh, ds, lf, _, sl, ⟨by omega, by omega, hpm1, hgh, by omega, hrh, hsl1, (fun _ => ⟨rfl, rfl, fun j hj => absurd hj (Nat.not_lt_zero j)⟩), (fun h => by cases h)⟩, rfl, rfl⟩ ?_
            rintro mn _ _ ⟨n, dn, m2, d2, f2, v2, s2, ⟨hn, hmn, hpm, hg2, hl2, hr2, hsl2, hdF, hdT⟩, rfl, rfl⟩
            obtain ⟨A2, c2, rfl, hnA, hcA, hrdA0⟩ := slv_rdL (w0 := w0) hsl2
            have hrdA : ∀ {S}, s2 ∈ S → Rd w0 S A2 (partS f2) := fun h => rd_mem (hrdA0 []) h
            refine PW.seq fun K10 hK10 => ?_
            refine PW.seqOps ?_
            refine OL.det trivial (Yields.pure rfl) ?_
            refine OL.det trivial (Yields.pure rfl) ?_
            refine OL.det trivial (Yields.pure rfl) ?_
            refine OL.det trivial (Yields.pure rfl) ?_
            refine OL.bool trivial (Yields.pure rfl) (fun g76 => ?_) (fun g76 => ?_)
            · try simp only [decide_eq_true_eq, decide_eq_false_iff_not, beq_iff_eq, bne_iff_ne, beq_eq_false_iff_ne, bne_eq_false_iff_eq, Bool.not_eq_true', Bool.not_eq_false', Bool.not_eq_true, ne_eq, Decidable.not_not, Bool.false_eq_true, if_false, if_true] at g76
              refine OL.det rfl (Yields.pure rfl) ?_
              refine OL.det rfl (Yields.pure rfl) ?_
              refine OL.det trivial (Yields.pure rfl) ?_
              refine OL.nil ?_
              refine PW.keep (T' := [(1, _), (5, _), (6, _), (8, _), (9, _), (10, _), (11, _), (12, _), (13, _), (79, _)]) ⟨rfl, rfl, rfl, rfl, rfl, rfl, rfl, rfl, rfl, rfl, trivial⟩ ?_
              refine PW.cond rfl (fun c79 => ?_) (fun c79 => ?_)
              · try simp only [decide_eq_true_eq, decide_eq_false_iff_not, beq_iff_eq, bne_iff_ne, beq_eq_false_iff_ne, bne_eq_false_iff_eq, Bool.not_eq_true', Bool.not_eq_false', Bool.not_eq_true, ne_eq, Decidable.not_not, Bool.false_eq_true, if_false, if_true] at c79
                have hdn : dn = false := by simpa using c79
                obtain ⟨e1, e2, htry⟩ := hdF hdn
                have hlen2 : f2.length = lf.length := by rw [e2]
                have hd2B : ∀ p ∈ d2, PartB w0 p := fun p hp => hpB p (hpm.mem_iff.1 (List.mem_append_left _ hp))
                refine PW.skip ?_
                refine hK10 _ _ ?_
                refine PW.keep (T' := [(1, _), (5, _), (6, _), (8, _), (9, _), (10, _), (11, _), (12, _), (13, _)]) ⟨rfl, rfl, rfl, rfl, rfl, rfl, rfl, rfl, rfl, trivial⟩ ?_
                refine PW.seq fun K11 hK11 => ?_
                refine PW.block ?_
                refine PW.seqOps ?_
                refine OL.det trivial (Yields.pure rfl) ?_
                refine OL.det trivial (Yields.pure rfl) ?_
                refine OL.det trivial (Yields.add64 rfl rfl (by omega) (by omega)) ?_
                refine OL.det trivial (Yields.pure rfl) ?_
                refine OL.det trivial (Yields.pure rfl) ?_
                refine OL.det trivial (Yields.to (v' := .int .i64 (((a + n) % f2.length : Nat) : Int)) (Yields.rem rfl rfl (by omega)) (congrArg (Value.int .i64) (tmod_nat (by omega)))) ?_
                have hil : (a + n) % f2.length < f2.length := Nat.mod_lt _ (by omega)
                obtain ⟨i, hi⟩ : ∃ i, i = (a + n) % f2.length := ⟨_, rfl⟩
                rw [← hi] at hil ⊢
                obtain ⟨A2, rfl⟩ := partS_some (hrdA0 []) (by omega)
                have hpb := hpB f2[i] (hpm.mem_iff.1 (List.mem_append_right _ (List.getElem_mem hil)))
                refine OL.det trivial (Yields.pure rfl) ?_
                refine OL.nil ?_
                refine PW.keep (T' := [(1, _), (5, _), (6, _), (8, _), (9, _), (10, _), (11, _), (12, _), (13, _), (14, _)]) ⟨rfl, rfl, rfl, rfl, rfl, rfl, rfl, rfl, rfl, rfl, trivial⟩ ?_
                refine PW.seqOps ?_
                refine OL.det trivial (Yields.pure rfl) ?_
                refine OL.det trivial (Yields.pure rfl) ?_
                refine OL.det trivial (Yields.pure rfl) ?_
                refine OL.det trivial (Yields.ixN rfl rfl rfl hil) ?_
                refine OL.det trivial (Yields.ldA rfl (partC_len _) (partS_at (hrdA (by simp)) hil)) ?_
                refine OL.call trivial rfl (by rw [← ptr_eq hr2]; exact FC.subS gs_a (add2_fc (S := s2 :: (segc :: (GS m ++ []))) hg2 over_nil hpb.rng hpb.rdL.any hpb.rdG.any (by have := bParts hd2B; have := hpb.small; have := hpm.length_eq; rw [List.length_append] at this; omega) (by unfold addL; have := hpb.small; omega))) ?_
                rintro _ _ ⟨m3, rfl, rfl, hg3, hl3, hr3, hj3⟩
                unfold addL at hl3
                have hsm3 := hpb.small
                have hcode := left_code (ds := pls d2) (lf := pls f2) (L := pls cms) hg2 hg.sq (by rw [← pls_app]; exact hpm.map _) (p := f2[i].pl) (List.mem_map.2 ⟨_, List.getElem_mem hil, rfl⟩)
                refine OL.det trivial (Yields.pure rfl) ?_
                refine OL.nil ?_
                refine PW.keep (T' := [(1, _), (5, _), (6, _), (8, _), (9, _), (10, _), (11, _), (12, _), (13, _), (14, _), (15, _)]) ⟨rfl, rfl, rfl, rfl, rfl, rfl, rfl, rfl, rfl, rfl, rfl, trivial⟩ ?_
                refine PW.seqOps ?_
                refine OL.det trivial (Yields.pure rfl) ?_
                refine OL.det trivial (Yields.pure rfl) ?_
                refine OL.nil ?_
                refine PW.keep (T' := [(1, _), (5, _), (6, _), (8, _), (9, _), (10, _), (11, _), (12, _), (13, _), (14, _), (15, _), (95, _)]) ⟨rfl, rfl, rfl, rfl, rfl, rfl, rfl, rfl, rfl, rfl, rfl, rfl, trivial⟩ ?_
                refine PW.cond rfl (fun c95 => ?_) (fun c95 => ?_)
                · skip
                  have hz : addE m2.gr f2[i].pl = 0 := by simpa using c95
                  have hnew := (addE_zero hg2.inv hg2.sq).1 hz
                  rw [came_new hnew, ← pls_snoc] at hg3
                  have hpm3 := hpm.length_eq
                  rw [List.length_append] at hpm3
                  refine PW.seq fun K12 hK12 => ?_
                  obtain ⟨AX, cX, hcutX, hnX, hrdX⟩ := cutP (A := some A2) (cap := c2) (i := i + 1) (l := f2) (by omega) hnA hcA
                  refine PW.quietRNK (base := GS m3 ++ (s2 :: (segc :: (GS m ++ [])))) Try.mixed (Over.refl _) ?_
                  refine QN.hole ?_
                  refine QN.det trivial (fun Sx hSx => Yields.pure rfl) ?_
                  refine QN.det trivial (fun Sx hSx => Yields.pure rfl) ?_
                  refine QN.det trivial (fun Sx hSx => Yields.to (v' := .slice (some A2) i c2) (Yields.slS (l := 0) (h := i) rfl rfl rfl (.inr ⟨rfl, rfl⟩) (.inl rfl) (by omega) (by omega)) (cutV0 _ _ _ _)) ?_
                  refine QN.hole ?_
                  refine QN.det trivial (fun Sx hSx => Yields.pure rfl) ?_
                  refine QN.det trivial (fun Sx hSx => Yields.pure rfl) ?_
                  refine QN.det trivial (fun Sx hSx => Yields.add64 rfl rfl (by omega) (by omega)) ?_
                  refine QN.det trivial (fun Sx hSx => Yields.to (v' := .slice AX (f2.drop (i + 1)).length cX) (Yields.slS (l := i + 1) (h := f2.length) rfl rfl rfl (.inl rfl) (.inr ⟨rfl, rfl⟩) (by omega) (by omega)) hcutX) ?_
                  refine QN.nil ⟨rfl, rfl, ordB_of (hp := [0, 4]) rfl (by decide), ?_⟩
                  refine ⟨rfl, OW.mono (OW.bsl0) ?_⟩
                  rintro _ _ ⟨r96, rfl, rfl⟩
                  refine ⟨(Over.refl _).cons, ?_⟩
                  refine ⟨rfl, OW.mono (appP (k := 0) (m := 0) (xs := []) (l := f2.take i) rfl rfl (SlV.mk' (cap := 0) rfl (Nat.le_refl 0) (by decide)) rfl (by rw [List.length_take]; omega) (preP (hrdA (by simp))) hnA (by omega)) ?_⟩
                  rintro v100 _ ⟨seg100, rfl, hsl100⟩
                  rw [Nat.zero_add, List.nil_append] at hsl100
                  refine ⟨(Over.refl _).cons, ?_⟩
                  change OL _ _ _ [_, _] _ _ _
                  refine OL.cons trivial (appP (k := 0) (xs := f2.take i) (l := f2.drop (i + 1)) rfl rfl hsl100 rfl rfl (hrdX _ _ (hrdA (by simp))) hnX (by rw [List.length_drop]; omega)) ?_
                  rintro v105 _ ⟨seg105, rfl, hsl105⟩
                  refine OL.det trivial (Yields.pure rfl) ?_
                  refine OL.nil ?_
                  refine hK12 _ _ ?_
                  refine PW.keep (T' := [(1, _), (5, _), (6, _), (8, _), (9, _), (10, _), (11, _), (13, _)]) ⟨rfl, rfl, rfl, rfl, rfl, rfl, rfl, rfl, trivial⟩ ?_
                  refine PW.ops ?_
                  refine OL.det trivial (Yields.pure rfl) ?_
                  refine OL.nil ?_
                  refine hK11 _ _ ?_
                  refine PW.keep (T' := [(1, _), (5, _), (6, _), (8, _), (9, _), (10, _), (11, _), (12, _), (13, _)]) ⟨rfl, rfl, rfl, rfl, rfl, rfl, rfl, rfl, rfl, trivial⟩ ?_
                  refine PW.ops ?_
                  refine OL.det trivial (Yields.pure rfl) ?_
                  refine OL.det trivial (Yields.add64 rfl rfl (by omega) (by omega)) ?_
                  refine OL.det trivial (Yields.pure rfl) ?_
                  refine OL.nil ?_
                  repeat rw [inBlk_n]
                  try rw [thenK_n]
                  refine LoopEnd.mkS (by first | exact gs_e (s := seg105) (a := m3) (t := s2) (S := segc :: (GS m ++ [])) | exact gs_f (a := m3) (s := s2) (S := segc :: (GS m ++ []))) (T'' := [(1, _), (5, _), (6, _), (8, _), (9, _), (10, _), (11, _), (12, _), (13, _)]) ⟨rfl, rfl, rfl, rfl, rfl, rfl, rfl, rfl, rfl, trivial⟩ ?_
                  first
                    | exact ⟨lf.length - (n + 1), by omega, n + 1, true, m3, d2 ++ [f2[i]], f2.take i ++ f2.drop (i + 1), v105, seg105, ⟨by omega, rfl, cut_perm2 hil hpm, hg3, by omega, hr3.trans hr2, cut_slv hil hsl105, (fun h => by cases h), fun _ => ⟨by rw [List.length_append, e1]; rfl, by have := cut_len hil; omega⟩⟩, rfl, rfl⟩
                    | exact ⟨lf.length - (n + 1), by omega, n + 1, dn, m3, d2, f2, _, s2, ⟨by omega, rfl, hpm, hg3, by omega, hr3.trans hr2, hsl2, (fun _ => ⟨e1, e2, fun j hj => by
                        by_cases hjn : j < n
                        · exact htry j hjn
                        · have : j = n := by omega
                          subst this
                          rw [← e1, ← e2, ← hi, getElem!_pos f2 i hil]
                          exact hnew⟩), fun h => by rw [hdn] at h; cases h⟩, rfl, rfl⟩
                · skip
                  have hz : addE m2.gr f2[i].pl ≠ 0 := by simpa using c95
                  have hnew : ¬ New (pls d2).reverse f2[i].pl := fun h => hz ((addE_zero hg2.inv hg2.sq).2 h)
                  rw [came_not hnew] at hg3
                  refine PW.seqOps ?_
                  refine OL.det trivial (Yields.pure rfl) ?_
                  refine OL.det trivial (Yields.pure rfl) ?_
                  refine OL.bool trivial (Yields.pure rfl) (fun g108 => ?_) (fun g108 => ?_)
                  · try simp only [decide_eq_true_eq, decide_eq_false_iff_not, beq_iff_eq, bne_iff_ne, beq_eq_false_iff_ne, bne_eq_false_iff_eq, Bool.not_eq_true', Bool.not_eq_false', Bool.not_eq_true, ne_eq, Decidable.not_not, Bool.false_eq_true, if_false, if_true] at g108
                    refine OL.det rfl (Yields.pure rfl) ?_
                    refine OL.det rfl (Yields.pure rfl) ?_
                    refine OL.det trivial (Yields.pure rfl) ?_
                    refine OL.nil ?_
                    refine PW.keep (T' := [(1, _), (5, _), (6, _), (8, _), (9, _), (10, _), (11, _), (12, _), (13, _), (111, _)]) ⟨rfl, rfl, rfl, rfl, rfl, rfl, rfl, rfl, rfl, rfl, trivial⟩ ?_
                    refine PW.cond rfl (fun c111 => ?_) (fun c111 => ?_)
                    · skip
                      exfalso
                      simp at g108 c111
                      omega
                      -- done
                    · skip
                      refine PW.skip ?_
                      refine hK11 _ _ ?_
                      refine PW.keep (T' := [(1, _), (5, _), (6, _), (8, _), (9, _), (10, _), (11, _), (12, _), (13, _)]) ⟨rfl, rfl, rfl, rfl, rfl, rfl, rfl, rfl, rfl, trivial⟩ ?_
                      refine PW.ops ?_
                      refine OL.det trivial (Yields.pure rfl) ?_
                      refine OL.det trivial (Yields.add64 rfl rfl (by omega) (by omega)) ?_
                      refine OL.det trivial (Yields.pure rfl) ?_
                      refine OL.nil ?_
                      repeat rw [inBlk_n]
                      try rw [thenK_n]
                      refine LoopEnd.mkS (by first | exact gs_e (s := seg105) (a := m3) (t := s2) (S := segc :: (GS m ++ [])) | exact gs_f (a := m3) (s := s2) (S := segc :: (GS m ++ []))) (T'' := [(1, _), (5, _), (6, _), (8, _), (9, _), (10, _), (11, _), (12, _), (13, _)]) ⟨rfl, rfl, rfl, rfl, rfl, rfl, rfl, rfl, rfl, trivial⟩ ?_
                      first
                        | exact ⟨lf.length - (n + 1), by omega, n + 1, true, m3, d2 ++ [f2[i]], f2.take i ++ f2.drop (i + 1), v105, seg105, ⟨by omega, rfl, cut_perm2 hil hpm, hg3, by omega, hr3.trans hr2, cut_slv hil hsl105, (fun h => by cases h), fun _ => ⟨by rw [List.length_append, e1]; rfl, by have := cut_len hil; omega⟩⟩, rfl, rfl⟩
                        | exact ⟨lf.length - (n + 1), by omega, n + 1, dn, m3, d2, f2, _, s2, ⟨by omega, rfl, hpm, hg3, by omega, hr3.trans hr2, hsl2, (fun _ => ⟨e1, e2, fun j hj => by
                            by_cases hjn : j < n
                            · exact htry j hjn
                            · have : j = n := by omega
                              subst this
                              rw [← e1, ← e2, ← hi, getElem!_pos f2 i hil]
                              exact hnew⟩), fun h => by rw [hdn] at h; cases h⟩, rfl, rfl⟩
                  · try simp only [decide_eq_true_eq, decide_eq_false_iff_not, beq_iff_eq, bne_iff_ne, beq_eq_false_iff_ne, bne_eq_false_iff_eq, Bool.not_eq_true', Bool.not_eq_false', Bool.not_eq_true, ne_eq, Decidable.not_not, Bool.false_eq_true, if_false, if_true] at g108
                    refine OL.off rfl rfl ?_
                    refine OL.off rfl rfl ?_
                    refine OL.det trivial (Yields.pure rfl) ?_
                    refine OL.nil ?_
                    refine PW.keep (T' := [(1, _), (5, _), (6, _), (8, _), (9, _), (10, _), (11, _), (12, _), (13, _), (111, _)]) ⟨rfl, rfl, rfl, rfl, rfl, rfl, rfl, rfl, rfl, rfl, trivial⟩ ?_
                    refine PW.ite (b := false) rfl ?_
                    rw [if_neg Bool.false_ne_true]
                    refine PW.skip ?_
                    refine hK11 _ _ ?_
                    refine PW.keep (T' := [(1, _), (5, _), (6, _), (8, _), (9, _), (10, _), (11, _), (12, _), (13, _)]) ⟨rfl, rfl, rfl, rfl, rfl, rfl, rfl, rfl, rfl, trivial⟩ ?_
                    refine PW.ops ?_
                    refine OL.det trivial (Yields.pure rfl) ?_
                    refine OL.det trivial (Yields.add64 rfl rfl (by omega) (by omega)) ?_
                    refine OL.det trivial (Yields.pure rfl) ?_
                    refine OL.nil ?_
                    repeat rw [inBlk_n]
                    try rw [thenK_n]
                    refine LoopEnd.mkS (by first | exact gs_e (s := seg105) (a := m3) (t := s2) (S := segc :: (GS m ++ [])) | exact gs_f (a := m3) (s := s2) (S := segc :: (GS m ++ []))) (T'' := [(1, _), (5, _), (6, _), (8, _), (9, _), (10, _), (11, _), (12, _), (13, _)]) ⟨rfl, rfl, rfl, rfl, rfl, rfl, rfl, rfl, rfl, trivial⟩ ?_
                    first
                      | exact ⟨lf.length - (n + 1), by omega, n + 1, true, m3, d2 ++ [f2[i]], f2.take i ++ f2.drop (i + 1), v105, seg105, ⟨by omega, rfl, cut_perm2 hil hpm, hg3, by omega, hr3.trans hr2, cut_slv hil hsl105, (fun h => by cases h), fun _ => ⟨by rw [List.length_append, e1]; rfl, by have := cut_len hil; omega⟩⟩, rfl, rfl⟩
                      | exact ⟨lf.length - (n + 1), by omega, n + 1, dn, m3, d2, f2, _, s2, ⟨by omega, rfl, hpm, hg3, by omega, hr3.trans hr2, hsl2, (fun _ => ⟨e1, e2, fun j hj => by
                          by_cases hjn : j < n
                          · exact htry j hjn
                          · have : j = n := by omega
                            subst this
                            rw [← e1, ← e2, ← hi, getElem!_pos f2 i hil]
                            exact hnew⟩), fun h => by rw [hdn] at h; cases h⟩, rfl, rfl⟩
              · try simp only [decide_eq_true_eq, decide_eq_false_iff_not, beq_iff_eq, bne_iff_ne, beq_eq_false_iff_ne, bne_eq_false_iff_eq, Bool.not_eq_true', Bool.not_eq_false', Bool.not_eq_true, ne_eq, Decidable.not_not, Bool.false_eq_true, if_false, if_true] at c79
                refine PW.exit ?_
                refine hK9 _ _ ?_
                refine PW.keep (T' := [(1, _), (5, _), (6, _), (8, _), (9, _), (10, _), (12, _)]) ⟨rfl, rfl, rfl, rfl, rfl, rfl, rfl, trivial⟩ ?_
                refine PW.seqOps ?_
                refine OL.det trivial (Yields.pure rfl) ?_
                refine OL.det trivial (Yields.pure rfl) ?_
                refine OL.nil ?_
                refine PW.keep (T' := [(1, _), (5, _), (6, _), (8, _), (9, _), (10, _), (113, _)]) ⟨rfl, rfl, rfl, rfl, rfl, rfl, rfl, trivial⟩ ?_
                refine PW.cond rfl (fun c113 => ?_) (fun c113 => ?_)
                · try simp only [decide_eq_true_eq, decide_eq_false_iff_not, beq_iff_eq, bne_iff_ne, beq_eq_false_iff_ne, bne_eq_false_iff_eq, Bool.not_eq_true', Bool.not_eq_false', Bool.not_eq_true, ne_eq, Decidable.not_not, Bool.false_eq_true, if_false, if_true] at c113
                  exfalso
                  have hdn : dn = false := by simpa using c113
                  obtain ⟨e1, e2, htry⟩ := hdF hdn
                  have hlen2 : f2.length = lf.length := by rw [e2]
                  have hnn : n = lf.length := by
                    first
                      | (exfalso; simp [hdn] at c79; done)
                      | omega
                  obtain ⟨p, hpl, hpn⟩ := next_can (L := pls cms) (ds := pls ds) (lf := pls lf) hg.sq hgh.sq (by rw [← pls_app]; exact hpm1.map _) (by intro e; have := congrArg List.length e; unfold pls at this; rw [List.length_map] at this; simp at this; subst this; simp at c55)
                  obtain ⟨x, hx, rfl⟩ := List.mem_map.1 hpl
                  obtain ⟨q, hql, rfl⟩ := List.mem_iff_getElem.1 hx
                  obtain ⟨j, hj, hjq⟩ := cover (a := a) hql
                  refine htry j (by omega) ?_
                  rw [hjq, getElem!_pos lf q hql]
                  exact hpn
                  -- done
                · try simp only [decide_eq_true_eq, decide_eq_false_iff_not, beq_iff_eq, bne_iff_ne, beq_eq_false_iff_ne, bne_eq_false_iff_eq, Bool.not_eq_true', Bool.not_eq_false', Bool.not_eq_true, ne_eq, Decidable.not_not, Bool.false_eq_true, if_false, if_true] at c113
                  have hdn : dn = true := by simpa using c113
                  obtain ⟨e4, e5⟩ := hdT hdn
                  have hpl2 := hpm.length_eq
                  rw [List.length_append] at hpl2
                  refine PW.skip ?_
                  refine hK7 _ _ ?_
                  refine PW.keep (T' := [(1, _), (5, _), (6, _), (8, _), (9, _), (10, _)]) ⟨rfl, rfl, rfl, rfl, rfl, rfl, trivial⟩ ?_
                  refine PW.ops ?_
                  refine OL.det trivial (Yields.pure rfl) ?_
                  refine OL.det trivial (Yields.add64 rfl rfl (by omega) (by omega)) ?_
                  refine OL.det trivial (Yields.pure rfl) ?_
                  refine OL.nil ?_
                  repeat rw [inBlk_n]
                  try rw [thenK_n]
                  refine LoopEnd.mkS (Sub.refl _) (T'' := [(1, _), (5, _), (6, _), (8, _), (9, _), (10, _)]) ⟨rfl, rfl, rfl, rfl, rfl, rfl, trivial⟩ ?_
                  have h10 : ((d2.length : Nat) : Int) = (ds.length : Int) + 1 := by omega
                  rw [← h10]
                  exact ⟨f2.length, by omega, m2, d2, f2, _, s2, ⟨rfl, hpm, by omega, hg2, by omega, hr2, hsl2⟩, rfl, rfl⟩
            · try simp only [decide_eq_true_eq, decide_eq_false_iff_not, beq_iff_eq, bne_iff_ne, beq_eq_false_iff_ne, bne_eq_false_iff_eq, Bool.not_eq_true', Bool.not_eq_false', Bool.not_eq_true, ne_eq, Decidable.not_not, Bool.false_eq_true, if_false, if_true] at g76
              refine OL.off rfl rfl ?_
              refine OL.off rfl rfl ?_
              refine OL.det trivial (Yields.pure rfl) ?_
              refine OL.nil ?_
              refine PW.keep (T' := [(1, _), (5, _), (6, _), (8, _), (9, _), (10, _), (11, _), (12, _), (13, _), (79, _)]) ⟨rfl, rfl, rfl, rfl, rfl, rfl, rfl, rfl, rfl, rfl, trivial⟩ ?_
              refine PW.ite (b := false) rfl ?_
              rw [if_neg Bool.false_ne_true]
              refine PW.exit ?_
              refine hK9 _ _ ?_
              refine PW.keep (T' := [(1, _), (5, _), (6, _), (8, _), (9, _), (10, _), (12, _)]) ⟨rfl, rfl, rfl, rfl, rfl, rfl, rfl, trivial⟩ ?_
              refine PW.seqOps ?_
              refine OL.det trivial (Yields.pure rfl) ?_
              refine OL.det trivial (Yields.pure rfl) ?_
              refine OL.nil ?_
              refine PW.keep (T' := [(1, _), (5, _), (6, _), (8, _), (9, _), (10, _), (113, _)]) ⟨rfl, rfl, rfl, rfl, rfl, rfl, rfl, trivial⟩ ?_
              refine PW.cond rfl (fun c113 => ?_) (fun c113 => ?_)
              · try simp only [decide_eq_true_eq, decide_eq_false_iff_not, beq_iff_eq, bne_iff_ne, beq_eq_false_iff_ne, bne_eq_false_iff_eq, Bool.not_eq_true', Bool.not_eq_false', Bool.not_eq_true, ne_eq, Decidable.not_not, Bool.false_eq_true, if_false, if_true] at c113
                exfalso
                have hdn : dn = false := by simpa using c113
                obtain ⟨e1, e2, htry⟩ := hdF hdn
                have hlen2 : f2.length = lf.length := by rw [e2]
                have hnn : n = lf.length := by
                  first
                    | (exfalso; simp [hdn] at c79; done)
                    | omega
                obtain ⟨p, hpl, hpn⟩ := next_can (L := pls cms) (ds := pls ds) (lf := pls lf) hg.sq hgh.sq (by rw [← pls_app]; exact hpm1.map _) (by intro e; have := congrArg List.length e; unfold pls at this; rw [List.length_map] at this; simp at this; subst this; simp at c55)
                obtain ⟨x, hx, rfl⟩ := List.mem_map.1 hpl
                obtain ⟨q, hql, rfl⟩ := List.mem_iff_getElem.1 hx
                obtain ⟨j, hj, hjq⟩ := cover (a := a) hql
                refine htry j (by omega) ?_
                rw [hjq, getElem!_pos lf q hql]
                exact hpn
                -- done
              · try simp only [decide_eq_true_eq, decide_eq_false_iff_not, beq_iff_eq, bne_iff_ne, beq_eq_false_iff_ne, bne_eq_false_iff_eq, Bool.not_eq_true', Bool.not_eq_false', Bool.not_eq_true, ne_eq, Decidable.not_not, Bool.false_eq_true, if_false, if_true] at c113
                have hdn : dn = true := by simpa using c113
                obtain ⟨e4, e5⟩ := hdT hdn
                have hpl2 := hpm.length_eq
                rw [List.length_append] at hpl2
                refine PW.skip ?_
                refine hK7 _ _ ?_
                refine PW.keep (T' := [(1, _), (5, _), (6, _), (8, _), (9, _), (10, _)]) ⟨rfl, rfl, rfl, rfl, rfl, rfl, trivial⟩ ?_
                refine PW.ops ?_
                refine OL.det trivial (Yields.pure rfl) ?_
                refine OL.det trivial (Yields.add64 rfl rfl (by omega) (by omega)) ?_
                refine OL.det trivial (Yields.pure rfl) ?_
                refine OL.nil ?_
                repeat rw [inBlk_n]
                try rw [thenK_n]
                refine LoopEnd.mkS (Sub.refl _) (T'' := [(1, _), (5, _), (6, _), (8, _), (9, _), (10, _)]) ⟨rfl, rfl, rfl, rfl, rfl, rfl, trivial⟩ ?_
                have h10 : ((d2.length : Nat) : Int) = (ds.length : Int) + 1 := by omega
                rw [← h10]
                exact ⟨f2.length, by omega, m2, d2, f2, _, s2, ⟨rfl, hpm, by omega, hg2, by omega, hr2, hsl2⟩, rfl, rfl⟩
          · try simp only [decide_eq_true_eq, decide_eq_false_iff_not, beq_iff_eq, bne_iff_ne, beq_eq_false_iff_ne, bne_eq_false_iff_eq, Bool.not_eq_true', Bool.not_eq_false', Bool.not_eq_true, ne_eq, Decidable.not_not, Bool.false_eq_true, if_false, if_true] at c60
            let a : Nat := 0
            have hab : a ≤ 65535 := by decide
            refine PW.skip ?_
            refine hK8 _ _ ?_
            refine PW.keep (T' := [(1, _), (5, _), (6, _), (8, _), (9, _), (10, _), (11, _)]) ⟨rfl, rfl, rfl, rfl, rfl, rfl, rfl, trivial⟩ ?_
            refine PW.seqOps ?_
            refine OL.det trivial (Yields.pure rfl) ?_
            refine OL.nil ?_
            refine PW.keep (T' := [(1, _), (5, _), (6, _), (8, _), (9, _), (10, _), (11, _), (12, _)]) ⟨rfl, rfl, rfl, rfl, rfl, rfl, rfl, rfl, trivial⟩ ?_
            refine PW.seq fun K13 hK13 => ?_
            refine PW.seqOps ?_
            refine OL.det trivial (Yields.pure rfl) ?_
            refine OL.nil ?_
            refine PW.keep (T' := [(1, _), (5, _), (6, _), (8, _), (9, _), (10, _), (11, _), (12, _), (13, _)]) ⟨rfl, rfl, rfl, rfl, rfl, rfl, rfl, rfl, rfl, trivial⟩ ?_
            refine PW.block ?_
            refine PW.keep (T' := [(1, _), (5, _), (6, _), (8, _), (9, _), (10, _), (11, _), (12, _), (13, _)]) ⟨rfl, rfl, rfl, rfl, rfl, rfl, rfl, rfl, rfl, trivial⟩ ?_
            refine PW.loopK (I := fun mn T S' => ∃ (n : Nat) (dn : Bool) (m2 : GrM) (d2 f2 : List PartM) (v2 : Value) (s2 : Seg), (n ≤ lf.length ∧ mn = lf.length - n ∧ (d2 ++ f2).Perm cms ∧ GG w0 [] m2 (pls d2).reverse ∧ m2.lim ≤ 1209 * ds.length + 39 * n ∧ m2.r = mh0.r ∧ SlV 36 102 v2 f2.length (partS f2) s2 ∧ (dn = false → d2 = ds ∧ f2 = lf ∧ ∀ j, j < n → ¬ New (pls ds).reverse (lf[(a + j) % lf.length]!).pl) ∧ (dn = true → d2.length = ds.length + 1 ∧ f2.length + 1 = lf.length)) ∧ T = ([(1, .slice C ch.length cch), (5, m0.ptr), (6, .slice Ac cms.length cc), (8, mh0.ptr), (9, v2), (10, .int .i64 ds.length), (11, .int .i64 a), (12, .bool dn), (13, .int .i64 n)] : TT) ∧ S' = s2 :: (GS m2 ++ (segc :: (GS m ++ [])))) (m := lf.length) ⟨0, false, mh, ds, lf, _, sl, ⟨by omega, by omega, hpm1, hgh, by omega, hrh, hsl1, (fun _ => ⟨rfl, rfl, fun j hj => absurd hj (Nat.not_lt_zero j)⟩), (fun h => by cases h)⟩, rfl, rfl⟩ ?_
            rintro mn _ _ ⟨n, dn, m2, d2, f2, v2, s2, ⟨hn, hmn, hpm, hg2, hl2, hr2, hsl2, hdF, hdT⟩, rfl, rfl⟩
            obtain ⟨A2, c2, rfl, hnA, hcA, hrdA0⟩ := slv_rdL (w0 := w0) hsl2
            have hrdA : ∀ {S}, s2 ∈ S → Rd w0 S A2 (partS f2) := fun h => rd_mem (hrdA0 []) h
            refine PW.seq fun K14 hK14 => ?_
            refine PW.seqOps ?_
            refine OL.det trivial (Yields.pure rfl) ?_
            refine OL.det trivial (Yields.pure rfl) ?_
            refine OL.det trivial (Yields.pure rfl) ?_
            refine OL.det trivial (Yields.pure rfl) ?_
            refine OL.bool trivial (Yields.pure rfl) (fun g76 => ?_) (fun g76 => ?_)
            · try simp only [decide_eq_true_eq, decide_eq_false_iff_not, beq_iff_eq, bne_iff_ne, beq_eq_false_iff_ne, bne_eq_false_iff_eq, Bool.not_eq_true', Bool.not_eq_false', Bool.not_eq_true, ne_eq, Decidable.not_not, Bool.false_eq_true, if_false, if_true] at g76
              refine OL.det rfl (Yields.pure rfl) ?_
              refine OL.det rfl (Yields.pure rfl) ?_
              refine OL.det trivial (Yields.pure rfl) ?_
              refine OL.nil ?_
              refine PW.keep (T' := [(1, _), (5, _), (6, _), (8, _), (9, _), (10, _), (11, _), (12, _), (13, _), (79, _)]) ⟨rfl, rfl, rfl, rfl, rfl, rfl, rfl, rfl, rfl, rfl, trivial⟩ ?_
              refine PW.cond rfl (fun c79 => ?_) (fun c79 => ?_)
              · try simp only [decide_eq_true_eq, decide_eq_false_iff_not, beq_iff_eq, bne_iff_ne, beq_eq_false_iff_ne, bne_eq_false_iff_eq, Bool.not_eq_true', Bool.not_eq_false', Bool.not_eq_true, ne_eq, Decidable.not_not, Bool.false_eq_true, if_false, if_true] at c79
                have hdn : dn = false := by simpa using c79
                obtain ⟨e1, e2, htry⟩ := hdF hdn
                have hlen2 : f2.length = lf.length := by rw [e2]
                have hd2B : ∀ p ∈ d2, PartB w0 p := fun p hp => hpB p (hpm.mem_iff.1 (List.mem_append_left _ hp))
                refine PW.skip ?_
                refine hK14 _ _ ?_
                refine PW.keep (T' := [(1, _), (5, _), (6, _), (8, _), (9, _), (10, _), (11, _), (12, _), (13, _)]) ⟨rfl, rfl, rfl, rfl, rfl, rfl, rfl, rfl, rfl, trivial⟩ ?_
                refine PW.seq fun K15 hK15 => ?_
                refine PW.block ?_
                refine PW.seqOps ?_
                refine OL.det trivial (Yields.pure rfl) ?_
                refine OL.det trivial (Yields.pure rfl) ?_
                refine OL.det trivial (Yields.add64 rfl rfl (by omega) (by omega)) ?_
                refine OL.det trivial (Yields.pure rfl) ?_
                refine OL.det trivial (Yields.pure rfl) ?_
                refine OL.det trivial (Yields.to (v' := .int .i64 (((a + n) % f2.length : Nat) : Int)) (Yields.rem rfl rfl (by omega)) (congrArg (Value.int .i64) (tmod_nat (by omega)))) ?_
                have hil : (a + n) % f2.length < f2.length := Nat.mod_lt _ (by omega)
                obtain ⟨i, hi⟩ : ∃ i, i = (a + n) % f2.length := ⟨_, rfl⟩
                rw [← hi] at hil ⊢
                obtain ⟨A2, rfl⟩ := partS_some (hrdA0 []) (by omega)
                have hpb := hpB f2[i] (hpm.mem_iff.1 (List.mem_append_right _ (List.getElem_mem hil)))
                refine OL.det trivial (Yields.pure rfl) ?_
                refine OL.nil ?_
                refine PW.keep (T' := [(1, _), (5, _), (6, _), (8, _), (9, _), (10, _), (11, _), (12, _), (13, _), (14, _)]) ⟨rfl, rfl, rfl, rfl, rfl, rfl, rfl, rfl, rfl, rfl, trivial⟩ ?_
                refine PW.seqOps ?_
                refine OL.det trivial (Yields.pure rfl) ?_
                refine OL.det trivial (Yields.pure rfl) ?_
                refine OL.det trivial (Yields.pure rfl) ?_
                refine OL.det trivial (Yields.ixN rfl rfl rfl hil) ?_
                refine OL.det trivial (Yields.ldA rfl (partC_len _) (partS_at (hrdA (by simp)) hil)) ?_
                refine OL.call trivial rfl (by rw [← ptr_eq hr2]; exact FC.subS gs_a (add2_fc (S := s2 :: (segc :: (GS m ++ []))) hg2 over_nil hpb.rng hpb.rdL.any hpb.rdG.any (by have := bParts hd2B; have := hpb.small; have := hpm.length_eq; rw [List.length_append] at this; omega) (by unfold addL; have := hpb.small; omega))) ?_
                rintro _ _ ⟨m3, rfl, rfl, hg3, hl3, hr3, hj3⟩
                unfold addL at hl3
                have hsm3 := hpb.small
                have hcode := left_code (ds := pls d2) (lf := pls f2) (L := pls cms) hg2 hg.sq (by rw [← pls_app]; exact hpm.map _) (p := f2[i].pl) (List.mem_map.2 ⟨_, List.getElem_mem hil, rfl⟩)
                refine OL.det trivial (Yields.pure rfl) ?_
                refine OL.nil ?_
                refine PW.keep (T' := [(1, _), (5, _), (6, _), (8, _), (9, _), (10, _), (11, _), (12, _), (13, _), (14, _), (15, _)]) ⟨rfl, rfl, rfl, rfl, rfl, rfl, rfl, rfl, rfl, rfl, rfl, trivial⟩ ?_
                refine PW.seqOps ?_
                refine OL.det trivial (Yields.pure rfl) ?_
                refine OL.det trivial (Yields.pure rfl) ?_
                refine OL.nil ?_
                refine PW.keep (T' := [(1, _), (5, _), (6, _), (8, _), (9, _), (10, _), (11, _), (12, _), (13, _), (14, _), (15, _), (95, _)]) ⟨rfl, rfl, rfl, rfl, rfl, rfl, rfl, rfl, rfl, rfl, rfl, rfl, trivial⟩ ?_
                refine PW.cond rfl (fun c95 => ?_) (fun c95 => ?_)
                · skip
                  have hz : addE m2.gr f2[i].pl = 0 := by simpa using c95
                  have hnew := (addE_zero hg2.inv hg2.sq).1 hz
                  rw [came_new hnew, ← pls_snoc] at hg3
                  have hpm3 := hpm.length_eq
                  rw [List.length_append] at hpm3
                  refine PW.seq fun K16 hK16 => ?_
                  obtain ⟨AX, cX, hcutX, hnX, hrdX⟩ := cutP (A := some A2) (cap := c2) (i := i + 1) (l := f2) (by omega) hnA hcA
                  refine PW.quietRNK (base := GS m3 ++ (s2 :: (segc :: (GS m ++ [])))) Try.mixed (Over.refl _) ?_
                  refine QN.hole ?_
                  refine QN.det trivial (fun Sx hSx => Yields.pure rfl) ?_
                  refine QN.det trivial (fun Sx hSx => Yields.pure rfl) ?_
                  refine QN.det trivial (fun Sx hSx => Yields.to (v' := .slice (some A2) i c2) (Yields.slS (l := 0) (h := i) rfl rfl rfl (.inr ⟨rfl, rfl⟩) (.inl rfl) (by omega) (by omega)) (cutV0 _ _ _ _)) ?_
                  refine QN.hole ?_
                  refine QN.det trivial (fun Sx hSx => Yields.pure rfl) ?_
                  refine QN.det trivial (fun Sx hSx => Yields.pure rfl) ?_
                  refine QN.det trivial (fun Sx hSx => Yields.add64 rfl rfl (by omega) (by omega)) ?_
                  refine QN.det trivial (fun Sx hSx => Yields.to (v' := .slice AX (f2.drop (i + 1)).length cX) (Yields.slS (l := i + 1) (h := f2.length) rfl rfl rfl (.inl rfl) (.inr ⟨rfl, rfl⟩) (by omega) (by omega)) hcutX) ?_
                  refine QN.nil ⟨rfl, rfl, ordB_of (hp := [0, 4]) rfl (by decide), ?_⟩
                  refine ⟨rfl, OW.mono (OW.bsl0) ?_⟩
                  rintro _ _ ⟨r96, rfl, rfl⟩
                  refine ⟨(Over.refl _).cons, ?_⟩
                  refine ⟨rfl, OW.mono (appP (k := 0) (m := 0) (xs := []) (l := f2.take i) rfl rfl (SlV.mk' (cap := 0) rfl (Nat.le_refl 0) (by decide)) rfl (by rw [List.length_take]; omega) (preP (hrdA (by simp))) hnA (by omega)) ?_⟩
                  rintro v100 _ ⟨seg100, rfl, hsl100⟩
                  rw [Nat.zero_add, List.nil_append] at hsl100
                  refine ⟨(Over.refl _).cons, ?_⟩
                  change OL _ _ _ [_, _] _ _ _
                  refine OL.cons trivial (appP (k := 0) (xs := f2.take i) (l := f2.drop (i + 1)) rfl rfl hsl100 rfl rfl (hrdX _ _ (hrdA (by simp))) hnX (by rw [List.length_drop]; omega)) ?_
                  rintro v105 _ ⟨seg105, rfl, hsl105⟩
                  refine OL.det trivial (Yields.pure rfl) ?_
                  refine OL.nil ?_
                  refine hK16 _ _ ?_
                  refine PW.keep (T' := [(1, _), (5, _), (6, _), (8, _), (9, _), (10, _), (11, _), (13, _)]) ⟨rfl, rfl, rfl, rfl, rfl, rfl, rfl, rfl, trivial⟩ ?_
                  refine PW.ops ?_
                  refine OL.det trivial (Yields.pure rfl) ?_
                  refine OL.nil ?_
                  refine hK15 _ _ ?_
                  refine PW.keep (T' := [(1, _), (5, _), (6, _), (8, _), (9, _), (10, _), (11, _), (12, _), (13, _)]) ⟨rfl, rfl, rfl, rfl, rfl, rfl, rfl, rfl, rfl, trivial⟩ ?_
                  refine PW.ops ?_
                  refine OL.det trivial (Yields.pure rfl) ?_
                  refine OL.det trivial (Yields.add64 rfl rfl (by omega) (by omega)) ?_
                  refine OL.det trivial (Yields.pure rfl) ?_
                  refine OL.nil ?_
                  repeat rw [inBlk_n]
                  try rw [thenK_n]
                  refine LoopEnd.mkS (by first | exact gs_e (s := seg105) (a := m3) (t := s2) (S := segc :: (GS m ++ [])) | exact gs_f (a := m3) (s := s2) (S := segc :: (GS m ++ []))) (T'' := [(1, _), (5, _), (6, _), (8, _), (9, _), (10, _), (11, _), (12, _), (13, _)]) ⟨rfl, rfl, rfl, rfl, rfl, rfl, rfl, rfl, rfl, trivial⟩ ?_
                  first
                    | exact ⟨lf.length - (n + 1), by omega, n + 1, true, m3, d2 ++ [f2[i]], f2.take i ++ f2.drop (i + 1), v105, seg105, ⟨by omega, rfl, cut_perm2 hil hpm, hg3, by omega, hr3.trans hr2, cut_slv hil hsl105, (fun h => by cases h), fun _ => ⟨by rw [List.length_append, e1]; rfl, by have := cut_len hil; omega⟩⟩, rfl, rfl⟩
                    | exact ⟨lf.length - (n + 1), by omega, n + 1, dn, m3, d2, f2, _, s2, ⟨by omega, rfl, hpm, hg3, by omega, hr3.trans hr2, hsl2, (fun _ => ⟨e1, e2, fun j hj => by
                        by_cases hjn : j < n
                        · exact htry j hjn
                        · have : j = n := by omega
                          subst this
                          rw [← e1, ← e2, ← hi, getElem!_pos f2 i hil]
                          exact hnew⟩), fun h => by rw [hdn] at h; cases h⟩, rfl, rfl⟩
                · skip
                  have hz : addE m2.gr f2[i].pl ≠ 0 := by simpa using c95
                  have hnew : ¬ New (pls d2).reverse f2[i].pl := fun h => hz ((addE_zero hg2.inv hg2.sq).2 h)
                  rw [came_not hnew] at hg3
                  refine PW.seqOps ?_
                  refine OL.det trivial (Yields.pure rfl) ?_
                  refine OL.det trivial (Yields.pure rfl) ?_
                  refine OL.bool trivial (Yields.pure rfl) (fun g108 => ?_) (fun g108 => ?_)
                  · try simp only [decide_eq_true_eq, decide_eq_false_iff_not, beq_iff_eq, bne_iff_ne, beq_eq_false_iff_ne, bne_eq_false_iff_eq, Bool.not_eq_true', Bool.not_eq_false', Bool.not_eq_true, ne_eq, Decidable.not_not, Bool.false_eq_true, if_false, if_true] at g108
                    refine OL.det rfl (Yields.pure rfl) ?_
                    refine OL.det rfl (Yields.pure rfl) ?_
                    refine OL.det trivial (Yields.pure rfl) ?_
                    refine OL.nil ?_
                    refine PW.keep (T' := [(1, _), (5, _), (6, _), (8, _), (9, _), (10, _), (11, _), (12, _), (13, _), (111, _)]) ⟨rfl, rfl, rfl, rfl, rfl, rfl, rfl, rfl, rfl, rfl, trivial⟩ ?_
                    refine PW.cond rfl (fun c111 => ?_) (fun c111 => ?_)
                    · skip
                      exfalso
                      simp at g108 c111
                      omega
                      -- done
                    · skip
                      refine PW.skip ?_
                      refine hK15 _ _ ?_
                      refine PW.keep (T' := [(1, _), (5, _), (6, _), (8, _), (9, _), (10, _), (11, _), (12, _), (13, _)]) ⟨rfl, rfl, rfl, rfl, rfl, rfl, rfl, rfl, rfl, trivial⟩ ?_
                      refine PW.ops ?_
                      refine OL.det trivial (Yields.pure rfl) ?_
                      refine OL.det trivial (Yields.add64 rfl rfl (by omega) (by omega)) ?_
                      refine OL.det trivial (Yields.pure rfl) ?_
                      refine OL.nil ?_
                      repeat rw [inBlk_n]
                      try rw [thenK_n]
                      refine LoopEnd.mkS (by first | exact gs_e (s := seg105) (a := m3) (t := s2) (S := segc :: (GS m ++ [])) | exact gs_f (a := m3) (s := s2) (S := segc :: (GS m ++ []))) (T'' := [(1, _), (5, _), (6, _), (8, _), (9, _), (10, _), (11, _), (12, _), (13, _)]) ⟨rfl, rfl, rfl, rfl, rfl, rfl, rfl, rfl, rfl, trivial⟩ ?_
                      first
                        | exact ⟨lf.length - (n + 1), by omega, n + 1, true, m3, d2 ++ [f2[i]], f2.take i ++ f2.drop (i + 1), v105, seg105, ⟨by omega, rfl, cut_perm2 hil hpm, hg3, by omega, hr3.trans hr2, cut_slv hil hsl105, (fun h => by cases h), fun _ => ⟨by rw [List.length_append, e1]; rfl, by have := cut_len hil; omega⟩⟩, rfl, rfl⟩
                        | exact ⟨lf.length - (n + 1), by omega, n + 1, dn, m3, d2, f2, _, s2, ⟨by omega, rfl, hpm, hg3, by omega, hr3.trans hr2, hsl2, (fun _ => ⟨e1, e2, fun j hj => by
                            by_cases hjn : j < n
                            · exact htry j hjn
                            · have : j = n := by omega
                              subst this
                              rw [← e1, ← e2, ← hi, getElem!_pos f2 i hil]
                              exact hnew⟩), fun h => by rw [hdn] at h; cases h⟩, rfl, rfl⟩
                  · try simp only [decide_eq_true_eq, decide_eq_false_iff_not, beq_iff_eq, bne_iff_ne, beq_eq_false_iff_ne, bne_eq_false_iff_eq, Bool.not_eq_true', Bool.not_eq_false', Bool.not_eq_true, ne_eq, Decidable.not_not, Bool.false_eq_true, if_false, if_true] at g108
                    refine OL.off rfl rfl ?_
                    refine OL.off rfl rfl ?_
                    refine OL.det trivial (Yields.pure rfl) ?_
                    refine OL.nil ?_
                    refine PW.keep (T' := [(1, _), (5, _), (6, _), (8, _), (9, _), (10, _), (11, _), (12, _), (13, _), (111, _)]) ⟨rfl, rfl, rfl, rfl, rfl, rfl, rfl, rfl, rfl, rfl, trivial⟩ ?_
                    refine PW.ite (b := false) rfl ?_
                    rw [if_neg Bool.false_ne_true]
                    refine PW.skip ?_
                    refine hK15 _ _ ?_
                    refine PW.keep (T' := [(1, _), (5, _), (6, _), (8, _), (9, _), (10, _), (11, _), (12, _), (13, _)]) ⟨rfl, rfl, rfl, rfl, rfl, rfl, rfl, rfl, rfl, trivial⟩ ?_
                    refine PW.ops ?_
                    refine OL.det trivial (Yields.pure rfl) ?_
                    refine OL.det trivial (Yields.add64 rfl rfl (by omega) (by omega)) ?_
                    refine OL.det trivial (Yields.pure rfl) ?_
                    refine OL.nil ?_
                    repeat rw [inBlk_n]
                    try rw [thenK_n]
                    refine LoopEnd.mkS (by first | exact gs_e (s := seg105) (a := m3) (t := s2) (S := segc :: (GS m ++ [])) | exact gs_f (a := m3) (s := s2) (S := segc :: (GS m ++ []))) (T'' := [(1, _), (5, _), (6, _), (8, _), (9, _), (10, _), (11, _), (12, _), (13, _)]) ⟨rfl, rfl, rfl, rfl, rfl, rfl, rfl, rfl, rfl, trivial⟩ ?_
                    first
                      | exact ⟨lf.length - (n + 1), by omega, n + 1, true, m3, d2 ++ [f2[i]], f2.take i ++ f2.drop (i + 1), v105, seg105, ⟨by omega, rfl, cut_perm2 hil hpm, hg3, by omega, hr3.trans hr2, cut_slv hil hsl105, (fun h => by cases h), fun _ => ⟨by rw [List.length_append, e1]; rfl, by have := cut_len hil; omega⟩⟩, rfl, rfl⟩
                      | exact ⟨lf.length - (n + 1), by omega, n + 1, dn, m3, d2, f2, _, s2, ⟨by omega, rfl, hpm, hg3, by omega, hr3.trans hr2, hsl2, (fun _ => ⟨e1, e2, fun j hj => by
                          by_cases hjn : j < n
                          · exact htry j hjn
                          · have : j = n := by omega
                            subst this
                            rw [← e1, ← e2, ← hi, getElem!_pos f2 i hil]
                            exact hnew⟩), fun h => by rw [hdn] at h; cases h⟩, rfl, rfl⟩
              · try simp only [decide_eq_true_eq, decide_eq_false_iff_not, beq_iff_eq, bne_iff_ne, beq_eq_false_iff_ne, bne_eq_false_iff_eq, Bool.not_eq_true', Bool.not_eq_false', Bool.not_eq_true, ne_eq, Decidable.not_not, Bool.false_eq_true, if_false, if_true] at c79
                refine PW.exit ?_
                refine hK13 _ _ ?_
                refine PW.keep (T' := [(1, _), (5, _), (6, _), (8, _), (9, _), (10, _), (12, _)]) ⟨rfl, rfl, rfl, rfl, rfl, rfl, rfl, trivial⟩ ?_
                refine PW.seqOps ?_
                refine OL.det trivial (Yields.pure rfl) ?_
                refine OL.det trivial (Yields.pure rfl) ?_
                refine OL.nil ?_
                refine PW.keep (T' := [(1, _), (5, _), (6, _), (8, _), (9, _), (10, _), (113, _)]) ⟨rfl, rfl, rfl, rfl, rfl, rfl, rfl, trivial⟩ ?_
                refine PW.cond rfl (fun c113 => ?_) (fun c113 => ?_)
                · try simp only [decide_eq_true_eq, decide_eq_false_iff_not, beq_iff_eq, bne_iff_ne, beq_eq_false_iff_ne, bne_eq_false_iff_eq, Bool.not_eq_true', Bool.not_eq_false', Bool.not_eq_true, ne_eq, Decidable.not_not, Bool.false_eq_true, if_false, if_true] at c113
                  exfalso
                  have hdn : dn = false := by simpa using c113
                  obtain ⟨e1, e2, htry⟩ := hdF hdn
                  have hlen2 : f2.length = lf.length := by rw [e2]
                  have hnn : n = lf.length := by
                    first
                      | (exfalso; simp [hdn] at c79; done)
                      | omega
                  obtain ⟨p, hpl, hpn⟩ := next_can (L := pls cms) (ds := pls ds) (lf := pls lf) hg.sq hgh.sq (by rw [← pls_app]; exact hpm1.map _) (by intro e; have := congrArg List.length e; unfold pls at this; rw [List.length_map] at this; simp at this; subst this; simp at c55)
                  obtain ⟨x, hx, rfl⟩ := List.mem_map.1 hpl
                  obtain ⟨q, hql, rfl⟩ := List.mem_iff_getElem.1 hx
                  obtain ⟨j, hj, hjq⟩ := cover (a := a) hql
                  refine htry j (by omega) ?_
                  rw [hjq, getElem!_pos lf q hql]
                  exact hpn
                  -- done
                · try simp only [decide_eq_true_eq, decide_eq_false_iff_not, beq_iff_eq, bne_iff_ne, beq_eq_false_iff_ne, bne_eq_false_iff_eq, Bool.not_eq_true', Bool.not_eq_false', Bool.not_eq_true, ne_eq, Decidable.not_not, Bool.false_eq_true, if_false, if_true] at c113
                  have hdn : dn = true := by simpa using c113
                  obtain ⟨e4, e5⟩ := hdT hdn
                  have hpl2 := hpm.length_eq
                  rw [List.length_append] at hpl2
                  refine PW.skip ?_
                  refine hK7 _ _ ?_
                  refine PW.keep (T' := [(1, _), (5, _), (6, _), (8, _), (9, _), (10, _)]) ⟨rfl, rfl, rfl, rfl, rfl, rfl, trivial⟩ ?_
                  refine PW.ops ?_
                  refine OL.det trivial (Yields.pure rfl) ?_
                  refine OL.det trivial (Yields.add64 rfl rfl (by omega) (by omega)) ?_
                  refine OL.det trivial (Yields.pure rfl) ?_
                  refine OL.nil ?_
                  repeat rw [inBlk_n]
                  try rw [thenK_n]
                  refine LoopEnd.mkS (Sub.refl _) (T'' := [(1, _), (5, _), (6, _), (8, _), (9, _), (10, _)]) ⟨rfl, rfl, rfl, rfl, rfl, rfl, trivial⟩ ?_
                  have h10 : ((d2.length : Nat) : Int) = (ds.length : Int) + 1 := by omega
                  rw [← h10]
                  exact ⟨f2.length, by omega, m2, d2, f2, _, s2, ⟨rfl, hpm, by omega, hg2, by omega, hr2, hsl2⟩, rfl, rfl⟩
            · try simp only [decide_eq_true_eq, decide_eq_false_iff_not, beq_iff_eq, bne_iff_ne, beq_eq_false_iff_ne, bne_eq_false_iff_eq, Bool.not_eq_true', Bool.not_eq_false', Bool.not_eq_true, ne_eq, Decidable.not_not, Bool.false_eq_true, if_false, if_true] at g76
              refine OL.off rfl rfl ?_
              refine OL.off rfl rfl ?_
              refine OL.det trivial (Yields.pure rfl) ?_
              refine OL.nil ?_
              refine PW.keep (T' := [(1, _), (5, _), (6, _), (8, _), (9, _), (10, _), (11, _), (12, _), (13, _), (79, _)]) ⟨rfl, rfl, rfl, rfl, rfl, rfl, rfl, rfl, rfl, rfl, trivial⟩ ?_
              refine PW.ite (b := false) rfl ?_
              rw [if_neg Bool.false_ne_true]
              refine PW.exit ?_
              refine hK13 _ _ ?_
              refine PW.keep (T' := [(1, _), (5, _), (6, _), (8, _), (9, _), (10, _), (12, _)]) ⟨rfl, rfl, rfl, rfl, rfl, rfl, rfl, trivial⟩ ?_
              refine PW.seqOps ?_
              refine OL.det trivial (Yields.pure rfl) ?_
              refine OL.det trivial (Yields.pure rfl) ?_
              refine OL.nil ?_
              refine PW.keep (T' := [(1, _), (5, _), (6, _), (8, _), (9, _), (10, _), (113, _)]) ⟨rfl, rfl, rfl, rfl, rfl, rfl, rfl, trivial⟩ ?_
              refine PW.cond rfl (fun c113 => ?_) (fun c113 => ?_)
              · try simp only [decide_eq_true_eq, decide_eq_false_iff_not, beq_iff_eq, bne_iff_ne, beq_eq_false_iff_ne, bne_eq_false_iff_eq, Bool.not_eq_true', Bool.not_eq_false', Bool.not_eq_true, ne_eq, Decidable.not_not, Bool.false_eq_true, if_false, if_true] at c113
                exfalso
                have hdn : dn = false := by simpa using c113
                obtain ⟨e1, e2, htry⟩ := hdF hdn
                have hlen2 : f2.length = lf.length := by rw [e2]
                have hnn : n = lf.length := by
                  first
                    | (exfalso; simp [hdn] at c79; done)
                    | omega
                obtain ⟨p, hpl, hpn⟩ := next_can (L := pls cms) (ds := pls ds) (lf := pls lf) hg.sq hgh.sq (by rw [← pls_app]; exact hpm1.map _) (by intro e; have := congrArg List.length e; unfold pls at this; rw [List.length_map] at this; simp at this; subst this; simp at c55)
                obtain ⟨x, hx, rfl⟩ := List.mem_map.1 hpl
                obtain ⟨q, hql, rfl⟩ := List.mem_iff_getElem.1 hx
                obtain ⟨j, hj, hjq⟩ := cover (a := a) hql
                refine htry j (by omega) ?_
                rw [hjq, getElem!_pos lf q hql]
                exact hpn
                -- done
              · try simp only [decide_eq_true_eq, decide_eq_false_iff_not, beq_iff_eq, bne_iff_ne, beq_eq_false_iff_ne, bne_eq_false_iff_eq, Bool.not_eq_true', Bool.not_eq_false', Bool.not_eq_true, ne_eq, Decidable.not_not, Bool.false_eq_true, if_false, if_true] at c113
                have hdn : dn = true := by simpa using c113
                obtain ⟨e4, e5⟩ := hdT hdn
                have hpl2 := hpm.length_eq
                rw [List.length_append] at hpl2
                refine PW.skip ?_
                refine hK7 _ _ ?_
                refine PW.keep (T' := [(1, _), (5, _), (6, _), (8, _), (9, _), (10, _)]) ⟨rfl, rfl, rfl, rfl, rfl, rfl, trivial⟩ ?_
                refine PW.ops ?_
                refine OL.det trivial (Yields.pure rfl) ?_
                refine OL.det trivial (Yields.add64 rfl rfl (by omega) (by omega)) ?_
                refine OL.det trivial (Yields.pure rfl) ?_
                refine OL.nil ?_
                repeat rw [inBlk_n]
                try rw [thenK_n]
                refine LoopEnd.mkS (Sub.refl _) (T'' := [(1, _), (5, _), (6, _), (8, _), (9, _), (10, _)]) ⟨rfl, rfl, rfl, rfl, rfl, rfl, trivial⟩ ?_
                have h10 : ((d2.length : Nat) : Int) = (ds.length : Int) + 1 := by omega
                rw [← h10]
                exact ⟨f2.length, by omega, m2, d2, f2, _, s2, ⟨rfl, hpm, by omega, hg2, by omega, hr2, hsl2⟩, rfl, rfl⟩
        · try simp only [decide_eq_true_eq, decide_eq_false_iff_not, beq_iff_eq, bne_iff_ne, beq_eq_false_iff_ne, bne_eq_false_iff_eq, Bool.not_eq_true', Bool.not_eq_false', Bool.not_eq_true, ne_eq, Decidable.not_not, Bool.false_eq_true, if_false, if_true] at c55
          have hl0 : lf = [] := List.eq_nil_of_length_eq_zero (by omega)
          subst hl0
          rw [List.append_nil] at hpm1
          have hdB : ∀ p ∈ ds, PartB w0 p := fun p hp => hpB p (hpm1.mem_iff.1 hp)
          have hdl := hpm1.length_eq
          have hlp : linesP (pls cms).reverse = linesP (pls ds).reverse := linesP_perm hg.sq hgh.sq (((List.reverse_perm _).trans (hpm1.symm.map _)).trans (List.reverse_perm _).symm)
          have hb1 := bParts hpB
          have hb2 := bParts hdB
          have hv1 : (allV (pls cms).reverse).length ≤ 60000 := by omega
          have hv2 : (allV (pls ds).reverse).length ≤ 60000 := by omega
          have ht1 := text_fc (S := sl :: (GS mh ++ (segc :: []))) hg over_nil (bTxt hpB) hv1
          have ht2 := text_fc (S := GS m ++ (sl :: segc :: [])) hgh over_nil (bTxt hdB) hv2
          have ht3 := same_fc (S := sl :: segc :: []) hg hgh over_nil over_nil hlp hv1
          refine PW.exit ?_
          refine hK5 _ _ ?_
          refine PW.keep (T' := [(5, _), (6, _), (8, _)]) ⟨rfl, rfl, rfl, trivial⟩ ?_
          refine PW.seq fun K17 hK17 => ?_
          refine PW.seqOps ?_
          refine OL.det trivial (Yields.pure rfl) ?_
          refine OL.call trivial rfl (by rw [← ptr_eq hr]; exact FC.subS (gs_b (a := mh) (b := m) (s := sl) (t := segc) (S := [])) ht1) ?_
          rintro _ Sx ⟨rfl, hSx⟩
          rw [hSx]
          clear hSx
          refine OL.det trivial (Yields.pure rfl) ?_
          refine OL.call trivial rfl (by rw [← ptr_eq hrh]; exact FC.subS (gs_c (a := mh) (b := m) (s := sl) (t := segc) (S := [])) ht2) ?_
          rintro _ Sx ⟨rfl, hSx⟩
          rw [hSx]
          clear hSx
          rw [← hlp]
          refine OL.det trivial (Yields.to (v' := .bool false) (Yields.pure rfl) (congrArg Value.bool (by simp))) ?_
          refine OL.det trivial (Yields.pure rfl) ?_
          refine OL.det rfl (Yields.pure rfl) ?_
          refine OL.det rfl (Yields.pure rfl) ?_
          refine OL.call rfl rfl (by rw [← ptr_eq hr, ← ptr_eq hrh]; exact FC.subS gs_swap ht3) ?_
          rintro _ Sx ⟨rfl, hSx⟩
          rw [hSx]
          clear hSx
          refine OL.subS (S' := segc :: (GS m ++ [])) (gs_d (b := mh) (s := sl)) ?_
          refine OL.det rfl (Yields.pure rfl) ?_
          refine OL.det trivial (Yields.pure rfl) ?_
          refine OL.nil ?_
          refine PW.keep (T' := [(5, _), (6, _), (124, _)]) ⟨rfl, rfl, rfl, trivial⟩ ?_
          refine PW.ite (b := false) rfl ?_
          rw [if_neg Bool.false_ne_true]
          refine PW.skip ?_
          refine hK17 _ _ ?_
          refine PW.keep (T' := [(5, _), (6, _)]) ⟨rfl, rfl, trivial⟩ ?_
          refine PW.seq fun K18 hK18 => ?_
          refine PW.block ?_
          refine PW.keep (T' := [(5, _), (6, _)]) ⟨rfl, rfl, trivial⟩ ?_
          refine PW.loopK (I := fun mm T S' => ∃ (m4 : GrM) (ps4 : List PartP) (d4 : List PartM) (v4 : Value) (s4 : Seg), (mm = d4.length ∧ GG w0 [] m4 ps4 ∧ ps4.Perm (pls d4) ∧ d4.length ≤ 30 ∧ m4.lim ≤ 1170 + 4000000000 * (30 - d4.length) ∧ m4.r = m0.r ∧ SlV 36 102 v4 d4.length (partS d4) s4 ∧ (∀ p ∈ d4, PartB w0 p)) ∧ T = ([(5, m0.ptr), (6, v4)] : TT) ∧ S' = s4 :: (GS m4 ++ [])) (m := cms.length) ⟨m, (pls cms).reverse, cms, _, segc, ⟨rfl, hg, List.reverse_perm _, by omega, by omega, hr, hsc, hpB⟩, rfl, rfl⟩ ?_
          rintro mm _ _ ⟨m4, ps4, d4, v4, s4, ⟨hmm4, hg4, hpm4, hd4, hl4, hr4, hsl4, hpB4⟩, rfl, rfl⟩
          obtain ⟨A4, c4, rfl, hn4, hc4, hrd4⟩ := slv_rdL (w0 := w0) hsl4
          refine PW.seq fun K19 hK19 => ?_
          refine PW.seqOps ?_
          refine OL.det trivial (Yields.pure rfl) ?_
          refine OL.det trivial (Yields.pure rfl) ?_
          refine OL.det trivial (Yields.pure rfl) ?_
          refine OL.nil ?_
          refine PW.keep (T' := [(5, _), (6, _), (127, _)]) ⟨rfl, rfl, rfl, trivial⟩ ?_
          refine PW.cond rfl (fun c127 => ?_) (fun c127 => ?_)
          · try simp only [decide_eq_true_eq, decide_eq_false_iff_not, beq_iff_eq, bne_iff_ne, beq_eq_false_iff_ne, bne_eq_false_iff_eq, Bool.not_eq_true', Bool.not_eq_false', Bool.not_eq_true, ne_eq, Decidable.not_not, Bool.false_eq_true, if_false, if_true] at c127
            refine PW.skip ?_
            refine hK19 _ _ ?_
            refine PW.keep (T' := [(5, _), (6, _)]) ⟨rfl, rfl, trivial⟩ ?_
            refine PW.block ?_
            refine PW.seqOps ?_
            refine OL.det trivial (Yields.pure rfl) ?_
            refine OL.nil ?_
            refine PW.keep (T' := [(5, _), (6, _), (16, _)]) ⟨rfl, rfl, rfl, trivial⟩ ?_
            refine PW.seq fun K20 hK20 => ?_
            refine PW.seqOps ?_
            refine OL.det trivial (Yields.pure rfl) ?_
            refine OL.nil ?_
            refine PW.keep (T' := [(5, _), (6, _), (16, _), (17, _)]) ⟨rfl, rfl, rfl, rfl, trivial⟩ ?_
            refine PW.block ?_
            refine PW.keep (T' := [(5, _), (6, _), (16, _), (17, _)]) ⟨rfl, rfl, rfl, rfl, trivial⟩ ?_
            refine PW.loopK (I := fun mn T S' => ∃ (i : Nat) (dn : Bool) (m2 : GrM) (ps2 : List PartP) (d2 : List PartM) (v2 : Value) (s2 : Seg), (i ≤ d4.length ∧ mn = d4.length - i ∧ GG w0 [] m2 ps2 ∧ ps2.Perm (pls d2) ∧ m2.r = m0.r ∧ SlV 36 102 v2 d2.length (partS d2) s2 ∧ (∀ p ∈ d2, PartB w0 p) ∧ m2.lim ≤ 1170 + 4000000000 * (30 - d2.length) ∧ d2.length ≤ d4.length ∧ (dn = false → m2 = m4 ∧ d2 = d4 ∧ ∀ j, j < i → remE m4.gr (d4[j]!).pl.name ≠ 0) ∧ (dn = true → d2.length + 1 = d4.length)) ∧ T = ([(5, m0.ptr), (6, v2), (16, .bool dn), (17, .int .i64 i)] : TT) ∧ S' = s2 :: (GS m2 ++ [])) (m := d4.length) ⟨0, false, m4, ps4, d4, _, s4, ⟨by omega, by omega, hg4, hpm4, hr4, hsl4, hpB4, hl4, Nat.le_refl _, (fun _ => ⟨rfl, rfl, fun j hj => absurd hj (Nat.not_lt_zero j)⟩), (fun h => by cases h)⟩, rfl, rfl⟩ ?_
            rintro mn _ _ ⟨i, dn, m2, ps2, d2, v2, s2, ⟨hi, hmn, hg2, hpm2, hr2, hsl2, hpB2, hl2, hd24, hdF, hdT⟩, rfl, rfl⟩
            obtain ⟨A2, c2, rfl, hnA, hcA, hrdA0⟩ := slv_rdL (w0 := w0) hsl2
            have hrdA : ∀ {S}, s2 ∈ S → Rd w0 S A2 (partS d2) := fun h => rd_mem (hrdA0 []) h
            refine PW.seq fun K21 hK21 => ?_
            refine PW.seqOps ?_
            refine OL.det trivial (Yields.pure rfl) ?_
            refine OL.det trivial (Yields.pure rfl) ?_
            refine OL.det trivial (Yields.pure rfl) ?_
            refine OL.det trivial (Yields.pure rfl) ?_
            refine OL.bool trivial (Yields.pure rfl) (fun g132 => ?_) (fun g132 => ?_)
            · try simp only [decide_eq_true_eq, decide_eq_false_iff_not, beq_iff_eq, bne_iff_ne, beq_eq_false_iff_ne, bne_eq_false_iff_eq, Bool.not_eq_true', Bool.not_eq_false', Bool.not_eq_true, ne_eq, Decidable.not_not, Bool.false_eq_true, if_false, if_true] at g132
              refine OL.det rfl (Yields.pure rfl) ?_
              refine OL.det rfl (Yields.pure rfl) ?_
              refine OL.det trivial (Yields.pure rfl) ?_
              refine OL.nil ?_
              refine PW.keep (T' := [(5, _), (6, _), (16, _), (17, _), (135, _)]) ⟨rfl, rfl, rfl, rfl, rfl, trivial⟩ ?_
              refine PW.cond rfl (fun c135 => ?_) (fun c135 => ?_)
              · try simp only [decide_eq_true_eq, decide_eq_false_iff_not, beq_iff_eq, bne_iff_ne, beq_eq_false_iff_ne, bne_eq_false_iff_eq, Bool.not_eq_true', Bool.not_eq_false', Bool.not_eq_true, ne_eq, Decidable.not_not, Bool.false_eq_true, if_false, if_true] at c135
                have hdn : dn = false := by simpa using c135
                obtain ⟨e1, e3, htry⟩ := hdF hdn
                have hlen2 : d2.length = d4.length := by rw [e3]
                have hil : i < d2.length := by omega
                obtain ⟨A2, rfl⟩ := partS_some (hrdA0 []) (by omega)
                have hpb := hpB2 d2[i] (List.getElem_mem hil)
                refine PW.skip ?_
                refine hK21 _ _ ?_
                refine PW.keep (T' := [(5, _), (6, _), (16, _), (17, _)]) ⟨rfl, rfl, rfl, rfl, trivial⟩ ?_
                refine PW.seq fun K22 hK22 => ?_
                refine PW.block ?_
                refine PW.seq fun K23 hK23 => ?_
                refine PW.quietK Try.mixed ?_
                refine QK.det trivial (Yields.pure rfl) ?_
                refine QK.det trivial (Yields.pure rfl) ?_
                refine QK.det trivial (Yields.pure rfl) ?_
                refine QK.det trivial (Yields.ixN rfl rfl rfl hil) ?_
                refine QK.det trivial (Yields.pure rfl) ?_
                refine QK.det trivial (Yields.ldA rfl (hb_len _) (partS_hash (hrdA (by simp)) hil)) ?_
                refine QK.det trivial (Yields.pure rfl) ?_
                refine QK.det trivial (Yields.pure rfl) ?_
                refine QK.det trivial (Yields.ixN rfl rfl rfl hil) ?_
                refine QK.det trivial (Yields.pure rfl) ?_
                refine QK.det trivial (Yields.ld rfl (partS_num (hrdA (by simp)) hil)) ?_
                refine QK.nil ?_
                change OL _ _ _ [_, _] _ _ _
                refine OL.call trivial rfl (by rw [← ptr_eq hr2]; exact FC.subS (Sub.sel [1, 2, 3, 4, 0] 5 (by decide) (s2 :: (GS m2 ++ []))) (remove2_fc (S := [s2]) hg2 over_nil (p := d2[i].pl) (hpm2.symm.mem_iff.1 (List.mem_map.2 ⟨_, List.getElem_mem hil, rfl⟩)) ⟨hpb.rng.at_.1, hpb.rng.at_.2⟩ (by omega))) ?_
                rintro _ _ ⟨m3, rfl, rfl, hr3, hl3, hno3, hyes3⟩
                refine OL.det trivial (Yields.pure rfl) ?_
                refine OL.nil ?_
                refine hK23 _ _ ?_
                refine PW.keep (T' := [(5, _), (6, _), (16, _), (17, _), (150, _)]) ⟨rfl, rfl, rfl, rfl, rfl, trivial⟩ ?_
                refine PW.cond rfl (fun c150 => ?_) (fun c150 => ?_)
                · skip
                  have hz : remE m2.gr d2[i].pl.name = 0 := by simpa using c150
                  obtain ⟨PA, PB, hps, hg3⟩ := hyes3 hz
                  refine PW.seq fun K24 hK24 => ?_
                  obtain ⟨AX, cX, hcutX, hnX, hrdX⟩ := cutP (A := some A2) (cap := c2) (i := i + 1) (l := d2) (by omega) hnA hcA
                  refine PW.quietRNK (base := GS m3 ++ (s2 :: [])) Try.mixed (Over.refl _) ?_
                  refine QN.hole ?_
                  refine QN.det trivial (fun Sx hSx => Yields.pure rfl) ?_
                  refine QN.det trivial (fun Sx hSx => Yields.pure rfl) ?_
                  refine QN.det trivial (fun Sx hSx => Yields.to (v' := .slice (some A2) i c2) (Yields.slS (l := 0) (h := i) rfl rfl rfl (.inr ⟨rfl, rfl⟩) (.inl rfl) (by omega) (by omega)) (cutV0 _ _ _ _)) ?_
                  refine QN.hole ?_
                  refine QN.det trivial (fun Sx hSx => Yields.pure rfl) ?_
                  refine QN.det trivial (fun Sx hSx => Yields.pure rfl) ?_
                  refine QN.det trivial (fun Sx hSx => Yields.add64 rfl rfl (by omega) (by omega)) ?_
                  refine QN.det trivial (fun Sx hSx => Yields.to (v' := .slice AX (d2.drop (i + 1)).length cX) (Yields.slS (l := i + 1) (h := d2.length) rfl rfl rfl (.inl rfl) (.inr ⟨rfl, rfl⟩) (by omega) (by omega)) hcutX) ?_
                  refine QN.nil ⟨rfl, rfl, ordB_of (hp := [0, 4]) rfl (by decide), ?_⟩
                  refine ⟨rfl, OW.mono (OW.bsl0) ?_⟩
                  rintro _ _ ⟨r151, rfl, rfl⟩
                  refine ⟨(Over.refl _).cons, ?_⟩
                  refine ⟨rfl, OW.mono (appP (k := 0) (m := 0) (xs := []) (l := d2.take i) rfl rfl (SlV.mk' (cap := 0) rfl (Nat.le_refl 0) (by decide)) rfl (by rw [List.length_take]; omega) (preP (hrdA (by simp))) hnA (by omega)) ?_⟩
                  rintro v155 _ ⟨seg155, rfl, hsl155⟩
                  rw [Nat.zero_add, List.nil_append] at hsl155
                  refine ⟨(Over.refl _).cons, ?_⟩
                  change OL _ _ _ [_, _] _ _ _
                  refine OL.cons trivial (appP (k := 0) (xs := d2.take i) (l := d2.drop (i + 1)) rfl rfl hsl155 rfl rfl (hrdX _ _ (hrdA (by simp))) hnX (by rw [List.length_drop]; omega)) ?_
                  rintro v160 _ ⟨seg160, rfl, hsl160⟩
                  refine OL.det trivial (Yields.pure rfl) ?_
                  refine OL.nil ?_
                  refine hK24 _ _ ?_
                  refine PW.keep (T' := [(5, _), (6, _), (17, _)]) ⟨rfl, rfl, rfl, trivial⟩ ?_
                  refine PW.ops ?_
                  refine OL.det trivial (Yields.pure rfl) ?_
                  refine OL.nil ?_
                  refine hK22 _ _ ?_
                  refine PW.keep (T' := [(5, _), (6, _), (16, _), (17, _)]) ⟨rfl, rfl, rfl, rfl, trivial⟩ ?_
                  refine PW.ops ?_
                  refine OL.det trivial (Yields.pure rfl) ?_
                  refine OL.det trivial (Yields.add64 rfl rfl (by omega) (by omega)) ?_
                  refine OL.det trivial (Yields.pure rfl) ?_
                  refine OL.nil ?_
                  repeat rw [inBlk_n]
                  try rw [thenK_n]
                  refine LoopEnd.mkS (by first | exact gs_e (s := seg160) (a := m3) (t := s2) (S := []) | exact gs_f (a := m2) (s := s2) (S := [])) (T'' := [(5, _), (6, _), (16, _), (17, _)]) ⟨rfl, rfl, rfl, rfl, trivial⟩ ?_
                  first
                    | exact ⟨d4.length - (i + 1), by omega, i + 1, true, m3, PA ++ PB, d2.take i ++ d2.drop (i + 1), v160, seg160, ⟨by omega, rfl, hg3, cut_pls hil (by rw [← hps]; exact hpm2), hr3.trans hr2, cut_slv hil hsl160, (fun p hp => hpB2 p (by rcases List.mem_append.1 hp with h | h; exact List.mem_of_mem_take h; exact List.mem_of_mem_drop h)), (by have := cut_len hil; omega), (by have := cut_len hil; omega), (fun h => by cases h), fun _ => by have := cut_len hil; omega⟩, rfl, rfl⟩
                    | exact ⟨d4.length - (i + 1), by omega, i + 1, dn, m2, ps2, d2, _, s2, ⟨by omega, rfl, hg2, hpm2, hr2, hsl2, hpB2, hl2, hd24, (fun _ => ⟨e1, e3, fun j hj => by
                        by_cases hjn : j < i
                        · exact htry j hjn
                        · have : j = i := by omega
                          subst this
                          rw [← e1, ← e3, getElem!_pos d2 j hil]
                          exact hz⟩), fun h => by rw [hdn] at h; cases h⟩, rfl, rfl⟩
                · skip
                  have hz : remE m2.gr d2[i].pl.name ≠ 0 := by simpa using c150
                  rw [hno3 hz]
                  refine PW.skip ?_
                  refine hK22 _ _ ?_
                  refine PW.keep (T' := [(5, _), (6, _), (16, _), (17, _)]) ⟨rfl, rfl, rfl, rfl, trivial⟩ ?_
                  refine PW.ops ?_
                  refine OL.det trivial (Yields.pure rfl) ?_
                  refine OL.det trivial (Yields.add64 rfl rfl (by omega) (by omega)) ?_
                  refine OL.det trivial (Yields.pure rfl) ?_
                  refine OL.nil ?_
                  repeat rw [inBlk_n]
                  try rw [thenK_n]
                  refine LoopEnd.mkS (by first | exact gs_e (s := seg160) (a := m3) (t := s2) (S := []) | exact gs_f (a := m2) (s := s2) (S := [])) (T'' := [(5, _), (6, _), (16, _), (17, _)]) ⟨rfl, rfl, rfl, rfl, trivial⟩ ?_
                  first
                    | exact ⟨d4.length - (i + 1), by omega, i + 1, true, m3, PA ++ PB, d2.take i ++ d2.drop (i + 1), v160, seg160, ⟨by omega, rfl, hg3, cut_pls hil (by rw [← hps]; exact hpm2), hr3.trans hr2, cut_slv hil hsl160, (fun p hp => hpB2 p (by rcases List.mem_append.1 hp with h | h; exact List.mem_of_mem_take h; exact List.mem_of_mem_drop h)), (by have := cut_len hil; omega), (by have := cut_len hil; omega), (fun h => by cases h), fun _ => by have := cut_len hil; omega⟩, rfl, rfl⟩
                    | exact ⟨d4.length - (i + 1), by omega, i + 1, dn, m2, ps2, d2, _, s2, ⟨by omega, rfl, hg2, hpm2, hr2, hsl2, hpB2, hl2, hd24, (fun _ => ⟨e1, e3, fun j hj => by
                        by_cases hjn : j < i
                        · exact htry j hjn
                        · have : j = i := by omega
                          subst this
                          rw [← e1, ← e3, getElem!_pos d2 j hil]
                          exact hz⟩), fun h => by rw [hdn] at h; cases h⟩, rfl, rfl⟩
              · try simp only [decide_eq_true_eq, decide_eq_false_iff_not, beq_iff_eq, bne_iff_ne, beq_eq_false_iff_ne, bne_eq_false_iff_eq, Bool.not_eq_true', Bool.not_eq_false', Bool.not_eq_true, ne_eq, Decidable.not_not, Bool.false_eq_true, if_false, if_true] at c135
                refine PW.exit ?_
                refine hK20 _ _ ?_
                refine PW.keep (T' := [(5, _), (6, _), (16, _)]) ⟨rfl, rfl, rfl, trivial⟩ ?_
                refine PW.seqOps ?_
                refine OL.det trivial (Yields.pure rfl) ?_
                refine OL.det trivial (Yields.pure rfl) ?_
                refine OL.nil ?_
                refine PW.keep (T' := [(5, _), (6, _), (162, _)]) ⟨rfl, rfl, rfl, trivial⟩ ?_
                refine PW.cond rfl (fun c162 => ?_) (fun c162 => ?_)
                · try simp only [decide_eq_true_eq, decide_eq_false_iff_not, beq_iff_eq, bne_iff_ne, beq_eq_false_iff_ne, bne_eq_false_iff_eq, Bool.not_eq_true', Bool.not_eq_false', Bool.not_eq_true, ne_eq, Decidable.not_not, Bool.false_eq_true, if_false, if_true] at c162
                  exfalso
                  have hdn : dn = false := by simpa using c162
                  obtain ⟨e1, e3, htry⟩ := hdF hdn
                  have hlen2 : d2.length = d4.length := by rw [e3]
                  rw [← e1, ← e3] at htry
                  have hnn : i = d2.length := by
                    first
                      | (exfalso; simp [hdn] at c135; done)
                      | omega
                  obtain ⟨p, hpl, hpn⟩ := some_goes hg2.sq (by intro e; subst e; have := hpm2.nil_eq; have := congrArg List.length this; unfold pls at this; rw [List.length_map] at this; simp at this; omega)
                  obtain ⟨x, hx, rfl⟩ := List.mem_map.1 (hpm2.mem_iff.1 hpl)
                  obtain ⟨q, hql, rfl⟩ := List.mem_iff_getElem.1 hx
                  have := htry q (by omega)
                  rw [getElem!_pos d2 q hql] at this
                  exact this ((remE_zero hg2.inv hpl).2 hpn)
                  -- done
                · try simp only [decide_eq_true_eq, decide_eq_false_iff_not, beq_iff_eq, bne_iff_ne, beq_eq_false_iff_ne, bne_eq_false_iff_eq, Bool.not_eq_true', Bool.not_eq_false', Bool.not_eq_true, ne_eq, Decidable.not_not, Bool.false_eq_true, if_false, if_true] at c162
                  have hdn : dn = true := by simpa using c162
                  have e5 := hdT hdn
                  refine PW.skip ?_
                  repeat rw [inBlk_n]
                  try rw [thenK_n]
                  refine LoopEnd.mkS (Sub.refl _) (T'' := [(5, _), (6, _)]) ⟨rfl, rfl, trivial⟩ ?_
                  exact ⟨d2.length, by omega, m2, ps2, d2, _, s2, ⟨rfl, hg2, hpm2, by omega, by omega, hr2, hsl2, hpB2⟩, rfl, rfl⟩
            · try simp only [decide_eq_true_eq, decide_eq_false_iff_not, beq_iff_eq, bne_iff_ne, beq_eq_false_iff_ne, bne_eq_false_iff_eq, Bool.not_eq_true', Bool.not_eq_false', Bool.not_eq_true, ne_eq, Decidable.not_not, Bool.false_eq_true, if_false, if_true] at g132
              refine OL.off rfl rfl ?_
              refine OL.off rfl rfl ?_
              refine OL.det trivial (Yields.pure rfl) ?_
              refine OL.nil ?_
              refine PW.keep (T' := [(5, _), (6, _), (16, _), (17, _), (135, _)]) ⟨rfl, rfl, rfl, rfl, rfl, trivial⟩ ?_
              refine PW.ite (b := false) rfl ?_
              rw [if_neg Bool.false_ne_true]
              refine PW.exit ?_
              refine hK20 _ _ ?_
              refine PW.keep (T' := [(5, _), (6, _), (16, _)]) ⟨rfl, rfl, rfl, trivial⟩ ?_
              refine PW.seqOps ?_
              refine OL.det trivial (Yields.pure rfl) ?_
              refine OL.det trivial (Yields.pure rfl) ?_
              refine OL.nil ?_
              refine PW.keep (T' := [(5, _), (6, _), (162, _)]) ⟨rfl, rfl, rfl, trivial⟩ ?_
              refine PW.cond rfl (fun c162 => ?_) (fun c162 => ?_)
              · try simp only [decide_eq_true_eq, decide_eq_false_iff_not, beq_iff_eq, bne_iff_ne, beq_eq_false_iff_ne, bne_eq_false_iff_eq, Bool.not_eq_true', Bool.not_eq_false', Bool.not_eq_true, ne_eq, Decidable.not_not, Bool.false_eq_true, if_false, if_true] at c162
                exfalso
                have hdn : dn = false := by simpa using c162
                obtain ⟨e1, e3, htry⟩ := hdF hdn
                have hlen2 : d2.length = d4.length := by rw [e3]
                rw [← e1, ← e3] at htry
                have hnn : i = d2.length := by
                  first
                    | (exfalso; simp [hdn] at c135; done)
                    | omega
                obtain ⟨p, hpl, hpn⟩ := some_goes hg2.sq (by intro e; subst e; have := hpm2.nil_eq; have := congrArg List.length this; unfold pls at this; rw [List.length_map] at this; simp at this; omega)
                obtain ⟨x, hx, rfl⟩ := List.mem_map.1 (hpm2.mem_iff.1 hpl)
                obtain ⟨q, hql, rfl⟩ := List.mem_iff_getElem.1 hx
                have := htry q (by omega)
                rw [getElem!_pos d2 q hql] at this
                exact this ((remE_zero hg2.inv hpl).2 hpn)
                -- done
              · try simp only [decide_eq_true_eq, decide_eq_false_iff_not, beq_iff_eq, bne_iff_ne, beq_eq_false_iff_ne, bne_eq_false_iff_eq, Bool.not_eq_true', Bool.not_eq_false', Bool.not_eq_true, ne_eq, Decidable.not_not, Bool.false_eq_true, if_false, if_true] at c162
                have hdn : dn = true := by simpa using c162
                have e5 := hdT hdn
                refine PW.skip ?_
                repeat rw [inBlk_n]
                try rw [thenK_n]
                refine LoopEnd.mkS (Sub.refl _) (T'' := [(5, _), (6, _)]) ⟨rfl, rfl, trivial⟩ ?_
                exact ⟨d2.length, by omega, m2, ps2, d2, _, s2, ⟨rfl, hg2, hpm2, by omega, by omega, hr2, hsl2, hpB2⟩, rfl, rfl⟩
          · try simp only [decide_eq_true_eq, decide_eq_false_iff_not, beq_iff_eq, bne_iff_ne, beq_eq_false_iff_ne, bne_eq_false_iff_eq, Bool.not_eq_true', Bool.not_eq_false', Bool.not_eq_true, ne_eq, Decidable.not_not, Bool.false_eq_true, if_false, if_true] at c127
            refine PW.exit ?_
            refine hK18 _ _ ?_
            refine PW.keep (T' := [(5, _)]) ⟨rfl, trivial⟩ ?_
            refine PW.seqOps ?_
            refine OL.det trivial (Yields.pure rfl) ?_
            refine OL.call trivial rfl (by rw [← ptr_eq hr4]; exact FC.subS (Sub.sel [1, 2, 3, 4, 0] 5 (by decide) (s4 :: (GS m4 ++ []))) (lines2_fc (S := [s4]) hg4 over_nil)) ?_
            rintro _ _ ⟨seg5, rfl, hsl5⟩
            obtain ⟨LA, lc, rfl, hLn, hLc, hrd5⟩ := slv_rdL (w0 := w0) hsl5
            have hz5 : (linesP ps4).length = 0 := by
              have : d4 = [] := List.eq_nil_of_length_eq_zero (by omega)
              subst this
              have := List.Perm.eq_nil hpm4
              subst this
              rfl
            rw [hz5]
            refine OL.det trivial (Yields.pure rfl) ?_
            refine OL.det trivial (Yields.pure rfl) ?_
            refine OL.det trivial (Yields.pure rfl) ?_
            refine OL.call rfl rfl (awake_fc) ?_
            rintro _ Sx ⟨rfl, hSx⟩
            rw [hSx]
            clear hSx
            refine OL.det trivial (Yields.pure rfl) ?_
            refine OL.det trivial (Yields.pure rfl) ?_
            refine OL.nil ?_
            refine PW.keep (T' := [(4, _)]) ⟨rfl, trivial⟩ ?_
            refine PW.ret ?_
            change (Exit.ret = Exit.normal ∨ Exit.ret = Exit.ret) ∧ ∃ v, resV _ _ = some v ∧ _
            exact ⟨.inr rfl, _, rfl, _, Sub.refl _, rfl⟩
end Go.Proofs.Gr

set_option linter.unusedVariables false
set_option linter.unusedSimpArgs false
namespace Go.Proofs.Gr
open Go.SL Go.RowKit Go.Proofs Go.GP Go.ChangeShapes Go.WideShapes Go.ChangeAt
set_option maxRecDepth 100000 in
theorem act_of {H : Type} {enc : TypeId × Value → H} {W : World} {n : Nat} {cs : List Value} {y : DataW H × List MemPlace} (h : DataW.trod enc Try.prog W 0 (fun _ => true) true n 38 cs = some y) (hw : ∀ k ∈ y.1.weights Try.prog 38, k ≤ reachBytes) : ∃ a : ActM, cs = actC a ∧ PartA W a.p := by
  obtain ⟨m, xs, hl, hsz, hf⟩ := trod_parts Try.underlying38 h hw
  rw [show Try.prog.cellsOf 38 = 103 by kernel_rfl] at hl
  have c4 : Try.prog.cellsOf 4 = 1 := by kernel_rfl
  have c36 : Try.prog.cellsOf 36 = 102 := by kernel_rfl
  obtain ⟨y0, _, t0⟩ := hf 0 _ rfl
  obtain ⟨y1, e1, t1⟩ := hf 1 _ rfl
  have s0 : DataW.trod enc Try.prog W 0 (fun _ => true) true m 4 ((cs.drop 0).take (Try.prog.cellsOf 4)) = some y0 := t0
  rw [c4] at s0
  have s1 : DataW.trod enc Try.prog W 0 (fun _ => true) true m 36 ((cs.drop 1).take (Try.prog.cellsOf 36)) = some y1 := t1
  rw [c36] at s1
  have hsz' : (DataW.weightsEach Try.prog [4, 36] (xs.map (·.1))).all (· ≤ reachBytes) = true := hsz
  have w1 : ∀ k ∈ y1.1.weights Try.prog 36, k ≤ reachBytes := fun k hk => by
    have := List.all_eq_true.1 hsz' _ (DataW.weights_mem_each (j := 1) (t := 36) (d := y1.1) rfl (by rw [List.getElem?_map, e1]; rfl) k hk)
    simpa using this
  obtain ⟨p, ep, hp⟩ := part_of s1 w1
  have f0 := deep_fits 6 m 4 [.bool] _ y0 (by kernel_rfl) s0 (by rw [List.length_take, List.length_drop, hl]; rfl)
  obtain ⟨b, eb⟩ : ∃ b : Bool, (cs.drop 0).take 1 = [.bool b] := by
    cases e : (cs.drop 0).take 1 with
    | nil => rw [e] at f0; exact f0.elim
    | cons v r =>
      rw [e] at f0
      obtain ⟨⟨b, rfl⟩, h2⟩ := f0
      cases r with
      | nil => exact ⟨b, rfl⟩
      | cons _ _ => exact h2.elim
  refine ⟨⟨b, p⟩, ?_, hp⟩
  have e2 : cs = (cs.drop 0).take 1 ++ (cs.drop 1).take 102 := by
    rw [List.drop_zero, List.take_of_length_le (l := cs.drop 1) (by rw [List.length_drop]; omega), List.take_append_drop]
  rw [e2, eb, ep]
  rfl
set_option maxRecDepth 100000 in
theorem acts_arg {H : Type} {enc : TypeId × Value → H} {W : World} {r : Reach} {base j : Nat} {v : Value} {d : DataW H} {ps : List MemPlace} {ts : List TypeId} {ds : List (DataW H)} (hv : Value.okWide Try.prog W r base 22 v)
    (h : DataW.Trod enc Try.prog W 0 (fun _ => true) true 22 v d ps) (hsz : (DataW.weightsEach Try.prog ts ds).all (· ≤ reachBytes) = true) (ht : ts[j]? = some 22) (hd : ds[j]? = some d) :
    ∃ (A : Option Addr) (c : Nat) (l : List ActM), v = .slice A l.length c ∧ Acts W A l := by
  obtain ⟨A, len, cap, rfl⟩ := okWide_slice Try.underlying22 hv
  obtain ⟨l, rfl, hr, hR, hy, hc⟩ := arg_listW (j := j) (f := actC) (R := fun a => PartA W a.p) Try.underlying22 (fun n cs y hh _ hw => act_of hh hw) h hsz ht hd
  rw [show Try.prog.bytesOf 38 = 184 by kernel_rfl] at hy
  simp only [reachBytes] at hy
  exact ⟨A, cap, l, rfl, hr, hR, by omega⟩
end Go.Proofs.Gr
