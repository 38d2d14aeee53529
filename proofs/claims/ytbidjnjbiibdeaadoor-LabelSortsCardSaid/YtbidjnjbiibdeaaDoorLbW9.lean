/- Walks and plain facts for the laws of this seat: what each function answers, for every input. -/
import Derived.Test.YtbidjnjbiibdeaaDoorLbW8
import Derived.Test.YtbidjnjbiibdeaaDoorE8
set_option linter.unusedVariables false
set_option linter.unusedSimpArgs false
namespace Go.Proofs
open Go.SL Go.RowKit
set_option maxHeartbeats 1000000

/-! one after another the same: once -/
def ddS (acc : List LabB) (x : LabB) : List LabB := if acc.getLast? = some x then acc else acc ++ [x]
def dd (l : List LabB) : List LabB := l.foldl ddS []
theorem dd_snoc (l : List LabB) (a : LabB) : dd (l ++ [a]) = if (dd l).getLast? = some a then dd l else dd l ++ [a] := by
  unfold dd; rw [List.foldl_append]; rfl
theorem dd_take {l : List LabB} {k : Nat} (hk : k < l.length) : dd (l.take (k + 1)) = if (dd (l.take k)).getLast? = some l[k] then dd (l.take k) else dd (l.take k) ++ [l[k]] := by
  rw [List.take_add_one, List.getElem?_eq_getElem hk, ← dd_snoc]; rfl
theorem dd_last {l : List LabB} {k : Nat} (hk : k < l.length) : (dd (l.take (k + 1))).getLast? = some l[k] := by
  rw [dd_take hk]
  split
  · assumption
  · simp
theorem dd_len : ∀ {l : List LabB} (k : Nat), k ≤ l.length → (dd (l.take k)).length ≤ k
  | l, 0, _ => by simp [dd]
  | l, k + 1, h => by
    rw [dd_take (by omega)]
    have := dd_len (l := l) k (by omega)
    split <;> simp <;> omega
theorem dd_step {l : List LabB} {k : Nat} (h0 : 0 < k) (hk : k < l.length) : dd (l.take (k + 1)) = if l[k] = l[k - 1] then dd (l.take k) else dd (l.take k) ++ [l[k]] := by
  obtain ⟨j, rfl⟩ : ∃ j, k = j + 1 := ⟨k - 1, by omega⟩
  rw [dd_take hk, dd_last (by omega)]
  simp only [Option.some.injEq, Nat.add_sub_cancel]
  by_cases h : l[j] = l[j + 1]
  · rw [if_pos h, if_pos h.symm]
  · rw [if_neg h, if_neg (Ne.symm h)]
theorem labs_set {X : List LabB} {i : Nat} (hi : i < X.length) (a : LabB) : setAt (labs X) (i * 2) [.int .i64 a.1, .int .u64 (a.2.toNat : Int)] = labs (X.set i a) := by
  rw [setAt_eq _ _ _ (by rw [labs_len]; simp; omega)]
  have e : X.set i a = X.take i ++ a :: X.drop (i + 1) := by rw [List.set_eq_take_append_cons_drop, if_pos hi]
  have e1 : ∀ j, j ≤ X.length → (labs X).take (j * 2) = labs (X.take j) ∧ (labs X).drop (j * 2) = labs (X.drop j) := by
    intro j hj
    have : labs X = labs (X.take j) ++ labs (X.drop j) := by unfold labs; rw [← List.flatMap_append, List.take_append_drop]
    have hl : (labs (X.take j)).length = j * 2 := by rw [labs_len, List.length_take]; omega
    constructor
    · rw [this, ← hl, List.take_left]
    · rw [this, ← hl, List.drop_left]
  rw [e, (e1 i (by omega)).1, show i * 2 + [Value.int .i64 a.1, .int .u64 (a.2.toNat : Int)].length = (i + 1) * 2 from by simp; omega, (e1 (i + 1) (by omega)).2]
  unfold labs
  rw [List.flatMap_append, List.flatMap_cons]
  simp [labC]
theorem labs_tail {X : List LabB} {i q : Nat} (hi : i + q = X.length) {z : LabB} : setAt (labs X) (i * 2) (labs (List.replicate q z)) = labs (X.take i ++ List.replicate q z) := by
  rw [setAt_eq _ _ _ (by rw [labs_len, labs_len]; simp; omega)]
  have : labs X = labs (X.take i) ++ labs (X.drop i) := by unfold labs; rw [← List.flatMap_append, List.take_append_drop]
  have hl : (labs (X.take i)).length = i * 2 := by rw [labs_len, List.length_take]; omega
  have h1 : (labs X).take (i * 2) = labs (X.take i) := by rw [this, ← hl, List.take_left]
  rw [h1, List.drop_of_length_le (by rw [labs_len, labs_len]; simp; omega)]
  unfold labs
  rw [List.flatMap_append, List.append_nil]
def lab0 : LabB := (0, 0)
theorem labs_rep (q : Nat) : labs (List.replicate q lab0) = madeL [.int .i64 0, .int .u64 0] (q * 2) := by
  have hl : ∀ q, (labs (List.replicate q lab0)).length = q * 2 := fun q => by rw [labs_len]; simp
  unfold madeL
  apply List.ext_getElem?
  intro t
  by_cases h : t < q * 2
  · have h1 := labs_get (l := List.replicate q lab0) (k := t / 2) (by simp; omega) (j := t % 2) (by omega)
    rw [show t / 2 * 2 + t % 2 = t from by omega] at h1
    rw [h1]
    simp only [List.getElem_replicate]
    rw [List.getElem?_map, List.getElem?_range h]
    rcases (by omega : t % 2 = 0 ∨ t % 2 = 1) with e | e <;> simp [e, labC, lab0]
  · rw [List.getElem?_eq_none (by rw [hl]; omega), List.getElem?_eq_none (by simp; omega)]
theorem drop_get {X l : List LabB} {p q : Nat} (hd : X.drop p = l.drop p) (hpq : p ≤ q) : X[q]? = l[q]? := by
  have := congrArg (·[q - p]?) hd
  simp only [List.getElem?_drop] at this
  rwa [show p + (q - p) = q from by omega] at this
theorem lab_off {w0 : World} {S : SS} {r c j : Nat} {X : List LabB} (h : Rd w0 S (some ⟨r, 0, none⟩) (labs X)) (hk : c + j < X.length) {a : LabB} (ha : X[c + j]? = some a) :
    ∀ (jj : Nat) (v : Value), [Value.int .i64 a.1, .int .u64 (a.2.toNat : Int)][jj]? = some v → Cell w0 S (((⟨r, c * 2, none⟩ : Addr).add (j * 2)).add jj) v := by
  obtain rfl : X[c + j] = a := by rw [List.getElem?_eq_getElem hk] at ha; exact Option.some.inj ha
  have := labs_at h hk
  have e : (⟨r, c * 2, none⟩ : Addr).add (j * 2) = (⟨r, 0, none⟩ : Addr).add ((c + j) * 2) := by
    rw [Addr.add_lit, Addr.add_lit]; congr 1; omega
  rw [e]; exact this
def Cut (v : Value) (n : Nat) (l : List LabB) (seg : Seg) : Prop := (v = .slice none 0 0 ∧ n = 0 ∧ l = [] ∧ seg = []) ∨ ∃ r cap, v = .slice (some ⟨r, 0, none⟩) n cap ∧ seg = [(r, .cells (labs l) 24 (cap * 2))] ∧ n ≤ l.length ∧ l.length ≤ cap ∧ cap ≤ maxLen
theorem take_snoc {l : List LabB} {k : Nat} (hk : k < l.length) : l.take (k + 1) = l.take k ++ [l[k]] := by
  rw [List.take_add_one, List.getElem?_eq_getElem hk]; rfl
theorem compact_own {w0 : World} {S : SS} {r cap : Nat} {l : List LabB} (hb : l.length ≤ 1000000000000) (hc : l.length ≤ cap) :
    FC Tryd.prog w0 80 [.slice (some ⟨r, 0, none⟩) l.length cap] ([(r, .cells (labs l) 24 (cap * 2))] :: S) (fun v S' => ∃ l', v = .slice (some ⟨r, 0, none⟩) (dd l).length cap ∧ S' = [(r, .cells (labs l') 24 (cap * 2))] :: S ∧ l'.take (dd l).length = dd l ∧ l'.length = l.length) := by
  refine FC.of Tryd.known80 (by simp) ?_
  unfold Tryd.pc80
  simp only [argT]
  refine PW.seqOps ?_
  refine OL.det trivial (Yields.pure rfl) ?_
  refine OL.nil ?_
  refine PW.keep (T' := [(0, _)]) ⟨rfl, trivial⟩ ?_
  refine PW.seq fun K1 hK1 => ?_
  refine PW.seqOps ?_
  refine OL.det trivial (Yields.pure rfl) ?_
  refine OL.det trivial (Yields.pure rfl) ?_
  refine OL.det trivial (Yields.pure rfl) ?_
  refine OL.nil ?_
  refine PW.keep (T' := [(0, _), (8, _)]) ⟨rfl, rfl, trivial⟩ ?_
  refine PW.cond rfl (fun c8 => ?_) (fun c8 => ?_)
  · try simp only [decide_eq_true_eq, decide_eq_false_iff_not, beq_iff_eq, bne_iff_ne, beq_eq_false_iff_ne, bne_eq_false_iff_eq, Bool.not_eq_true', Bool.not_eq_false', Bool.not_eq_true, ne_eq, Decidable.not_not] at c8
    refine PW.seqOps ?_
    refine OL.det trivial (Yields.pure rfl) ?_
    refine OL.det trivial (Yields.pure rfl) ?_
    refine OL.nil ?_
    refine PW.keep (T' := [(2, _)]) ⟨rfl, trivial⟩ ?_
    refine PW.ret ?_
    change (Exit.ret = Exit.normal ∨ Exit.ret = Exit.ret) ∧ ∃ v, resV _ _ = some v ∧ _
    have hd : dd l = l := by
      match l, c8 with
      | [], _ => rfl
      | [x], _ => rfl
      | _ :: _ :: _, h => simp at h; omega
    rw [hd]
    exact ⟨.inr rfl, _, rfl, l, rfl, rfl, List.take_length, rfl⟩
  · try simp only [decide_eq_true_eq, decide_eq_false_iff_not, beq_iff_eq, bne_iff_ne, beq_eq_false_iff_ne, bne_eq_false_iff_eq, Bool.not_eq_true', Bool.not_eq_false', Bool.not_eq_true, ne_eq, Decidable.not_not] at c8
    refine PW.skip ?_
    refine hK1 _ _ ?_
    refine PW.keep (T' := [(0, _)]) ⟨rfl, trivial⟩ ?_
    refine PW.seq fun K2 hK2 => ?_
    refine PW.seqOps ?_
    refine OL.det trivial (Yields.pure rfl) ?_
    refine OL.nil ?_
    refine PW.keep (T' := [(0, _), (3, _)]) ⟨rfl, rfl, trivial⟩ ?_
    refine PW.block ?_
    refine PW.keep (T' := [(0, _), (3, _)]) ⟨rfl, rfl, trivial⟩ ?_
    refine PW.loopK (I := fun m T S' => ∃ (k : Nat), (1 ≤ k ∧ k ≤ l.length ∧ m = l.length - k ∧ dd (l.take k) = l.take k) ∧ T = ([(0, .slice (some ⟨r, 0, none⟩) l.length cap), (3, .int .i64 k)] : TT) ∧ S' = [(r, .cells (labs l) 24 (cap * 2))] :: S) (m := l.length - 1) ⟨1, ⟨by omega, by omega, rfl, by
    match l, c8 with
    | [], h => simp at h
    | x :: l, _ => rfl⟩, rfl, rfl⟩ ?_
    rintro m _ _ ⟨k, ⟨h1, hk, hm, hd⟩, rfl, rfl⟩
    refine PW.seq fun K3 hK3 => ?_
    refine PW.seqOps ?_
    refine OL.det trivial (Yields.pure rfl) ?_
    refine OL.det trivial (Yields.pure rfl) ?_
    refine OL.det trivial (Yields.pure rfl) ?_
    refine OL.det trivial (Yields.pure rfl) ?_
    refine OL.nil ?_
    refine PW.keep (T' := [(0, _), (3, _), (13, _)]) ⟨rfl, rfl, rfl, trivial⟩ ?_
    refine PW.cond rfl (fun c13 => ?_) (fun c13 => ?_)
    · try simp only [decide_eq_true_eq, decide_eq_false_iff_not, beq_iff_eq, bne_iff_ne, beq_eq_false_iff_ne, bne_eq_false_iff_eq, Bool.not_eq_true', Bool.not_eq_false', Bool.not_eq_true, ne_eq, Decidable.not_not] at c13
      have hkl : k < l.length := by omega
      refine PW.skip ?_
      refine hK3 _ _ ?_
      refine PW.keep (T' := [(0, _), (3, _)]) ⟨rfl, rfl, trivial⟩ ?_
      refine PW.seq fun K4 hK4 => ?_
      refine PW.block ?_
      refine PW.seq fun K5 hK5 => ?_
      refine PW.quietK Tryd.mixed ?_
      refine QK.det trivial (Yields.pure rfl) ?_
      refine QK.det trivial (Yields.pure rfl) ?_
      refine QK.det trivial (Yields.ixN rfl rfl rfl (by omega)) ?_
      refine QK.det trivial (Yields.ldA rfl rfl (labs_at (Rd.own (E := 24) (tot := cap * 2) (List.mem_flatten.2 ⟨_, List.mem_cons_self .., List.mem_cons_self ..⟩)) hkl)) ?_
      refine QK.det trivial (Yields.pure rfl) ?_
      refine QK.det trivial (Yields.pure rfl) ?_
      refine QK.det trivial (Yields.sub64 rfl rfl (by omega) (by omega)) ?_
      refine QK.det trivial (Yields.ixN rfl rfl (show (k : Int) - 1 = ((k - 1 : Nat) : Int) from by omega) (by omega)) ?_
      refine QK.det trivial (Yields.ldA rfl rfl (labs_at (Rd.own (E := 24) (tot := cap * 2) (List.mem_flatten.2 ⟨_, List.mem_cons_self .., List.mem_cons_self ..⟩)) (show k - 1 < l.length from by omega))) ?_
      refine QK.nil ?_
      change OL _ _ _ [_] _ _ _
      refine OL.det trivial (Yields.eqA rfl rfl (eq_lab l[k] l[k - 1])) ?_
      refine OL.nil ?_
      refine hK5 _ _ ?_
      refine PW.keep (T' := [(0, _), (3, _), (25, _)]) ⟨rfl, rfl, rfl, trivial⟩ ?_
      refine PW.cond rfl (fun c25 => ?_) (fun c25 => ?_)
      · try simp only [decide_eq_true_eq, decide_eq_false_iff_not, beq_iff_eq, bne_iff_ne, beq_eq_false_iff_ne, bne_eq_false_iff_eq, Bool.not_eq_true', Bool.not_eq_false', Bool.not_eq_true, ne_eq, Decidable.not_not] at c25
        have hdup : l[k] = l[k - 1] := by simpa using c25
        clear c25
        generalize hc0 : k = c at *
        clear hc0
        refine PW.seqOps ?_
        refine OL.det trivial (Yields.pure rfl) ?_
        refine OL.det trivial (Yields.pure rfl) ?_
        refine OL.det trivial (Yields.to (v' := .slice (some ⟨r, c * 2, none⟩) (l.length - c) (cap - c)) (Yields.slS (l := c) (h := l.length) rfl rfl rfl (.inl rfl) (.inr ⟨rfl, rfl⟩) (by omega) (by omega)) (by unfold cutV; rw [if_neg (by omega)]; simp [Addr.add_lit])) ?_
        refine OL.det trivial (Yields.pure rfl) ?_
        refine OL.nil ?_
        refine PW.keep (T' := [(0, _), (3, _), (4, _)]) ⟨rfl, rfl, rfl, trivial⟩ ?_
        refine PW.seq fun K6 hK6 => ?_
        refine PW.seqOps ?_
        refine OL.det trivial (Yields.pure rfl) ?_
        refine OL.nil ?_
        refine PW.keep (T' := [(0, _), (3, _), (4, _), (5, _)]) ⟨rfl, rfl, rfl, rfl, trivial⟩ ?_
        refine PW.block ?_
        refine PW.keep (T' := [(0, _), (3, _), (4, _), (5, _)]) ⟨rfl, rfl, rfl, rfl, trivial⟩ ?_
        refine PW.loopK (I := fun m T S' => ∃ (i j : Nat) (X : List LabB), (1 ≤ j ∧ c + j ≤ l.length ∧ m = l.length - (c + j) ∧ i + 1 ≤ c + j ∧ X.length = l.length ∧ X.take i = dd (l.take (c + j)) ∧ X.drop (c + j - 1) = l.drop (c + j - 1)) ∧ T = ([(0, .slice (some ⟨r, 0, none⟩) l.length cap), (3, .int .i64 i), (4, .slice (some ⟨r, c * 2, none⟩) (l.length - c) (cap - c)), (5, .int .i64 j)] : TT) ∧ S' = [(r, .cells (labs X) 24 (cap * 2))] :: S) (m := l.length - (c + 1)) ⟨c, 1, l, ⟨by omega, by omega, rfl, by omega, rfl, by rw [dd_step (by omega) hkl, if_pos hdup, hd], rfl⟩, rfl, rfl⟩ ?_
        rintro m _ _ ⟨i, j, X, ⟨h1j, hcj, hm, hi, hX, hx, hdr⟩, rfl, rfl⟩
        refine PW.seq fun K7 hK7 => ?_
        refine PW.seqOps ?_
        refine OL.det trivial (Yields.pure rfl) ?_
        refine OL.det trivial (Yields.pure rfl) ?_
        refine OL.det trivial (Yields.pure rfl) ?_
        refine OL.det trivial (Yields.pure rfl) ?_
        refine OL.nil ?_
        refine PW.keep (T' := [(0, _), (3, _), (4, _), (5, _), (32, _)]) ⟨rfl, rfl, rfl, rfl, rfl, trivial⟩ ?_
        refine PW.cond rfl (fun c32 => ?_) (fun c32 => ?_)
        · try simp only [decide_eq_true_eq, decide_eq_false_iff_not, beq_iff_eq, bne_iff_ne, beq_eq_false_iff_ne, bne_eq_false_iff_eq, Bool.not_eq_true', Bool.not_eq_false', Bool.not_eq_true, ne_eq, Decidable.not_not] at c32
          have hjl : c + j < l.length := by omega
          have hp1 : X[c + j]? = some l[c + j] := by rw [drop_get hdr (by omega)]; exact List.getElem?_eq_getElem hjl
          have hp2 : X[c + (j - 1)]? = some (l[c + j - 1]) := by rw [drop_get hdr (by omega), show c + (j - 1) = c + j - 1 from by omega]; exact List.getElem?_eq_getElem (by omega)
          refine PW.skip ?_
          refine hK7 _ _ ?_
          refine PW.keep (T' := [(0, _), (3, _), (4, _), (5, _)]) ⟨rfl, rfl, rfl, rfl, trivial⟩ ?_
          refine PW.seq fun K8 hK8 => ?_
          refine PW.block ?_
          refine PW.seq fun K9 hK9 => ?_
          refine PW.quietK Tryd.mixed ?_
          refine QK.det trivial (Yields.pure rfl) ?_
          refine QK.det trivial (Yields.pure rfl) ?_
          refine QK.det trivial (Yields.ixN rfl rfl rfl (by omega)) ?_
          refine QK.det trivial (Yields.ldA rfl rfl (lab_off (Rd.own (E := 24) (tot := cap * 2) (List.mem_flatten.2 ⟨_, List.mem_cons_self .., List.mem_cons_self ..⟩)) (by omega) hp1)) ?_
          refine QK.det trivial (Yields.pure rfl) ?_
          refine QK.det trivial (Yields.pure rfl) ?_
          refine QK.det trivial (Yields.sub64 rfl rfl (by omega) (by omega)) ?_
          refine QK.det trivial (Yields.ixN rfl rfl (show (j : Int) - 1 = ((j - 1 : Nat) : Int) from by omega) (by omega)) ?_
          refine QK.det trivial (Yields.ldA rfl rfl (lab_off (Rd.own (E := 24) (tot := cap * 2) (List.mem_flatten.2 ⟨_, List.mem_cons_self .., List.mem_cons_self ..⟩)) (by omega) hp2)) ?_
          refine QK.nil ?_
          change OL _ _ _ [_] _ _ _
          refine OL.det trivial (Yields.eqA rfl rfl (eq_lab l[c + j] l[c + j - 1])) ?_
          refine OL.nil ?_
          refine hK9 _ _ ?_
          refine PW.keep (T' := [(0, _), (3, _), (4, _), (5, _), (44, _)]) ⟨rfl, rfl, rfl, rfl, rfl, trivial⟩ ?_
          refine PW.cond rfl (fun c44 => ?_) (fun c44 => ?_)
          · try simp only [decide_eq_true_eq, decide_eq_false_iff_not, beq_iff_eq, bne_iff_ne, beq_eq_false_iff_ne, bne_eq_false_iff_eq, Bool.not_eq_true', Bool.not_eq_false', Bool.not_eq_true, ne_eq, Decidable.not_not] at c44
            refine PW.seqOps ?_
            refine OL.det trivial (Yields.pure rfl) ?_
            refine OL.det trivial (Yields.pure rfl) ?_
            refine OL.det trivial (Yields.pure rfl) ?_
            refine OL.det trivial (Yields.pure rfl) ?_
            refine OL.det trivial (Yields.ixN rfl rfl rfl (by omega)) ?_
            refine OL.det trivial (Yields.ldA rfl rfl (lab_off (Rd.own (E := 24) (tot := cap * 2) (List.mem_flatten.2 ⟨_, List.mem_cons_self .., List.mem_cons_self ..⟩)) (by omega) hp1)) ?_
            refine OL.det trivial (Yields.ixO rfl rfl rfl (by omega)) ?_
            refine OL.cons trivial (OW.st (k := 0) (u := labB l[c + j]) rfl rfl rfl rfl (by show i * 2 + 2 ≤ (labs X).length; rw [labs_len]; omega) rfl) ?_
            rintro _ _ rfl
            change OL _ _ _ _ _ ([(r, .cells (setAt (labs X) (i * 2) [.int .i64 l[c + j].1, .int .u64 (l[c + j].2.toNat : Int)]) 24 (cap * 2))] :: S) _
            rw [labs_set (by omega)]
            refine OL.nil ?_
            refine PW.keep (T' := [(0, _), (3, _), (4, _), (5, _)]) ⟨rfl, rfl, rfl, rfl, trivial⟩ ?_
            refine PW.ops ?_
            refine OL.det trivial (Yields.pure rfl) ?_
            refine OL.det trivial (Yields.add64 rfl rfl (by omega) (by omega)) ?_
            refine OL.det trivial (Yields.pure rfl) ?_
            refine OL.nil ?_
            refine hK8 _ _ ?_
            refine PW.keep (T' := [(0, _), (3, _), (4, _), (5, _)]) ⟨rfl, rfl, rfl, rfl, trivial⟩ ?_
            refine PW.ops ?_
            refine OL.det trivial (Yields.pure rfl) ?_
            refine OL.det trivial (Yields.add64 rfl rfl (by omega) (by omega)) ?_
            refine OL.det trivial (Yields.pure rfl) ?_
            refine OL.nil ?_
            repeat rw [inBlk_n]
            rw [thenK_n]
            refine LoopEnd.mk (T'' := [(0, _), (3, _), (4, _), (5, _)]) ⟨rfl, rfl, rfl, rfl, trivial⟩ ?_
            refine ⟨l.length - (c + (j + 1)), by omega, i + 1, j + 1, X.set i l[c + j], ⟨by omega, by omega, rfl, by omega, by simp [hX], ?_, ?_⟩, by simp, rfl⟩
            · have hd2 := dd_step (l := l) (k := c + j) (by omega) hjl
              rw [if_neg (by simpa using c44)] at hd2
              rw [show c + (j + 1) = c + j + 1 from by omega, hd2, ← hx, List.take_add_one, List.take_set_of_le (Nat.le_refl _)]
              simp [hX, show i < l.length from by omega]
            · rw [List.drop_set_of_lt (by omega)]
              have := congrArg (List.drop 1) hdr
              rw [List.drop_drop, List.drop_drop] at this
              rwa [show c + j - 1 + 1 = c + (j + 1) - 1 from by omega] at this
          · try simp only [decide_eq_true_eq, decide_eq_false_iff_not, beq_iff_eq, bne_iff_ne, beq_eq_false_iff_ne, bne_eq_false_iff_eq, Bool.not_eq_true', Bool.not_eq_false', Bool.not_eq_true, ne_eq, Decidable.not_not] at c44
            refine PW.skip ?_
            refine hK8 _ _ ?_
            refine PW.keep (T' := [(0, _), (3, _), (4, _), (5, _)]) ⟨rfl, rfl, rfl, rfl, trivial⟩ ?_
            refine PW.ops ?_
            refine OL.det trivial (Yields.pure rfl) ?_
            refine OL.det trivial (Yields.add64 rfl rfl (by omega) (by omega)) ?_
            refine OL.det trivial (Yields.pure rfl) ?_
            refine OL.nil ?_
            repeat rw [inBlk_n]
            rw [thenK_n]
            refine LoopEnd.mk (T'' := [(0, _), (3, _), (4, _), (5, _)]) ⟨rfl, rfl, rfl, rfl, trivial⟩ ?_
            refine ⟨l.length - (c + (j + 1)), by omega, i, j + 1, X, ⟨by omega, by omega, rfl, by omega, hX, ?_, ?_⟩, by simp, rfl⟩
            · have hd2 := dd_step (l := l) (k := c + j) (by omega) hjl
              rw [if_pos (by simpa using c44)] at hd2
              rw [show c + (j + 1) = c + j + 1 from by omega, hd2, ← hx]
            · have := congrArg (List.drop 1) hdr
              rw [List.drop_drop, List.drop_drop] at this
              rwa [show c + j - 1 + 1 = c + (j + 1) - 1 from by omega] at this
        · try simp only [decide_eq_true_eq, decide_eq_false_iff_not, beq_iff_eq, bne_iff_ne, beq_eq_false_iff_ne, bne_eq_false_iff_eq, Bool.not_eq_true', Bool.not_eq_false', Bool.not_eq_true, ne_eq, Decidable.not_not] at c32
          refine PW.exit ?_
          refine hK6 _ _ ?_
          refine PW.keep (T' := [(0, _), (3, _)]) ⟨rfl, rfl, trivial⟩ ?_
          refine PW.seqOps ?_
          refine OL.det trivial (Yields.pure rfl) ?_
          refine OL.det trivial (Yields.pure rfl) ?_
          refine OL.det trivial (Yields.to (v' := .slice (some ⟨r, i * 2, none⟩) (l.length - i) (cap - i)) (Yields.slS (l := i) (h := l.length) rfl rfl rfl (.inl rfl) (.inr ⟨rfl, rfl⟩) (by omega) (by omega)) (by unfold cutV; rw [if_neg (by omega)]; simp [Addr.add_lit])) ?_
          refine OL.cons trivial (OW.clr (k := 0) (c := labs X) (news := labs (List.replicate (l.length - i) lab0)) rfl rfl (by omega) (by decide) (by rw [labs_rep]; rfl) (by rw [labs_len, labs_len]; simp; omega) (labs_one _)) ?_
          rintro _ _ ⟨rfl, rfl⟩
          change OL _ _ _ _ _ ([(r, .cells (setAt (labs X) (i * 2) (labs (List.replicate (l.length - i) lab0))) 24 (cap * 2))] :: S) _
          rw [labs_tail (by omega)]
          refine OL.nil ?_
          refine PW.keep (T' := [(0, _), (3, _)]) ⟨rfl, rfl, trivial⟩ ?_
          refine PW.seqOps ?_
          refine OL.det trivial (Yields.pure rfl) ?_
          refine OL.det trivial (Yields.pure rfl) ?_
          refine OL.det trivial (Yields.slS (l := 0) (h := i) rfl rfl rfl (.inr ⟨rfl, rfl⟩) (.inl rfl) (by omega) (by omega)) ?_
          refine OL.det trivial (Yields.pure rfl) ?_
          refine OL.nil ?_
          refine PW.keep (T' := [(2, _)]) ⟨rfl, trivial⟩ ?_
          refine PW.ret ?_
          change (Exit.ret = Exit.normal ∨ Exit.ret = Exit.ret) ∧ ∃ v, resV _ _ = some v ∧ _
          have hcj : c + j = l.length := by omega
          rw [hcj, List.take_length] at hx
          have hil : i = (dd l).length := by rw [← hx, List.length_take]; omega
          have hil2 : (X.take i ++ List.replicate (l.length - i) lab0).length = l.length := by simp; omega
          refine ⟨.inr rfl, _, rfl, X.take i ++ List.replicate (l.length - i) lab0, ?_, rfl, ?_, hil2⟩
          · rw [← hil, cutV0]
          · rw [← hil, List.take_left' (by simp; omega)]; exact hx
      · try simp only [decide_eq_true_eq, decide_eq_false_iff_not, beq_iff_eq, bne_iff_ne, beq_eq_false_iff_ne, bne_eq_false_iff_eq, Bool.not_eq_true', Bool.not_eq_false', Bool.not_eq_true, ne_eq, Decidable.not_not] at c25
        refine PW.skip ?_
        refine hK4 _ _ ?_
        refine PW.keep (T' := [(0, _), (3, _)]) ⟨rfl, rfl, trivial⟩ ?_
        refine PW.ops ?_
        refine OL.det trivial (Yields.pure rfl) ?_
        refine OL.det trivial (Yields.add64 rfl rfl (by omega) (by omega)) ?_
        refine OL.det trivial (Yields.pure rfl) ?_
        refine OL.nil ?_
        repeat rw [inBlk_n]
        rw [thenK_n]
        refine LoopEnd.mk (T'' := [(0, _), (3, _)]) ⟨rfl, rfl, trivial⟩ ?_
        refine ⟨l.length - (k + 1), by omega, k + 1, ⟨by omega, by omega, rfl, ?_⟩, rfl, rfl⟩
        rw [dd_step (by omega) hkl, if_neg (by simpa using c25), hd, ← take_snoc hkl]
    · try simp only [decide_eq_true_eq, decide_eq_false_iff_not, beq_iff_eq, bne_iff_ne, beq_eq_false_iff_ne, bne_eq_false_iff_eq, Bool.not_eq_true', Bool.not_eq_false', Bool.not_eq_true, ne_eq, Decidable.not_not] at c13
      refine PW.exit ?_
      refine hK2 _ _ ?_
      refine PW.keep (T' := [(0, _)]) ⟨rfl, trivial⟩ ?_
      refine PW.seqOps ?_
      refine OL.det trivial (Yields.pure rfl) ?_
      refine OL.det trivial (Yields.pure rfl) ?_
      refine OL.nil ?_
      refine PW.keep (T' := [(2, _)]) ⟨rfl, trivial⟩ ?_
      refine PW.ret ?_
      change (Exit.ret = Exit.normal ∨ Exit.ret = Exit.ret) ∧ ∃ v, resV _ _ = some v ∧ _
      obtain rfl : k = l.length := by omega
      rw [List.take_length] at hd
      rw [hd]
      exact ⟨.inr rfl, _, rfl, l, rfl, rfl, List.take_length, rfl⟩

end Go.Proofs
