/- Walks. -/
import Derived.Test.YtbidjnjbiibdeaaGreatDoorPart3
import Derived.Shelf.Strconv.Itoa3
import Derived.Ground.NamesProg
import Derived.Lib.AppendIntMem
import Derived.Test.YtbidjnjbiibdeaaGreatDoorChecked
import Derived.Lib.UnsafeStr
import Derived.Shelf.Strings.Builder1
import Derived.Lib.MakeNoZero
set_option linter.unusedVariables false
set_option linter.unusedSimpArgs false
set_option linter.unusedSectionVars false

namespace Go.Proofs.Lb
open Go.SL Go.RowKit Go.Proofs
set_option maxHeartbeats 1000000
def ddS (acc : List LabB) (x : LabB) : List LabB := if acc.getLast? = some x then acc else acc ++ [x]
def dd (l : List LabB) : List LabB := l.foldl ddS []
theorem dd_snoc (l : List LabB) (a : LabB) : dd (l ++ [a]) = if (dd l).getLast? = some a then dd l else dd l ++ [a] := by
 unfold dd; rw [List.foldl_append]; rfl
theorem dd_take {l : List LabB} {k : Nat} (hk : k < l.length) : dd (l.take (k + 1)) = if (dd (l.take k)).getLast? = some l[k] then dd (l.take k) else dd (l.take k) ++ [l[k]] := by
 rw [List.take_add_one, List.getElem?_eq_getElem hk, <- dd_snoc]; rfl
theorem dd_last {l : List LabB} {k : Nat} (hk : k < l.length) : (dd (l.take (k + 1))).getLast? = some l[k] := by
 rw [dd_take hk]
 split
 ·assumption
 simp
theorem dd_len : ∀ {l : List LabB} (k : Nat), k <= l.length -> (dd (l.take k)).length <= k
 | l, 0, _ => by simp [dd]
 | l, k + 1, h => by
  rw [dd_take (by omega)]
  have := dd_len (l := l) k (by omega)
  split <;> simp <;> omega
theorem dd_step {l : List LabB} {k : Nat} (h0 : 0 < k) (hk : k < l.length) : dd (l.take (k + 1)) = if l[k] = l[k - 1] then dd (l.take k) else dd (l.take k) ++ [l[k]] := by
 obtain ⟨j, rfl⟩ : ∃ j, k = j + 1 := ⟨k - 1, by omega⟩
 rw [dd_take hk, dd_last (by omega)]
 simp only [Option.some.injEq, Nat.add_sub_cancel]
 by_cases h : l[j] = l[j + 1]
 ·rw [if_pos h, if_pos h.symm]
 rw [if_neg h, if_neg (Ne.symm h)]
theorem labs_set {X : List LabB} {i : Nat} (hi : i < X.length) (a : LabB) : setAt (labs X) (i * 2) [.int .i64 a.1, .int .u64 (a.2.toNat : Int)] = labs (X.set i a) := by
 rw [setAt_eq _ _ _ (by rw [labs_len]; simp; omega)]
 have e : X.set i a = X.take i ++ a :: X.drop (i + 1) := by rw [List.set_eq_take_append_cons_drop, if_pos hi]
 have e1 : ∀ j, j <= X.length -> (labs X).take (j * 2) = labs (X.take j) /\ (labs X).drop (j * 2) = labs (X.drop j) := by
  intro j hj
  have : labs X = labs (X.take j) ++ labs (X.drop j) := by unfold labs; rw [<- List.flatMap_append, List.take_append_drop]
  have hl : (labs (X.take j)).length = j * 2 := by rw [labs_len, List.length_take]; omega
  constructor
  ·rw [this, <- hl, List.take_left]
  rw [this, <- hl, List.drop_left]
 rw [e, (e1 i (by omega)).1, show i * 2 + [Value.int .i64 a.1, .int .u64 (a.2.toNat : Int)].length = (i + 1) * 2 from by simp; omega, (e1 (i + 1) (by omega)).2]
 unfold labs
 rw [List.flatMap_append, List.flatMap_cons]
 simp [labC]
theorem labs_tail {X : List LabB} {i q : Nat} (hi : i + q = X.length) {z : LabB} : setAt (labs X) (i * 2) (labs (List.replicate q z)) = labs (X.take i ++ List.replicate q z) := by
 rw [setAt_eq _ _ _ (by rw [labs_len, labs_len]; simp; omega)]
 have : labs X = labs (X.take i) ++ labs (X.drop i) := by unfold labs; rw [<- List.flatMap_append, List.take_append_drop]
 have hl : (labs (X.take i)).length = i * 2 := by rw [labs_len, List.length_take]; omega
 have h1 : (labs X).take (i * 2) = labs (X.take i) := by rw [this, <- hl, List.take_left]
 rw [h1, List.drop_of_length_le (by rw [labs_len, labs_len]; simp; omega)]
 unfold labs
 rw [List.flatMap_append, List.append_nil]
def lab0 : LabB := (0, 0)
theorem labs_rep (q : Nat) : labs (List.replicate q lab0) = madeL [.int .i64 0, .int .u64 0] (q * 2) := by
 have hl : ∀ q, (labs (List.replicate q lab0)).length = q * 2 := fun q => by rw [labs_len]; simp
 unfold madeL
 apply List.ext_getElem?
 intro t
 by_cases h : t < q * 2
 ·have h1 := labs_get (l := List.replicate q lab0) (k := t / 2) (by simp; omega) (j := t % 2) (by omega)
  rw [show t / 2 * 2 + t % 2 = t from by omega] at h1
  rw [h1]
  simp only [List.getElem_replicate]
  rw [List.getElem?_map, List.getElem?_range h]
  rcases (by omega : t % 2 = 0 ∨ t % 2 = 1) with e | e <;> simp [e, labC, lab0]
 rw [List.getElem?_eq_none (by rw [hl]; omega), List.getElem?_eq_none (by simp; omega)]
theorem drop_get {X l : List LabB} {p q : Nat} (hd : X.drop p = l.drop p) (hpq : p <= q) : X[q]? = l[q]? := by
 have := congrArg (·[q - p]?) hd
 simp only [List.getElem?_drop] at this
 rwa [show p + (q - p) = q from by omega] at this
theorem lab_off {w0 : World} {S : SS} {r c j : Nat} {X : List LabB} (h : Rd w0 S (some ⟨r, 0, none⟩) (labs X)) (hk : c + j < X.length) {a : LabB} (ha : X[c + j]? = some a) :
  ∀ (jj : Nat) (v : Value), [Value.int .i64 a.1, .int .u64 (a.2.toNat : Int)][jj]? = some v -> Cell w0 S (((⟨r, c * 2, none⟩ : Addr).add (j * 2)).add jj) v := by
 obtain rfl : X[c + j] = a := by rw [List.getElem?_eq_getElem hk] at ha; exact Option.some.inj ha
 have := labs_at h hk
 have e : (⟨r, c * 2, none⟩ : Addr).add (j * 2) = (⟨r, 0, none⟩ : Addr).add ((c + j) * 2) := by
  rw [Addr.add_lit, Addr.add_lit]; congr 1; omega
 rw [e]; exact this
def Cut (v : Value) (n : Nat) (l : List LabB) (seg : Seg) : Prop := (v = .slice none 0 0 /\ n = 0 /\ l = [] /\ seg = []) ∨ ∃ r cap, v = .slice (some ⟨r, 0, none⟩) n cap /\ seg = [(r, .cells (labs l) 34 (cap * 2))] /\ n <= l.length /\ l.length <= cap /\ cap <= maxLen
theorem take_snoc {l : List LabB} {k : Nat} (hk : k < l.length) : l.take (k + 1) = l.take k ++ [l[k]] := by
 rw [List.take_add_one, List.getElem?_eq_getElem hk]; rfl
theorem compact_own {w0 : World} {S : SS} {r cap : Nat} {l : List LabB} (hb : l.length <= 1000000000000) (hc : l.length <= cap) :
  FC Tryz.prog w0 45 [.slice (some ⟨r, 0, none⟩) l.length cap] ([(r, .cells (labs l) 34 (cap * 2))] :: S) (fun v S' => ∃ l', v = .slice (some ⟨r, 0, none⟩) (dd l).length cap /\ S' = [(r, .cells (labs l') 34 (cap * 2))] :: S /\ l'.take (dd l).length = dd l /\ l'.length = l.length) := by
 refine FC.of Tryz.known45 (by simp) ?_
 unfold Tryz.pc45
 simp only [argT]
 refine PW.seqOps (OL.dp rfl (OL.nil (PW.k1 0 rfl ?_)))
 refine PW.seq fun K1 hK1 => ?_
 refine PW.seqOps (OL.dp rfl (OL.dp rfl (OL.dp rfl (OL.nil (PW.k2 0 8 rfl ?_)))))
 refine PW.cond rfl (fun c8 => ?_) (fun c8 => ?_)
 ·try simp only [decide_eq_true_eq, decide_eq_false_iff_not, beq_iff_eq, bne_iff_ne, beq_eq_false_iff_ne, bne_eq_false_iff_eq, Bool.not_eq_true', Bool.not_eq_false', Bool.not_eq_true, ne_eq, Decidable.not_not] at c8
  refine PW.seqOps (OL.dp rfl (OL.dp rfl (OL.nil (PW.k1 2 rfl (PW.ret ?_)))))
  change (Exit.ret = Exit.normal ∨ Exit.ret = Exit.ret) /\ ∃ v, resV _ _ = some v /\ _
  have hd : dd l = l := by
   match l, c8 with
   | [], _ => rfl
   | [x], _ => rfl
   | _ :: _ :: _, h => simp at h; omega
  rw [hd]
  exact ⟨.inr rfl, _, rfl, l, rfl, rfl, List.take_length, rfl⟩
 try simp only [decide_eq_true_eq, decide_eq_false_iff_not, beq_iff_eq, bne_iff_ne, beq_eq_false_iff_ne, bne_eq_false_iff_eq, Bool.not_eq_true', Bool.not_eq_false', Bool.not_eq_true, ne_eq, Decidable.not_not] at c8
 refine PW.skip (hK1 _ _ (PW.k1 0 rfl ?_))
 refine PW.seq fun K2 hK2 => ?_
 refine PW.seqOps (OL.dp rfl (OL.nil (PW.k2 0 3 rfl (PW.block (PW.k2 0 3 rfl ?_)))))
 refine PW.loopK (I := fun m T S' => ∃ (k : Nat), (1 <= k /\ k <= l.length /\ m = l.length - k /\ dd (l.take k) = l.take k) /\ T = ([(0, .slice (some ⟨r, 0, none⟩) l.length cap), (3, .int .i64 k)] : TT) /\ S' = [(r, .cells (labs l) 34 (cap * 2))] :: S) (m := l.length - 1) ⟨1, ⟨by omega, by omega, rfl, by
 match l, c8 with
 | [], h => simp at h
 | x :: l, _ => rfl⟩, rfl, rfl⟩ ?_
 rintro m _ _ ⟨k, ⟨h1, hk, hm, hd⟩, rfl, rfl⟩
 refine PW.seq fun K3 hK3 => ?_
 refine PW.seqOps (OL.dp rfl (OL.dp rfl (OL.dp rfl (OL.dp rfl (OL.nil (PW.k3 0 3 13 rfl ?_))))))
 refine PW.cond rfl (fun c13 => ?_) (fun c13 => ?_)
 ·try simp only [decide_eq_true_eq, decide_eq_false_iff_not, beq_iff_eq, bne_iff_ne, beq_eq_false_iff_ne, bne_eq_false_iff_eq, Bool.not_eq_true', Bool.not_eq_false', Bool.not_eq_true, ne_eq, Decidable.not_not] at c13
  have hkl : k < l.length := by omega
  refine PW.skip (hK3 _ _ (PW.k2 0 3 rfl ?_))
  refine PW.seq fun K4 hK4 => ?_
  refine PW.block ?_
  refine PW.seq fun K5 hK5 => ?_
  refine PW.quietK Tryz.mixed (QK.dp rfl (QK.dp rfl ?_))
  refine QK.det trivial (.ixN rfl rfl rfl (by omega)) ?_
  refine QK.det trivial (.ldA rfl rfl (labs_at (Rd.own (E := 34) (tot := cap * 2) (List.mem_flatten.2 ⟨_, List.mem_cons_self .., List.mem_cons_self ..⟩)) hkl)) (QK.dp rfl (QK.dp rfl ?_))
  refine QK.det trivial (.sub64 rfl rfl (by omega) (by omega)) ?_
  refine QK.det trivial (.ixN rfl rfl (show (k : Int) - 1 = ((k - 1 : Nat) : Int) from by omega) (by omega)) ?_
  refine QK.det trivial (.ldA rfl rfl (labs_at (Rd.own (E := 34) (tot := cap * 2) (List.mem_flatten.2 ⟨_, List.mem_cons_self .., List.mem_cons_self ..⟩)) (show k - 1 < l.length from by omega))) ?_
  refine QK.nil ?_
  change OL _ _ _ [_] _ _ _
  refine OL.det trivial (Yields.eqA rfl rfl (eq_lab l[k] l[k - 1])) (OL.nil (hK5 _ _ (PW.k3 0 3 25 rfl ?_)))
  refine PW.cond rfl (fun c25 => ?_) (fun c25 => ?_)
  ·try simp only [decide_eq_true_eq, decide_eq_false_iff_not, beq_iff_eq, bne_iff_ne, beq_eq_false_iff_ne, bne_eq_false_iff_eq, Bool.not_eq_true', Bool.not_eq_false', Bool.not_eq_true, ne_eq, Decidable.not_not] at c25
   have hdup : l[k] = l[k - 1] := by simpa using c25
   clear c25
   generalize hc0 : k = c at *
   clear hc0
   refine PW.seqOps (OL.dp rfl (OL.dp rfl ?_))
   refine OL.det trivial (.to (v' := .slice (some ⟨r, c * 2, none⟩) (l.length - c) (cap - c)) (Yields.slS (l := c) (h := l.length) rfl rfl rfl (.inl rfl) (.inr ⟨rfl, rfl⟩) (by omega) (by omega)) (by unfold cutV; rw [if_neg (by omega)]; simp [Addr.add_lit])) ?_
   refine OL.dp rfl (OL.nil (PW.k3 0 3 4 rfl ?_))
   refine PW.seq fun K6 hK6 => ?_
   refine PW.seqOps (OL.dp rfl (OL.nil (PW.k4 0 3 4 5 rfl (PW.block (PW.k4 0 3 4 5 rfl ?_)))))
   refine PW.loopK (I := fun m T S' => ∃ (i j : Nat) (X : List LabB), (1 <= j /\ c + j <= l.length /\ m = l.length - (c + j) /\ i + 1 <= c + j /\ X.length = l.length /\ X.take i = dd (l.take (c + j)) /\ X.drop (c + j - 1) = l.drop (c + j - 1)) /\ T = ([(0, .slice (some ⟨r, 0, none⟩) l.length cap), (3, .int .i64 i), (4, .slice (some ⟨r, c * 2, none⟩) (l.length - c) (cap - c)), (5, .int .i64 j)] : TT) /\ S' = [(r, .cells (labs X) 34 (cap * 2))] :: S) (m := l.length - (c + 1)) ⟨c, 1, l, ⟨by omega, by omega, rfl, by omega, rfl, by rw [dd_step (by omega) hkl, if_pos hdup, hd], rfl⟩, rfl, rfl⟩ ?_
   rintro m _ _ ⟨i, j, X, ⟨h1j, hcj, hm, hi, hX, hx, hdr⟩, rfl, rfl⟩
   refine PW.seq fun K7 hK7 => ?_
   refine PW.seqOps (OL.dp rfl (OL.dp rfl (OL.dp rfl (OL.dp rfl (OL.nil (PW.k5 0 3 4 5 32 rfl ?_))))))
   refine PW.cond rfl (fun c32 => ?_) (fun c32 => ?_)
   ·try simp only [decide_eq_true_eq, decide_eq_false_iff_not, beq_iff_eq, bne_iff_ne, beq_eq_false_iff_ne, bne_eq_false_iff_eq, Bool.not_eq_true', Bool.not_eq_false', Bool.not_eq_true, ne_eq, Decidable.not_not] at c32
    have hjl : c + j < l.length := by omega
    have hp1 : X[c + j]? = some l[c + j] := by rw [drop_get hdr (by omega)]; exact List.getElem?_eq_getElem hjl
    have hp2 : X[c + (j - 1)]? = some (l[c + j - 1]) := by rw [drop_get hdr (by omega), show c + (j - 1) = c + j - 1 from by omega]; exact List.getElem?_eq_getElem (by omega)
    refine PW.skip (hK7 _ _ (PW.k4 0 3 4 5 rfl ?_))
    refine PW.seq fun K8 hK8 => ?_
    refine PW.block ?_
    refine PW.seq fun K9 hK9 => ?_
    refine PW.quietK Tryz.mixed (QK.dp rfl (QK.dp rfl ?_))
    refine QK.det trivial (.ixN rfl rfl rfl (by omega)) ?_
    refine QK.det trivial (.ldA rfl rfl (lab_off (Rd.own (E := 34) (tot := cap * 2) (List.mem_flatten.2 ⟨_, List.mem_cons_self .., List.mem_cons_self ..⟩)) (by omega) hp1)) ?_
    refine QK.dp rfl (QK.dp rfl ?_)
    refine QK.det trivial (.sub64 rfl rfl (by omega) (by omega)) ?_
    refine QK.det trivial (.ixN rfl rfl (show (j : Int) - 1 = ((j - 1 : Nat) : Int) from by omega) (by omega)) ?_
    refine QK.det trivial (.ldA rfl rfl (lab_off (Rd.own (E := 34) (tot := cap * 2) (List.mem_flatten.2 ⟨_, List.mem_cons_self .., List.mem_cons_self ..⟩)) (by omega) hp2)) ?_
    refine QK.nil ?_
    change OL _ _ _ [_] _ _ _
    refine OL.det trivial (Yields.eqA rfl rfl (eq_lab l[c + j] l[c + j - 1])) (OL.nil (hK9 _ _ (PW.k5 0 3 4 5 44 rfl ?_)))
    refine PW.cond rfl (fun c44 => ?_) (fun c44 => ?_)
    ·try simp only [decide_eq_true_eq, decide_eq_false_iff_not, beq_iff_eq, bne_iff_ne, beq_eq_false_iff_ne, bne_eq_false_iff_eq, Bool.not_eq_true', Bool.not_eq_false', Bool.not_eq_true, ne_eq, Decidable.not_not] at c44
     refine PW.seqOps (OL.dp rfl (OL.dp rfl (OL.dp rfl (OL.dp rfl ?_))))
     refine OL.det trivial (.ixN rfl rfl rfl (by omega)) ?_
     refine OL.det trivial (.ldA rfl rfl (lab_off (Rd.own (E := 34) (tot := cap * 2) (List.mem_flatten.2 ⟨_, List.mem_cons_self .., List.mem_cons_self ..⟩)) (by omega) hp1)) ?_
     refine OL.det trivial (Yields.ixO rfl rfl rfl (by omega)) ?_
     refine OL.cons trivial (OW.st (k := 0) (u := labB l[c + j]) rfl rfl rfl rfl (by show i * 2 + 2 <= (labs X).length; rw [labs_len]; omega) rfl) ?_
     rintro _ _ rfl
     change OL _ _ _ _ _ ([(r, .cells (setAt (labs X) (i * 2) [.int .i64 l[c + j].1, .int .u64 (l[c + j].2.toNat : Int)]) 34 (cap * 2))] :: S) _
     rw [labs_set (by omega)]
     refine OL.nil (PW.k4 0 3 4 5 rfl (PW.ops (OL.dp rfl ?_)))
     refine OL.det trivial (.add64 rfl rfl (by omega) (by omega)) ?_
     refine OL.dp rfl (OL.nil (hK8 _ _ (PW.k4 0 3 4 5 rfl (PW.ops (OL.dp rfl ?_)))))
     refine OL.det trivial (.add64 rfl rfl (by omega) (by omega)) ?_
     refine OL.dp rfl (OL.nil ?_)
     repeat rw [inBlk_n]
     try rw [thenK_n]
     refine LoopEnd.mk (T'' := [(0, _), (3, _), (4, _), (5, _)]) (wi rfl) ?_
     refine ⟨l.length - (c + (j + 1)), by omega, i + 1, j + 1, X.set i l[c + j], ⟨by omega, by omega, rfl, by omega, by simp [hX], ?_, ?_⟩, by simp, rfl⟩
     ·have hd2 := dd_step (l := l) (k := c + j) (by omega) hjl
      rw [if_neg (by simpa using c44)] at hd2
      rw [show c + (j + 1) = c + j + 1 from by omega, hd2, <- hx, List.take_add_one, List.take_set_of_le (Nat.le_refl _)]
      simp [hX, show i < l.length from by omega]
     rw [List.drop_set_of_lt (by omega)]
     have := congrArg (List.drop 1) hdr
     rw [List.drop_drop, List.drop_drop] at this
     rwa [show c + j - 1 + 1 = c + (j + 1) - 1 from by omega] at this
    try simp only [decide_eq_true_eq, decide_eq_false_iff_not, beq_iff_eq, bne_iff_ne, beq_eq_false_iff_ne, bne_eq_false_iff_eq, Bool.not_eq_true', Bool.not_eq_false', Bool.not_eq_true, ne_eq, Decidable.not_not] at c44
    refine PW.skip (hK8 _ _ (PW.k4 0 3 4 5 rfl (PW.ops (OL.dp rfl ?_))))
    refine OL.det trivial (.add64 rfl rfl (by omega) (by omega)) ?_
    refine OL.dp rfl (OL.nil ?_)
    repeat rw [inBlk_n]
    try rw [thenK_n]
    refine LoopEnd.mk (T'' := [(0, _), (3, _), (4, _), (5, _)]) (wi rfl) ?_
    refine ⟨l.length - (c + (j + 1)), by omega, i, j + 1, X, ⟨by omega, by omega, rfl, by omega, hX, ?_, ?_⟩, by simp, rfl⟩
    ·have hd2 := dd_step (l := l) (k := c + j) (by omega) hjl
     rw [if_pos (by simpa using c44)] at hd2
     rw [show c + (j + 1) = c + j + 1 from by omega, hd2, <- hx]
    have := congrArg (List.drop 1) hdr
    rw [List.drop_drop, List.drop_drop] at this
    rwa [show c + j - 1 + 1 = c + (j + 1) - 1 from by omega] at this
   try simp only [decide_eq_true_eq, decide_eq_false_iff_not, beq_iff_eq, bne_iff_ne, beq_eq_false_iff_ne, bne_eq_false_iff_eq, Bool.not_eq_true', Bool.not_eq_false', Bool.not_eq_true, ne_eq, Decidable.not_not] at c32
   refine PW.exit (hK6 _ _ (PW.k2 0 3 rfl (PW.seqOps (OL.dp rfl (OL.dp rfl ?_)))))
   refine OL.det trivial (.to (v' := .slice (some ⟨r, i * 2, none⟩) (l.length - i) (cap - i)) (Yields.slS (l := i) (h := l.length) rfl rfl rfl (.inl rfl) (.inr ⟨rfl, rfl⟩) (by omega) (by omega)) (by unfold cutV; rw [if_neg (by omega)]; simp [Addr.add_lit])) ?_
   refine OL.cons trivial (OW.clr (k := 0) (c := labs X) (news := labs (List.replicate (l.length - i) lab0)) rfl rfl (by omega) (by decide) (by rw [labs_rep]; rfl) (by rw [labs_len, labs_len]; simp; omega) (labs_one _)) ?_
   rintro _ _ ⟨rfl, rfl⟩
   change OL _ _ _ _ _ ([(r, .cells (setAt (labs X) (i * 2) (labs (List.replicate (l.length - i) lab0))) 34 (cap * 2))] :: S) _
   rw [labs_tail (by omega)]
   refine OL.nil (PW.k2 0 3 rfl (PW.seqOps (OL.dp rfl (OL.dp rfl ?_))))
   refine OL.det trivial (.slS (l := 0) (h := i) rfl rfl rfl (.inr ⟨rfl, rfl⟩) (.inl rfl) (by omega) (by omega)) ?_
   refine OL.dp rfl (OL.nil (PW.k1 2 rfl (PW.ret ?_)))
   change (Exit.ret = Exit.normal ∨ Exit.ret = Exit.ret) /\ ∃ v, resV _ _ = some v /\ _
   have hcj : c + j = l.length := by omega
   rw [hcj, List.take_length] at hx
   have hil : i = (dd l).length := by rw [<- hx, List.length_take]; omega
   have hil2 : (X.take i ++ List.replicate (l.length - i) lab0).length = l.length := by simp; omega
   refine ⟨.inr rfl, _, rfl, X.take i ++ List.replicate (l.length - i) lab0, ?_, rfl, ?_, hil2⟩
   ·rw [<- hil, cutV0]
   rw [<- hil, List.take_left' (by simp; omega)]; exact hx
  try simp only [decide_eq_true_eq, decide_eq_false_iff_not, beq_iff_eq, bne_iff_ne, beq_eq_false_iff_ne, bne_eq_false_iff_eq, Bool.not_eq_true', Bool.not_eq_false', Bool.not_eq_true, ne_eq, Decidable.not_not] at c25
  refine PW.skip (hK4 _ _ (PW.k2 0 3 rfl (PW.ops (OL.dp rfl ?_))))
  refine OL.det trivial (.add64 rfl rfl (by omega) (by omega)) ?_
  refine OL.dp rfl (OL.nil ?_)
  repeat rw [inBlk_n]
  try rw [thenK_n]
  refine LoopEnd.mk (T'' := [(0, _), (3, _)]) (wi rfl) ?_
  refine ⟨l.length - (k + 1), by omega, k + 1, ⟨by omega, by omega, rfl, ?_⟩, rfl, rfl⟩
  rw [dd_step (by omega) hkl, if_neg (by simpa using c25), hd, <- take_snoc hkl]
 try simp only [decide_eq_true_eq, decide_eq_false_iff_not, beq_iff_eq, bne_iff_ne, beq_eq_false_iff_ne, bne_eq_false_iff_eq, Bool.not_eq_true', Bool.not_eq_false', Bool.not_eq_true, ne_eq, Decidable.not_not] at c13
 refine PW.exit (hK2 _ _ (PW.k1 0 rfl (PW.seqOps (OL.dp rfl (OL.dp rfl (OL.nil (PW.k1 2 rfl (PW.ret ?_))))))))
 change (Exit.ret = Exit.normal ∨ Exit.ret = Exit.ret) /\ ∃ v, resV _ _ = some v /\ _
 obtain rfl : k = l.length := by omega
 rw [List.take_length] at hd
 rw [hd]
 exact ⟨.inr rfl, _, rfl, l, rfl, rfl, List.take_length, rfl⟩
theorem slv_rdL {w0 : World} {E sz m : Nat} {v : Value} {xs : List Value} {seg : Seg} (hv : SlV E sz v m xs seg) : ∃ A cap, v = .slice A m cap /\ (A = none -> cap = 0) /\ m <= cap /\ ∀ S, Rd w0 (seg :: S) A xs := by
 obtain ⟨hl, ⟨rfl, rfl, rfl⟩ | ⟨r, cap, rfl, rfl, h1, h2⟩⟩ := hv
 ·have : xs = [] := List.eq_nil_of_length_eq_zero (by simpa using hl)
  subst this
  exact ⟨none, 0, rfl, fun _ => rfl, Nat.le_refl _, fun _ => Rd.nil⟩
 exact ⟨_, cap, rfl, (fun h => nomatch h), h1, fun S => Rd.own (List.mem_flatten.2 ⟨_, List.mem_cons_self .., List.mem_singleton.2 rfl⟩)⟩
theorem OW_appL {P : Program} {w0 : World} {n : Nat} {T : TT} {S : SS} {t E m q c k : Nat} {z v : Value} {s x : PV} {A : Option Addr} {xs : List Value} {l : List LabB} {seg : Seg} (hs' : s.val T = some v) (hk : S[k]? = some seg) (hv : SlV E 2 v m xs seg)
  (hx : x.val T = some (.slice A q c)) (hq : l.length = q) (hrd : Rd w0 S A (labs l)) (hc : A = none -> c = 0) (hb : m + q <= 1000000000000) :
  OW P w0 n (.app t E 2 16 z s x) T S (fun v' S' => ∃ seg', S' = S.set k seg' /\ SlV E 2 v' (m + q) (xs ++ labs l) seg') := by
 cases A with
 | none =>
  obtain rfl := hc rfl
  have : l = [] := by
   cases l with
   | nil => rfl
   | cons b l => obtain ⟨_, e⟩ := labs_some hrd (by simp); cases e
  subst this
  subst hq
  have := OW.of_yields (OW.app_none (P := P) (w0 := w0) (n := n) (t := t) (bytes := 16) (z := z) hs' hk hv hx)
  refine this.mono ?_
  rintro v' S' ⟨rfl, rfl⟩
  refine ⟨seg, ?_, by simpa [labs] using hv⟩
  obtain ⟨A, R, rfl, rfl⟩ := split_at hk
  exact (set_at rfl).symm
 | some a =>
  exact OW.app hs' hk hv hx (by rw [labs_len, hq]) (fun j u hj => hrd.at hj) (labs_one l) (by omega) (by unfold maxLen; omega)
theorem labs_app (a b : List LabB) : labs (a ++ b) = labs a ++ labs b := by unfold labs; rw [List.flatMap_append]
theorem cut_rd {w0 : World} {S : SS} {A : Option Addr} {cap i : Nat} {l : List LabB} (h : Rd w0 S A (labs l)) (hi : i <= l.length) (hc : A = none -> cap = 0) (hl : l.length <= cap) :
  ∃ A' c', cutV A cap 2 i l.length = .slice A' (l.drop i).length c' /\ Rd w0 S A' (labs (l.drop i)) /\ (A' = none -> c' = 0) := by
 unfold cutV
 rw [List.length_drop]
 split
 ·rename_i e
  exact ⟨A, cap - i, rfl, by rw [List.drop_of_length_le (by omega)]; exact Rd.nil, fun _ => by omega⟩
 rename_i e
 refine ⟨_, _, rfl, ?_, fun h => ?_⟩
 ·intro j v hj
  have hlt := (List.getElem?_eq_some_iff.1 hj).1
  rw [labs_len, List.length_drop] at hlt
  obtain ⟨a, rfl⟩ := labs_some h (by omega)
  refine ⟨_, rfl, ?_⟩
  rw [addr_add_add]
  refine h.at ?_
  have hd : labs l = labs (l.take i) ++ labs (l.drop i) := by rw [<- labs_app, List.take_append_drop]
  rw [hd, List.getElem?_append_right (by rw [labs_len, List.length_take]; omega), labs_len, List.length_take, show i * 2 + j - min i l.length * 2 = j from by omega]
  exact hj
 cases A with
 | none => rw [hc rfl]; simp
 | some a => cases h
theorem pre_rd {w0 : World} {S : SS} {A : Option Addr} {i : Nat} {l : List LabB} (h : Rd w0 S A (labs l)) : Rd w0 S A (labs (l.take i)) :=
 h.pre (by rw [<- List.take_append_drop i l, labs_app, List.take_append_drop]; exact List.prefix_append _ _)
def insP (a : LabB) : List LabB -> List LabB
 | [] => [a]
 | x :: l => if orZ x a < 0 then x :: insP a l else if x = a then x :: l else a :: x :: l
def refS (l : List LabB) : List LabB := l.foldl (fun acc a => insP a acc) []
theorem refS_take {l : List LabB} {k : Nat} (hk : k < l.length) : refS (l.take (k + 1)) = insP l[k] (refS (l.take k)) := by
 rw [take_snoc hk]; unfold refS; rw [List.foldl_append]; rfl
theorem insP_len (a : LabB) : ∀ l, (insP a l).length <= l.length + 1
 | [] => by simp [insP]
 | x :: l => by
  have := insP_len a l
  unfold insP
  repeat' split
  all_goals simp; try omega
theorem refS_len {l : List LabB} : ∀ (k : Nat), k <= l.length -> (refS (l.take k)).length <= k
 | 0, _ => by simp [refS]
 | k + 1, h => by
  rw [refS_take (by omega)]
  have := refS_len (l := l) k (by omega)
  have := insP_len l[k] (refS (l.take k))
  omega
theorem insP_at (a : LabB) : ∀ (out : List LabB) (i : Nat), i <= out.length -> (∀ x ∈ out.take i, orZ x a < 0) -> (∀ x, out[i]? = some x -> ¬ orZ x a < 0) -> insP a out = if out[i]? = some a then out else out.take i ++ a :: out.drop i
 | [], i, hi, _, _ => by simp [insP]
 | x :: l, 0, hi, _, h2 => by
  have := h2 x rfl
  unfold insP
  rw [if_neg this]
  simp
 | x :: l, i + 1, hi, h1, h2 => by
  unfold insP
  rw [if_pos (h1 x (by simp)), insP_at a l i (by simpa using hi) (fun y hy => h1 y (by simp [hy])) (fun y hy => h2 y (by simpa using hy))]
  simp only [List.getElem?_cons_succ, List.take_succ_cons, List.drop_succ_cons]
  split <;> simp
theorem compact_nil {w0 : World} {S : SS} : FC Tryz.prog w0 45 [.slice none 0 0] S (fun v S' => v = .slice none 0 0 /\ S' = S) := by
 refine FC.of Tryz.known45 (by simp) ?_
 unfold Tryz.pc45
 simp only [argT]
 refine PW.seqOps (OL.dp rfl (OL.nil (PW.k1 0 rfl ?_)))
 refine PW.seq fun K1 hK1 => ?_
 refine PW.seqOps (OL.dp rfl (OL.dp rfl (OL.dp rfl (OL.nil (PW.k2 0 8 rfl ?_)))))
 refine PW.cond rfl (fun c8 => ?_) (fun c8 => ?_)
 ·try simp only [decide_eq_true_eq, decide_eq_false_iff_not, beq_iff_eq, bne_iff_ne, beq_eq_false_iff_ne, bne_eq_false_iff_eq, Bool.not_eq_true', Bool.not_eq_false', Bool.not_eq_true, ne_eq, Decidable.not_not] at c8
  refine PW.seqOps (OL.dp rfl (OL.dp rfl (OL.nil (PW.k1 2 rfl (PW.ret ?_)))))
  change (Exit.ret = Exit.normal ∨ Exit.ret = Exit.ret) /\ ∃ v, resV _ _ = some v /\ _
  exact ⟨.inr rfl, _, rfl, rfl, rfl⟩
 try simp only [decide_eq_true_eq, decide_eq_false_iff_not, beq_iff_eq, bne_iff_ne, beq_eq_false_iff_ne, bne_eq_false_iff_eq, Bool.not_eq_true', Bool.not_eq_false', Bool.not_eq_true, ne_eq, Decidable.not_not] at c8
 exfalso; revert c8; decide
 -- done
theorem compact_fc {w0 : World} {S : SS} {v : Value} {seg : Seg} {l : List LabB} (hv : SlV 34 2 v l.length (labs l) seg) (hb : l.length <= 1000000000000) :
  FC Tryz.prog w0 45 [v] (seg :: S) (fun v' S' => ∃ seg' l', S' = seg' :: S /\ Cut v' (dd l).length l' seg' /\ l'.take (dd l).length = dd l /\ l'.length = l.length) := by
 obtain ⟨hl, ⟨rfl, h0, rfl⟩ | ⟨r, cap, rfl, rfl, h1, h2⟩⟩ := hv
 ·obtain rfl : l = [] := List.length_eq_zero_iff.1 h0
  refine (compact_nil (S := [] :: S)).mono ?_
  rintro v' S' ⟨rfl, rfl⟩
  exact ⟨[], [], rfl, .inl ⟨rfl, rfl, rfl, rfl⟩, rfl, rfl⟩
 refine (compact_own (S := S) hb h1).mono ?_
 rintro v' S' ⟨l', rfl, rfl, h3, h4⟩
 have h5 : (dd l).length <= l'.length := by
  have := dd_len (l := l) l.length (Nat.le_refl _)
  rw [List.take_length] at this
  omega
 exact ⟨_, l', rfl, .inr ⟨r, cap, rfl, rfl, h5, by omega, h2⟩, h3, h4⟩
theorem sortL_len (l : List LabB) : (sortL l).length = l.length := by simp [sortL]
theorem sorted_fc {w0 : World} {S : SS} {A : Option Addr} {c : Nat} {l : List LabB} (hx : Rd w0 S A (labs l)) (hb : l.length <= 1000000000000) :
  FC Tryz.prog w0 26 [.slice A l.length c] S (fun v S' => ∃ seg l', S' = seg :: S /\ Cut v (dd (sortL l)).length l' seg /\ l'.take (dd (sortL l)).length = dd (sortL l) /\ l'.length = l.length) := by
 refine FC.of Tryz.known26 (by simp) ?_
 unfold Tryz.pc26
 simp only [argT]
 refine PW.seqOps (OL.dp rfl (OL.nil (PW.k1 0 rfl (PW.seqOps (OL.dp rfl (OL.call trivial rfl (clone_fc hx hb) ?_))))))
 rintro v5 _ ⟨seg5, rfl, hsl5⟩
 refine OL.dp rfl (OL.nil (PW.k1 3 rfl (PW.seqOps (OL.dp rfl ?_))))
 refine OL.call trivial rfl (sort_fc (k := 0) rfl hsl5 (by omega)) ?_
 rintro _ _ ⟨rfl, seg7, hsl7, rfl⟩
 change OL _ _ _ _ _ (seg7 :: S) _
 rw [<- sortL_len] at hsl7
 refine OL.nil (PW.k1 3 rfl (PW.seqOps (OL.dp rfl ?_)))
 refine OL.call trivial rfl (compact_fc hsl7 (by rw [sortL_len]; omega)) ?_
 rintro v9 _ ⟨seg9, l9, rfl, hcut9, ht9, hl9⟩
 refine OL.dp rfl (OL.nil (PW.k1 2 rfl (PW.ret ?_)))
 change (Exit.ret = Exit.normal ∨ Exit.ret = Exit.ret) /\ ∃ v, resV _ _ = some v /\ _
 exact ⟨.inr rfl, _, rfl, seg9, l9, rfl, hcut9, ht9, by rw [hl9, sortL_len]⟩
theorem rsorted_fc {w0 : World} {S : SS} {B : Option Addr} {c : Nat} {l : List LabB} (hx : Rd w0 S B (labs l)) (hb : l.length <= 100000000000) :
  FC Tryz.prog w0 27 [.slice B l.length c] S (fun v S' => ∃ seg, S' = seg :: S /\ SlV 34 2 v (refS l).length (labs (refS l)) seg) := by
 refine FC.of Tryz.known27 (by simp) ?_
 unfold Tryz.pc27
 simp only [argT]
 refine PW.seqOps (OL.dp rfl (OL.nil (PW.k1 0 rfl (PW.seqOps (OL.dp rfl (OL.nil (PW.k2 0 3 rfl ?_)))))))
 refine PW.seq fun K1 hK1 => ?_
 refine PW.seqOps (OL.nilseg (OL.dp rfl (OL.nil (PW.k3 0 3 4 rfl (PW.block (PW.k3 0 3 4 rfl ?_))))))
 refine PW.loopK (I := fun m T S' => ∃ (k : Nat) (v : Value) (seg : Seg), (k <= l.length /\ m = l.length - k /\ SlV 34 2 v (refS (l.take k)).length (labs (refS (l.take k))) seg) /\ T = ([(0, .slice B l.length c), (3, v), (4, .int .i64 k)] : TT) /\ S' = seg :: S) (m := l.length) ⟨0, _, [], ⟨by omega, by omega, SlV.nil 34 2⟩, rfl, rfl⟩ ?_
 rintro m _ _ ⟨k, v, seg, ⟨hk, hm, hsl⟩, rfl, rfl⟩
 have hrl := refS_len (l := l) k hk
 obtain ⟨A, co, rfl, hA, hlc, hrd⟩ := slv_rdL (w0 := w0) hsl
 refine PW.seq fun K2 hK2 => ?_
 refine PW.seqOps (OL.dp rfl (OL.dp rfl (OL.dp rfl (OL.dp rfl (OL.nil (PW.k4 0 3 4 10 rfl ?_))))))
 refine PW.cond rfl (fun c10 => ?_) (fun c10 => ?_)
 ·try simp only [decide_eq_true_eq, decide_eq_false_iff_not, beq_iff_eq, bne_iff_ne, beq_eq_false_iff_ne, bne_eq_false_iff_eq, Bool.not_eq_true', Bool.not_eq_false', Bool.not_eq_true, ne_eq, Decidable.not_not] at c10
  have hkl : k < l.length := by omega
  obtain ⟨b0, rfl⟩ := labs_some hx (by omega)
  have hx0 : ∀ s, Rd w0 (s :: S) (some b0) (labs l) := fun s => hx.cons
  refine PW.skip (hK2 _ _ (PW.k3 0 3 4 rfl ?_))
  refine PW.seq fun K3 hK3 => ?_
  refine PW.block (PW.seqOps (OL.dp rfl (OL.nil (PW.k4 0 3 4 5 rfl ?_))))
  refine PW.seq fun K4 hK4 => ?_
  refine PW.block (PW.k4 0 3 4 5 rfl ?_)
  refine PW.loopK (I := fun m T S' => ∃ (i : Nat), (i <= (refS (l.take k)).length /\ m = (refS (l.take k)).length - i /\ ∀ x ∈ (refS (l.take k)).take i, orZ x l[k] < 0) /\ T = ([(0, .slice (some b0) l.length c), (3, .slice A (refS (l.take k)).length co), (4, .int .i64 k), (5, .int .i64 i)] : TT) /\ S' = seg :: S) (m := (refS (l.take k)).length) ⟨0, ⟨by omega, by omega, fun x hx => by simp at hx⟩, rfl, rfl⟩ ?_
  rintro m _ _ ⟨i, ⟨hi, hm2, hall⟩, rfl, rfl⟩
  refine PW.seq fun K5 hK5 => ?_
  refine PW.seq fun K6 hK6 => ?_
  refine PW.quietK Tryz.mixed (QK.dp rfl (QK.dp rfl (QK.dp rfl (QK.dp rfl ?_))))
  refine QK.bool trivial (Yields.pure rfl) (fun g17 => ?_) (fun g17 => ?_)
  ·try simp only [decide_eq_true_eq, decide_eq_false_iff_not, beq_iff_eq, bne_iff_ne, beq_eq_false_iff_ne, bne_eq_false_iff_eq, Bool.not_eq_true', Bool.not_eq_false', Bool.not_eq_true, ne_eq, Decidable.not_not] at g17
   have hil : i < (refS (l.take k)).length := by omega
   obtain ⟨a1, rfl⟩ := labs_some (hrd S) (by omega)
   refine QK.det rfl (.pure rfl) (QK.det rfl (.pure rfl) ?_)
   refine QK.det rfl (.ixN rfl rfl rfl (by omega)) ?_
   refine QK.det rfl (.ldA rfl rfl (labs_at (hrd _) hil)) (QK.det rfl (.pure rfl) (QK.det rfl (.pure rfl) ?_))
   refine QK.det rfl (.ixN rfl rfl rfl (by omega)) ?_
   refine QK.det rfl (.ldA rfl rfl (labs_at (hx0 _) hkl)) (QK.nil ?_)
   change OL _ _ _ [_, _, _] _ _ _
   refine OL.call rfl rfl (rorder_l (a := (refS (l.take k))[i]) (b := l[k])) ?_
   rintro _ Sx ⟨rfl, hSx⟩
   rw [hSx]
   clear hSx
   refine OL.det rfl (.pure rfl) (OL.dp rfl (OL.nil (hK6 _ _ (PW.k5 0 3 4 5 28 rfl ?_))))
   refine PW.cond rfl (fun c28 => ?_) (fun c28 => ?_)
   ·try simp only [decide_eq_true_eq, decide_eq_false_iff_not, beq_iff_eq, bne_iff_ne, beq_eq_false_iff_ne, bne_eq_false_iff_eq, Bool.not_eq_true', Bool.not_eq_false', Bool.not_eq_true, ne_eq, Decidable.not_not] at c28
    refine PW.skip (hK5 _ _ (PW.k4 0 3 4 5 rfl (PW.block (PW.ops (OL.dp rfl ?_)))))
    refine OL.det trivial (.add64 rfl rfl (by omega) (by omega)) ?_
    refine OL.dp rfl (OL.nil ?_)
    repeat rw [inBlk_n]
    try rw [thenK_n]
    refine LoopEnd.mk (T'' := [(0, _), (3, _), (4, _), (5, _)]) (wi rfl) ?_
    refine ⟨(refS (l.take k)).length - (i + 1), by omega, i + 1, ⟨by omega, rfl, fun x hx => ?_⟩, rfl, rfl⟩
    rw [take_snoc hil, List.mem_append, List.mem_singleton] at hx
    rcases hx with hx | rfl
    ·exact hall x hx
    omega
   try simp only [decide_eq_true_eq, decide_eq_false_iff_not, beq_iff_eq, bne_iff_ne, beq_eq_false_iff_ne, bne_eq_false_iff_eq, Bool.not_eq_true', Bool.not_eq_false', Bool.not_eq_true, ne_eq, Decidable.not_not] at c28
   refine PW.exit (hK4 _ _ (PW.k4 0 3 4 5 rfl ?_))
   refine PW.seq fun K7 hK7 => ?_
   refine PW.seq fun K8 hK8 => ?_
   refine PW.quietK Tryz.mixed (QK.dp rfl (QK.dp rfl (QK.dp rfl (QK.dp rfl ?_))))
   refine QK.bool trivial (Yields.pure rfl) (fun g35 => ?_) (fun g35 => ?_)
   ·try simp only [decide_eq_true_eq, decide_eq_false_iff_not, beq_iff_eq, bne_iff_ne, beq_eq_false_iff_ne, bne_eq_false_iff_eq, Bool.not_eq_true', Bool.not_eq_false', Bool.not_eq_true, ne_eq, Decidable.not_not] at g35
    refine QK.det rfl (.pure rfl) (QK.det rfl (.pure rfl) ?_)
    refine QK.det rfl (.ixN rfl rfl rfl (by omega)) ?_
    refine QK.det rfl (.ldA rfl rfl (labs_at (hrd _) hil)) (QK.det rfl (.pure rfl) (QK.det rfl (.pure rfl) ?_))
    refine QK.det rfl (.ixN rfl rfl rfl (by omega)) ?_
    refine QK.det rfl (.ldA rfl rfl (labs_at (hx0 _) hkl)) (QK.nil ?_)
    change OL _ _ _ [_, _] _ _ _
    refine OL.det rfl (Yields.eqA rfl rfl (eq_lab (refS (l.take k))[i] l[k])) (OL.dp rfl (OL.nil (hK8 _ _ (PW.k5 0 3 4 5 45 rfl ?_))))
    refine PW.cond rfl (fun c45 => ?_) (fun c45 => ?_)
    ·try simp only [decide_eq_true_eq, decide_eq_false_iff_not, beq_iff_eq, bne_iff_ne, beq_eq_false_iff_ne, bne_eq_false_iff_eq, Bool.not_eq_true', Bool.not_eq_false', Bool.not_eq_true, ne_eq, Decidable.not_not] at c45
     refine PW.exit (hK3 _ _ (PW.k3 0 3 4 rfl (PW.ops (OL.dp rfl ?_))))
     refine OL.det trivial (.add64 rfl rfl (by omega) (by omega)) ?_
     refine OL.dp rfl (OL.nil ?_)
     repeat rw [inBlk_n]
     try rw [thenK_n]
     refine LoopEnd.mkS ((by first | exact Sub.cons (Sub.drop (Sub.refl _)) | exact Sub.refl _)) (T'' := [(0, _), (3, _), (4, _)]) (wi rfl) ?_
     refine ⟨l.length - (k + 1), by omega, k + 1, .slice (some a1) (refS (l.take k)).length co, seg, ⟨by omega, rfl, ?_⟩, by simp, rfl⟩
     have e : refS (l.take (k + 1)) = (refS (l.take k)) := by
      rw [refS_take hkl, insP_at l[k] (refS (l.take k)) i hi hall ?_, if_pos ?_]
      ·rw [List.getElem?_eq_getElem hil]; congr 1; simpa using c45
      intro x hx; rw [List.getElem?_eq_getElem hil] at hx; cases hx; omega
     rw [e]; exact hsl
    try simp only [decide_eq_true_eq, decide_eq_false_iff_not, beq_iff_eq, bne_iff_ne, beq_eq_false_iff_ne, bne_eq_false_iff_eq, Bool.not_eq_true', Bool.not_eq_false', Bool.not_eq_true, ne_eq, Decidable.not_not] at c45
    refine PW.skip (hK7 _ _ (PW.k4 0 3 4 5 rfl (PW.seqOps (OL.nilseg (OL.dp rfl (OL.nil (PW.k5 0 3 4 5 6 rfl (PW.seqOps (OL.dp rfl (OL.dp rfl (OL.dp rfl ?_)))))))))))
    refine OL.det trivial (.to (v' := .slice _ i co) (Yields.slS (l := 0) (h := i) rfl rfl rfl (.inr ⟨rfl, rfl⟩) (.inl rfl) (by omega) (by omega)) (cutV0 _ _ _ _)) ?_
    refine OL.cons trivial (OW_appL (k := 0) (m := 0) (xs := []) (l := (refS (l.take k)).take i) rfl rfl (SlV.nil 34 2) rfl (by rw [List.length_take]; omega) (pre_rd (hrd _).cons) hA (by omega)) ?_
    rintro v50 _ ⟨seg50, rfl, hsl50⟩
    change OL _ _ _ _ _ (seg50 :: seg :: S) _
    refine OL.dp rfl (OL.nil (PW.k5 0 3 4 5 6 rfl (PW.seqOps (OL.dp rfl (OL.dp rfl (OL.dp rfl ?_))))))
    refine OL.det trivial (.ixN rfl rfl rfl (by omega)) ?_
    refine OL.det trivial (.ldA rfl rfl (labs_at (hx0 _).cons hkl)) ?_
    apply OL.app1 (k := 0)
    ·rfl
    ·rfl
    ·rfl
    ·rfl
    ·rfl
    ·rfl
    ·exact hsl50
    ·rfl
    ·omega
    ·unfold maxLen; omega
    intro v57 seg57 hsl57
    change OL _ _ _ _ _ (seg57 :: seg :: S) _
    refine OL.dp rfl (OL.nil (PW.k5 0 3 4 5 6 rfl (PW.ops (OL.dp rfl (OL.dp rfl (OL.dp rfl ?_))))))
    obtain ⟨A61, c61, e61, hrd61, hA61⟩ := cut_rd ((hrd S).cons (s := seg57)) hi hA hlc
    refine OL.det trivial (.to (v' := .slice A61 ((refS (l.take k)).drop i).length c61) (Yields.slS (l := i) (h := (refS (l.take k)).length) rfl rfl rfl (.inl rfl) (.inr ⟨rfl, rfl⟩) hi hlc) e61) ?_
    refine OL.cons trivial (OW_appL (k := 0) rfl rfl hsl57 rfl rfl hrd61 hA61 (by rw [List.length_drop]; omega)) ?_
    rintro v62 _ ⟨seg62, rfl, hsl62⟩
    change OL _ _ _ _ _ (seg62 :: seg :: S) _
    refine OL.dp rfl (OL.nil (hK3 _ _ (PW.k3 0 3 4 rfl (PW.ops (OL.dp rfl ?_)))))
    refine OL.det trivial (.add64 rfl rfl (by omega) (by omega)) ?_
    refine OL.dp rfl (OL.nil ?_)
    repeat rw [inBlk_n]
    try rw [thenK_n]
    refine LoopEnd.mkS ((by first | exact Sub.cons (Sub.drop (Sub.refl _)) | exact Sub.refl _)) (T'' := [(0, _), (3, _), (4, _)]) (wi rfl) ?_
    have e : refS (l.take (k + 1)) = (refS (l.take k)).take i ++ l[k] :: (refS (l.take k)).drop i := by
     rw [refS_take hkl, insP_at l[k] (refS (l.take k)) i hi hall ?_, if_neg ?_]
     ·rw [List.getElem?_eq_getElem hil]; intro h; have := Option.some.inj h; simp [this] at c45
     intro x hx; rw [List.getElem?_eq_getElem hil] at hx; cases hx; omega
    have hL : ((refS (l.take k)).take i ++ l[k] :: (refS (l.take k)).drop i).length = 0 + i + 1 + ((refS (l.take k)).drop i).length := by simp; omega
    have hX : labs ((refS (l.take k)).take i ++ l[k] :: (refS (l.take k)).drop i) = [] ++ labs ((refS (l.take k)).take i) ++ [.int .i64 l[k].1, .int .u64 (l[k].2.toNat : Int)] ++ labs ((refS (l.take k)).drop i) := by rw [labs_app]; simp [labs, labC]
    refine ⟨l.length - (k + 1), by omega, k + 1, v62, seg62, ⟨by omega, rfl, ?_⟩, by simp, rfl⟩
    rw [e, hL, hX]
    exact hsl62
   (try simp only [decide_eq_true_eq, decide_eq_false_iff_not, beq_iff_eq, bne_iff_ne, beq_eq_false_iff_ne, bne_eq_false_iff_eq, Bool.not_eq_true', Bool.not_eq_false', Bool.not_eq_true, ne_eq, Decidable.not_not] at g35) <;> (exfalso; first | omega | (simp at g35; done) | (revert g35; simp; done))
  try simp only [decide_eq_true_eq, decide_eq_false_iff_not, beq_iff_eq, bne_iff_ne, beq_eq_false_iff_ne, bne_eq_false_iff_eq, Bool.not_eq_true', Bool.not_eq_false', Bool.not_eq_true, ne_eq, Decidable.not_not] at g17
  refine QK.off rfl rfl (QK.off rfl rfl (QK.off rfl rfl (QK.off rfl rfl (QK.off rfl rfl (QK.off rfl rfl (QK.off rfl rfl (QK.off rfl rfl (QK.nil ?_))))))))
  change OL _ _ _ [_, _, _] _ _ _
  refine OL.off rfl rfl (OL.off rfl rfl (OL.dp rfl (OL.nil (hK6 _ _ (PW.k5 0 3 4 5 28 rfl (PW.ite (b := false) rfl ?_))))))
  rw [if_neg Bool.false_ne_true]
  refine PW.exit (hK4 _ _ (PW.k4 0 3 4 5 rfl ?_))
  refine PW.seq fun K9 hK9 => ?_
  refine PW.seq fun K10 hK10 => ?_
  refine PW.quietK Tryz.mixed (QK.dp rfl (QK.dp rfl (QK.dp rfl (QK.dp rfl ?_))))
  refine QK.bool trivial (Yields.pure rfl) (fun g35 => ?_) (fun g35 => ?_)
  ·(try simp only [decide_eq_true_eq, decide_eq_false_iff_not, beq_iff_eq, bne_iff_ne, beq_eq_false_iff_ne, bne_eq_false_iff_eq, Bool.not_eq_true', Bool.not_eq_false', Bool.not_eq_true, ne_eq, Decidable.not_not] at g35) <;> (exfalso; first | omega | (simp at g35; done) | (revert g35; simp; done))
  try simp only [decide_eq_true_eq, decide_eq_false_iff_not, beq_iff_eq, bne_iff_ne, beq_eq_false_iff_ne, bne_eq_false_iff_eq, Bool.not_eq_true', Bool.not_eq_false', Bool.not_eq_true, ne_eq, Decidable.not_not] at g35
  refine QK.off rfl rfl (QK.off rfl rfl (QK.off rfl rfl (QK.off rfl rfl (QK.off rfl rfl (QK.off rfl rfl (QK.off rfl rfl (QK.off rfl rfl (QK.nil ?_))))))))
  change OL _ _ _ [_, _] _ _ _
  refine OL.off rfl rfl (OL.dp rfl (OL.nil (hK10 _ _ (PW.k5 0 3 4 5 45 rfl (PW.ite (b := false) rfl ?_)))))
  rw [if_neg Bool.false_ne_true]
  refine PW.skip (hK9 _ _ (PW.k4 0 3 4 5 rfl (PW.seqOps (OL.nilseg (OL.dp rfl (OL.nil (PW.k5 0 3 4 5 6 rfl (PW.seqOps (OL.dp rfl (OL.dp rfl (OL.dp rfl ?_)))))))))))
  refine OL.det trivial (.to (v' := .slice _ i co) (Yields.slS (l := 0) (h := i) rfl rfl rfl (.inr ⟨rfl, rfl⟩) (.inl rfl) (by omega) (by omega)) (cutV0 _ _ _ _)) ?_
  refine OL.cons trivial (OW_appL (k := 0) (m := 0) (xs := []) (l := (refS (l.take k)).take i) rfl rfl (SlV.nil 34 2) rfl (by rw [List.length_take]; omega) (pre_rd (hrd _).cons) hA (by omega)) ?_
  rintro v50 _ ⟨seg50, rfl, hsl50⟩
  change OL _ _ _ _ _ (seg50 :: seg :: S) _
  refine OL.dp rfl (OL.nil (PW.k5 0 3 4 5 6 rfl (PW.seqOps (OL.dp rfl (OL.dp rfl (OL.dp rfl ?_))))))
  refine OL.det trivial (.ixN rfl rfl rfl (by omega)) ?_
  refine OL.det trivial (.ldA rfl rfl (labs_at (hx0 _).cons hkl)) ?_
  apply OL.app1 (k := 0)
  ·rfl
  ·rfl
  ·rfl
  ·rfl
  ·rfl
  ·rfl
  ·exact hsl50
  ·rfl
  ·omega
  ·unfold maxLen; omega
  intro v57 seg57 hsl57
  change OL _ _ _ _ _ (seg57 :: seg :: S) _
  refine OL.dp rfl (OL.nil (PW.k5 0 3 4 5 6 rfl (PW.ops (OL.dp rfl (OL.dp rfl (OL.dp rfl ?_))))))
  obtain ⟨A61, c61, e61, hrd61, hA61⟩ := cut_rd ((hrd S).cons (s := seg57)) hi hA hlc
  refine OL.det trivial (.to (v' := .slice A61 ((refS (l.take k)).drop i).length c61) (Yields.slS (l := i) (h := (refS (l.take k)).length) rfl rfl rfl (.inl rfl) (.inr ⟨rfl, rfl⟩) hi hlc) e61) ?_
  refine OL.cons trivial (OW_appL (k := 0) rfl rfl hsl57 rfl rfl hrd61 hA61 (by rw [List.length_drop]; omega)) ?_
  rintro v62 _ ⟨seg62, rfl, hsl62⟩
  change OL _ _ _ _ _ (seg62 :: seg :: S) _
  refine OL.dp rfl (OL.nil (hK3 _ _ (PW.k3 0 3 4 rfl (PW.ops (OL.dp rfl ?_)))))
  refine OL.det trivial (.add64 rfl rfl (by omega) (by omega)) ?_
  refine OL.dp rfl (OL.nil ?_)
  repeat rw [inBlk_n]
  try rw [thenK_n]
  refine LoopEnd.mkS ((by first | exact Sub.cons (Sub.drop (Sub.refl _)) | exact Sub.refl _)) (T'' := [(0, _), (3, _), (4, _)]) (wi rfl) ?_
  have e : refS (l.take (k + 1)) = (refS (l.take k)).take i ++ l[k] :: (refS (l.take k)).drop i := by
   rw [refS_take hkl, insP_at l[k] (refS (l.take k)) i hi hall ?_, if_neg ?_]
   ·rw [List.getElem?_eq_none (by omega)]; intro h; cases h
   intro x hx; rw [List.getElem?_eq_none (by omega)] at hx; cases hx
  have hL : ((refS (l.take k)).take i ++ l[k] :: (refS (l.take k)).drop i).length = 0 + i + 1 + ((refS (l.take k)).drop i).length := by simp; omega
  have hX : labs ((refS (l.take k)).take i ++ l[k] :: (refS (l.take k)).drop i) = [] ++ labs ((refS (l.take k)).take i) ++ [.int .i64 l[k].1, .int .u64 (l[k].2.toNat : Int)] ++ labs ((refS (l.take k)).drop i) := by rw [labs_app]; simp [labs, labC]
  refine ⟨l.length - (k + 1), by omega, k + 1, v62, seg62, ⟨by omega, rfl, ?_⟩, by simp, rfl⟩
  rw [e, hL, hX]
  exact hsl62
 try simp only [decide_eq_true_eq, decide_eq_false_iff_not, beq_iff_eq, bne_iff_ne, beq_eq_false_iff_ne, bne_eq_false_iff_eq, Bool.not_eq_true', Bool.not_eq_false', Bool.not_eq_true, ne_eq, Decidable.not_not] at c10
 refine PW.exit (hK1 _ _ (PW.k1 3 rfl (PW.seqOps (OL.dp rfl (OL.dp rfl (OL.nil (PW.k1 2 rfl (PW.ret ?_))))))))
 change (Exit.ret = Exit.normal ∨ Exit.ret = Exit.ret) /\ ∃ v, resV _ _ = some v /\ _
 obtain rfl : k = l.length := by omega
 rw [List.take_length] at hsl ⊢
 exact ⟨.inr rfl, _, rfl, seg, rfl, hsl⟩
end Go.Proofs.Lb

namespace Go.Proofs.Rl
open Go.SL Go.RowKit Go.Proofs Go.Proofs.Lb
set_option maxHeartbeats 1000000
abbrev RuleB := ByteArray × LabB
def ruleC (r : RuleB) : List Value := [.string r.1, .int .i64 r.2.1, .int .u64 (r.2.2.toNat : Int)]
def ruls (l : List RuleB) : List Value := l.flatMap ruleC
def tabV (v : Int) (A : Option Addr) (n c : Nat) : Value := .agg #[.int .i64 v, .slice A n c]
abbrev tseg (r : Nat) (v : Int) (A : Option Addr) (n c : Nat) : Seg := [(r, .cells [.int .i64 v, .slice A n c] 24 2)]
abbrev rseg (r : Nat) (x : RuleB) : Seg := [(r, .cells [.string x.1, .int .i64 x.2.1, .int .u64 (x.2.2.toNat : Int)] 48 3)]
theorem ruleC_len (x : RuleB) : (ruleC x).length = 3 := rfl
instance : Inhabited RuleB := ⟨(⟨#[]⟩, lab0)⟩
theorem ruls_len (l : List RuleB) : (ruls l).length = l.length * 3 := by
 unfold ruls; rw [List.length_flatMap]; simp [ruleC_len, List.map_const']
theorem ruls_get {l : List RuleB} {k : Nat} (hk : k < l.length) {j : Nat} (hj : j < 3) : (ruls l)[k * 3 + j]? = (ruleC l[k])[j]? := by
 unfold ruls
 rw [flat_get ruleC_len l (k * 3 + j) (by omega), show (k * 3 + j) / 3 = k from by omega, show (k * 3 + j) % 3 = j from by omega, getElem!_pos l k hk]
theorem ruls_some {w0 : World} {S : SS} {A : Option Addr} {l : List RuleB} (h : Rd w0 S A (ruls l)) (hk : 0 < l.length) : ∃ a, A = some a :=
 h.some (fun e => by have := ruls_len l; rw [e] at this; simp at this; omega)
theorem rule_at {w0 : World} {S : SS} {a : Addr} {l : List RuleB} (h : Rd w0 S (some a) (ruls l)) {k : Nat} (hk : k < l.length) :
  ∀ (j : Nat) (v : Value), (ruleC l[k])[j]? = some v -> Cell w0 S ((a.add (k * 3)).add j) v := by
 intro j v hj
 have hj2 : j < 3 := by have := (List.getElem?_eq_some_iff.1 hj).1; simpa [ruleC] using this
 rw [addr_add_add]
 exact h.at (by rw [ruls_get hk hj2]; exact hj)
theorem rlab_at {w0 : World} {S : SS} {a : Addr} {l : List RuleB} (h : Rd w0 S (some a) (ruls l)) {k : Nat} (hk : k < l.length) :
  ∀ (j : Nat) (v : Value), [Value.int .i64 l[k].2.1, .int .u64 (l[k].2.2.toNat : Int)][j]? = some v -> Cell w0 S (((a.add (k * 3)).add 1).add j) v := by
 intro j v hj
 rw [addr_add_add (a.add (k * 3))]
 refine rule_at h hk (1 + j) v ?_
 rw [Nat.add_comm]
 exact hj
theorem tab_at {w0 : World} {S : SS} {r : Nat} {tv : Int} {A : Option Addr} {n c : Nat} (hm : (r, AO.cells [.int .i64 tv, .slice A n c] 24 2) ∈ S.flatten) :
  ∀ (j : Nat) (v : Value), [Value.int .i64 tv, .slice A n c][j]? = some v -> Cell w0 S ((⟨r, 0, none⟩ : Addr).add j) v := fun j v hj => (Rd.own hm).at hj
theorem rseg_at {w0 : World} {S : SS} {r : Nat} {x : RuleB} : ∀ (j : Nat) (v : Value), [Value.int .i64 x.2.1, .int .u64 (x.2.2.toNat : Int)][j]? = some v -> Cell w0 (rseg r x :: S) ((⟨r, 1, none⟩ : Addr).add j) v := by
 intro j v hj
 have : (⟨r, 1, none⟩ : Addr).add j = (⟨r, 0, none⟩ : Addr).add (1 + j) := by rw [Addr.add_lit, Addr.add_lit]; congr 1; omega
 rw [this]
 refine (Rd.own (E := 48) (tot := 3) zM0).at ?_
 rw [Nat.add_comm]
 exact hj
def overP (p s : ByteArray) : Bool := decide (p = s) || underP p s
def findS (l : List RuleB) (s : ByteArray) : Int × LabB := l.foldl (fun o r => if o.1 < (r.1.size : Int) /\ overP r.1 s = true then ((r.1.size : Int), r.2) else o) (-1, lab0)
def findP (l : List RuleB) (s : ByteArray) : LabB := (findS l s).2
theorem rtake_snoc {l : List RuleB} {k : Nat} (hk : k < l.length) : l.take (k + 1) = l.take k ++ [l[k]] := by
 rw [List.take_add_one, List.getElem?_eq_getElem hk]; rfl
theorem findS_take {l : List RuleB} {s : ByteArray} {k : Nat} (hk : k < l.length) : findS (l.take (k + 1)) s = if (findS (l.take k) s).1 < (l[k].1.size : Int) /\ overP l[k].1 s = true then ((l[k].1.size : Int), l[k].2) else findS (l.take k) s := by
 rw [rtake_snoc hk]; unfold findS; rw [List.foldl_append]; rfl
theorem findS_rng {l : List RuleB} {s : ByteArray} (hb : ∀ x ∈ l, x.1.size <= 1000000000) : ∀ k, k <= l.length -> -1 <= (findS (l.take k) s).1 /\ (findS (l.take k) s).1 <= 1000000000
 | 0, _ => by simp [findS]
 | k + 1, h => by
  rw [findS_take (by omega)]
  have := findS_rng (s := s) hb k (by omega)
  have h2 := hb l[k] (List.getElem_mem _)
  split
  ·exact ⟨by show (-1 : Int) <= (l[k].1.size : Int); omega, by show (l[k].1.size : Int) <= 1000000000; omega⟩
  exact this
theorem rover_fc {w0 : World} {S : SS} {p s : ByteArray} (hp : p.size <= 1000000000) (hs : s.size <= 1000000000) : FC Tryz.prog w0 24 [.string p, .string s] S (fun v S' => v = .bool (overP p s) /\ S' = S) := by
 refine FC.of Tryz.known24 (by simp) ?_
 unfold Tryz.pc24
 simp only [argT]
 refine PW.seqOps (OL.dp rfl (OL.nil (PW.k2 0 1 rfl (PW.seqOps (OL.dp rfl (OL.dp rfl (OL.dp rfl ?_)))))))
 refine OL.bool trivial (Yields.pure rfl) (fun g8 => ?_) (fun g8 => ?_)
 ·try simp only [decide_eq_true_eq, decide_eq_false_iff_not, beq_iff_eq, bne_iff_ne, beq_eq_false_iff_ne, bne_eq_false_iff_eq, Bool.not_eq_true', Bool.not_eq_false', Bool.not_eq_true, ne_eq, Decidable.not_not] at g8
  rw [toL_inj] at g8
  refine OL.off rfl rfl (OL.off rfl rfl (OL.off rfl rfl (OL.dp rfl (OL.dp rfl (OL.nil (PW.k1 4 rfl (PW.ret ?_)))))))
  change (Exit.ret = Exit.normal ∨ Exit.ret = Exit.ret) /\ ∃ v, resV _ _ = some v /\ _
  exact ⟨.inr rfl, _, rfl, by unfold overP; first | (rw [decide_eq_true g8]; rfl) | (rw [decide_eq_false g8]; rfl), rfl⟩
 try simp only [decide_eq_true_eq, decide_eq_false_iff_not, beq_iff_eq, bne_iff_ne, beq_eq_false_iff_ne, bne_eq_false_iff_eq, Bool.not_eq_true', Bool.not_eq_false', Bool.not_eq_true, ne_eq, Decidable.not_not] at g8
 rw [toL_inj] at g8
 refine OL.det rfl (.pure rfl) (OL.det rfl (.pure rfl) (OL.call rfl rfl (under_fc hp hs) ?_))
 rintro _ Sx ⟨rfl, hSx⟩
 rw [hSx]
 clear hSx
 refine OL.dp rfl (OL.dp rfl (OL.nil (PW.k1 4 rfl (PW.ret ?_))))
 change (Exit.ret = Exit.normal ∨ Exit.ret = Exit.ret) /\ ∃ v, resV _ _ = some v /\ _
 exact ⟨.inr rfl, _, rfl, by unfold overP; first | (rw [decide_eq_true g8]; rfl) | (rw [decide_eq_false g8]; rfl), rfl⟩
theorem large_fc {w0 : World} {S : SS} {A : Option Addr} {c : Nat} {tv : Int} {l : List RuleB} {s : ByteArray} (hx : Rd w0 S A (ruls l)) (hw : ∀ x ∈ l, x.1.size <= maxLen) (hs : s.size <= maxLen) (hl : l.length <= maxLen) :
    FC Tryz.prog w0 5 [tabV tv A l.length c, .string s] S (fun v S' => ∃ b, v = .bool b /\ S' = S /\ (b = false -> l.length <= 60 /\ s.size <= 200 /\ (∀ x ∈ l, x.1.size <= 200) /\ -999999999 <= tv /\ tv <= 999999999)) := by
  refine FC.ofD Tryz.known5 (by simp) ?_
  unfold Tryz.pc5
  simp only [argT]
  refine PW.seqOps (OL.cons trivial (OW.bx rfl) ?_)
  rintro _ _ ⟨r2, rfl, rfl⟩
  change OL _ _ _ _ _ (tseg r2 tv A l.length c :: S) _
  refine OL.dp rfl (OL.nil (PW.k2 1 2 rfl ?_))
  refine PW.seq fun K1 hK1 => ?_
  refine PW.seqOps (OL.dp rfl (OL.nil (PW.k3 1 2 5 rfl (PW.block (PW.k3 1 2 5 rfl ?_)))))
  refine PW.loopK (I := fun m T S' => ∃ (k : Nat), (k <= l.length /\ k <= 70 /\ m = 70 - k /\ ∀ x ∈ l.take k, x.1.size <= 200) /\ T = ([(1, .string s), (2, .pointer (some ⟨r2, 0, none⟩)), (5, .int .i64 k)] : TT) /\ S' = tseg r2 tv A l.length c :: S) (m := 70) ⟨0, ⟨by omega, by omega, by omega, fun x h => by simp at h⟩, rfl, rfl⟩ ?_
  rintro m _ _ ⟨k, ⟨hk, hk70, hm, hall⟩, rfl, rfl⟩
  refine PW.seq fun K2 hK2 => ?_
  refine PW.seqOps (OL.dp rfl (OL.dp rfl (OL.det trivial (.ld rfl (own_at (j := 1) (c := [.int .i64 tv, .slice A l.length c]) (E := 24) (tot := 2) zM0 rfl)) (OL.dp rfl (OL.dp rfl ?_)))))
  refine OL.bool trivial (Yields.pure rfl) (fun g11 => ?_) (fun g11 => ?_)
  · try simp only [decide_eq_true_eq, decide_eq_false_iff_not, beq_iff_eq, bne_iff_ne, beq_eq_false_iff_ne, bne_eq_false_iff_eq, Bool.not_eq_true', Bool.not_eq_false', Bool.not_eq_true, ne_eq, Decidable.not_not] at g11
    refine OL.det rfl (.pure rfl) (OL.det rfl (.pure rfl) (OL.dp rfl (OL.nil (PW.k4 1 2 5 14 rfl ?_))))
    refine PW.cond rfl (fun c14 => ?_) (fun c14 => ?_)
    · try simp only [decide_eq_true_eq, decide_eq_false_iff_not, beq_iff_eq, bne_iff_ne, beq_eq_false_iff_ne, bne_eq_false_iff_eq, Bool.not_eq_true', Bool.not_eq_false', Bool.not_eq_true, ne_eq, Decidable.not_not] at c14
      have hkl : k < l.length := by omega
      obtain ⟨a0, rfl⟩ := ruls_some hx (by omega)
      have hwk := hw _ (List.getElem_mem hkl)
      refine PW.skip (hK2 _ _ (PW.k3 1 2 5 rfl ?_))
      refine PW.seq fun K3 hK3 => ?_
      refine PW.block (PW.seqOps (OL.dp rfl (OL.det trivial (.ld rfl (own_at (j := 1) (c := [.int .i64 tv, .slice (some a0) l.length c]) (E := 24) (tot := 2) zM0 rfl)) (OL.dp rfl ?_))))
      refine OL.det trivial (.ixN rfl rfl rfl (by omega)) ?_
      refine OL.dp rfl (OL.det trivial (.ld rfl (rule_at hx.cons hkl 0 _ rfl)) (OL.dp rfl (OL.dp rfl (OL.nil (PW.k4 1 2 5 24 rfl ?_)))))
      refine PW.cond rfl (fun c24 => ?_) (fun c24 => ?_)
      · try simp only [decide_eq_true_eq, decide_eq_false_iff_not, beq_iff_eq, bne_iff_ne, beq_eq_false_iff_ne, bne_eq_false_iff_eq, Bool.not_eq_true', Bool.not_eq_false', Bool.not_eq_true, ne_eq, Decidable.not_not] at c24
        refine PW.seqOps (OL.dp rfl (OL.nil (PW.k1 4 rfl (PW.ret ?_))))
        change (Exit.ret = Exit.normal ∨ Exit.ret = Exit.ret) /\ ∃ v, resV _ _ = some v /\ _
        exact ⟨.inr rfl, _, rfl, _, Sub.drop (Sub.refl _), _, rfl, rfl, fun h => by cases h⟩
      try simp only [decide_eq_true_eq, decide_eq_false_iff_not, beq_iff_eq, bne_iff_ne, beq_eq_false_iff_ne, bne_eq_false_iff_eq, Bool.not_eq_true', Bool.not_eq_false', Bool.not_eq_true, ne_eq, Decidable.not_not] at c24
      refine PW.skip (hK3 _ _ (PW.k3 1 2 5 rfl (PW.ops (OL.dp rfl ?_))))
      refine OL.det trivial (.add64 rfl rfl (by omega) (by omega)) ?_
      refine OL.dp rfl (OL.nil ?_)
      repeat rw [inBlk_n]
      try rw [thenK_n]
      refine LoopEnd.mk (T'' := [(1, _), (2, _), (5, _)]) (wi rfl) ?_
      refine ⟨70 - (k + 1), by omega, k + 1, ⟨by omega, by omega, rfl, fun x hx => ?_⟩, rfl, rfl⟩
      rw [rtake_snoc hkl, List.mem_append, List.mem_singleton] at hx
      rcases hx with hx | rfl
      · exact hall x hx
      omega
    try simp only [decide_eq_true_eq, decide_eq_false_iff_not, beq_iff_eq, bne_iff_ne, beq_eq_false_iff_ne, bne_eq_false_iff_eq, Bool.not_eq_true', Bool.not_eq_false', Bool.not_eq_true, ne_eq, Decidable.not_not] at c14
    refine PW.exit (hK1 _ _ (PW.k2 1 2 rfl (PW.seqOps (OL.dp rfl (OL.det trivial (.ld rfl (own_at (j := 1) (c := [.int .i64 tv, .slice A l.length c]) (E := 24) (tot := 2) zM0 rfl)) (OL.dp rfl (OL.dp rfl ?_)))))))
    refine OL.bool trivial (Yields.pure rfl) (fun g29 => ?_) (fun g29 => ?_)
    · try simp only [decide_eq_true_eq, decide_eq_false_iff_not, beq_iff_eq, bne_iff_ne, beq_eq_false_iff_ne, bne_eq_false_iff_eq, Bool.not_eq_true', Bool.not_eq_false', Bool.not_eq_true, ne_eq, Decidable.not_not] at g29
      refine OL.off rfl rfl (OL.off rfl rfl (OL.off rfl rfl (OL.dp rfl (OL.dp rfl (OL.off rfl rfl (OL.off rfl rfl (OL.off rfl rfl (OL.dp rfl (OL.dp rfl (OL.off rfl rfl (OL.off rfl rfl ?_)))))))))))
      refine OL.off rfl rfl (OL.dp rfl (OL.dp rfl (OL.nil (PW.k1 4 rfl (PW.ret ?_)))))
      change (Exit.ret = Exit.normal ∨ Exit.ret = Exit.ret) /\ ∃ v, resV _ _ = some v /\ _
      refine ⟨.inr rfl, _, rfl, _, Sub.drop (Sub.refl _), _, rfl, rfl, fun hb => ?_⟩
      first
        | (cases hb; done)
        | (simp only [decide_eq_false_iff_not, Int.not_lt] at hb
           obtain rfl : k = l.length := by omega
           rw [List.take_length] at hall
           exact ⟨by omega, by omega, hall, by omega, by omega⟩)
    try simp only [decide_eq_true_eq, decide_eq_false_iff_not, beq_iff_eq, bne_iff_ne, beq_eq_false_iff_ne, bne_eq_false_iff_eq, Bool.not_eq_true', Bool.not_eq_false', Bool.not_eq_true, ne_eq, Decidable.not_not] at g29
    refine OL.det rfl (.pure rfl) (OL.det rfl (.pure rfl) (OL.det rfl (.pure rfl) (OL.dp rfl ?_)))
    refine OL.bool trivial (Yields.pure rfl) (fun g34 => ?_) (fun g34 => ?_)
    · try simp only [decide_eq_true_eq, decide_eq_false_iff_not, beq_iff_eq, bne_iff_ne, beq_eq_false_iff_ne, bne_eq_false_iff_eq, Bool.not_eq_true', Bool.not_eq_false', Bool.not_eq_true, ne_eq, Decidable.not_not] at g34
      refine OL.off rfl rfl (OL.off rfl rfl (OL.off rfl rfl (OL.dp rfl (OL.dp rfl (OL.off rfl rfl (OL.off rfl rfl (OL.off rfl rfl (OL.dp rfl (OL.dp rfl (OL.nil (PW.k1 4 rfl ?_)))))))))))
      refine PW.ret ?_
      change (Exit.ret = Exit.normal ∨ Exit.ret = Exit.ret) /\ ∃ v, resV _ _ = some v /\ _
      refine ⟨.inr rfl, _, rfl, _, Sub.drop (Sub.refl _), _, rfl, rfl, fun hb => ?_⟩
      first
        | (cases hb; done)
        | (simp only [decide_eq_false_iff_not, Int.not_lt] at hb
           obtain rfl : k = l.length := by omega
           rw [List.take_length] at hall
           exact ⟨by omega, by omega, hall, by omega, by omega⟩)
    try simp only [decide_eq_true_eq, decide_eq_false_iff_not, beq_iff_eq, bne_iff_ne, beq_eq_false_iff_ne, bne_eq_false_iff_eq, Bool.not_eq_true', Bool.not_eq_false', Bool.not_eq_true, ne_eq, Decidable.not_not] at g34
    refine OL.det rfl (.pure rfl) (OL.det rfl (.ld rfl (own_at (j := 0) (c := [.int .i64 tv, .slice A l.length c]) (E := 24) (tot := 2) zM0 rfl)) (OL.det rfl (.pure rfl) (OL.dp rfl ?_)))
    refine OL.bool trivial (Yields.pure rfl) (fun g39 => ?_) (fun g39 => ?_)
    · try simp only [decide_eq_true_eq, decide_eq_false_iff_not, beq_iff_eq, bne_iff_ne, beq_eq_false_iff_ne, bne_eq_false_iff_eq, Bool.not_eq_true', Bool.not_eq_false', Bool.not_eq_true, ne_eq, Decidable.not_not] at g39
      refine OL.off rfl rfl (OL.off rfl rfl (OL.off rfl rfl (OL.dp rfl (OL.dp rfl (OL.nil (PW.k1 4 rfl (PW.ret ?_)))))))
      change (Exit.ret = Exit.normal ∨ Exit.ret = Exit.ret) /\ ∃ v, resV _ _ = some v /\ _
      refine ⟨.inr rfl, _, rfl, _, Sub.drop (Sub.refl _), _, rfl, rfl, fun hb => ?_⟩
      first
        | (cases hb; done)
        | (simp only [decide_eq_false_iff_not, Int.not_lt] at hb
           obtain rfl : k = l.length := by omega
           rw [List.take_length] at hall
           exact ⟨by omega, by omega, hall, by omega, by omega⟩)
    try simp only [decide_eq_true_eq, decide_eq_false_iff_not, beq_iff_eq, bne_iff_ne, beq_eq_false_iff_ne, bne_eq_false_iff_eq, Bool.not_eq_true', Bool.not_eq_false', Bool.not_eq_true, ne_eq, Decidable.not_not] at g39
    refine OL.det rfl (.pure rfl) (OL.det rfl (.ld rfl (own_at (j := 0) (c := [.int .i64 tv, .slice A l.length c]) (E := 24) (tot := 2) zM0 rfl)) (OL.det rfl (.pure rfl) (OL.dp rfl (OL.dp rfl (OL.nil (PW.k1 4 rfl (PW.ret ?_)))))))
    change (Exit.ret = Exit.normal ∨ Exit.ret = Exit.ret) /\ ∃ v, resV _ _ = some v /\ _
    refine ⟨.inr rfl, _, rfl, _, Sub.drop (Sub.refl _), _, rfl, rfl, fun hb => ?_⟩
    first
      | (cases hb; done)
      | (simp only [decide_eq_false_iff_not, Int.not_lt] at hb
         obtain rfl : k = l.length := by omega
         rw [List.take_length] at hall
         exact ⟨by omega, by omega, hall, by omega, by omega⟩)
  try simp only [decide_eq_true_eq, decide_eq_false_iff_not, beq_iff_eq, bne_iff_ne, beq_eq_false_iff_ne, bne_eq_false_iff_eq, Bool.not_eq_true', Bool.not_eq_false', Bool.not_eq_true, ne_eq, Decidable.not_not] at g11
  refine OL.off rfl rfl (OL.off rfl rfl (OL.dp rfl (OL.nil (PW.k4 1 2 5 14 rfl (PW.ite (b := false) rfl ?_)))))
  rw [if_neg Bool.false_ne_true]
  refine PW.exit (hK1 _ _ (PW.k2 1 2 rfl (PW.seqOps (OL.dp rfl (OL.det trivial (.ld rfl (own_at (j := 1) (c := [.int .i64 tv, .slice A l.length c]) (E := 24) (tot := 2) zM0 rfl)) (OL.dp rfl (OL.dp rfl ?_)))))))
  refine OL.bool trivial (Yields.pure rfl) (fun g29 => ?_) (fun g29 => ?_)
  · try simp only [decide_eq_true_eq, decide_eq_false_iff_not, beq_iff_eq, bne_iff_ne, beq_eq_false_iff_ne, bne_eq_false_iff_eq, Bool.not_eq_true', Bool.not_eq_false', Bool.not_eq_true, ne_eq, Decidable.not_not] at g29
    refine OL.off rfl rfl (OL.off rfl rfl (OL.off rfl rfl (OL.dp rfl (OL.dp rfl (OL.off rfl rfl (OL.off rfl rfl (OL.off rfl rfl (OL.dp rfl (OL.dp rfl (OL.off rfl rfl (OL.off rfl rfl ?_)))))))))))
    refine OL.off rfl rfl (OL.dp rfl (OL.dp rfl (OL.nil (PW.k1 4 rfl (PW.ret ?_)))))
    change (Exit.ret = Exit.normal ∨ Exit.ret = Exit.ret) /\ ∃ v, resV _ _ = some v /\ _
    refine ⟨.inr rfl, _, rfl, _, Sub.drop (Sub.refl _), _, rfl, rfl, fun hb => ?_⟩
    first
      | (cases hb; done)
      | (simp only [decide_eq_false_iff_not, Int.not_lt] at hb
         obtain rfl : k = l.length := by omega
         rw [List.take_length] at hall
         exact ⟨by omega, by omega, hall, by omega, by omega⟩)
  try simp only [decide_eq_true_eq, decide_eq_false_iff_not, beq_iff_eq, bne_iff_ne, beq_eq_false_iff_ne, bne_eq_false_iff_eq, Bool.not_eq_true', Bool.not_eq_false', Bool.not_eq_true, ne_eq, Decidable.not_not] at g29
  refine OL.det rfl (.pure rfl) (OL.det rfl (.pure rfl) (OL.det rfl (.pure rfl) (OL.dp rfl ?_)))
  refine OL.bool trivial (Yields.pure rfl) (fun g34 => ?_) (fun g34 => ?_)
  · try simp only [decide_eq_true_eq, decide_eq_false_iff_not, beq_iff_eq, bne_iff_ne, beq_eq_false_iff_ne, bne_eq_false_iff_eq, Bool.not_eq_true', Bool.not_eq_false', Bool.not_eq_true, ne_eq, Decidable.not_not] at g34
    refine OL.off rfl rfl (OL.off rfl rfl (OL.off rfl rfl (OL.dp rfl (OL.dp rfl (OL.off rfl rfl (OL.off rfl rfl (OL.off rfl rfl (OL.dp rfl (OL.dp rfl (OL.nil (PW.k1 4 rfl ?_)))))))))))
    refine PW.ret ?_
    change (Exit.ret = Exit.normal ∨ Exit.ret = Exit.ret) /\ ∃ v, resV _ _ = some v /\ _
    refine ⟨.inr rfl, _, rfl, _, Sub.drop (Sub.refl _), _, rfl, rfl, fun hb => ?_⟩
    first
      | (cases hb; done)
      | (simp only [decide_eq_false_iff_not, Int.not_lt] at hb
         obtain rfl : k = l.length := by omega
         rw [List.take_length] at hall
         exact ⟨by omega, by omega, hall, by omega, by omega⟩)
  try simp only [decide_eq_true_eq, decide_eq_false_iff_not, beq_iff_eq, bne_iff_ne, beq_eq_false_iff_ne, bne_eq_false_iff_eq, Bool.not_eq_true', Bool.not_eq_false', Bool.not_eq_true, ne_eq, Decidable.not_not] at g34
  refine OL.det rfl (.pure rfl) (OL.det rfl (.ld rfl (own_at (j := 0) (c := [.int .i64 tv, .slice A l.length c]) (E := 24) (tot := 2) zM0 rfl)) (OL.det rfl (.pure rfl) (OL.dp rfl ?_)))
  refine OL.bool trivial (Yields.pure rfl) (fun g39 => ?_) (fun g39 => ?_)
  · try simp only [decide_eq_true_eq, decide_eq_false_iff_not, beq_iff_eq, bne_iff_ne, beq_eq_false_iff_ne, bne_eq_false_iff_eq, Bool.not_eq_true', Bool.not_eq_false', Bool.not_eq_true, ne_eq, Decidable.not_not] at g39
    refine OL.off rfl rfl (OL.off rfl rfl (OL.off rfl rfl (OL.dp rfl (OL.dp rfl (OL.nil (PW.k1 4 rfl (PW.ret ?_)))))))
    change (Exit.ret = Exit.normal ∨ Exit.ret = Exit.ret) /\ ∃ v, resV _ _ = some v /\ _
    refine ⟨.inr rfl, _, rfl, _, Sub.drop (Sub.refl _), _, rfl, rfl, fun hb => ?_⟩
    first
      | (cases hb; done)
      | (simp only [decide_eq_false_iff_not, Int.not_lt] at hb
         obtain rfl : k = l.length := by omega
         rw [List.take_length] at hall
         exact ⟨by omega, by omega, hall, by omega, by omega⟩)
  try simp only [decide_eq_true_eq, decide_eq_false_iff_not, beq_iff_eq, bne_iff_ne, beq_eq_false_iff_ne, bne_eq_false_iff_eq, Bool.not_eq_true', Bool.not_eq_false', Bool.not_eq_true, ne_eq, Decidable.not_not] at g39
  refine OL.det rfl (.pure rfl) (OL.det rfl (.ld rfl (own_at (j := 0) (c := [.int .i64 tv, .slice A l.length c]) (E := 24) (tot := 2) zM0 rfl)) (OL.det rfl (.pure rfl) (OL.dp rfl (OL.dp rfl (OL.nil (PW.k1 4 rfl (PW.ret ?_)))))))
  change (Exit.ret = Exit.normal ∨ Exit.ret = Exit.ret) /\ ∃ v, resV _ _ = some v /\ _
  refine ⟨.inr rfl, _, rfl, _, Sub.drop (Sub.refl _), _, rfl, rfl, fun hb => ?_⟩
  first
    | (cases hb; done)
    | (simp only [decide_eq_false_iff_not, Int.not_lt] at hb
       obtain rfl : k = l.length := by omega
       rw [List.take_length] at hall
       exact ⟨by omega, by omega, hall, by omega, by omega⟩)
theorem find_fc {w0 : World} {S : SS} {A : Option Addr} {c : Nat} {tv : Int} {l : List RuleB} {s : ByteArray} (hx : Rd w0 S A (ruls l)) (hw : ∀ x ∈ l, x.1.size <= 1000000000) (hs : s.size <= 1000000000) (hl : l.length <= 1000000000) :
  FC Tryz.prog w0 10 [tabV tv A l.length c, .string s] S (fun v S' => v = labB (findP l s) /\ S' = S) := by
 refine FC.ofC Tryz.known10 (by simp) ?_
 unfold Tryz.pc10
 simp only [argT]
 refine PW.seqOps (OL.cons trivial (OW.bx rfl) ?_)
 rintro _ _ ⟨r2, rfl, rfl⟩
 change OL _ _ _ _ _ (tseg r2 tv A l.length c :: S) _
 refine OL.cons trivial OW.al ?_
 rintro _ _ ⟨r4, rfl, rfl⟩
 refine OL.nil (PW.k3 1 2 4 rfl (PW.seqOps (OL.dp rfl (OL.nil (PW.k4 1 2 4 5 rfl ?_)))))
 refine PW.seq fun K1 hK1 => ?_
 refine PW.seqOps (OL.dp rfl (OL.det trivial (.ld rfl (own_at (j := 1) (c := [.int .i64 tv, .slice A l.length c]) (E := 24) (tot := 2) zM1 rfl)) (OL.dp rfl (OL.dp rfl (OL.nil (PW.k6 1 4 5 9 10 11 rfl (PW.block (PW.k6 1 4 5 9 10 11 rfl ?_))))))))
 refine PW.loopK (I := fun m T S' => ∃ (k : Nat), (k <= l.length /\ m = l.length - k) /\ T = ([(1, .string s), (4, .pointer (some ⟨r4, 0, none⟩)), (5, .int .i64 (findS (l.take k) s).1), (9, .slice A l.length c), (10, .int .i64 (l.length : Int)), (11, .int .i64 k)] : TT) /\ S' = lseg r4 (findS (l.take k) s).2 :: tseg r2 tv A l.length c :: S) (m := l.length) ⟨0, ⟨by omega, by omega⟩, rfl, rfl⟩ ?_
 rintro m _ _ ⟨k, ⟨hk, hm⟩, rfl, rfl⟩
 have hrg := findS_rng (s := s) hw k hk
 refine PW.seqOps (OL.dp rfl (OL.nil (PW.k7 1 4 5 9 10 11 12 rfl ?_)))
 refine PW.seq fun K2 hK2 => ?_
 refine PW.cond rfl (fun c12 => ?_) (fun c12 => ?_)
 ·try simp only [decide_eq_true_eq, decide_eq_false_iff_not, beq_iff_eq, bne_iff_ne, beq_eq_false_iff_ne, bne_eq_false_iff_eq, Bool.not_eq_true', Bool.not_eq_false', Bool.not_eq_true, ne_eq, Decidable.not_not] at c12
  have hkl : k < l.length := by omega
  obtain ⟨a0, rfl⟩ := ruls_some hx (by omega)
  have hwk := hw _ (List.getElem_mem hkl)
  refine PW.skip (hK2 _ _ (PW.k6 1 4 5 9 10 11 rfl ?_))
  refine PW.seq fun K3 hK3 => ?_
  refine PW.block (PW.seqOps ?_)
  refine OL.det trivial (.ixN rfl rfl rfl (by omega)) ?_
  refine OL.det trivial (.ldA rfl (cs := ruleC l[k]) rfl (rule_at hx.cons.cons hkl)) (OL.cons trivial OW.al ?_)
  rintro _ _ ⟨r7, rfl, rfl⟩
  refine OL.cons trivial (OW.st (k := 0) rfl rfl rfl rfl (by decide) rfl) ?_
  rintro _ _ rfl
  change OL _ _ _ _ _ (rseg r7 l[k] :: lseg r4 (findS (l.take k) s).2 :: tseg r2 tv (some a0) l.length c :: S) _
  refine OL.nil (PW.k7 1 4 5 7 9 10 11 rfl (PW.seqOps (OL.dp rfl (OL.det trivial (.ld rfl (own_at (j := 0) (c := ruleC l[k]) (E := 48) (tot := 3) zM0 rfl)) (OL.dp rfl (OL.dp rfl (OL.dp rfl ?_)))))))
  refine OL.bool trivial (Yields.pure rfl) (fun g20 => ?_) (fun g20 => ?_)
  ·try simp only [decide_eq_true_eq, decide_eq_false_iff_not, beq_iff_eq, bne_iff_ne, beq_eq_false_iff_ne, bne_eq_false_iff_eq, Bool.not_eq_true', Bool.not_eq_false', Bool.not_eq_true, ne_eq, Decidable.not_not] at g20
   refine OL.det rfl (.pure rfl) (OL.det rfl (.ld rfl (own_at (j := 0) (c := ruleC l[k]) (E := 48) (tot := 3) zM0 rfl)) (OL.det rfl (.pure rfl) (OL.call rfl rfl (rover_fc hwk hs) ?_)))
   rintro _ Sx ⟨rfl, hSx⟩
   rw [hSx]
   clear hSx
   refine OL.dp rfl (OL.nil (PW.k8 1 4 5 7 9 10 11 25 rfl ?_))
   refine PW.cond rfl (fun c25 => ?_) (fun c25 => ?_)
   ·try simp only [decide_eq_true_eq, decide_eq_false_iff_not, beq_iff_eq, bne_iff_ne, beq_eq_false_iff_ne, bne_eq_false_iff_eq, Bool.not_eq_true', Bool.not_eq_false', Bool.not_eq_true, ne_eq, Decidable.not_not] at c25
    refine PW.quietK Tryz.mixed (QK.dp rfl (QK.det trivial (.ld rfl (own_at (j := 0) (c := ruleC l[k]) (E := 48) (tot := 3) zM0 rfl)) (QK.dp rfl (QK.dp rfl (QK.det trivial (.ldA rfl rfl (rseg_at (x := l[k]))) (QK.dp rfl (QK.nil ?_)))))))
    change OL _ _ _ [_] _ _ _
    refine OL.cons trivial (OW.st (k := 1) (u := labB l[k].2) rfl rfl rfl rfl (Nat.le_refl 2) rfl) ?_
    rintro _ _ rfl
    change OL _ _ _ _ _ (rseg r7 l[k] :: lseg r4 l[k].2 :: tseg r2 tv (some a0) l.length c :: S) _
    refine OL.nil (hK3 _ _ (PW.k6 1 4 5 9 10 11 rfl (PW.ops ?_)))
    refine OL.det trivial (.add64 rfl rfl (by omega) (by omega)) ?_
    refine OL.dp rfl (OL.nil ?_)
    repeat rw [inBlk_n]
    try rw [thenK_n]
    refine LoopEnd.mkS ((Sub.drop (Sub.refl _))) (T'' := [(1, _), (4, _), (5, _), (9, _), (10, _), (11, _)]) (wi rfl) ?_
    refine ⟨l.length - (k + 1), by omega, k + 1, ⟨by omega, rfl⟩, ?_, ?_⟩
    ·rw [findS_take hkl, if_pos ⟨by omega, c25⟩] <;> rfl
    rw [findS_take hkl, if_pos ⟨by omega, c25⟩] <;> rfl
   try simp only [decide_eq_true_eq, decide_eq_false_iff_not, beq_iff_eq, bne_iff_ne, beq_eq_false_iff_ne, bne_eq_false_iff_eq, Bool.not_eq_true', Bool.not_eq_false', Bool.not_eq_true, ne_eq, Decidable.not_not] at c25
   refine PW.skip (hK3 _ _ (PW.k6 1 4 5 9 10 11 rfl (PW.ops ?_)))
   refine OL.det trivial (.add64 rfl rfl (by omega) (by omega)) ?_
   refine OL.dp rfl (OL.nil ?_)
   repeat rw [inBlk_n]
   try rw [thenK_n]
   refine LoopEnd.mkS ((Sub.drop (Sub.refl _))) (T'' := [(1, _), (4, _), (5, _), (9, _), (10, _), (11, _)]) (wi rfl) ?_
   refine ⟨l.length - (k + 1), by omega, k + 1, ⟨by omega, rfl⟩, ?_, ?_⟩
   ·rw [findS_take hkl, if_neg (fun h => by rw [h.2] at c25; cases c25)] <;> rfl
   rw [findS_take hkl, if_neg (fun h => by rw [h.2] at c25; cases c25)]
  try simp only [decide_eq_true_eq, decide_eq_false_iff_not, beq_iff_eq, bne_iff_ne, beq_eq_false_iff_ne, bne_eq_false_iff_eq, Bool.not_eq_true', Bool.not_eq_false', Bool.not_eq_true, ne_eq, Decidable.not_not] at g20
  refine OL.off rfl rfl (OL.off rfl rfl (OL.off rfl rfl (OL.off rfl rfl (OL.dp rfl (OL.nil (PW.k8 1 4 5 7 9 10 11 25 rfl (PW.ite (b := false) rfl ?_)))))))
  rw [if_neg Bool.false_ne_true]
  refine PW.skip (hK3 _ _ (PW.k6 1 4 5 9 10 11 rfl (PW.ops ?_)))
  refine OL.det trivial (.add64 rfl rfl (by omega) (by omega)) ?_
  refine OL.dp rfl (OL.nil ?_)
  repeat rw [inBlk_n]
  try rw [thenK_n]
  refine LoopEnd.mkS ((Sub.drop (Sub.refl _))) (T'' := [(1, _), (4, _), (5, _), (9, _), (10, _), (11, _)]) (wi rfl) ?_
  refine ⟨l.length - (k + 1), by omega, k + 1, ⟨by omega, rfl⟩, ?_, ?_⟩
  ·rw [findS_take hkl, if_neg (fun h => by omega)] <;> rfl
  rw [findS_take hkl, if_neg (fun h => by omega)]
 try simp only [decide_eq_true_eq, decide_eq_false_iff_not, beq_iff_eq, bne_iff_ne, beq_eq_false_iff_ne, bne_eq_false_iff_eq, Bool.not_eq_true', Bool.not_eq_false', Bool.not_eq_true, ne_eq, Decidable.not_not] at c12
 refine PW.exit (hK1 _ _ (PW.k1 4 rfl (PW.seqOps (OL.det trivial (.ldA rfl rfl (lab_at (a := (findS (l.take k) s).2) (r := r4) zM0)) (OL.cons trivial (OW.st (k := 0) (u := labB (findS (l.take k) s).2) rfl rfl rfl rfl (Nat.le_refl 2) rfl) ?_)))))
 rintro _ _ rfl
 change OL _ _ _ _ _ (lseg r4 (findS (l.take k) s).2 :: tseg r2 tv A l.length c :: S) _
 refine OL.nil (PW.k1 4 rfl (PW.ret ?_))
 obtain rfl : k = l.length := by omega
 rw [List.take_length]
 exact ⟨.inr rfl, _, labB (findP l s), rfl, lab_read (r := r4) (l := (findS l s).2.1) (c := ((findS l s).2.2.toNat : Int)) zM0, _, Sub.drop (Sub.drop (Sub.refl _)), rfl, rfl⟩
theorem slv_nil_len {E sz m : Nat} {v : Value} {xs : List Value} {seg : Seg} (hv : SlV E sz v m xs seg) (h : 0 < m) : ∃ r cap, v = .slice (some ⟨r, 0, none⟩) m cap /\ seg = [(r, .cells xs E (cap * sz))] /\ m <= cap /\ cap <= maxLen := by
 obtain ⟨hl, ⟨rfl, rfl, rfl⟩ | h2⟩ := hv
 ·omega
 exact h2
theorem owns_take {w : World} {b E tot : Nat} {c : List Value} (m : Nat) (h : Owns w b (.cells c E tot)) : Owns w b (.cells (c.take m) E tot) := by
 obtain ⟨C, h1, h2, h3⟩ := h
 refine ⟨C, h1, h2, ?_⟩
 rw [<- h3]
 simp [List.take_take]
def ltB (a b : ByteArray) : Bool := Op.bytesLess a.toList b.toList
theorem bl_trans : ∀ a b c : List UInt8, Op.bytesLess a b = true -> Op.bytesLess b c = true -> Op.bytesLess a c = true
 | a, b, [], _, h => by cases b <;> simp [Op.bytesLess] at h
 | [], b, x :: c, _, _ => rfl
 | y :: a, [], x :: c, h, _ => by simp [Op.bytesLess] at h
 | y :: a, z :: b, x :: c, h, k => by
  simp only [Op.bytesLess, Bool.or_eq_true, decide_eq_true_eq, Bool.and_eq_true, beq_iff_eq] at h k ⊢
  rcases h with h | ⟨rfl, h⟩ <;> rcases k with k | ⟨rfl, k⟩
  ·exact .inl (UInt8.lt_trans h k)
  ·exact .inl h
  ·exact .inl k
  exact .inr ⟨rfl, bl_trans a b c h k⟩
theorem bl_total : ∀ a b : List UInt8, Op.bytesLess a b = false -> a = b ∨ Op.bytesLess b a = true
 | [], [], _ => .inl rfl
 | [], _ :: _, h => by simp [Op.bytesLess] at h
 | _ :: _, [], _ => .inr rfl
 | x :: a, y :: b, h => by
  simp only [Op.bytesLess, Bool.or_eq_false_iff, decide_eq_false_iff_not] at h ⊢
  obtain ⟨h1, h2⟩ := h
  by_cases e : x = y
  ·subst e
   simp only [beq_self_eq_true, Bool.true_and] at h2
   rcases bl_total a b h2 with rfl | h3
   ·exact .inl rfl
   right; simp [h3]
  right
  have : y < x := by
   rcases UInt8.lt_or_lt_of_ne e with h | h
   ·exact absurd h h1
   exact h
  simp [this]
theorem lt_trans {a b c : ByteArray} (h : ltB a b = true) (k : ltB b c = true) : ltB a c = true := bl_trans _ _ _ h k
def prefB (s : ByteArray) : Bool := decide (s = ⟨#[]⟩) || isP s
theorem pref_chk (s : ByteArray) : (Go.Proofs.chkP s == 0) = isP s := by
 unfold Go.Proofs.chkP
 cases isP s <;> simp
def okL (a : LabB) : Bool := decide (0 <= a.1) && decide (a.1 <= 15)
theorem okL_chk (a : LabB) : Go.Proofs.Lb.chkP a.1 = 0 ↔ okL a = true := by
 unfold Go.Proofs.Lb.chkP okL
 split <;> simp <;> omega
def okAt (l : List RuleB) (i : Nat) : Bool := (decide (i = 0) || ltB l[i - 1]!.1 l[i]!.1) && prefB l[i]!.1 && okL l[i]!.2
def chkT (l : List RuleB) (tv : Int) : Int := if 32 < l.length ∨ tv < (l.length : Int) then 2 else if (List.range l.length).all (okAt l) = true then 0 else 2
def rokAt (l : List RuleB) (i : Nat) : Bool := prefB l[i]!.1 && okL l[i]!.2 && (List.range i).all fun j => ltB l[j]!.1 l[i]!.1
def chkR (l : List RuleB) (tv : Int) : Int := if 32 < l.length ∨ tv < (l.length : Int) then 2 else if (List.range l.length).all (rokAt l) = true then 0 else 2
theorem all_bad {f : Nat -> Bool} {n k : Nat} (hk : k < n) (h : f k = false) : ¬ (List.range n).all f = true := by
 intro h2
 have := List.all_eq_true.1 h2 k (List.mem_range.2 hk)
 rw [h] at this; cases this
theorem all_succ {f : Nat -> Bool} {k : Nat} (h : (List.range k).all f = true) (h2 : f k = true) : (List.range (k + 1)).all f = true := by
 rw [List.range_succ, List.all_append, h]; simp [h2]
abbrev tsegR (r : Nat) (v : Int) (A : Option Addr) (n c : Nat) : Seg := [(r, .cells [.int .i64 v, .slice A n c] 30 2)]
theorem tabR_at {w0 : World} {S : SS} {r : Nat} {tv : Int} {A : Option Addr} {n c : Nat} (hm : (r, AO.cells [.int .i64 tv, .slice A n c] 30 2) ∈ S.flatten) :
  ∀ (j : Nat) (v : Value), [Value.int .i64 tv, .slice A n c][j]? = some v -> Cell w0 S ((⟨r, 0, none⟩ : Addr).add j) v := fun j v hj => (Rd.own hm).at hj
theorem prefB_fc {w0 : World} {S : SS} {s : ByteArray} (hs : s.size <= 1000000000) : FC Tryz.prog w0 20 [.string s] S (fun v S' => v = .bool (prefB s) /\ S' = S) := by
 refine FC.of Tryz.known20 (by simp) ?_
 unfold Tryz.pc20
 simp only [argT]
 refine PW.seqOps (OL.dp rfl (OL.nil (PW.k1 0 rfl (PW.seqOps (OL.dp rfl (OL.dp rfl ?_))))))
 refine OL.bool trivial (Yields.pure rfl) (fun g5 => ?_) (fun g5 => ?_)
 ·try simp only [decide_eq_true_eq, decide_eq_false_iff_not, beq_iff_eq, bne_iff_ne, beq_eq_false_iff_ne, bne_eq_false_iff_eq, Bool.not_eq_true', Bool.not_eq_false', Bool.not_eq_true, ne_eq, Decidable.not_not] at g5
  rw [toL_inj] at g5
  refine OL.off rfl rfl (OL.off rfl rfl (OL.off rfl rfl (OL.dp rfl (OL.dp rfl (OL.nil (PW.k1 2 rfl (PW.ret ?_)))))))
  change (Exit.ret = Exit.normal ∨ Exit.ret = Exit.ret) /\ ∃ v, resV _ _ = some v /\ _
  exact ⟨.inr rfl, _, rfl, by unfold prefB; first | (rw [decide_eq_true g5]; rfl) | (rw [decide_eq_false g5, <- pref_chk]; rfl), rfl⟩
 try simp only [decide_eq_true_eq, decide_eq_false_iff_not, beq_iff_eq, bne_iff_ne, beq_eq_false_iff_ne, bne_eq_false_iff_eq, Bool.not_eq_true', Bool.not_eq_false', Bool.not_eq_true, ne_eq, Decidable.not_not] at g5
 rw [toL_inj] at g5
 refine OL.det rfl (.pure rfl) (OL.call rfl rfl (check_fc hs) ?_)
 rintro _ Sx ⟨rfl, hSx⟩
 rw [hSx]
 clear hSx
 refine OL.det rfl (.pure rfl) (OL.dp rfl (OL.dp rfl (OL.nil (PW.k1 2 rfl (PW.ret ?_)))))
 change (Exit.ret = Exit.normal ∨ Exit.ret = Exit.ret) /\ ∃ v, resV _ _ = some v /\ _
 exact ⟨.inr rfl, _, rfl, by unfold prefB; first | (rw [decide_eq_true g5]; rfl) | (rw [decide_eq_false g5, <- pref_chk]; rfl), rfl⟩
theorem rprefB_fc {w0 : World} {S : SS} {s : ByteArray} (hs : s.size <= 1000000000) : FC Tryz.prog w0 22 [.string s] S (fun v S' => v = .bool (prefB s) /\ S' = S) := by
 refine FC.of Tryz.known22 (by simp) ?_
 unfold Tryz.pc22
 simp only [argT]
 refine PW.seqOps (OL.dp rfl (OL.nil (PW.k1 0 rfl (PW.seqOps (OL.dp rfl (OL.dp rfl ?_))))))
 refine OL.bool trivial (Yields.pure rfl) (fun g5 => ?_) (fun g5 => ?_)
 ·try simp only [decide_eq_true_eq, decide_eq_false_iff_not, beq_iff_eq, bne_iff_ne, beq_eq_false_iff_ne, bne_eq_false_iff_eq, Bool.not_eq_true', Bool.not_eq_false', Bool.not_eq_true, ne_eq, Decidable.not_not] at g5
  rw [toL_inj] at g5
  refine OL.off rfl rfl (OL.off rfl rfl (OL.off rfl rfl (OL.dp rfl (OL.dp rfl (OL.nil (PW.k1 2 rfl (PW.ret ?_)))))))
  change (Exit.ret = Exit.normal ∨ Exit.ret = Exit.ret) /\ ∃ v, resV _ _ = some v /\ _
  exact ⟨.inr rfl, _, rfl, by unfold prefB; first | (rw [decide_eq_true g5]; rfl) | (rw [decide_eq_false g5, <- pref_chk]; rfl), rfl⟩
 try simp only [decide_eq_true_eq, decide_eq_false_iff_not, beq_iff_eq, bne_iff_ne, beq_eq_false_iff_ne, bne_eq_false_iff_eq, Bool.not_eq_true', Bool.not_eq_false', Bool.not_eq_true, ne_eq, Decidable.not_not] at g5
 rw [toL_inj] at g5
 refine OL.det rfl (.pure rfl) (OL.call rfl rfl (rcheck_fc hs) ?_)
 rintro _ Sx ⟨rfl, hSx⟩
 rw [hSx]
 clear hSx
 refine OL.det rfl (.pure rfl) (OL.dp rfl (OL.dp rfl (OL.nil (PW.k1 2 rfl (PW.ret ?_)))))
 change (Exit.ret = Exit.normal ∨ Exit.ret = Exit.ret) /\ ∃ v, resV _ _ = some v /\ _
 exact ⟨.inr rfl, _, rfl, by unfold prefB; first | (rw [decide_eq_true g5]; rfl) | (rw [decide_eq_false g5, <- pref_chk]; rfl), rfl⟩
theorem chkT_fc {w0 : World} {S : SS} {A : Option Addr} {c : Nat} {tv : Int} {l : List RuleB} (hx : Rd w0 S A (ruls l)) (hw : ∀ x ∈ l, x.1.size <= 1000000000) (hl : l.length <= 1000000000) :
  FC Tryz.prog w0 7 [tabV tv A l.length c] S (fun v S' => v = .int .i64 (chkT l tv) /\ S' = S) := by
 refine FC.ofD Tryz.known7 (by simp) ?_
 unfold Tryz.pc7
 simp only [argT]
 refine PW.seqOps (OL.cons trivial (OW.bx rfl) ?_)
 rintro _ _ ⟨r1, rfl, rfl⟩
 change OL _ _ _ _ _ (tseg r1 tv A l.length c :: S) _
 refine OL.dp rfl (OL.nil (PW.k1 1 rfl ?_))
 refine PW.seq fun K1 hK1 => ?_
 refine PW.seqOps (OL.dp rfl (OL.det trivial (.ld rfl (own_at (j := 1) (c := [.int .i64 tv, .slice A l.length c]) (E := 24) (tot := 2) zM0 rfl)) (OL.dp rfl (OL.dp rfl ?_))))
 refine OL.bool trivial (Yields.pure rfl) (fun g9 => ?_) (fun g9 => ?_)
 ·try simp only [decide_eq_true_eq, decide_eq_false_iff_not, beq_iff_eq, bne_iff_ne, beq_eq_false_iff_ne, bne_eq_false_iff_eq, Bool.not_eq_true', Bool.not_eq_false', Bool.not_eq_true, ne_eq, Decidable.not_not] at g9
  refine OL.off rfl rfl (OL.off rfl rfl (OL.off rfl rfl (OL.off rfl rfl (OL.off rfl rfl (OL.off rfl rfl (OL.dp rfl (OL.nil (PW.k2 1 16 rfl (PW.ite (b := true) rfl ?_)))))))))
  rw [if_pos rfl]
  refine PW.seqOps (OL.dp rfl (OL.nil (PW.k1 2 rfl (PW.ret ?_))))
  change (Exit.ret = Exit.normal ∨ Exit.ret = Exit.ret) /\ ∃ v, resV _ _ = some v /\ _
  exact ⟨.inr rfl, _, rfl, _, Sub.drop (Sub.refl _), by unfold chkT; rw [if_pos (by omega)], rfl⟩
 try simp only [decide_eq_true_eq, decide_eq_false_iff_not, beq_iff_eq, bne_iff_ne, beq_eq_false_iff_ne, bne_eq_false_iff_eq, Bool.not_eq_true', Bool.not_eq_false', Bool.not_eq_true, ne_eq, Decidable.not_not] at g9
 refine OL.det rfl (.pure rfl) (OL.det rfl (.ld rfl (own_at (j := 0) (c := [.int .i64 tv, .slice A l.length c]) (E := 24) (tot := 2) zM0 rfl)) (OL.det rfl (.pure rfl) (OL.det rfl (.ld rfl (own_at (j := 1) (c := [.int .i64 tv, .slice A l.length c]) (E := 24) (tot := 2) zM0 rfl)) (OL.det rfl (.pure rfl) (OL.det rfl (.pure rfl) (OL.dp rfl (OL.nil (PW.k2 1 16 rfl ?_))))))))
 refine PW.cond rfl (fun c16 => ?_) (fun c16 => ?_)
 ·try simp only [decide_eq_true_eq, decide_eq_false_iff_not, beq_iff_eq, bne_iff_ne, beq_eq_false_iff_ne, bne_eq_false_iff_eq, Bool.not_eq_true', Bool.not_eq_false', Bool.not_eq_true, ne_eq, Decidable.not_not] at c16
  refine PW.seqOps (OL.dp rfl (OL.nil (PW.k1 2 rfl (PW.ret ?_))))
  change (Exit.ret = Exit.normal ∨ Exit.ret = Exit.ret) /\ ∃ v, resV _ _ = some v /\ _
  exact ⟨.inr rfl, _, rfl, _, Sub.drop (Sub.refl _), by unfold chkT; rw [if_pos (by omega)], rfl⟩
 try simp only [decide_eq_true_eq, decide_eq_false_iff_not, beq_iff_eq, bne_iff_ne, beq_eq_false_iff_ne, bne_eq_false_iff_eq, Bool.not_eq_true', Bool.not_eq_false', Bool.not_eq_true, ne_eq, Decidable.not_not] at c16
 refine PW.skip (hK1 _ _ (PW.k1 1 rfl ?_))
 refine PW.seq fun K2 hK2 => ?_
 refine PW.seqOps (OL.dp rfl (OL.det trivial (.ld rfl (own_at (j := 1) (c := [.int .i64 tv, .slice A l.length c]) (E := 24) (tot := 2) zM0 rfl)) (OL.dp rfl (OL.dp rfl (OL.nil (PW.k4 1 18 19 20 rfl (PW.block (PW.k4 1 18 19 20 rfl ?_))))))))
 refine PW.loopK (I := fun m T S' => ∃ (k : Nat), (k <= l.length /\ m = l.length - k /\ (List.range k).all (okAt l) = true) /\ T = ([(1, .pointer (some ⟨r1, 0, none⟩)), (18, .slice A l.length c), (19, .int .i64 (l.length : Int)), (20, .int .i64 k)] : TT) /\ S' = tseg r1 tv A l.length c :: S) (m := l.length) ⟨0, ⟨by omega, by omega, rfl⟩, rfl, rfl⟩ ?_
 rintro m _ _ ⟨k, ⟨hk, hm, hall⟩, rfl, rfl⟩
 refine PW.seqOps (OL.dp rfl (OL.nil (PW.k5 1 18 19 20 21 rfl ?_)))
 refine PW.seq fun K3 hK3 => ?_
 refine PW.cond rfl (fun c21 => ?_) (fun c21 => ?_)
 ·try simp only [decide_eq_true_eq, decide_eq_false_iff_not, beq_iff_eq, bne_iff_ne, beq_eq_false_iff_ne, bne_eq_false_iff_eq, Bool.not_eq_true', Bool.not_eq_false', Bool.not_eq_true, ne_eq, Decidable.not_not] at c21
  have hkl : k < l.length := by omega
  obtain ⟨a0, rfl⟩ := ruls_some hx (by omega)
  have hwk := hw _ (List.getElem_mem hkl)
  refine PW.skip (hK3 _ _ (PW.k4 1 18 19 20 rfl ?_))
  refine PW.seq fun K4 hK4 => ?_
  refine PW.block (PW.seqOps (OL.dp rfl ?_))
  refine OL.det trivial (.ixN rfl rfl rfl (by omega)) ?_
  refine OL.det trivial (.ldA rfl (cs := ruleC l[k]) rfl (rule_at hx.cons hkl)) (OL.cons trivial OW.al ?_)
  rintro _ _ ⟨r4, rfl, rfl⟩
  refine OL.dp rfl ?_
  refine OL.cons trivial (OW.st (k := 0) rfl rfl rfl rfl (by decide) rfl) ?_
  rintro _ _ rfl
  change OL _ _ _ _ _ (rseg r4 l[k] :: tseg r1 tv (some a0) l.length c :: S) _
  refine OL.nil (PW.k6 1 3 4 18 19 20 rfl ?_)
  refine PW.seq fun K5 hK5 => ?_
  refine PW.quietK Tryz.mixed (QK.dp rfl (QK.dp rfl ?_))
  refine QK.bool trivial (Yields.pure rfl) (fun g27 => ?_) (fun g27 => ?_)
  ·try simp only [decide_eq_true_eq, decide_eq_false_iff_not, beq_iff_eq, bne_iff_ne, beq_eq_false_iff_ne, bne_eq_false_iff_eq, Bool.not_eq_true', Bool.not_eq_false', Bool.not_eq_true, ne_eq, Decidable.not_not] at g27
   refine QK.det rfl (.pure rfl) (QK.det rfl (.ld rfl (own_at (j := 1) (c := [.int .i64 tv, .slice (some a0) l.length c]) (E := 24) (tot := 2) zM1 rfl)) (QK.det rfl (.pure rfl) ?_))
   refine QK.det rfl (.sub64 rfl rfl (by omega) (by omega)) ?_
   refine QK.det rfl (.ixN rfl rfl (show (k : Int) - 1 = ((k - 1 : Nat) : Int) from by omega) (by omega)) ?_
   refine QK.det rfl (.pure rfl) ?_
   refine QK.det rfl (.ld rfl (rule_at hx.cons.cons (show k - 1 < l.length from by omega) 0 _ rfl)) ?_
   refine QK.det rfl (.pure rfl) (QK.det rfl (.ld rfl (own_at (j := 0) (c := ruleC l[k]) (E := 48) (tot := 3) zM0 rfl)) (QK.nil ?_))
   change OL _ _ _ [_, _, _, _, _, _, _, _, _, _, _, _, _, _] _ _ _
   refine OL.det rfl (.pure rfl) (OL.dp rfl ?_)
   refine OL.bool trivial (Yields.pure rfl) (fun g39 => ?_) (fun g39 => ?_)
   ·try simp only [decide_eq_true_eq, decide_eq_false_iff_not, beq_iff_eq, bne_iff_ne, beq_eq_false_iff_ne, bne_eq_false_iff_eq, Bool.not_eq_true', Bool.not_eq_false', Bool.not_eq_true, ne_eq, Decidable.not_not] at g39
    have hbad : okAt l k = false := by
     unfold okAt
     rw [(getElem!_pos l k hkl), getElem!_pos l (k - 1) (by omega), decide_eq_false (by omega : ¬ k = 0)]
     have e : ltB l[k - 1].1 l[k].1 = false := by simpa [ltB] using g39
     rw [e]; rfl
    refine OL.off rfl rfl (OL.off rfl rfl (OL.off rfl rfl (OL.off rfl rfl (OL.dp rfl (OL.dp rfl (OL.off rfl rfl (OL.off rfl rfl (OL.off rfl rfl (OL.off rfl rfl (OL.dp rfl (OL.nil ?_)))))))))))
    refine hK5 _ _ (PW.k5 1 18 19 20 50 rfl (PW.ite (b := true) rfl ?_))
    rw [if_pos rfl]
    refine PW.seqOps (OL.dp rfl (OL.nil (PW.k1 2 rfl (PW.ret ?_))))
    change (Exit.ret = Exit.normal ∨ Exit.ret = Exit.ret) /\ ∃ v, resV _ _ = some v /\ _
    exact ⟨.inr rfl, _, rfl, _, Sub.drop (Sub.drop (Sub.refl _)), by unfold chkT; rw [if_neg (by omega), if_neg (all_bad hkl hbad)], rfl⟩
   try simp only [decide_eq_true_eq, decide_eq_false_iff_not, beq_iff_eq, bne_iff_ne, beq_eq_false_iff_ne, bne_eq_false_iff_eq, Bool.not_eq_true', Bool.not_eq_false', Bool.not_eq_true, ne_eq, Decidable.not_not] at g39
   have hs1 : (decide (k = 0) || ltB l[k - 1]!.1 l[k].1) = true := by
    rw [getElem!_pos l (k - 1) (by omega)]
    have e : ltB l[k - 1].1 l[k].1 = true := by simpa [ltB] using g39
    rw [e, Bool.or_true]
   refine OL.det rfl (.pure rfl) (OL.det rfl (.ld rfl (own_at (j := 0) (c := ruleC l[k]) (E := 48) (tot := 3) zM0 rfl)) (OL.call rfl rfl (prefB_fc hwk) ?_))
   rintro _ Sx ⟨rfl, hSx⟩
   rw [hSx]
   clear hSx
   refine OL.det rfl (.pure rfl) (OL.dp rfl ?_)
   refine OL.bool trivial (Yields.pure rfl) (fun g45 => ?_) (fun g45 => ?_)
   ·try simp only [decide_eq_true_eq, decide_eq_false_iff_not, beq_iff_eq, bne_iff_ne, beq_eq_false_iff_ne, bne_eq_false_iff_eq, Bool.not_eq_true', Bool.not_eq_false', Bool.not_eq_true, ne_eq, Decidable.not_not] at g45
    have hbad : okAt l k = false := by
     unfold okAt
     rw [(getElem!_pos l k hkl), show prefB l[k].1 = false by simpa using g45]
     simp
    refine OL.off rfl rfl (OL.off rfl rfl (OL.off rfl rfl (OL.off rfl rfl (OL.dp rfl (OL.nil (hK5 _ _ (PW.k5 1 18 19 20 50 rfl (PW.ite (b := true) rfl ?_))))))))
    rw [if_pos rfl]
    refine PW.seqOps (OL.dp rfl (OL.nil (PW.k1 2 rfl (PW.ret ?_))))
    change (Exit.ret = Exit.normal ∨ Exit.ret = Exit.ret) /\ ∃ v, resV _ _ = some v /\ _
    exact ⟨.inr rfl, _, rfl, _, Sub.drop (Sub.drop (Sub.refl _)), by unfold chkT; rw [if_neg (by omega), if_neg (all_bad hkl hbad)], rfl⟩
   try simp only [decide_eq_true_eq, decide_eq_false_iff_not, beq_iff_eq, bne_iff_ne, beq_eq_false_iff_ne, bne_eq_false_iff_eq, Bool.not_eq_true', Bool.not_eq_false', Bool.not_eq_true, ne_eq, Decidable.not_not] at g45
   have hs2 : prefB l[k].1 = true := by simpa using g45
   refine OL.det rfl (.pure rfl) (OL.det rfl (.ldA rfl rfl (rseg_at (x := l[k]))) (OL.call rfl rfl (check_lab (a := (l[k].2.1, (l[k].2.2.toNat)))) ?_))
   rintro _ Sx ⟨rfl, hSx⟩
   rw [hSx]
   clear hSx
   refine OL.det rfl (.pure rfl) (OL.dp rfl (OL.nil (hK5 _ _ (PW.k5 1 18 19 20 50 rfl ?_))))
   refine PW.cond rfl (fun c50 => ?_) (fun c50 => ?_)
   ·try simp only [decide_eq_true_eq, decide_eq_false_iff_not, beq_iff_eq, bne_iff_ne, beq_eq_false_iff_ne, bne_eq_false_iff_eq, Bool.not_eq_true', Bool.not_eq_false', Bool.not_eq_true, ne_eq, Decidable.not_not] at c50
    have hbad : okAt l k = false := by
     have h0 : okL l[k].2 = false := by rw [Bool.eq_false_iff, Ne, <- okL_chk]; exact c50
     unfold okAt; rw [(getElem!_pos l k hkl), h0, Bool.and_false]
    refine PW.seqOps (OL.dp rfl (OL.nil (PW.k1 2 rfl (PW.ret ?_))))
    change (Exit.ret = Exit.normal ∨ Exit.ret = Exit.ret) /\ ∃ v, resV _ _ = some v /\ _
    exact ⟨.inr rfl, _, rfl, _, Sub.drop (Sub.drop (Sub.refl _)), by unfold chkT; rw [if_neg (by omega), if_neg (all_bad hkl hbad)], rfl⟩
   try simp only [decide_eq_true_eq, decide_eq_false_iff_not, beq_iff_eq, bne_iff_ne, beq_eq_false_iff_ne, bne_eq_false_iff_eq, Bool.not_eq_true', Bool.not_eq_false', Bool.not_eq_true, ne_eq, Decidable.not_not] at c50
   have hs3 : okL l[k].2 = true := (okL_chk _).1 (by simpa using c50)
   refine PW.skip (hK4 _ _ (PW.k4 1 18 19 20 rfl (PW.ops ?_)))
   refine OL.det trivial (.add64 rfl rfl (by omega) (by omega)) ?_
   refine OL.dp rfl (OL.nil ?_)
   repeat rw [inBlk_n]
   try rw [thenK_n]
   refine LoopEnd.mkS ((Sub.drop (Sub.refl _))) (T'' := [(1, _), (18, _), (19, _), (20, _)]) (wi rfl) ?_
   refine ⟨l.length - (k + 1), by omega, k + 1, ⟨by omega, rfl, all_succ hall ?_⟩, rfl, rfl⟩
   unfold okAt
   rw [(getElem!_pos l k hkl), hs1, hs2, hs3]; rfl
  try simp only [decide_eq_true_eq, decide_eq_false_iff_not, beq_iff_eq, bne_iff_ne, beq_eq_false_iff_ne, bne_eq_false_iff_eq, Bool.not_eq_true', Bool.not_eq_false', Bool.not_eq_true, ne_eq, Decidable.not_not] at g27
  have hs1 : (decide (k = 0) || ltB l[k - 1]!.1 l[k].1) = true := by
   obtain rfl : k = 0 := by omega
   rfl
  refine QK.off rfl rfl (QK.off rfl rfl (QK.off rfl rfl (QK.off rfl rfl (QK.off rfl rfl (QK.off rfl rfl (QK.off rfl rfl (QK.off rfl rfl (QK.off rfl rfl (QK.nil ?_)))))))))
  change OL _ _ _ [_, _, _, _, _, _, _, _, _, _, _, _, _, _] _ _ _
  refine OL.off rfl rfl (OL.dp rfl (OL.dp rfl (OL.det rfl (.pure rfl) (OL.det rfl (.ld rfl (own_at (j := 0) (c := ruleC l[k]) (E := 48) (tot := 3) zM0 rfl)) (OL.call rfl rfl (prefB_fc hwk) ?_)))))
  rintro _ Sx ⟨rfl, hSx⟩
  rw [hSx]
  clear hSx
  refine OL.det rfl (.pure rfl) (OL.dp rfl ?_)
  refine OL.bool trivial (Yields.pure rfl) (fun g45 => ?_) (fun g45 => ?_)
  ·try simp only [decide_eq_true_eq, decide_eq_false_iff_not, beq_iff_eq, bne_iff_ne, beq_eq_false_iff_ne, bne_eq_false_iff_eq, Bool.not_eq_true', Bool.not_eq_false', Bool.not_eq_true, ne_eq, Decidable.not_not] at g45
   have hbad : okAt l k = false := by
    unfold okAt
    rw [(getElem!_pos l k hkl), show prefB l[k].1 = false by simpa using g45]
    simp
   refine OL.off rfl rfl (OL.off rfl rfl (OL.off rfl rfl (OL.off rfl rfl (OL.dp rfl (OL.nil (hK5 _ _ (PW.k5 1 18 19 20 50 rfl (PW.ite (b := true) rfl ?_))))))))
   rw [if_pos rfl]
   refine PW.seqOps (OL.dp rfl (OL.nil (PW.k1 2 rfl (PW.ret ?_))))
   change (Exit.ret = Exit.normal ∨ Exit.ret = Exit.ret) /\ ∃ v, resV _ _ = some v /\ _
   exact ⟨.inr rfl, _, rfl, _, Sub.drop (Sub.drop (Sub.refl _)), by unfold chkT; rw [if_neg (by omega), if_neg (all_bad hkl hbad)], rfl⟩
  try simp only [decide_eq_true_eq, decide_eq_false_iff_not, beq_iff_eq, bne_iff_ne, beq_eq_false_iff_ne, bne_eq_false_iff_eq, Bool.not_eq_true', Bool.not_eq_false', Bool.not_eq_true, ne_eq, Decidable.not_not] at g45
  have hs2 : prefB l[k].1 = true := by simpa using g45
  refine OL.det rfl (.pure rfl) (OL.det rfl (.ldA rfl rfl (rseg_at (x := l[k]))) (OL.call rfl rfl (check_lab (a := (l[k].2.1, (l[k].2.2.toNat)))) ?_))
  rintro _ Sx ⟨rfl, hSx⟩
  rw [hSx]
  clear hSx
  refine OL.det rfl (.pure rfl) (OL.dp rfl (OL.nil (hK5 _ _ (PW.k5 1 18 19 20 50 rfl ?_))))
  refine PW.cond rfl (fun c50 => ?_) (fun c50 => ?_)
  ·try simp only [decide_eq_true_eq, decide_eq_false_iff_not, beq_iff_eq, bne_iff_ne, beq_eq_false_iff_ne, bne_eq_false_iff_eq, Bool.not_eq_true', Bool.not_eq_false', Bool.not_eq_true, ne_eq, Decidable.not_not] at c50
   have hbad : okAt l k = false := by
    have h0 : okL l[k].2 = false := by rw [Bool.eq_false_iff, Ne, <- okL_chk]; exact c50
    unfold okAt; rw [(getElem!_pos l k hkl), h0, Bool.and_false]
   refine PW.seqOps (OL.dp rfl (OL.nil (PW.k1 2 rfl (PW.ret ?_))))
   change (Exit.ret = Exit.normal ∨ Exit.ret = Exit.ret) /\ ∃ v, resV _ _ = some v /\ _
   exact ⟨.inr rfl, _, rfl, _, Sub.drop (Sub.drop (Sub.refl _)), by unfold chkT; rw [if_neg (by omega), if_neg (all_bad hkl hbad)], rfl⟩
  try simp only [decide_eq_true_eq, decide_eq_false_iff_not, beq_iff_eq, bne_iff_ne, beq_eq_false_iff_ne, bne_eq_false_iff_eq, Bool.not_eq_true', Bool.not_eq_false', Bool.not_eq_true, ne_eq, Decidable.not_not] at c50
  have hs3 : okL l[k].2 = true := (okL_chk _).1 (by simpa using c50)
  refine PW.skip (hK4 _ _ (PW.k4 1 18 19 20 rfl (PW.ops ?_)))
  refine OL.det trivial (.add64 rfl rfl (by omega) (by omega)) ?_
  refine OL.dp rfl (OL.nil ?_)
  repeat rw [inBlk_n]
  try rw [thenK_n]
  refine LoopEnd.mkS ((Sub.drop (Sub.refl _))) (T'' := [(1, _), (18, _), (19, _), (20, _)]) (wi rfl) ?_
  refine ⟨l.length - (k + 1), by omega, k + 1, ⟨by omega, rfl, all_succ hall ?_⟩, rfl, rfl⟩
  unfold okAt
  rw [(getElem!_pos l k hkl), hs1, hs2, hs3]; rfl
 try simp only [decide_eq_true_eq, decide_eq_false_iff_not, beq_iff_eq, bne_iff_ne, beq_eq_false_iff_ne, bne_eq_false_iff_eq, Bool.not_eq_true', Bool.not_eq_false', Bool.not_eq_true, ne_eq, Decidable.not_not] at c21
 refine PW.exit (hK2 _ _ (PW.keep (T' := []) trivial (PW.seqOps (OL.dp rfl (OL.nil (PW.k1 2 rfl (PW.ret ?_)))))))
 change (Exit.ret = Exit.normal ∨ Exit.ret = Exit.ret) /\ ∃ v, resV _ _ = some v /\ _
 obtain rfl : k = l.length := by omega
 exact ⟨.inr rfl, _, rfl, _, Sub.drop (Sub.refl _), by unfold chkT; rw [if_neg (by omega), if_pos hall], rfl⟩
theorem tab_read {w0 : World} {S : SS} {r E : Nat} {tv : Int} {A : Option Addr} {n c : Nat} (hm : (r, AO.cells [.int .i64 tv, .slice A n c] E 2) ∈ S.flatten) : ReadsAs w0 S (some 2) ⟨r, 0, none⟩ (tabV tv A n c) :=
 ⟨[.int .i64 tv, .slice A n c], rfl, rfl, fun j u hj => (Rd.own hm).at hj⟩
theorem chkR_fc {w0 : World} {S : SS} {A : Option Addr} {c : Nat} {tv : Int} {l : List RuleB} (hx : Rd w0 S A (ruls l)) (hw : ∀ x ∈ l, x.1.size <= 1000000000) (hl : l.length <= 1000000000) :
  FC Tryz.prog w0 8 [tabV tv A l.length c] S (fun v S' => v = .int .i64 (chkR l tv) /\ S' = S) := by
 refine FC.ofD Tryz.known8 (by simp) ?_
 unfold Tryz.pc8
 simp only [argT]
 refine PW.seqOps (OL.cons trivial (OW.bx rfl) ?_)
 rintro _ _ ⟨r1, rfl, rfl⟩
 change OL _ _ _ _ _ (tsegR r1 tv A l.length c :: S) _
 refine OL.dp rfl (OL.nil (PW.k1 1 rfl ?_))
 refine PW.seq fun K1 hK1 => ?_
 refine PW.seqOps (OL.dp rfl (OL.det trivial (.ld rfl (own_at (j := 1) (c := [.int .i64 tv, .slice A l.length c]) (E := 30) (tot := 2) zM0 rfl)) (OL.dp rfl (OL.dp rfl ?_))))
 refine OL.bool trivial (Yields.pure rfl) (fun g10 => ?_) (fun g10 => ?_)
 ·try simp only [decide_eq_true_eq, decide_eq_false_iff_not, beq_iff_eq, bne_iff_ne, beq_eq_false_iff_ne, bne_eq_false_iff_eq, Bool.not_eq_true', Bool.not_eq_false', Bool.not_eq_true, ne_eq, Decidable.not_not] at g10
  refine OL.off rfl rfl (OL.off rfl rfl (OL.off rfl rfl (OL.off rfl rfl (OL.off rfl rfl (OL.off rfl rfl (OL.dp rfl (OL.nil (PW.k2 1 17 rfl (PW.ite (b := true) rfl ?_)))))))))
  rw [if_pos rfl]
  refine PW.seqOps (OL.dp rfl (OL.nil (PW.k1 2 rfl (PW.ret ?_))))
  change (Exit.ret = Exit.normal ∨ Exit.ret = Exit.ret) /\ ∃ v, resV _ _ = some v /\ _
  exact ⟨.inr rfl, _, rfl, _, Sub.drop (Sub.refl _), by unfold chkR; rw [if_pos (by omega)], rfl⟩
 try simp only [decide_eq_true_eq, decide_eq_false_iff_not, beq_iff_eq, bne_iff_ne, beq_eq_false_iff_ne, bne_eq_false_iff_eq, Bool.not_eq_true', Bool.not_eq_false', Bool.not_eq_true, ne_eq, Decidable.not_not] at g10
 refine OL.det rfl (.pure rfl) (OL.det rfl (.ld rfl (own_at (j := 0) (c := [.int .i64 tv, .slice A l.length c]) (E := 30) (tot := 2) zM0 rfl)) (OL.det rfl (.pure rfl) (OL.det rfl (.ld rfl (own_at (j := 1) (c := [.int .i64 tv, .slice A l.length c]) (E := 30) (tot := 2) zM0 rfl)) (OL.det rfl (.pure rfl) (OL.det rfl (.pure rfl) (OL.dp rfl (OL.nil (PW.k2 1 17 rfl ?_))))))))
 refine PW.cond rfl (fun c17 => ?_) (fun c17 => ?_)
 ·try simp only [decide_eq_true_eq, decide_eq_false_iff_not, beq_iff_eq, bne_iff_ne, beq_eq_false_iff_ne, bne_eq_false_iff_eq, Bool.not_eq_true', Bool.not_eq_false', Bool.not_eq_true, ne_eq, Decidable.not_not] at c17
  refine PW.seqOps (OL.dp rfl (OL.nil (PW.k1 2 rfl (PW.ret ?_))))
  change (Exit.ret = Exit.normal ∨ Exit.ret = Exit.ret) /\ ∃ v, resV _ _ = some v /\ _
  exact ⟨.inr rfl, _, rfl, _, Sub.drop (Sub.refl _), by unfold chkR; rw [if_pos (by omega)], rfl⟩
 try simp only [decide_eq_true_eq, decide_eq_false_iff_not, beq_iff_eq, bne_iff_ne, beq_eq_false_iff_ne, bne_eq_false_iff_eq, Bool.not_eq_true', Bool.not_eq_false', Bool.not_eq_true, ne_eq, Decidable.not_not] at c17
 refine PW.skip (hK1 _ _ (PW.k1 1 rfl ?_))
 refine PW.seq fun K2 hK2 => ?_
 refine PW.seqOps (OL.dp rfl (OL.nil (PW.k2 1 3 rfl (PW.block (PW.k2 1 3 rfl ?_)))))
 refine PW.loopK (I := fun m T S' => ∃ (k : Nat), (k <= l.length /\ m = l.length - k /\ (List.range k).all (rokAt l) = true) /\ T = ([(1, .pointer (some ⟨r1, 0, none⟩)), (3, .int .i64 k)] : TT) /\ S' = tsegR r1 tv A l.length c :: S) (m := l.length) ⟨0, ⟨by omega, by omega, rfl⟩, rfl, rfl⟩ ?_
 rintro m _ _ ⟨k, ⟨hk, hm, hall⟩, rfl, rfl⟩
 refine PW.seq fun K3 hK3 => ?_
 refine PW.seqOps (OL.dp rfl (OL.dp rfl (OL.det trivial (.ld rfl (own_at (j := 1) (c := [.int .i64 tv, .slice A l.length c]) (E := 30) (tot := 2) zM0 rfl)) (OL.dp rfl (OL.dp rfl (OL.nil (PW.k3 1 3 22 rfl ?_)))))))
 refine PW.cond rfl (fun c22 => ?_) (fun c22 => ?_)
 ·try simp only [decide_eq_true_eq, decide_eq_false_iff_not, beq_iff_eq, bne_iff_ne, beq_eq_false_iff_ne, bne_eq_false_iff_eq, Bool.not_eq_true', Bool.not_eq_false', Bool.not_eq_true, ne_eq, Decidable.not_not] at c22
  have hkl : k < l.length := by omega
  obtain ⟨a0, rfl⟩ := ruls_some hx (by omega)
  have hwk := hw _ (List.getElem_mem hkl)
  refine PW.skip (hK3 _ _ (PW.k2 1 3 rfl ?_))
  refine PW.seq fun K4 hK4 => ?_
  refine PW.block (PW.seqOps (OL.dp rfl (OL.det trivial (.ld rfl (own_at (j := 1) (c := [.int .i64 tv, .slice (some a0) l.length c]) (E := 30) (tot := 2) zM0 rfl)) (OL.dp rfl ?_))))
  refine OL.det trivial (.ixN rfl rfl rfl (by omega)) ?_
  refine OL.det trivial (.ldA rfl (cs := ruleC l[k]) rfl (rule_at hx.cons hkl)) (OL.cons trivial OW.al ?_)
  rintro _ _ ⟨r4, rfl, rfl⟩
  refine OL.cons trivial (OW.st (k := 0) rfl rfl rfl rfl (by first | decide | (simp; done) | (simp; omega)) (by first | rfl | simp)) ?_
  rintro _ _ rfl
  refine OL.nil (PW.k3 1 3 4 rfl ?_)
  refine PW.seq fun K5 hK5 => ?_
  refine PW.seqOps (OL.dp rfl (OL.det trivial (.ld rfl (own_at (j := 0) (c := ruleC l[k]) (E := 48) (tot := 3) zM0 rfl)) (OL.call trivial rfl (rprefB_fc hwk) ?_)))
  rintro _ Sx ⟨rfl, hSx⟩
  rw [hSx]
  clear hSx
  refine OL.dp rfl ?_
  refine OL.bool trivial (Yields.pure rfl) (fun g34 => ?_) (fun g34 => ?_)
  ·try simp only [decide_eq_true_eq, decide_eq_false_iff_not, beq_iff_eq, bne_iff_ne, beq_eq_false_iff_ne, bne_eq_false_iff_eq, Bool.not_eq_true', Bool.not_eq_false', Bool.not_eq_true, ne_eq, Decidable.not_not] at g34
   have hbad : rokAt l k = false := by
    unfold rokAt
    rw [(getElem!_pos l k hkl), show prefB l[k].1 = false by simpa using g34]
    rfl
   refine OL.off rfl rfl (OL.off rfl rfl (OL.off rfl rfl (OL.off rfl rfl (OL.dp rfl (OL.nil (PW.k4 1 3 4 39 rfl (PW.ite (b := true) rfl ?_)))))))
   rw [if_pos rfl]
   refine PW.seqOps (OL.dp rfl (OL.nil (PW.k1 2 rfl (PW.ret ?_))))
   change (Exit.ret = Exit.normal ∨ Exit.ret = Exit.ret) /\ ∃ v, resV _ _ = some v /\ _
   exact ⟨.inr rfl, _, rfl, _, Sub.drop (Sub.drop (Sub.refl _)), by unfold chkR; rw [if_neg (by omega), if_neg (all_bad hkl hbad)], rfl⟩
  try simp only [decide_eq_true_eq, decide_eq_false_iff_not, beq_iff_eq, bne_iff_ne, beq_eq_false_iff_ne, bne_eq_false_iff_eq, Bool.not_eq_true', Bool.not_eq_false', Bool.not_eq_true, ne_eq, Decidable.not_not] at g34
  have hs2 : prefB l[k].1 = true := by simpa using g34
  refine OL.det rfl (.pure rfl) (OL.det rfl (.ldA rfl rfl (rseg_at (x := l[k]))) (OL.call rfl rfl (Go.Proofs.Lb.may_fc (a := l[k].2)) ?_))
  rintro _ Sx ⟨rfl, hSx⟩
  rw [hSx]
  clear hSx
  refine OL.det rfl (.pure rfl) (OL.dp rfl (OL.nil (PW.k4 1 3 4 39 rfl ?_)))
  refine PW.cond rfl (fun c39 => ?_) (fun c39 => ?_)
  ·try simp only [decide_eq_true_eq, decide_eq_false_iff_not, beq_iff_eq, bne_iff_ne, beq_eq_false_iff_ne, bne_eq_false_iff_eq, Bool.not_eq_true', Bool.not_eq_false', Bool.not_eq_true, ne_eq, Decidable.not_not] at c39
   have hbad : rokAt l k = false := by
    have h0 : okL l[k].2 = false := by simpa [okL, mayP] using c39
    unfold rokAt; rw [(getElem!_pos l k hkl), h0, Bool.and_false, Bool.false_and]
   refine PW.seqOps (OL.dp rfl (OL.nil (PW.k1 2 rfl (PW.ret ?_))))
   change (Exit.ret = Exit.normal ∨ Exit.ret = Exit.ret) /\ ∃ v, resV _ _ = some v /\ _
   exact ⟨.inr rfl, _, rfl, _, Sub.drop (Sub.drop (Sub.refl _)), by unfold chkR; rw [if_neg (by omega), if_neg (all_bad hkl hbad)], rfl⟩
  try simp only [decide_eq_true_eq, decide_eq_false_iff_not, beq_iff_eq, bne_iff_ne, beq_eq_false_iff_ne, bne_eq_false_iff_eq, Bool.not_eq_true', Bool.not_eq_false', Bool.not_eq_true, ne_eq, Decidable.not_not] at c39
  have hs3 : okL l[k].2 = true := by simpa [okL, mayP] using c39
  refine PW.skip (hK5 _ _ (PW.k3 1 3 4 rfl (PW.seqOps (OL.dp rfl (OL.nil (PW.k4 1 3 4 5 rfl (PW.block (PW.k4 1 3 4 5 rfl ?_))))))))
  refine PW.loopK (I := fun m T S' => ∃ (j : Nat), (j <= k /\ m = k - j /\ (List.range j).all (fun j => ltB l[j]!.1 l[k].1) = true) /\ T = ([(1, .pointer (some ⟨r1, 0, none⟩)), (3, .int .i64 k), (4, .pointer (some ⟨r4, 0, none⟩)), (5, .int .i64 j)] : TT) /\ S' = rseg r4 l[k] :: tsegR r1 tv (some a0) l.length c :: S) (m := k) ⟨0, ⟨by omega, by omega, rfl⟩, rfl, rfl⟩ ?_
  rintro m _ _ ⟨j, ⟨hj, hm2, hin⟩, rfl, rfl⟩
  refine PW.seq fun K6 hK6 => ?_
  refine PW.seqOps (OL.dp rfl (OL.dp rfl (OL.dp rfl (OL.nil (PW.k5 1 3 4 5 42 rfl ?_)))))
  refine PW.cond rfl (fun c42 => ?_) (fun c42 => ?_)
  ·try simp only [decide_eq_true_eq, decide_eq_false_iff_not, beq_iff_eq, bne_iff_ne, beq_eq_false_iff_ne, bne_eq_false_iff_eq, Bool.not_eq_true', Bool.not_eq_false', Bool.not_eq_true, ne_eq, Decidable.not_not] at c42
   refine PW.skip (hK6 _ _ (PW.k4 1 3 4 5 rfl ?_))
   refine PW.seq fun K7 hK7 => ?_
   refine PW.block ?_
   refine PW.seq fun K8 hK8 => ?_
   refine PW.quietK Tryz.mixed (QK.dp rfl (QK.det trivial (.ld rfl (own_at (j := 1) (c := [.int .i64 tv, .slice (some a0) l.length c]) (E := 30) (tot := 2) zM1 rfl)) (QK.dp rfl ?_)))
   refine QK.det trivial (.ixN rfl rfl rfl (by omega)) ?_
   refine QK.dp rfl ?_
   refine QK.det trivial (.ld rfl (rule_at hx.cons.cons (show j < l.length from by omega) 0 _ rfl)) ?_
   refine QK.dp rfl (QK.det trivial (.ld rfl (own_at (j := 0) (c := ruleC l[k]) (E := 48) (tot := 3) zM0 rfl)) (QK.nil ?_))
   change OL _ _ _ [_] _ _ _
   refine OL.dp rfl (OL.nil (hK8 _ _ (PW.k5 1 3 4 5 53 rfl ?_)))
   refine PW.cond rfl (fun c53 => ?_) (fun c53 => ?_)
   ·try simp only [decide_eq_true_eq, decide_eq_false_iff_not, beq_iff_eq, bne_iff_ne, beq_eq_false_iff_ne, bne_eq_false_iff_eq, Bool.not_eq_true', Bool.not_eq_false', Bool.not_eq_true, ne_eq, Decidable.not_not] at c53
    have hbad : rokAt l k = false := by
     have h0 : ¬ (List.range k).all (fun j => ltB l[j]!.1 l[k].1) = true := all_bad (show j < k by omega) (by
      show ltB l[j]!.1 l[k].1 = false
      rw [getElem!_pos l j (by omega)]
      simpa [ltB] using c53)
     unfold rokAt
     rw [(getElem!_pos l k hkl), Bool.and_eq_false_iff]
     exact .inr (by simpa using h0)
    refine PW.seqOps (OL.dp rfl (OL.nil (PW.k1 2 rfl (PW.ret ?_))))
    change (Exit.ret = Exit.normal ∨ Exit.ret = Exit.ret) /\ ∃ v, resV _ _ = some v /\ _
    exact ⟨.inr rfl, _, rfl, _, Sub.drop (Sub.drop (Sub.refl _)), by unfold chkR; rw [if_neg (by omega), if_neg (all_bad hkl hbad)], rfl⟩
   try simp only [decide_eq_true_eq, decide_eq_false_iff_not, beq_iff_eq, bne_iff_ne, beq_eq_false_iff_ne, bne_eq_false_iff_eq, Bool.not_eq_true', Bool.not_eq_false', Bool.not_eq_true, ne_eq, Decidable.not_not] at c53
   refine PW.skip (hK7 _ _ (PW.k4 1 3 4 5 rfl (PW.ops (OL.dp rfl ?_))))
   refine OL.det trivial (.add64 rfl rfl (by omega) (by omega)) ?_
   refine OL.dp rfl (OL.nil ?_)
   repeat rw [inBlk_n]
   try rw [thenK_n]
   refine LoopEnd.mk (T'' := [(1, _), (3, _), (4, _), (5, _)]) (wi rfl) ?_
   refine ⟨k - (j + 1), by omega, j + 1, ⟨by omega, rfl, all_succ hin ?_⟩, rfl, rfl⟩
   show ltB l[j]!.1 l[k].1 = true
   rw [getElem!_pos l j (by omega)]
   simpa [ltB] using c53
  try simp only [decide_eq_true_eq, decide_eq_false_iff_not, beq_iff_eq, bne_iff_ne, beq_eq_false_iff_ne, bne_eq_false_iff_eq, Bool.not_eq_true', Bool.not_eq_false', Bool.not_eq_true, ne_eq, Decidable.not_not] at c42
  refine PW.exit (hK4 _ _ (PW.k2 1 3 rfl (PW.ops (OL.dp rfl ?_))))
  refine OL.det trivial (.add64 rfl rfl (by omega) (by omega)) ?_
  refine OL.dp rfl (OL.nil ?_)
  repeat rw [inBlk_n]
  try rw [thenK_n]
  refine LoopEnd.mkS ((Sub.drop (Sub.refl _))) (T'' := [(1, _), (3, _)]) (wi rfl) ?_
  obtain rfl : j = k := by omega
  refine ⟨l.length - (j + 1), by omega, j + 1, ⟨by omega, rfl, all_succ hall ?_⟩, rfl, rfl⟩
  unfold rokAt
  rw [getElem!_pos l j hkl, hs2, hs3, hin]; rfl
 try simp only [decide_eq_true_eq, decide_eq_false_iff_not, beq_iff_eq, bne_iff_ne, beq_eq_false_iff_ne, bne_eq_false_iff_eq, Bool.not_eq_true', Bool.not_eq_false', Bool.not_eq_true, ne_eq, Decidable.not_not] at c22
 refine PW.exit (hK2 _ _ (PW.keep (T' := []) trivial (PW.seqOps (OL.dp rfl (OL.nil (PW.k1 2 rfl (PW.ret ?_)))))))
 change (Exit.ret = Exit.normal ∨ Exit.ret = Exit.ret) /\ ∃ v, resV _ _ = some v /\ _
 obtain rfl : k = l.length := by omega
 exact ⟨.inr rfl, _, rfl, _, Sub.drop (Sub.refl _), by unfold chkR; rw [if_neg (by omega), if_pos hall], rfl⟩
theorem of_fc {w0 : World} {S : SS} {A : Option Addr} {n c : Nat} {tv : Int} : FC Tryz.prog w0 9 [tabV tv A n c] S (fun v S' => v = tabV tv A n c /\ S' = S) := by
 refine FC.ofC Tryz.known9 (by simp) ?_
 unfold Tryz.pc9
 simp only [argT]
 refine PW.seqOps (OL.cons trivial (OW.bx rfl) ?_)
 rintro _ _ ⟨r1, rfl, rfl⟩
 change OL _ _ _ _ _ (tseg r1 tv A n c :: S) _
 refine OL.cons trivial OW.al ?_
 rintro _ _ ⟨r2, rfl, rfl⟩
 refine OL.nil (PW.k2 1 2 rfl (PW.seqOps (OL.dp rfl (OL.det trivial (.ld rfl (own_at (j := 0) (c := [.int .i64 tv, .slice A n c]) (E := 24) (tot := 2) zM1 rfl)) (OL.dp rfl (OL.det trivial (.ld rfl (own_at (j := 1) (c := [.int .i64 tv, .slice A n c]) (E := 24) (tot := 2) zM1 rfl)) (OL.det trivial (.build rfl) (OL.cons trivial (OW.st (k := 0) (u := tabV tv A n c) rfl rfl rfl rfl (Nat.le_refl 2) rfl) ?_))))))))
 rintro _ _ rfl
 change OL _ _ _ _ _ (tsegR r2 tv A n c :: tseg r1 tv A n c :: S) _
 refine OL.nil (PW.k1 2 rfl (PW.ret ?_))
 exact ⟨.inr rfl, _, tabV tv A n c, rfl, tab_read (E := 30) zM0, _, Sub.drop (Sub.drop (Sub.refl _)), rfl, rfl⟩
end Go.Proofs.Rl





namespace Go.Proofs.Rl
open Go.SL Go.RowKit Go.Proofs Go.Proofs.Lb
set_option maxHeartbeats 1000000
def Srt (l : List RuleB) : Prop := ∀ i j, i < j -> (hj : j < l.length) -> (hi : i < l.length) -> ltB l[i].1 l[j].1 = true
theorem okAt_iff {l : List RuleB} : (List.range l.length).all (okAt l) = true ↔ Srt l /\ ∀ i (h : i < l.length), prefB l[i].1 = true /\ okL l[i].2 = true := by
 constructor
 ·intro h
  have hi : ∀ i (h : i < l.length), (i = 0 ∨ ltB l[i - 1]!.1 l[i].1 = true) /\ prefB l[i].1 = true /\ okL l[i].2 = true := by
   intro i hlt
   have := List.all_eq_true.1 h i (List.mem_range.2 hlt)
   unfold okAt at this
   rw [getElem!_pos l i hlt] at this
   simp only [Bool.and_eq_true, Bool.or_eq_true, decide_eq_true_eq] at this
   exact ⟨this.1.1, this.1.2, this.2⟩
  refine ⟨?_, fun i h => (hi i h).2⟩
  intro i j hij hj hil
  induction j with
  | zero => omega
  | succ j ih =>
   have h1 := (hi (j + 1) hj).1.resolve_left (by omega)
   rw [show j + 1 - 1 = j from rfl, getElem!_pos l j (by omega)] at h1
   by_cases e : i = j
   ·subst e; exact h1
   exact lt_trans (ih (by omega) (by omega)) h1
 rintro ⟨h1, h2⟩
 rw [List.all_eq_true]
 intro i hi
 have hlt := List.mem_range.1 hi
 unfold okAt
 rw [getElem!_pos l i hlt, (h2 i hlt).1, (h2 i hlt).2]
 by_cases e : i = 0
 ·subst e; rfl
 rw [getElem!_pos l (i - 1) (by omega), h1 (i - 1) i (by omega) hlt (by omega)]; simp
theorem rokAt_iff {l : List RuleB} : (List.range l.length).all (rokAt l) = true ↔ Srt l /\ ∀ i (h : i < l.length), prefB l[i].1 = true /\ okL l[i].2 = true := by
 constructor
 ·intro h
  have hi : ∀ i (h : i < l.length), prefB l[i].1 = true /\ okL l[i].2 = true /\ ∀ j (hj : j < i), ltB l[j].1 l[i].1 = true := by
   intro i hlt
   have := List.all_eq_true.1 h i (List.mem_range.2 hlt)
   unfold rokAt at this
   rw [getElem!_pos l i hlt] at this
   simp only [Bool.and_eq_true] at this
   refine ⟨this.1.1, this.1.2, fun j hj => ?_⟩
   have h3 := List.all_eq_true.1 this.2 j (List.mem_range.2 hj)
   rwa [getElem!_pos l j (by omega)] at h3
  exact ⟨fun i j hij hj hil => (hi j hj).2.2 i hij, fun i h => ⟨(hi i h).1, (hi i h).2.1⟩⟩
 rintro ⟨h1, h2⟩
 rw [List.all_eq_true]
 intro i hi
 have hlt := List.mem_range.1 hi
 unfold rokAt
 rw [getElem!_pos l i hlt, (h2 i hlt).1, (h2 i hlt).2, Bool.true_and, Bool.true_and, List.all_eq_true]
 intro j hj
 have hj2 := List.mem_range.1 hj
 rw [getElem!_pos l j (by omega)]
 exact h1 j i hj2 hlt (by omega)
theorem chk_eq (l : List RuleB) (tv : Int) : chkT l tv = chkR l tv := by
 unfold chkT chkR
 have : ((List.range l.length).all (okAt l) = true) ↔ ((List.range l.length).all (rokAt l) = true) := okAt_iff.trans rokAt_iff.symm
 simp only [this]
end Go.Proofs.Rl

namespace Go.Proofs.Lb
open Go.SL Go.RowKit Go.Proofs
set_option maxHeartbeats 1000000
def ltP (a b : LabB) : Prop := a.1 < b.1 ∨ (a.1 = b.1 /\ a.2.toNat < b.2.toNat)
theorem orZ_lt (a b : LabB) : orZ a b < 0 ↔ ltP a b := by
 have := ltOf_orZ a b
 unfold ltOf at this
 rwa [decide_eq_decide] at this
theorem ltP_tot {a b : LabB} (h1 : ¬ ltP a b) (h2 : ¬ ltP b a) : a = b := by
 unfold ltP at *
 exact Prod.ext (by omega) (BitVec.eq_of_toNat_eq (by omega))
theorem ltP_trans {a b c : LabB} (h1 : ltP a b) (h2 : ltP b c) : ltP a c := by unfold ltP at *; omega
theorem ltP_irr {a : LabB} : ¬ ltP a a := by unfold ltP; omega
theorem uniq : ∀ (l l' : List LabB), l.Pairwise ltP -> l'.Pairwise ltP -> (∀ x, x ∈ l ↔ x ∈ l') -> l = l'
 | [], [], _, _, _ => rfl
 | [], b :: l', _, _, h => absurd ((h b).2 (by simp)) (by simp)
 | a :: l, [], _, _, h => absurd ((h a).1 (by simp)) (by simp)
 | a :: l, b :: l', p, p', h => by
  rw [List.pairwise_cons] at p p'
  obtain rfl : a = b := by
   rcases List.mem_cons.1 ((h a).1 (by simp)) with e | e
   ·exact e
   rcases List.mem_cons.1 ((h b).2 (by simp)) with e' | e'
   ·exact e'.symm
   exact absurd (ltP_trans (p.1 b e') (p'.1 a e)) ltP_irr
  rw [uniq l l' p.2 p'.2 fun x => ?_]
  constructor
  ·intro hx
   rcases List.mem_cons.1 ((h x).1 (by simp [hx])) with e | e
   ·subst e; exact absurd (p.1 _ hx) ltP_irr
   exact e
  intro hx
  rcases List.mem_cons.1 ((h x).2 (by simp [hx])) with e | e
  ·subst e; exact absurd (p'.1 _ hx) ltP_irr
  exact e
theorem mem_insP (a x : LabB) : ∀ l, x ∈ insP a l ↔ x = a ∨ x ∈ l
 | [] => by simp [insP]
 | y :: l => by
  unfold insP
  split
  ·simp only [List.mem_cons, mem_insP a x l]
   constructor
   ·rintro (h | h | h) <;> simp [h]
   rintro (h | h | h) <;> simp [h]
  split
  ·rename_i h; subst h; simp
  simp
theorem pw_insP (a : LabB) : ∀ l, l.Pairwise ltP -> (insP a l).Pairwise ltP
 | [], _ => by simp [insP]
 | y :: l, p => by
  have p0 := List.pairwise_cons.1 p
  unfold insP
  split
  ·rename_i h
   rw [orZ_lt] at h
   refine List.pairwise_cons.2 ⟨fun z hz => ?_, pw_insP a l p0.2⟩
   rcases (mem_insP a z l).1 hz with rfl | hz
   ·exact h
   exact p0.1 z hz
  split
  ·exact p
  rename_i h h2
  rw [orZ_lt] at h
  have hay : ltP a y := Classical.byContradiction fun e => h2 (ltP_tot h e)
  refine List.pairwise_cons.2 ⟨fun z hz => ?_, p⟩
  rcases List.mem_cons.1 hz with rfl | hz
  ·exact hay
  exact ltP_trans hay (p0.1 z hz)
theorem refS_ok : ∀ (l acc : List LabB), acc.Pairwise ltP -> (l.foldl (fun acc a => insP a acc) acc).Pairwise ltP /\ ∀ x, x ∈ l.foldl (fun acc a => insP a acc) acc ↔ x ∈ acc ∨ x ∈ l
 | [], acc, p => ⟨p, fun x => by simp⟩
 | a :: l, acc, p => by
  obtain ⟨h1, h2⟩ := refS_ok l (insP a acc) (pw_insP a acc p)
  refine ⟨h1, fun x => ?_⟩
  rw [List.foldl_cons, h2, mem_insP, List.mem_cons]
  constructor
  ·rintro ((h | h) | h) <;> simp [h]
  rintro (h | h | h) <;> simp [h]
theorem dd_ok : ∀ (l acc : List LabB), acc.Pairwise ltP -> (∀ y ∈ acc, ∀ x ∈ l, ¬ ltP x y) -> l.Pairwise (fun x y => ¬ ltP y x) ->
  (l.foldl ddS acc).Pairwise ltP /\ ∀ x, x ∈ l.foldl ddS acc ↔ x ∈ acc ∨ x ∈ l
 | [], acc, p, _, _ => ⟨p, fun x => by simp⟩
 | a :: l, acc, p, h, q => by
  have q0 := List.pairwise_cons.1 q
  rw [List.foldl_cons]
  by_cases e : acc.getLast? = some a
  ·have ha : a ∈ acc := List.mem_of_getLast? e
   rw [show ddS acc a = acc from by unfold ddS; rw [if_pos e]]
   obtain ⟨h1, h2⟩ := dd_ok l acc p (fun y hy x hx => h y hy x (by simp [hx])) q0.2
   refine ⟨h1, fun x => ?_⟩
   rw [h2, List.mem_cons]
   constructor
   ·rintro (h | h) <;> simp [h]
   rintro (h | rfl | h)
   ·simp [h]
   ·simp [ha]
   simp [h]
  rw [show ddS acc a = acc ++ [a] from by unfold ddS; rw [if_neg e]]
  have hlt : ∀ y ∈ acc, ltP y a := by
   intro y hy
   refine Classical.byContradiction fun hn => ?_
   obtain rfl : y = a := ltP_tot hn (h y hy a (by simp))
   obtain ⟨acc', z, rfl⟩ : ∃ acc' z, acc = acc' ++ [z] := ⟨acc.dropLast, acc.getLast (List.ne_nil_of_mem hy), (List.dropLast_concat_getLast _).symm⟩
   rcases List.mem_append.1 hy with hy' | hy'
   ·exact h z (by simp) y (by simp) ((List.pairwise_append.1 p).2.2 y hy' z (by simp))
   obtain rfl := List.mem_singleton.1 hy'
   simp at e
  obtain ⟨h1, h2⟩ := dd_ok l (acc ++ [a]) (List.pairwise_append.2 ⟨p, by simp, fun y hy z hz => by obtain rfl := List.mem_singleton.1 hz; exact hlt y hy⟩)
   (fun y hy x hx => by
    rcases List.mem_append.1 hy with hy | hy
    ·exact h y hy x (by simp [hx])
    obtain rfl := List.mem_singleton.1 hy; exact q0.1 x hx) q0.2
  refine ⟨h1, fun x => ?_⟩
  rw [h2, List.mem_append, List.mem_singleton, List.mem_cons]
  constructor
  ·rintro ((h | h) | h) <;> simp [h]
  rintro (h | h | h) <;> simp [h]
theorem sort_law (l : List LabB) : dd (sortL l) = refS l := by
 have hs : (sortL l).Pairwise (fun x y => ¬ ltP y x) := by
  have := List.pairwise_mergeSort (le := fun x y => !(ltOf orZ) y x) (fun a b c h1 h2 => by
   rw [ltOf_orZ] at *; simp only [Bool.not_eq_true', decide_eq_false_iff_not] at *; omega) (fun a b => by
   rw [ltOf_orZ, ltOf_orZ]; simp only [Bool.or_eq_true, Bool.not_eq_true', decide_eq_false_iff_not]; omega) l
  refine this.imp fun {a b} h => ?_
  rw [ltOf_orZ] at h
  simp only [Bool.not_eq_true', decide_eq_false_iff_not] at h
  exact h
 obtain ⟨h1, h2⟩ := dd_ok (sortL l) [] (by simp) (by simp) hs
 obtain ⟨h3, h4⟩ := refS_ok l [] (by simp)
 refine uniq _ _ h1 h3 fun x => ?_
 rw [show dd (sortL l) = (sortL l).foldl ddS [] from rfl, show refS l = l.foldl (fun acc a => insP a acc) [] from rfl, h2, h4]
 unfold sortL
 simp [List.mem_mergeSort]
theorem cut_read {w0 : World} {v : Value} {n : Nat} {l d : List LabB} {seg : Seg} (h : Cut v n l seg) (ht : l.take n = d) : ∃ A cap, v = .slice A n cap /\ ∀ S, Rd w0 (seg :: S) A (labs d) := by
 rcases h with ⟨rfl, rfl, rfl, rfl⟩ | ⟨r, cap, rfl, rfl, h1, h2, h3⟩
 ·subst ht
  exact ⟨none, 0, rfl, fun S => Rd.nil⟩
 refine ⟨_, cap, rfl, fun S => ?_⟩
 subst ht
 exact pre_rd (Rd.own (List.mem_flatten.2 ⟨_, List.mem_cons_self .., List.mem_singleton.2 rfl⟩))
end Go.Proofs.Lb

namespace Go.Proofs.Rl
open Go.SL Go.RowKit Go.Proofs Go.Proofs.Lb
set_option maxHeartbeats 1000000
def touK (l : List RuleB) (p : ByteArray) (k : Nat) : List LabB := findP l p :: ((l.take k).filter fun r => overP p r.1).map (·.2)
def touP (l : List RuleB) (p : ByteArray) : List LabB := touK l p l.length
theorem touK_succ {l : List RuleB} {p : ByteArray} {k : Nat} (hk : k < l.length) : touK l p (k + 1) = touK l p k ++ (if overP p l[k].1 = true then [l[k].2] else []) := by
 unfold touK
 rw [rtake_snoc hk, List.filter_append, List.map_append, List.cons_append]
 split <;> simp_all
theorem touK_len {l : List RuleB} {p : ByteArray} {k : Nat} (hk : k <= l.length) : (touK l p k).length <= k + 1 := by
 unfold touK
 have := List.length_filter_le (fun r : RuleB => overP p r.1) (l.take k)
 simp only [List.length_cons, List.length_map]
 rw [List.length_take] at this
 omega
theorem over_cases {a b : ByteArray} (h : overP a b = true) : a = b ∨ underP a b = true := by
 unfold overP at h; simpa using h
theorem ba_len (a : ByteArray) : a.data.toList.length = a.size := by simp
theorem over_lt {p a : ByteArray} (h : overP p a = true) (hn : p ≠ a) : p.size < a.size := by
 rcases over_cases h with rfl | h
 ·exact absurd rfl hn
 obtain ⟨h1, _, h2⟩ := (under_iff _ _).1 h
 rcases h2 with rfl | rfl | h2
 ·rcases Nat.eq_zero_or_pos a.size with e | e
  ·exact absurd (ba_ext (by rw [show a.data.toList = [] from List.eq_nil_of_length_eq_zero (by rw [ba_len]; exact e)])) (isP_ne h1)
  exact e
 ·exact absurd rfl hn
 have := h2.length_le
 rw [List.length_append, ba_len, ba_len] at this
 have e : p.size + 1 <= a.size := by simpa using this
 omega
theorem over_le {p a : ByteArray} (h : overP p a = true) : p.size <= a.size := by
 by_cases e : p = a
 ·rw [e]; exact Nat.le_refl _
 exact Nat.le_of_lt (over_lt h e)
theorem find_spec (s : ByteArray) : ∀ (l : List RuleB) (o : Int × LabB), -1 <= o.1 ->
  let f := l.foldl (fun o r => if o.1 < (r.1.size : Int) /\ overP r.1 s = true then ((r.1.size : Int), r.2) else o) o
  (f = o ∨ ∃ r ∈ l, overP r.1 s = true /\ f = ((r.1.size : Int), r.2)) /\ o.1 <= f.1 /\ ∀ r ∈ l, overP r.1 s = true -> (r.1.size : Int) <= f.1
 | [], o, h => ⟨.inl rfl, Int.le_refl _, by simp⟩
 | r :: l, o, h => by
  simp only [List.foldl_cons]
  split
  ·rename_i hc
   obtain ⟨h1, h2, h3⟩ := find_spec s l ((r.1.size : Int), r.2) (by show (-1 : Int) <= (r.1.size : Int); omega)
   have h2' : (r.1.size : Int) <= _ := h2
   refine ⟨.inr ?_, by omega, fun x hx hx2 => ?_⟩
   ·rcases h1 with h1 | ⟨x, hx, h4, h5⟩
    ·exact ⟨r, by simp, hc.2, h1⟩
    exact ⟨x, by simp [hx], h4, h5⟩
   rcases List.mem_cons.1 hx with rfl | hx
   ·exact h2'
   exact h3 x hx hx2
  rename_i hc
  obtain ⟨h1, h2, h3⟩ := find_spec s l o h
  refine ⟨?_, h2, fun x hx hx2 => ?_⟩
  ·rcases h1 with h1 | ⟨x, hx, h4, h5⟩
   ·exact .inl h1
   exact .inr ⟨x, by simp [hx], h4, h5⟩
  rcases List.mem_cons.1 hx with rfl | hx
  ·have : ¬ o.1 < (x.1.size : Int) := fun e => hc ⟨e, hx2⟩
   omega
  exact h3 x hx hx2
theorem touched_fc {w0 : World} {S : SS} {A : Option Addr} {c : Nat} {tv : Int} {l : List RuleB} {p : ByteArray} (hx : Rd w0 S A (ruls l)) (hw : ∀ x ∈ l, x.1.size <= 1000000000) (hp : p.size <= 1000000000) (hl : l.length <= 1000000000) :
  FC Tryz.prog w0 13 [tabV tv A l.length c, .string p] S (fun v S' => ∃ A' c' seg, v = .slice A' (refS (touP l p)).length c' /\ S' = seg :: S /\ ∀ S, Rd w0 (seg :: S) A' (labs (refS (touP l p)))) := by
 refine FC.ofD Tryz.known13 (by simp) ?_
 unfold Tryz.pc13
 simp only [argT]
 refine PW.seqOps (OL.cons trivial (OW.bx rfl) ?_)
 rintro _ _ ⟨r2, rfl, rfl⟩
 change OL _ _ _ _ _ (tseg r2 tv A l.length c :: S) _
 refine OL.dp rfl (OL.nil (PW.k2 1 2 rfl (PW.seqOps (OL.det trivial (.ldA rfl rfl (tab_at (tv := tv) (A := A) (n := l.length) (c := c) (r := r2) zM0)) (OL.dp rfl (OL.call trivial rfl (find_fc hx.cons hw hp hl) ?_))))))
 rintro _ Sx ⟨rfl, hSx⟩
 rw [hSx]
 clear hSx
 refine OL.cons trivial (OW.bsl rfl) ?_
 rintro _ _ ⟨r11, rfl, rfl⟩
 change OL _ _ _ _ _ ([(r11, .cells (labs (touK l p 0)) 34 (1 * 2))] :: tseg r2 tv A l.length c :: S) _
 refine OL.dp rfl (OL.nil (PW.k3 1 2 5 rfl ?_))
 refine PW.seq fun K1 hK1 => ?_
 refine PW.seqOps (OL.dp rfl (OL.det trivial (.ld rfl (own_at (j := 1) (c := [.int .i64 tv, .slice A l.length c]) (E := 24) (tot := 2) zM1 rfl)) (OL.dp rfl (OL.dp rfl (OL.nil (PW.k5 1 5 13 14 15 rfl (PW.block (PW.k5 1 5 13 14 15 rfl ?_))))))))
 refine PW.loopK (I := fun m T S' => ∃ (k : Nat) (v5 : Value) (seg : Seg), (k <= l.length /\ m = l.length - k /\ SlV 34 2 v5 (touK l p k).length (labs (touK l p k)) seg) /\ T = ([(1, .string p), (5, v5), (13, .slice A l.length c), (14, .int .i64 (l.length : Int)), (15, .int .i64 k)] : TT) /\ S' = seg :: tseg r2 tv A l.length c :: S) (m := l.length) ⟨0, _, _, ⟨by omega, by omega, SlV.mk' (cap := 1) rfl (Nat.le_refl 1) (by decide)⟩, rfl, rfl⟩ ?_
 rintro m _ _ ⟨k, v5, seg, ⟨hk, hm, hsl⟩, rfl, rfl⟩
 have hlk := touK_len (p := p) hk
 refine PW.seqOps (OL.dp rfl (OL.nil (PW.k6 1 5 13 14 15 16 rfl ?_)))
 refine PW.seq fun K2 hK2 => ?_
 refine PW.cond rfl (fun c16 => ?_) (fun c16 => ?_)
 ·try simp only [decide_eq_true_eq, decide_eq_false_iff_not, beq_iff_eq, bne_iff_ne, beq_eq_false_iff_ne, bne_eq_false_iff_eq, Bool.not_eq_true', Bool.not_eq_false', Bool.not_eq_true, ne_eq, Decidable.not_not] at c16
  have hkl : k < l.length := by omega
  obtain ⟨a0, rfl⟩ := ruls_some hx (by omega)
  have hwk := hw _ (List.getElem_mem hkl)
  refine PW.skip (hK2 _ _ (PW.k5 1 5 13 14 15 rfl ?_))
  refine PW.seq fun K3 hK3 => ?_
  refine PW.block (PW.seqOps ?_)
  refine OL.det trivial (.ixN rfl rfl rfl (by omega)) ?_
  refine OL.det trivial (.ldA rfl (cs := ruleC l[k]) rfl (rule_at hx.cons.cons hkl)) (OL.cons trivial OW.al ?_)
  rintro _ _ ⟨r7, rfl, rfl⟩
  refine OL.cons trivial (OW.st (k := 0) rfl rfl rfl rfl (by decide) rfl) ?_
  rintro _ _ rfl
  change OL _ _ _ _ _ (rseg r7 l[k] :: seg :: tseg r2 tv (some a0) l.length c :: S) _
  refine OL.nil (PW.k6 1 5 7 13 14 15 rfl (PW.seqOps (OL.dp rfl (OL.dp rfl (OL.det trivial (.ld rfl (own_at (j := 0) (c := ruleC l[k]) (E := 48) (tot := 3) zM0 rfl)) (OL.call trivial rfl (rover_fc hp hwk) ?_))))))
  rintro _ Sx ⟨rfl, hSx⟩
  rw [hSx]
  clear hSx
  refine OL.nil (PW.k7 1 5 7 13 14 15 22 rfl ?_)
  refine PW.cond rfl (fun c22 => ?_) (fun c22 => ?_)
  ·try simp only [decide_eq_true_eq, decide_eq_false_iff_not, beq_iff_eq, bne_iff_ne, beq_eq_false_iff_ne, bne_eq_false_iff_eq, Bool.not_eq_true', Bool.not_eq_false', Bool.not_eq_true, ne_eq, Decidable.not_not] at c22
   refine PW.ops (OL.dp rfl (OL.dp rfl (OL.det trivial (.ldA rfl rfl (rseg_at (x := l[k]))) ?_)))
   apply OL.app1 (k := 1)
   ·rfl
   ·rfl
   ·rfl
   ·rfl
   ·rfl
   ·rfl
   ·exact hsl
   ·rfl
   ·omega
   ·unfold maxLen; omega
   intro v27 seg27 hsl27
   change OL _ _ _ _ _ (rseg r7 l[k] :: seg27 :: tseg r2 tv (some a0) l.length c :: S) _
   refine OL.dp rfl (OL.nil (hK3 _ _ (PW.k5 1 5 13 14 15 rfl (PW.ops ?_))))
   refine OL.det trivial (.add64 rfl rfl (by omega) (by omega)) ?_
   refine OL.dp rfl (OL.nil ?_)
   repeat rw [inBlk_n]
   try rw [thenK_n]
   refine LoopEnd.mkS ((Sub.drop (Sub.refl _))) (T'' := [(1, _), (5, _), (13, _), (14, _), (15, _)]) (wi rfl) ?_
   refine ⟨l.length - (k + 1), by omega, k + 1, _, _, ⟨by omega, rfl, ?_⟩, rfl, rfl⟩
   have e : touK l p (k + 1) = touK l p k ++ [l[k].2] := by rw [touK_succ hkl, if_pos c22]
   rw [e, labs_app, List.length_append]
   exact hsl27
  try simp only [decide_eq_true_eq, decide_eq_false_iff_not, beq_iff_eq, bne_iff_ne, beq_eq_false_iff_ne, bne_eq_false_iff_eq, Bool.not_eq_true', Bool.not_eq_false', Bool.not_eq_true, ne_eq, Decidable.not_not] at c22
  refine PW.skip (hK3 _ _ (PW.k5 1 5 13 14 15 rfl (PW.ops ?_)))
  refine OL.det trivial (.add64 rfl rfl (by omega) (by omega)) ?_
  refine OL.dp rfl (OL.nil ?_)
  repeat rw [inBlk_n]
  try rw [thenK_n]
  refine LoopEnd.mkS ((Sub.drop (Sub.refl _))) (T'' := [(1, _), (5, _), (13, _), (14, _), (15, _)]) (wi rfl) ?_
  refine ⟨l.length - (k + 1), by omega, k + 1, _, _, ⟨by omega, rfl, ?_⟩, rfl, rfl⟩
  have e : touK l p (k + 1) = touK l p k := by rw [touK_succ hkl, if_neg (by rw [c22]; simp), List.append_nil]
  rw [e]
  exact hsl
 try simp only [decide_eq_true_eq, decide_eq_false_iff_not, beq_iff_eq, bne_iff_ne, beq_eq_false_iff_ne, bne_eq_false_iff_eq, Bool.not_eq_true', Bool.not_eq_false', Bool.not_eq_true, ne_eq, Decidable.not_not] at c16
 refine PW.exit (hK1 _ _ (PW.k1 5 rfl (PW.seqOps ?_)))
 obtain rfl : k = l.length := by omega
 change SlV 34 2 v5 (touP l p).length (labs (touP l p)) seg at hsl
 change (touP l p).length <= _ at hlk
 obtain ⟨A5, c5, rfl, hA5, hle5, hrd5⟩ := slv_rdL (w0 := w0) hsl
 refine OL.dp rfl ?_
 refine OL.call trivial rfl (sorted_fc (hrd5 _) (by omega)) ?_
 rintro v30 _ ⟨seg30, l30, rfl, hcut, ht, hl30⟩
 rw [sort_law] at hcut ht
 obtain ⟨A30, c30, rfl, hrd30⟩ := cut_read (w0 := w0) hcut ht
 refine OL.dp rfl (OL.nil (PW.k1 4 rfl (PW.ret ?_)))
 change (Exit.ret = Exit.normal ∨ Exit.ret = Exit.ret) /\ ∃ v, resV _ _ = some v /\ _
 exact ⟨.inr rfl, _, rfl, _, Sub.cons (Sub.drop (Sub.drop (Sub.refl _))), A30, c30, seg30, rfl, rfl, hrd30⟩
theorem foldl_keep {s : ByteArray} : ∀ (l : List RuleB) (o : Int × LabB), (∀ q ∈ l, overP q.1 s = true -> (q.1.size : Int) <= o.1) ->
  l.foldl (fun o r => if o.1 < (r.1.size : Int) /\ overP r.1 s = true then ((r.1.size : Int), r.2) else o) o = o
 | [], o, _ => rfl
 | r :: l, o, h => by
  rw [List.foldl_cons, if_neg (fun hc => by have := h r (by simp) hc.2; omega)]
  exact foldl_keep l o fun q hq => h q (by simp [hq])
theorem find_none7 {l : List RuleB} {s : ByteArray} (h : ∀ q ∈ l, ¬ overP q.1 s = true) : findP l s = lab0 := by
 unfold findP findS
 rw [foldl_keep l _ fun q hq ho => absurd ho (h q hq)]
theorem find_first {l : List RuleB} {s : ByteArray} {i : Nat} (hi : i < l.length) (ho : overP l[i].1 s = true) (hm : ∀ q ∈ l, overP q.1 s = true -> q.1.size <= l[i].1.size) (hf : ∀ q ∈ l.take i, overP q.1 s = true -> q.1.size < l[i].1.size) :
  findP l s = l[i].2 := by
 have e : l = l.take i ++ l[i] :: l.drop (i + 1) := by rw [<- List.drop_eq_getElem_cons hi, List.take_append_drop]
 have hsp := find_spec s (l.take i) (-1, lab0) (Int.le_refl _)
 have hlt : ((l.take i).foldl (fun o r => if o.1 < (r.1.size : Int) /\ overP r.1 s = true then ((r.1.size : Int), r.2) else o) (-1, lab0)).1 < (l[i].1.size : Int) := by
  rcases hsp.1 with h | ⟨r, hr, h2, h3⟩
  ·rw [h]; show (-1 : Int) < (l[i].1.size : Int); omega
  rw [h3]; have := hf r hr h2; show (r.1.size : Int) < (l[i].1.size : Int); omega
 unfold findP findS
 conv => lhs; rw [e]
 rw [List.foldl_append, List.foldl_cons, if_pos ⟨hlt, ho⟩, foldl_keep _ _ (fun q hq h2 => by
  have := hm q (List.mem_of_mem_drop hq) h2
  show (q.1.size : Int) <= (l[i].1.size : Int)
  omega)]
theorem rover7_fc {w0 : World} {S : SS} {p s : ByteArray} (hp : p.size <= 1000000000) (hs : s.size <= 1000000000) : FC Tryz.prog w0 25 [.string p, .string s] S (fun v S' => v = .bool (overP p s) /\ S' = S) := by
 refine FC.of Tryz.known25 (by simp) ?_
 unfold Tryz.pc25
 simp only [argT]
 refine PW.seqOps (OL.dp rfl (OL.nil (PW.k2 0 1 rfl (PW.seqOps (OL.dp rfl (OL.dp rfl (OL.dp rfl ?_)))))))
 refine OL.bool trivial (Yields.pure rfl) (fun g8 => ?_) (fun g8 => ?_)
 ·try simp only [decide_eq_true_eq, decide_eq_false_iff_not, beq_iff_eq, bne_iff_ne, beq_eq_false_iff_ne, bne_eq_false_iff_eq, Bool.not_eq_true', Bool.not_eq_false', Bool.not_eq_true, ne_eq, Decidable.not_not] at g8
  rw [toL_inj] at g8
  refine OL.off rfl rfl (OL.off rfl rfl (OL.off rfl rfl (OL.dp rfl (OL.dp rfl (OL.nil (PW.k1 4 rfl (PW.ret ?_)))))))
  change (Exit.ret = Exit.normal ∨ Exit.ret = Exit.ret) /\ ∃ v, resV _ _ = some v /\ _
  exact ⟨.inr rfl, _, rfl, by unfold overP; first | (rw [decide_eq_true g8]; rfl) | (rw [decide_eq_false g8]; rfl), rfl⟩
 try simp only [decide_eq_true_eq, decide_eq_false_iff_not, beq_iff_eq, bne_iff_ne, beq_eq_false_iff_ne, bne_eq_false_iff_eq, Bool.not_eq_true', Bool.not_eq_false', Bool.not_eq_true, ne_eq, Decidable.not_not] at g8
 rw [toL_inj] at g8
 refine OL.det rfl (.pure rfl) (OL.det rfl (.pure rfl) (OL.call rfl rfl (runder_fc hp hs) ?_))
 rintro _ Sx ⟨rfl, hSx⟩
 rw [hSx]
 clear hSx
 refine OL.dp rfl (OL.dp rfl (OL.nil (PW.k1 4 rfl (PW.ret ?_))))
 change (Exit.ret = Exit.normal ∨ Exit.ret = Exit.ret) /\ ∃ v, resV _ _ = some v /\ _
 exact ⟨.inr rfl, _, rfl, by unfold overP; first | (rw [decide_eq_true g8]; rfl) | (rw [decide_eq_false g8]; rfl), rfl⟩
theorem rfind_fc {w0 : World} {S : SS} {A : Option Addr} {c : Nat} {tv : Int} {l : List RuleB} {s : ByteArray} (hx : Rd w0 S A (ruls l)) (hw : ∀ x ∈ l, x.1.size <= 1000000000) (hs : s.size <= 1000000000) (hl : l.length <= 1000000000) :
  FC Tryz.prog w0 11 [tabV tv A l.length c, .string s] S (fun v S' => v = labB (findP l s) /\ S' = S) := by
 refine FC.ofC Tryz.known11 (by simp) ?_
 unfold Tryz.pc11
 simp only [argT]
 refine PW.seqOps (OL.cons trivial (OW.bx rfl) ?_)
 rintro _ _ ⟨r2, rfl, rfl⟩
 change OL _ _ _ _ _ (tsegR r2 tv A l.length c :: S) _
 refine OL.cons trivial OW.al ?_
 rintro _ _ ⟨r4, rfl, rfl⟩
 change OL _ _ _ _ _ (lseg r4 lab0 :: tsegR r2 tv A l.length c :: S) _
 refine OL.nil (PW.k3 1 2 4 rfl ?_)
 refine PW.seq fun K1 hK1 => ?_
 refine PW.seqOps (OL.dp rfl (OL.dp rfl (OL.dp rfl (OL.nil (PW.k4 1 2 4 5 rfl (PW.block (PW.k4 1 2 4 5 rfl ?_)))))))
 refine PW.loopK (I := fun m T S' => ∃ (n : Int), (-1 <= n /\ n <= s.size /\ m = (n + 1).toNat /\ ∀ q ∈ l, overP q.1 s = true -> (q.1.size : Int) <= n) /\ T = ([(1, .string s), (2, .pointer (some ⟨r2, 0, none⟩)), (4, .pointer (some ⟨r4, 0, none⟩)), (5, .int .i64 n)] : TT) /\ S' = lseg r4 lab0 :: tsegR r2 tv A l.length c :: S) (m := s.size + 1) ⟨(s.size : Int), ⟨by omega, by omega, by omega, fun q hq h => by have := over_le h; omega⟩, rfl, rfl⟩ ?_
 rintro m _ _ ⟨n, ⟨hn1, hn2, hm, hout⟩, rfl, rfl⟩
 refine PW.seq fun K2 hK2 => ?_
 refine PW.seqOps (OL.dp rfl (OL.dp rfl (OL.nil (PW.k5 1 2 4 5 10 rfl ?_))))
 refine PW.cond rfl (fun c10 => ?_) (fun c10 => ?_)
 ·try simp only [decide_eq_true_eq, decide_eq_false_iff_not, beq_iff_eq, bne_iff_ne, beq_eq_false_iff_ne, bne_eq_false_iff_eq, Bool.not_eq_true', Bool.not_eq_false', Bool.not_eq_true, ne_eq, Decidable.not_not] at c10
  refine PW.skip (hK2 _ _ (PW.k4 1 2 4 5 rfl ?_))
  refine PW.seq fun K3 hK3 => ?_
  refine PW.block (PW.seqOps (OL.dp rfl (OL.nil (PW.k5 1 2 4 5 6 rfl (PW.block (PW.k5 1 2 4 5 6 rfl ?_))))))
  refine PW.loopK (I := fun m T S' => ∃ (i : Nat), (i <= l.length /\ m = l.length - i /\ ∀ q ∈ l.take i, overP q.1 s = true -> (q.1.size : Int) ≠ n) /\ T = ([(1, .string s), (2, .pointer (some ⟨r2, 0, none⟩)), (4, .pointer (some ⟨r4, 0, none⟩)), (5, .int .i64 n), (6, .int .i64 i)] : TT) /\ S' = lseg r4 lab0 :: tsegR r2 tv A l.length c :: S) (m := l.length) ⟨0, ⟨by omega, by omega, fun q hq => by simp at hq⟩, rfl, rfl⟩ ?_
  rintro m _ _ ⟨i, ⟨hi, hm2, hin⟩, rfl, rfl⟩
  refine PW.seq fun K4 hK4 => ?_
  refine PW.seqOps (OL.dp rfl (OL.dp rfl (OL.det trivial (.ld rfl (own_at (j := 1) (c := [.int .i64 tv, .slice A l.length c]) (E := 30) (tot := 2) zM1 rfl)) (OL.dp rfl (OL.dp rfl (OL.nil (PW.k6 1 2 4 5 6 17 rfl ?_)))))))
  refine PW.cond rfl (fun c17 => ?_) (fun c17 => ?_)
  ·try simp only [decide_eq_true_eq, decide_eq_false_iff_not, beq_iff_eq, bne_iff_ne, beq_eq_false_iff_ne, bne_eq_false_iff_eq, Bool.not_eq_true', Bool.not_eq_false', Bool.not_eq_true, ne_eq, Decidable.not_not] at c17
   have hil : i < l.length := by omega
   obtain ⟨a0, rfl⟩ := ruls_some hx (by omega)
   have hwi := hw _ (List.getElem_mem hil)
   refine PW.skip (hK4 _ _ (PW.k5 1 2 4 5 6 rfl ?_))
   refine PW.seq fun K5 hK5 => ?_
   refine PW.block (PW.seqOps (OL.dp rfl (OL.det trivial (.ld rfl (own_at (j := 1) (c := [.int .i64 tv, .slice (some a0) l.length c]) (E := 30) (tot := 2) zM1 rfl)) (OL.dp rfl ?_))))
   refine OL.det trivial (.ixN rfl rfl rfl (by omega)) ?_
   refine OL.dp rfl (OL.det trivial (.ld rfl (rule_at hx.cons.cons hil 0 _ rfl)) (OL.dp rfl (OL.dp rfl (OL.dp rfl ?_))))
   refine OL.bool trivial (Yields.pure rfl) (fun g29 => ?_) (fun g29 => ?_)
   ·try simp only [decide_eq_true_eq, decide_eq_false_iff_not, beq_iff_eq, bne_iff_ne, beq_eq_false_iff_ne, bne_eq_false_iff_eq, Bool.not_eq_true', Bool.not_eq_false', Bool.not_eq_true, ne_eq, Decidable.not_not] at g29
    refine OL.det rfl (.pure rfl) (OL.det rfl (.ld rfl (own_at (j := 1) (c := [.int .i64 tv, .slice (some a0) l.length c]) (E := 30) (tot := 2) zM1 rfl)) (OL.det rfl (.pure rfl) ?_))
    refine OL.det rfl (.ixN rfl rfl rfl (by omega)) ?_
    refine OL.det rfl (.pure rfl) (OL.det rfl (.ld rfl (rule_at hx.cons.cons hil 0 _ rfl)) (OL.det rfl (.pure rfl) (OL.call rfl rfl (rover7_fc hwi hs) ?_)))
    rintro _ Sx ⟨rfl, hSx⟩
    rw [hSx]
    clear hSx
    refine OL.dp rfl (OL.nil (PW.k6 1 2 4 5 6 38 rfl ?_))
    refine PW.cond rfl (fun c38 => ?_) (fun c38 => ?_)
    ·try simp only [decide_eq_true_eq, decide_eq_false_iff_not, beq_iff_eq, bne_iff_ne, beq_eq_false_iff_ne, bne_eq_false_iff_eq, Bool.not_eq_true', Bool.not_eq_false', Bool.not_eq_true, ne_eq, Decidable.not_not] at c38
     refine PW.seqOps (OL.dp rfl (OL.det trivial (.ld rfl (own_at (j := 1) (c := [.int .i64 tv, .slice (some a0) l.length c]) (E := 30) (tot := 2) zM1 rfl)) (OL.dp rfl ?_)))
     refine OL.det trivial (.ixN rfl rfl rfl (by omega)) ?_
     refine OL.dp rfl (OL.det trivial (.ldA rfl rfl (rlab_at hx.cons.cons hil)) ?_)
     refine OL.cons trivial (OW.st (k := 0) rfl rfl rfl rfl (by first | decide | (simp; done) | (simp; omega)) (by first | rfl | simp)) ?_
     rintro _ _ rfl
     refine OL.nil (PW.k1 4 rfl (PW.ret ?_))
     have hf : findP l s = l[i].2 := find_first hil (by simpa using c38) (fun q hq h => by have := hout q hq h; omega) (fun q hq h => by have := hin q hq h; have := hout q (List.mem_of_mem_take hq) h; omega)
     rw [hf]
     exact ⟨.inr rfl, _, labB l[i].2, rfl, lab_read (r := r4) (l := l[i].2.1) (c := (l[i].2.2.toNat : Int)) zM0, _, Sub.drop (Sub.drop (Sub.refl _)), rfl, rfl⟩
    try simp only [decide_eq_true_eq, decide_eq_false_iff_not, beq_iff_eq, bne_iff_ne, beq_eq_false_iff_ne, bne_eq_false_iff_eq, Bool.not_eq_true', Bool.not_eq_false', Bool.not_eq_true, ne_eq, Decidable.not_not] at c38
    refine PW.skip (hK5 _ _ (PW.k5 1 2 4 5 6 rfl (PW.ops (OL.dp rfl ?_))))
    refine OL.det trivial (.add64 rfl rfl (by omega) (by omega)) ?_
    refine OL.dp rfl (OL.nil ?_)
    repeat rw [inBlk_n]
    try rw [thenK_n]
    refine LoopEnd.mk (T'' := [(1, _), (2, _), (4, _), (5, _), (6, _)]) (wi rfl) ?_
    refine ⟨l.length - (i + 1), by omega, i + 1, ⟨by omega, rfl, fun q hq h => ?_⟩, rfl, rfl⟩
    rw [rtake_snoc hil, List.mem_append, List.mem_singleton] at hq
    rcases hq with hq | rfl
    ·exact hin q hq h
    first
    | exact g29
    | exact fun _ => absurd h (by simpa using c38)
   try simp only [decide_eq_true_eq, decide_eq_false_iff_not, beq_iff_eq, bne_iff_ne, beq_eq_false_iff_ne, bne_eq_false_iff_eq, Bool.not_eq_true', Bool.not_eq_false', Bool.not_eq_true, ne_eq, Decidable.not_not] at g29
   refine OL.off rfl rfl (OL.off rfl rfl (OL.off rfl rfl (OL.off rfl rfl (OL.off rfl rfl (OL.off rfl rfl (OL.off rfl rfl (OL.off rfl rfl (OL.dp rfl (OL.nil (PW.k6 1 2 4 5 6 38 rfl (PW.ite (b := false) rfl ?_)))))))))))
   rw [if_neg Bool.false_ne_true]
   refine PW.skip (hK5 _ _ (PW.k5 1 2 4 5 6 rfl (PW.ops (OL.dp rfl ?_))))
   refine OL.det trivial (.add64 rfl rfl (by omega) (by omega)) ?_
   refine OL.dp rfl (OL.nil ?_)
   repeat rw [inBlk_n]
   try rw [thenK_n]
   refine LoopEnd.mk (T'' := [(1, _), (2, _), (4, _), (5, _), (6, _)]) (wi rfl) ?_
   refine ⟨l.length - (i + 1), by omega, i + 1, ⟨by omega, rfl, fun q hq h => ?_⟩, rfl, rfl⟩
   rw [rtake_snoc hil, List.mem_append, List.mem_singleton] at hq
   rcases hq with hq | rfl
   ·exact hin q hq h
   first
   | exact g29
   | exact fun _ => absurd h (by simpa using c38)
  try simp only [decide_eq_true_eq, decide_eq_false_iff_not, beq_iff_eq, bne_iff_ne, beq_eq_false_iff_ne, bne_eq_false_iff_eq, Bool.not_eq_true', Bool.not_eq_false', Bool.not_eq_true, ne_eq, Decidable.not_not] at c17
  refine PW.exit (hK3 _ _ (PW.k4 1 2 4 5 rfl (PW.ops (OL.dp rfl ?_))))
  refine OL.det trivial (.sub64 rfl rfl (by omega) (by omega)) ?_
  refine OL.dp rfl (OL.nil ?_)
  repeat rw [inBlk_n]
  try rw [thenK_n]
  refine LoopEnd.mk (T'' := [(1, _), (2, _), (4, _), (5, _)]) (wi rfl) ?_
  exact ⟨n.toNat, by omega, n - 1, ⟨by omega, by omega, by omega, fun q hq h => by have := hout q hq h; have := hin q (by rw [List.take_of_length_le (by omega)]; exact hq) h; omega⟩, rfl, rfl⟩
 try simp only [decide_eq_true_eq, decide_eq_false_iff_not, beq_iff_eq, bne_iff_ne, beq_eq_false_iff_ne, bne_eq_false_iff_eq, Bool.not_eq_true', Bool.not_eq_false', Bool.not_eq_true, ne_eq, Decidable.not_not] at c10
 refine PW.exit (hK1 _ _ (PW.k1 4 rfl (PW.seqOps (OL.det trivial (.build rfl) ?_))))
 refine OL.cons trivial (OW.st (k := 0) rfl rfl rfl rfl (by first | decide | (simp; done) | (simp; omega)) (by first | rfl | simp)) ?_
 rintro _ _ rfl
 refine OL.nil (PW.k1 4 rfl (PW.ret ?_))
 have hf : findP l s = lab0 := find_none7 fun q hq h => by have := hout q hq h; omega
 rw [hf]
 exact ⟨.inr rfl, _, labB lab0, rfl, lab_read (r := r4) (l := lab0.1) (c := (lab0.2.toNat : Int)) zM0, _, Sub.drop (Sub.drop (Sub.refl _)), rfl, rfl⟩
theorem rtouched_fc {w0 : World} {S : SS} {A : Option Addr} {c : Nat} {tv : Int} {l : List RuleB} {p : ByteArray} (hx : Rd w0 S A (ruls l)) (hw : ∀ x ∈ l, x.1.size <= 1000000000) (hp : p.size <= 1000000000) (hl : l.length <= 1000000000) :
  FC Tryz.prog w0 14 [tabV tv A l.length c, .string p] S (fun v S' => ∃ A' c' seg, v = .slice A' (refS (touP l p)).length c' /\ S' = seg :: S /\ ∀ S, Rd w0 (seg :: S) A' (labs (refS (touP l p)))) := by
 refine FC.ofD Tryz.known14 (by simp) ?_
 unfold Tryz.pc14
 simp only [argT]
 refine PW.seqOps (OL.cons trivial (OW.bx rfl) ?_)
 rintro _ _ ⟨r2, rfl, rfl⟩
 change OL _ _ _ _ _ (tsegR r2 tv A l.length c :: S) _
 refine OL.dp rfl (OL.nil (PW.k2 1 2 rfl (PW.seqOps (OL.det trivial (.ldA rfl rfl (tabR_at (tv := tv) (A := A) (n := l.length) (c := c) (r := r2) zM0)) (OL.dp rfl (OL.call trivial rfl (rfind_fc hx.cons hw hp hl) ?_))))))
 rintro _ Sx ⟨rfl, hSx⟩
 rw [hSx]
 clear hSx
 refine OL.cons trivial (OW.bsl rfl) ?_
 rintro _ _ ⟨r10, rfl, rfl⟩
 change OL _ _ _ _ _ ([(r10, .cells (labs (touK l p 0)) 34 (1 * 2))] :: tsegR r2 tv A l.length c :: S) _
 refine OL.dp rfl (OL.nil (PW.k3 1 2 5 rfl ?_))
 refine PW.seq fun K1 hK1 => ?_
 refine PW.seqOps (OL.dp rfl (OL.nil (PW.k4 1 2 5 6 rfl (PW.block (PW.k4 1 2 5 6 rfl ?_)))))
 refine PW.loopK (I := fun m T S' => ∃ (k : Nat) (v5 : Value) (seg : Seg), (k <= l.length /\ m = l.length - k /\ SlV 34 2 v5 (touK l p k).length (labs (touK l p k)) seg) /\ T = ([(1, .string p), (2, .pointer (some ⟨r2, 0, none⟩)), (5, v5), (6, .int .i64 k)] : TT) /\ S' = seg :: tsegR r2 tv A l.length c :: S) (m := l.length) ⟨0, _, _, ⟨by omega, by omega, SlV.mk' (cap := 1) rfl (Nat.le_refl 1) (by decide)⟩, rfl, rfl⟩ ?_
 rintro m _ _ ⟨k, v5, seg, ⟨hk, hm, hsl⟩, rfl, rfl⟩
 have hlk := touK_len (p := p) hk
 refine PW.seq fun K2 hK2 => ?_
 refine PW.seqOps (OL.dp rfl (OL.dp rfl (OL.det trivial (.ld rfl (own_at (j := 1) (c := [.int .i64 tv, .slice A l.length c]) (E := 30) (tot := 2) zM1 rfl)) (OL.dp rfl (OL.dp rfl (OL.nil (PW.k5 1 2 5 6 15 rfl ?_)))))))
 refine PW.cond rfl (fun c15 => ?_) (fun c15 => ?_)
 ·try simp only [decide_eq_true_eq, decide_eq_false_iff_not, beq_iff_eq, bne_iff_ne, beq_eq_false_iff_ne, bne_eq_false_iff_eq, Bool.not_eq_true', Bool.not_eq_false', Bool.not_eq_true, ne_eq, Decidable.not_not] at c15
  have hkl : k < l.length := by omega
  obtain ⟨a0, rfl⟩ := ruls_some hx (by omega)
  have hwk := hw _ (List.getElem_mem hkl)
  refine PW.skip (hK2 _ _ (PW.k4 1 2 5 6 rfl ?_))
  refine PW.seq fun K3 hK3 => ?_
  refine PW.block (PW.seqOps (OL.dp rfl (OL.dp rfl (OL.det trivial (.ld rfl (own_at (j := 1) (c := [.int .i64 tv, .slice (some a0) l.length c]) (E := 30) (tot := 2) zM1 rfl)) (OL.dp rfl ?_)))))
  refine OL.det trivial (.ixN rfl rfl rfl (by omega)) ?_
  refine OL.dp rfl (OL.det trivial (.ld rfl (rule_at hx.cons.cons hkl 0 _ rfl)) (OL.call trivial rfl (rover7_fc hp hwk) ?_))
  rintro _ Sx ⟨rfl, hSx⟩
  rw [hSx]
  clear hSx
  refine OL.nil (PW.k5 1 2 5 6 25 rfl ?_)
  refine PW.cond rfl (fun c25 => ?_) (fun c25 => ?_)
  ·try simp only [decide_eq_true_eq, decide_eq_false_iff_not, beq_iff_eq, bne_iff_ne, beq_eq_false_iff_ne, bne_eq_false_iff_eq, Bool.not_eq_true', Bool.not_eq_false', Bool.not_eq_true, ne_eq, Decidable.not_not] at c25
   refine PW.ops (OL.dp rfl (OL.dp rfl (OL.det trivial (.ld rfl (own_at (j := 1) (c := [.int .i64 tv, .slice (some a0) l.length c]) (E := 30) (tot := 2) zM1 rfl)) (OL.dp rfl ?_))))
   refine OL.det trivial (.ixN rfl rfl rfl (by omega)) ?_
   refine OL.dp rfl (OL.det trivial (.ldA rfl rfl (rlab_at hx.cons.cons hkl)) ?_)
   apply OL.app1 (k := 0)
   ·rfl
   ·rfl
   ·rfl
   ·rfl
   ·rfl
   ·rfl
   ·exact hsl
   ·rfl
   ·omega
   ·unfold maxLen; omega
   intro v34 seg34 hsl34
   change OL _ _ _ _ _ (seg34 :: tsegR r2 tv (some a0) l.length c :: S) _
   refine OL.dp rfl (OL.nil (hK3 _ _ (PW.k4 1 2 5 6 rfl (PW.ops (OL.dp rfl ?_)))))
   refine OL.det trivial (.add64 rfl rfl (by omega) (by omega)) ?_
   refine OL.dp rfl (OL.nil ?_)
   repeat rw [inBlk_n]
   try rw [thenK_n]
   refine LoopEnd.mk (T'' := [(1, _), (2, _), (5, _), (6, _)]) (wi rfl) ?_
   refine ⟨l.length - (k + 1), by omega, k + 1, _, _, ⟨by omega, rfl, ?_⟩, rfl, rfl⟩
   have e : touK l p (k + 1) = touK l p k ++ [l[k].2] := by rw [touK_succ hkl, if_pos c25]
   rw [e, labs_app, List.length_append]
   exact hsl34
  try simp only [decide_eq_true_eq, decide_eq_false_iff_not, beq_iff_eq, bne_iff_ne, beq_eq_false_iff_ne, bne_eq_false_iff_eq, Bool.not_eq_true', Bool.not_eq_false', Bool.not_eq_true, ne_eq, Decidable.not_not] at c25
  refine PW.skip (hK3 _ _ (PW.k4 1 2 5 6 rfl (PW.ops (OL.dp rfl ?_))))
  refine OL.det trivial (.add64 rfl rfl (by omega) (by omega)) ?_
  refine OL.dp rfl (OL.nil ?_)
  repeat rw [inBlk_n]
  try rw [thenK_n]
  refine LoopEnd.mk (T'' := [(1, _), (2, _), (5, _), (6, _)]) (wi rfl) ?_
  refine ⟨l.length - (k + 1), by omega, k + 1, _, _, ⟨by omega, rfl, ?_⟩, rfl, rfl⟩
  have e : touK l p (k + 1) = touK l p k := by rw [touK_succ hkl, if_neg (by rw [c25]; simp), List.append_nil]
  rw [e]
  exact hsl
 try simp only [decide_eq_true_eq, decide_eq_false_iff_not, beq_iff_eq, bne_iff_ne, beq_eq_false_iff_ne, bne_eq_false_iff_eq, Bool.not_eq_true', Bool.not_eq_false', Bool.not_eq_true, ne_eq, Decidable.not_not] at c15
 refine PW.exit (hK1 _ _ (PW.k1 5 rfl (PW.seqOps ?_)))
 obtain rfl : k = l.length := by omega
 change SlV 34 2 v5 (touP l p).length (labs (touP l p)) seg at hsl
 change (touP l p).length <= _ at hlk
 obtain ⟨A5, c5, rfl, hA5, hle5, hrd5⟩ := slv_rdL (w0 := w0) hsl
 refine OL.dp rfl ?_
 refine OL.call trivial rfl (rsorted_fc (hrd5 _) (by omega)) ?_
 rintro v36 _ ⟨seg36, rfl, hsl36⟩
 obtain ⟨A36, c36, rfl, _, _, hrd36⟩ := slv_rdL (w0 := w0) hsl36
 refine OL.dp rfl (OL.nil (PW.k1 4 rfl (PW.ret ?_)))
 change (Exit.ret = Exit.normal ∨ Exit.ret = Exit.ret) /\ ∃ v, resV _ _ = some v /\ _
 exact ⟨.inr rfl, _, rfl, _, Sub.cons (Sub.drop (Sub.drop (Sub.refl _))), A36, c36, seg36, rfl, rfl, hrd36⟩
end Go.Proofs.Rl

namespace Go.Proofs
open Go.Shelf
def Tryz.lays171_ren : Go.Shelf.Ren := ⟨fun | 171 => 28 | 243 => 47 | 246 => 65 | 283 => 89 | 284 => 90 | 285 => 91 | 286 => 92 | 129 => 86 | 317 => 105 | 318 => 106 | 319 => 107 | 320 => 108 | 337 => 113 | 338 => 114 | n => n, fun | 3 => 3 | 9 => 9 | 2 => 2 | 4 => 4 | 171 => 106 | 0 => 0 | 53 => 32 | 37 => 69 | 5 => 5 | 173 => 108 | 212 => 126 | 51 => 101 | 20 => 20 | 213 => 127 | 46 => 83 | 232 => 136 | 233 => 137 | n => n, fun | 17 => 0 | 18 => 2 | 19 => 3 | n => n⟩
theorem Tryz.lays171 : Go.Proofs.LaysM.n171 Tryz.prog Tryz.lays171_ren := {
 mixed := by kernel_rfl
 f129 := Tryz.func86.trans (congrArg some (by kernel_rfl))
 f171 := Tryz.func28.trans (congrArg some (by kernel_rfl))
 f243 := Tryz.func47.trans (congrArg some (by kernel_rfl))
 f246 := Tryz.func65.trans (congrArg some (by kernel_rfl))
 f283 := Tryz.func89.trans (congrArg some (by kernel_rfl))
 f284 := Tryz.func90.trans (congrArg some (by kernel_rfl))
 f285 := Tryz.func91.trans (congrArg some (by kernel_rfl))
 f286 := Tryz.func92.trans (congrArg some (by kernel_rfl))
 f317 := Tryz.func105.trans (congrArg some (by kernel_rfl))
 f318 := Tryz.func106.trans (congrArg some (by kernel_rfl))
 f319 := Tryz.func107.trans (congrArg some (by kernel_rfl))
 f320 := Tryz.func108.trans (congrArg some (by kernel_rfl))
 f337 := Tryz.func113.trans (congrArg some (by kernel_rfl))
 f338 := Tryz.func114.trans (congrArg some (by kernel_rfl))
 t0 := Tryz.underlying0
 a0 := Tryz.isAgg0
 z0 := Tryz.sizeOf0
 v0 := Tryz.zeroValue0
 t2 := Tryz.underlying2
 a2 := Tryz.isAgg2
 z2 := Tryz.sizeOf2
 v2 := Tryz.zeroValue2
 t3 := Tryz.underlying3
 a3 := Tryz.isAgg3
 z3 := Tryz.sizeOf3
 v3 := Tryz.zeroValue3
 t4 := Tryz.underlying4
 a4 := Tryz.isAgg4
 z4 := Tryz.sizeOf4
 v4 := Tryz.zeroValue4
 t5 := Tryz.underlying5
 a5 := Tryz.isAgg5
 z5 := Tryz.sizeOf5
 v5 := Tryz.zeroValue5
 t9 := Tryz.underlying9
 a9 := Tryz.isAgg9
 z9 := Tryz.sizeOf9
 v9 := Tryz.zeroValue9
 t20 := Tryz.underlying20
 a20 := Tryz.isAgg20
 z20 := Tryz.sizeOf20
 v20 := Tryz.zeroValue20
 t37 := Tryz.underlying69
 a37 := Tryz.isAgg69
 z37 := Tryz.sizeOf69
 v37 := Tryz.zeroValue69
 t46 := Tryz.underlying83
 a46 := Tryz.isAgg83
 z46 := Tryz.sizeOf83
 v46 := Tryz.zeroValue83
 t51 := Tryz.underlying101
 a51 := Tryz.isAgg101
 z51 := Tryz.sizeOf101
 v51 := Tryz.zeroValue101
 t53 := Tryz.underlying32
 a53 := Tryz.isAgg32
 z53 := Tryz.sizeOf32
 v53 := Tryz.zeroValue32
 t171 := Tryz.underlying106
 a171 := Tryz.isAgg106
 z171 := Tryz.sizeOf106
 v171 := Tryz.zeroValue106
 t173 := Tryz.underlying108
 a173 := Tryz.isAgg108
 z173 := Tryz.sizeOf108
 v173 := Tryz.zeroValue108
 t212 := Tryz.underlying126
 a212 := Tryz.isAgg126
 z212 := Tryz.sizeOf126
 v212 := Tryz.zeroValue126
 t213 := Tryz.underlying127
 a213 := Tryz.isAgg127
 z213 := Tryz.sizeOf127
 t232 := Tryz.underlying136
 a232 := Tryz.isAgg136
 z232 := Tryz.sizeOf136
 v232 := Tryz.zeroValue136
 t233 := Tryz.underlying137
 a233 := Tryz.isAgg137
 z233 := Tryz.sizeOf137
 v233 := Tryz.zeroValue137
 g17 := by kernel_rfl
 g18 := by kernel_rfl
 g19 := by kernel_rfl
 i0 := by kernel_rfl
 i2 := by kernel_rfl
 i3 := by kernel_rfl
 i4 := by kernel_rfl
 i5 := by kernel_rfl
 i9 := by kernel_rfl
 i20 := by kernel_rfl
 i37 := by kernel_rfl
 i46 := by kernel_rfl
 i51 := by kernel_rfl
 i53 := by kernel_rfl
 i171 := by kernel_rfl
 i173 := by kernel_rfl
 i212 := by kernel_rfl
 i232 := by kernel_rfl
 i233 := by kernel_rfl
 m17 := by kernel_rfl
 m18 := by kernel_rfl
 m19 := by kernel_rfl }
end Go.Proofs
namespace Go.Proofs.Rl
open Go.SL Go.RowKit Go.Proofs Go.Proofs.Lb
set_option maxHeartbeats 1000000
structure Tabs (w0 : World) : Prop where
 pow : Lib.TabIs Tryz.prog w0 "internal/strconv.uint64pow10" .u64 Lib.pow10Tab
 tz : w0.cell? ⟨3, 15, none⟩ = some (.int .u8 4)
theorem itoa_fc {w0 : World} {S : SS} {z : Int} (hT : Tabs w0) (h0 : -9223372036854775808 <= z) (h1 : z <= 9223372036854775807) : FC Tryz.prog w0 28 [.int .i64 z] S (fun v S' => v = .string ⟨(Lib.itoa z).toArray⟩ /\ S' = S) := by
 intro w hw
 refine (Any.strconv_Itoa Tryz.lays171 z h0 h1 w ((Lib.tabBelow_of_tabIs hT.pow).on hw.below).here).mono ?_
 rintro e w' ⟨rfl, k, os, rfl⟩
 refine ⟨_, S, rfl, hw.same ?_ ?_ ?_, rfl, rfl⟩
 ·exact ⟨rfl, rfl, rfl, by simp [Go.Sort.grow, World.drewN], fun i hi => by have := hw.base; simp only [Go.Sort.grow, World.drewN]; rw [Array.getElem?_append_left (by omega)]⟩
 ·intro i hi; simp [Go.Sort.grow, World.drewN, Array.getElem?_append_left hi]
 simp [Go.Sort.grow, World.drewN]
def dig (d : Nat) : UInt8 := if d < 10 then UInt8.ofNat (48 + d) else UInt8.ofNat (87 + d)
def digsF (b : Nat) : Nat -> Nat -> List UInt8
 | 0, n => [dig n]
 | f + 1, n => if n < b then [dig n] else digsF b f (n / b) ++ [dig (n % b)]
theorem digsF_lt {b f n : Nat} (h : n < b) : digsF b f n = [dig n] := by cases f with | zero => rfl | succ f => rw [digsF, if_pos h]
theorem digsF_len {b : Nat} : ∀ f n, (digsF b f n).length <= f + 1
 | 0, n => by simp [digsF]
 | f + 1, n => by rw [digsF]; split <;> simp; exact digsF_len f _
def dig36 : ByteArray := ⟨#[48, 49, 50, 51, 52, 53, 54, 55, 56, 57, 97, 98, 99, 100, 101, 102, 103, 104, 105, 106, 107, 108, 109, 110, 111, 112, 113, 114, 115, 116, 117, 118, 119, 120, 121, 122]⟩
theorem dig36_at : ∀ j, j < 16 -> dig36[j]? = some (dig j) := by decide +kernel
theorem and15 {n : Nat} (h : n < 18446744073709551616) : Value.int .u64 (IntKind.u64.wrap (BitVec.ofInt IntKind.u64.bits (n : Int) &&& BitVec.ofInt IntKind.u64.bits 15).toNat) = .int .u64 ((n % 16 : Nat) : Int) := by
 have e : (BitVec.ofInt IntKind.u64.bits (n : Int) &&& BitVec.ofInt IntKind.u64.bits 15).toNat = n % 16 := by
  show (BitVec.ofInt 64 (n : Int) &&& BitVec.ofInt 64 15).toNat = n % 16
  rw [BitVec.toNat_and, BitVec.ofInt_natCast, BitVec.toNat_ofNat, Nat.mod_eq_of_lt (by omega)]
  exact Nat.and_two_pow_sub_one_eq_mod n 4
 rw [e, u64_wrap (by omega)]
abbrev dseg (r : Nat) (c : List Value) : Seg := [(r, .cells c 127 65)]
theorem rd_drop {w0 : World} {S : SS} {r : Nat} {c : List Value} {i : Nat} (h : (r, AO.cells c 127 65) ∈ S.flatten) : Rd w0 S (some ((⟨r, 0, none⟩ : Addr).add i)) (c.drop i) := by
 intro j v hj
 refine ⟨_, rfl, ?_⟩
 rw [addr_add_add]
 refine (Rd.own h).at ?_
 rw [List.getElem?_drop] at hj
 exact hj
theorem setAt_dig {c : List Value} {L : List UInt8} {k : Nat} {b : UInt8} (hc : c.length = 65) (hk : k < 65) (hd : c.drop (65 - k) = bytesC L) : (setAt c (64 - k) [.int .u8 b.toNat]).drop (64 - k) = bytesC (b :: L) := by
 rw [setAt_eq c (64 - k) _ (by simp; omega), List.append_assoc, List.drop_append_of_le_length (by rw [List.length_take]; omega), List.drop_eq_nil_of_le (by rw [List.length_take]; omega), List.nil_append]
 show _ :: c.drop (64 - k + 1) = _
 rw [show 64 - k + 1 = 65 - k from by omega, hd]
 rfl
theorem hex_next {f u : Nat} (h : 16 <= u) : digsF 16 (f + 1) u = digsF 16 f (u / 2 ^ 4) ++ [dig (u % 16)] := by rw [digsF, if_neg (by omega)]
theorem pow2_fc {w0 : World} {S : SS} : FC Tryz.prog w0 107 [.int .i64 16] S (fun v S' => v = .bool true /\ S' = S) := by
 refine FC.of Tryz.known107 (by simp) ?_
 unfold Tryz.pc107
 simp only [argT]
 refine PW.seqOps (OL.dp rfl (OL.nil (PW.k1 0 rfl (PW.seqOps (OL.dp rfl (OL.dp rfl ?_))))))
 refine OL.det trivial (.sub64 rfl rfl (by omega) (by omega)) ?_
 refine OL.det trivial (.to (v' := .int .i64 0) (Yields.pure rfl) (congrArg (Value.int _) (by decide +kernel))) ?_
 refine OL.dp rfl (OL.dp rfl (OL.nil (PW.k1 2 rfl (PW.ret ?_))))
 change (Exit.ret = Exit.normal ∨ Exit.ret = Exit.ret) /\ ∃ v, resV _ _ = some v /\ _
 exact ⟨.inr rfl, _, rfl, rfl, rfl⟩
theorem tz64_fc {w0 : World} {S : SS} (hT : Tabs w0) : FC Tryz.prog w0 114 [.int .u64 16] S (fun v S' => v = .int .i64 4 /\ S' = S) := by
 refine FC.of Tryz.known114 (by simp) ?_
 unfold Tryz.pc114
 simp only [argT]
 refine PW.seqOps (OL.dp rfl (OL.nil (PW.k1 0 rfl ?_)))
 refine PW.seq fun K1 hK1 => ?_
 refine PW.seqOps (OL.dp rfl (OL.dp rfl (OL.nil (PW.k2 0 4 rfl (PW.ite (b := false) rfl ?_)))))
 rw [if_neg Bool.false_ne_true]
 refine PW.skip (hK1 _ _ (PW.k1 0 rfl (PW.seqOps (OL.dp rfl (OL.dp rfl ?_)))))
 refine OL.det trivial (.to (v' := .int .u64 18446744073709551600) (Yields.neg rfl) (congrArg (Value.int _) (by decide +kernel))) ?_
 refine OL.det trivial (.to (v' := .int .u64 16) (Yields.pure rfl) (congrArg (Value.int _) (by decide +kernel))) ?_
 refine OL.det trivial (.to (v' := .int .u64 4573923408821661840) (Yields.pure rfl) (congrArg (Value.int _) (by decide +kernel))) ?_
 refine OL.det trivial (.to (v' := .int .u64 ((15 : Nat) : Int)) (Yields.shrU (a := 4573923408821661840) (b := 58) rfl rfl (by omega)) (congrArg (Value.int _) (by decide +kernel))) ?_
 refine OL.det trivial (.to (v' := .pointer (some ⟨3, 15, none⟩)) (Yields.ixA1 (j := 15) rfl rfl rfl (by omega)) (by rw [add_own])) ?_
 refine OL.det trivial (.ld rfl (.inl hT.tz)) ?_
 refine OL.det trivial (.to (v' := .int .i64 4) (Yields.pure rfl) (congrArg (Value.int _) (by decide +kernel))) ?_
 refine OL.dp rfl (OL.nil (PW.k1 2 rfl (PW.ret ?_)))
 change (Exit.ret = Exit.normal ∨ Exit.ret = Exit.ret) /\ ∃ v, resV _ _ = some v /\ _
 exact ⟨.inr rfl, _, rfl, rfl, rfl⟩
theorem tz_fc {w0 : World} {S : SS} (hT : Tabs w0) : FC Tryz.prog w0 108 [.int .u64 16] S (fun v S' => v = .int .i64 4 /\ S' = S) := by
 refine FC.of Tryz.known108 (by simp) ?_
 unfold Tryz.pc108
 simp only [argT]
 refine PW.seqOps (OL.dp rfl (OL.nil (PW.k1 0 rfl ?_)))
 refine PW.seq fun K1 hK1 => ?_
 refine PW.ite (b := false) rfl ?_
 rw [if_neg Bool.false_ne_true]
 refine PW.skip (hK1 _ _ (PW.k1 0 rfl (PW.seqOps (OL.dp rfl (OL.call trivial rfl (tz64_fc hT) ?_)))))
 rintro _ Sx ⟨rfl, hSx⟩
 rw [hSx]
 clear hSx
 refine OL.dp rfl (OL.nil (PW.k1 2 rfl (PW.ret ?_)))
 change (Exit.ret = Exit.normal ∨ Exit.ret = Exit.ret) /\ ∃ v, resV _ _ = some v /\ _
 exact ⟨.inr rfl, _, rfl, rfl, rfl⟩
theorem fbits_fc {w0 : World} {S : SS} {u : Nat} (hT : Tabs w0) (hu : u < 18446744073709551616) : FC Tryz.prog w0 92 [.slice none 0 0, .int .u64 (u : Int), .int .i64 16, .bool false, .bool false] S (fun v S' => v = .tuple #[.slice none 0 0, .string ⟨(digsF 16 63 u).toArray⟩] /\ S' = S) := by
 refine FC.ofD Tryz.known92 (by simp) ?_
 unfold Tryz.pc92
 simp only [argT]
 refine PW.seqOps (OL.dp rfl (OL.dp rfl (OL.nil (PW.k7 0 1 2 3 4 10 11 rfl ?_))))
 refine PW.seq fun K1 hK1 => ?_
 refine PW.seqOps (OL.dp rfl (OL.dp rfl (OL.dp rfl (OL.det rfl (.pure rfl) (OL.det rfl (.pure rfl) (OL.dp rfl (OL.dp rfl (OL.det rfl (.pure rfl) (OL.det rfl (.pure rfl) (OL.dp rfl (OL.nil ?_)))))))))))
 refine PW.k8 0 1 2 3 4 10 11 28 rfl (PW.ite (b := false) rfl ?_)
 rw [if_neg Bool.false_ne_true]
 refine PW.skip (hK1 _ _ (PW.k7 0 1 2 3 4 10 11 rfl (PW.seqOps (OL.cons trivial OW.al ?_))))
 rintro _ _ ⟨r12, rfl, rfl⟩
 change OL _ _ _ _ _ (dseg r12 (List.replicate 65 (.int .u8 0)) :: S) _
 refine OL.nil (PW.k8 0 1 2 3 4 10 11 12 rfl (PW.seqOps (OL.dp rfl (OL.nil (PW.k9 0 1 2 3 4 10 11 12 13 rfl ?_)))))
 refine PW.seq fun K2 hK2 => ?_
 refine PW.seqOps (OL.dp rfl (OL.nil (PW.k10 0 1 2 3 4 10 11 12 13 30 rfl (PW.ite (b := false) rfl ?_))))
 rw [if_neg Bool.false_ne_true]
 refine PW.skip (hK2 _ _ (PW.k9 0 1 2 3 4 10 11 12 13 rfl ?_))
 refine PW.seq fun K3 hK3 => ?_
 refine PW.seqOps (OL.dp rfl (OL.call trivial rfl (pow2_fc) ?_))
 rintro _ Sx ⟨rfl, hSx⟩
 rw [hSx]
 clear hSx
 refine OL.nil (PW.k10 0 1 2 3 4 10 11 12 13 34 rfl (PW.ite (b := true) rfl ?_))
 rw [if_pos rfl]
 refine PW.seqOps (OL.dp rfl ?_)
 refine OL.det trivial (.to (v' := .int .u64 16) (Yields.pure rfl) (congrArg (Value.int _) (by decide +kernel))) ?_
 refine OL.call trivial rfl (tz_fc hT) ?_
 rintro _ Sx ⟨rfl, hSx⟩
 rw [hSx]
 clear hSx
 refine OL.det trivial (.to (v' := .int .u64 4) (Yields.pure rfl) (congrArg (Value.int _) (by decide +kernel))) ?_
 refine OL.dp rfl (OL.nil (PW.k10 0 1 2 3 4 10 11 12 13 14 rfl (PW.seqOps (OL.dp rfl ?_))))
 refine OL.det trivial (.to (v' := .int .u64 16) (Yields.pure rfl) (congrArg (Value.int _) (by decide +kernel))) ?_
 refine OL.dp rfl (OL.nil (PW.k11 0 1 2 3 4 10 11 12 13 14 15 rfl (PW.seqOps (OL.dp rfl ?_))))
 refine OL.det trivial (.to (v' := .int .u64 16) (Yields.pure rfl) (congrArg (Value.int _) (by decide +kernel))) ?_
 refine OL.det trivial (.to (v' := .int .u64 15) (Yields.pure rfl) (congrArg (Value.int _) (by decide +kernel))) ?_
 refine OL.dp rfl (OL.nil (PW.k11 0 1 3 4 10 11 12 13 14 15 16 rfl ?_))
 refine PW.seq fun K4 hK4 => ?_
 refine PW.block (PW.k11 0 1 3 4 10 11 12 13 14 15 16 rfl ?_)
 refine PW.loopK (I := fun m T S' => ∃ (k n f : Nat) (L : List UInt8) (c : List Value), (k <= 15 /\ m = 15 - k /\ n * 16 ^ k <= u /\ f + k = 63 /\ digsF 16 63 u = digsF 16 f n ++ L /\ c.length = 65 /\ c.drop (65 - k) = bytesC L /\ L.length = k) /\ T = ([(0, .slice none 0 0), (1, .int .u64 ((n : Nat) : Int)), (3, .bool false), (4, .bool false), (10, .slice none 0 0), (11, .string ⟨#[]⟩), (12, .pointer (some ⟨r12, 0, none⟩)), (13, .int .i64 ((65 - k : Nat) : Int)), (14, .int .u64 4), (15, .int .u64 16), (16, .int .u64 15)] : TT) /\ S' = dseg r12 c :: S) (m := 15) ⟨0, u, 63, [], List.replicate 65 (.int .u8 0), ⟨by omega, by omega, by omega, rfl, by simp, rfl, rfl, rfl⟩, rfl, rfl⟩ ?_
 rintro m _ _ ⟨k, n, f, L, c, ⟨hk, hm, hnu, hf, hd, hc, hcd, hL⟩, rfl, rfl⟩
 refine PW.seq fun K5 hK5 => ?_
 refine PW.seqOps (OL.dp rfl (OL.dp rfl (OL.dp rfl (OL.nil (PW.k12 0 1 3 4 10 11 12 13 14 15 16 46 rfl ?_)))))
 refine PW.cond rfl (fun c46 => ?_) (fun c46 => ?_)
 ·try simp only [decide_eq_true_eq, decide_eq_false_iff_not, beq_iff_eq, bne_iff_ne, beq_eq_false_iff_ne, bne_eq_false_iff_eq, Bool.not_eq_true', Bool.not_eq_false', Bool.not_eq_true, ne_eq, Decidable.not_not] at c46
  have hn16 : 16 <= n := by omega
  have hk15 : k < 15 := by
   rcases Nat.lt_or_ge k 15 with h | h
   ·exact h
   exfalso
   obtain rfl : k = 15 := by omega
   have h2 : 16 * 16 ^ 15 <= n * 16 ^ 15 := Nat.mul_le_mul_right _ hn16
   have h3 : 16 * 16 ^ 15 = 18446744073709551616 := by decide
   omega
  have hnl : n < 18446744073709551616 := Nat.lt_of_le_of_lt (Nat.le_trans (Nat.le_mul_of_pos_right n (Nat.pow_pos (by omega))) hnu) hu
  refine PW.skip (hK5 _ _ (PW.k11 0 1 3 4 10 11 12 13 14 15 16 rfl (PW.block (PW.seqOps (OL.dp rfl ?_)))))
  refine OL.det trivial (.to (v' := .int .i64 ((64 - k : Nat) : Int)) (Yields.sub64 rfl rfl (by omega) (by omega)) (by congr 1; omega)) ?_
  refine OL.dp rfl (OL.nil (PW.k11 0 1 3 4 10 11 12 13 14 15 16 rfl (PW.seqOps (OL.dp rfl (OL.dp rfl (OL.dp rfl (OL.det trivial (.to (v' := .int .u64 ((n % 16 : Nat) : Int)) (Yields.pure rfl) (and15 hnl)) ?_)))))))
  refine OL.det trivial (Yields.ixStr (j := n % 16) (b := dig (n % 16)) rfl rfl (dig36_at _ (by omega))) ?_
  refine OL.det trivial (.to (v' := .pointer (some ⟨r12, 64 - k, none⟩)) (Yields.ixA1 (j := 64 - k) rfl rfl (by omega) (by omega)) (by rw [add_own])) ?_
  refine OL.cons trivial (OW.st (k := 0) (c := c) (u := .int .u8 (dig (n % 16)).toNat) rfl rfl rfl rfl (by rw [hc]; show 64 - k + 1 <= 65; omega) rfl) ?_
  rintro _ _ rfl
  change OL _ _ _ _ _ (dseg r12 (setAt c (64 - k) [.int .u8 (dig (n % 16)).toNat]) :: S) _
  refine OL.nil (PW.k11 0 1 3 4 10 11 12 13 14 15 16 rfl (PW.ops (OL.dp rfl (OL.dp rfl ?_))))
  refine OL.det trivial (Yields.shrU (a := n) (b := 4) rfl rfl (by omega)) ?_
  refine OL.dp rfl (OL.nil ?_)
  repeat rw [inBlk_n]
  try rw [thenK_n]
  refine LoopEnd.mk (T'' := [(0, _), (1, _), (3, _), (4, _), (10, _), (11, _), (12, _), (13, _), (14, _), (15, _), (16, _)]) (wi rfl) ?_
  refine ⟨15 - (k + 1), by omega, k + 1, n / 2 ^ 4, f - 1, dig (n % 16) :: L, _, ⟨by omega, rfl, ?_, by omega, ?_, by rw [setAt_length, hc], ?_, by simp [hL]⟩, ?_, rfl⟩
  ·have h1 : n / 2 ^ 4 * 16 <= n := Nat.div_mul_le_self n 16
   have e : (16 : Nat) ^ (k + 1) = 16 * 16 ^ k := by rw [Nat.pow_succ, Nat.mul_comm]
   calc n / 2 ^ 4 * 16 ^ (k + 1) = (n / 2 ^ 4 * 16) * 16 ^ k := by rw [e, Nat.mul_assoc]
    _ <= n * 16 ^ k := Nat.mul_le_mul_right _ h1
    _ <= u := hnu
  ·obtain ⟨g, rfl⟩ : ∃ g, f = g + 1 := ⟨f - 1, by omega⟩
   rw [hd, hex_next (by omega)]; simp
  ·rw [show 65 - (k + 1) = 64 - k from by omega]; exact setAt_dig hc (by omega) hcd
  rw [show (65 - (k + 1) : Nat) = 64 - k from by omega]
 try simp only [decide_eq_true_eq, decide_eq_false_iff_not, beq_iff_eq, bne_iff_ne, beq_eq_false_iff_ne, bne_eq_false_iff_eq, Bool.not_eq_true', Bool.not_eq_false', Bool.not_eq_true, ne_eq, Decidable.not_not] at c46
 refine PW.exit (hK4 _ _ (PW.k8 0 1 3 4 10 11 12 13 rfl (PW.seqOps (OL.dp rfl ?_))))
 refine OL.det trivial (.to (v' := .int .i64 ((64 - k : Nat) : Int)) (Yields.sub64 rfl rfl (by omega) (by omega)) (by congr 1; omega)) ?_
 refine OL.dp rfl (OL.nil (PW.k8 0 1 3 4 10 11 12 13 rfl (PW.ops (OL.dp rfl (OL.dp rfl ?_)))))
 refine OL.det trivial (Yields.ixStr (j := n) (b := dig n) rfl rfl (dig36_at _ (by omega))) ?_
 refine OL.det trivial (.to (v' := .pointer (some ⟨r12, 64 - k, none⟩)) (Yields.ixA1 (j := 64 - k) rfl rfl (by omega) (by omega)) (by rw [add_own])) ?_
 refine OL.cons trivial (OW.st (k := 0) (c := c) (u := .int .u8 (dig n).toNat) rfl rfl rfl rfl (by rw [hc]; show 64 - k + 1 <= 65; omega) rfl) ?_
 rintro _ _ rfl
 change OL _ _ _ _ _ (dseg r12 (setAt c (64 - k) [.int .u8 (dig n).toNat]) :: S) _
 refine OL.nil (hK3 _ _ (PW.k7 0 3 4 10 11 12 13 rfl ?_))
 refine PW.seq fun K6 hK6 => ?_
 refine PW.seqOps (OL.dp rfl (OL.nil (PW.k7 0 4 10 11 12 13 89 rfl (PW.ite (b := false) rfl ?_))))
 rw [if_neg Bool.false_ne_true]
 refine PW.skip (hK6 _ _ (PW.k6 0 4 10 11 12 13 rfl ?_))
 refine PW.seq fun K7 hK7 => ?_
 refine PW.seqOps (OL.dp rfl (OL.nil (PW.k6 0 10 11 12 13 94 rfl (PW.ite (b := false) rfl ?_))))
 rw [if_neg Bool.false_ne_true]
 refine PW.skip (hK7 _ _ (PW.k3 10 12 13 rfl (PW.seqOps ?_)))
 have hfin := setAt_dig (b := dig n) hc (by omega) hcd
 have hrd : Rd w0 (dseg r12 (setAt c (64 - k) [.int .u8 (dig n).toNat]) :: S) (some ((⟨r12, 0, none⟩ : Addr).add (64 - k))) (bytesC (dig n :: L)) := by rw [<- hfin]; exact rd_drop zM0
 refine OL.dp rfl ?_
 refine OL.det trivial (.to (v' := .slice (some ((⟨r12, 0, none⟩ : Addr).add (64 - k))) (65 - (64 - k)) (65 - (64 - k))) (Yields.slAr (l := 64 - k) (h := 65) rfl rfl rfl (.inl rfl) (.inr ⟨rfl, rfl⟩) (by omega) (by omega)) (by rw [if_neg (by omega), Nat.mul_one])) ?_
 refine OL.det trivial (Yields.strOf rfl (l := dig n :: L) (by simp only [List.length_cons, hL]; omega) hrd) ?_
 refine OL.dp rfl (OL.nil (PW.k2 10 11 rfl (PW.ret ?_)))
 change (Exit.ret = Exit.normal ∨ Exit.ret = Exit.ret) /\ ∃ v, resV _ _ = some v /\ _
 exact ⟨.inr rfl, _, rfl, _, Sub.drop (Sub.refl _), by rw [hd, digsF_lt (by omega)]; rfl, rfl⟩
end Go.Proofs.Rl

namespace Go.Proofs.Rl
open Go.SL Go.RowKit Go.Proofs Go.Proofs.Lb
set_option maxHeartbeats 1000000
theorem dec_digs : ∀ f u, u < 10 ^ (f + 1) -> Lib.decDigits u = digsF 10 f u
 | 0, u, h => by
  have h : u < 10 := h
  rw [Lib.decDigits, dif_pos h, digsF]; unfold dig; rw [if_pos h]
 | f + 1, u, h => by
  rw [Lib.decDigits, digsF]
  split
  ·rename_i h10; unfold dig; rw [if_pos h10]
  rw [dec_digs f (u / 10) (by rw [Nat.pow_succ] at h; omega)]
  unfold dig; rw [if_pos (Nat.mod_lt _ (by omega))]
def numL (z : Int) : List UInt8 := if z < 0 then 45 :: digsF 10 9 z.natAbs else digsF 10 9 z.toNat
theorem num_itoa {z : Int} (h0 : -999999999 <= z) (h1 : z <= 999999999) : Lib.itoa z = numL z := by
 unfold Lib.itoa numL
 split
 ·rw [dec_digs 9 _ (by omega)]
 rw [dec_digs 9 _ (by omega)]
def dig16 : ByteArray := ⟨#[48, 49, 50, 51, 52, 53, 54, 55, 56, 57, 97, 98, 99, 100, 101, 102]⟩
theorem dig16_cut : ∀ j, j < 16 -> dig16.extract j (j + 1) = ⟨#[dig j]⟩ := by decide +kernel
theorem u64_inc {n : Nat} (h : n < 1000) : IntKind.u64.wrap (((n : Nat) : Int) + 1) = ((n + 1 : Nat) : Int) := by
 have := u64_wrap (a := n + 1) (by omega)
 simpa using this
theorem app_str (a b : List UInt8) : (⟨a.toArray⟩ : ByteArray) ++ ⟨b.toArray⟩ = ⟨(a ++ b).toArray⟩ := by
 apply ByteArray.ext
 rw [ByteArray.data_append]
 simp
theorem cat_l {P : Program} {w0 : World} {n : Nat} {T : TT} {S : SS} {x y : PV} (a b : List UInt8) (hx : x.val T = some (.string ⟨a.toArray⟩)) (hy : y.val T = some (.string ⟨b.toArray⟩)) (h : a.length + b.length <= 9223372036854775807) : Go.SL.Yields P w0 n (.bin .add x y) T S (.string ⟨(a ++ b).toArray⟩) :=
 Go.SL.Yields.binRaw hx hy (fun t a b w => by simp [eqGuard]) (fun t w => by
  have hm : IntKind.i64.max = 9223372036854775807 := by decide
  have e : (⟨a.toArray⟩ : ByteArray).size + (⟨b.toArray⟩ : ByteArray).size = a.length + b.length := by simp [ByteArray.size]
  have : ¬ (((⟨a.toArray⟩ : ByteArray).size + (⟨b.toArray⟩ : ByteArray).size : Nat) : Int) > IntKind.i64.max := by rw [hm, e]; omega
  show Sem.run P (Op.stringOp .add ⟨a.toArray⟩ ⟨b.toArray⟩) w = _
  unfold Op.stringOp
  simp only
  rw [if_neg this, app_str]
  rfl)
theorem fuint_fc {w0 : World} {S : SS} {u : Nat} (hT : Tabs w0) (hu : u < 18446744073709551616) : FC Tryz.prog w0 66 [.int .u64 (u : Int), .int .i64 16] S (fun v S' => v = .string ⟨(digsF 16 63 u).toArray⟩ /\ S' = S) := by
 refine FC.of Tryz.known66 (by simp) ?_
 unfold Tryz.pc66
 simp only [argT]
 refine PW.seqOps (OL.dp rfl (OL.nil (PW.k2 0 1 rfl ?_)))
 refine PW.seq fun K1 hK1 => ?_
 refine PW.seqOps (OL.dp rfl (OL.dp rfl (OL.nil (PW.k3 0 1 10 rfl (PW.ite (b := false) rfl ?_)))))
 rw [if_neg Bool.false_ne_true]
 refine PW.skip (hK1 _ _ (PW.k2 0 1 rfl (PW.seqOps (OL.dp rfl (OL.dp rfl (OL.call trivial rfl (fbits_fc hT hu) ?_))))))
 rintro _ Sx ⟨rfl, hSx⟩
 rw [hSx]
 clear hSx
 refine OL.dp rfl (OL.dp rfl (OL.dp rfl (OL.dp rfl (OL.dp rfl (OL.nil (PW.k1 8 rfl (PW.seqOps (OL.dp rfl (OL.dp rfl (OL.nil (PW.k1 4 rfl ?_)))))))))))
 refine PW.ret ?_
 change (Exit.ret = Exit.normal ∨ Exit.ret = Exit.ret) /\ ∃ v, resV _ _ = some v /\ _
 exact ⟨.inr rfl, _, rfl, rfl, rfl⟩
theorem fuint2_fc {w0 : World} {S : SS} {u : Nat} (hT : Tabs w0) (hu : u < 18446744073709551616) : FC Tryz.prog w0 48 [.int .u64 (u : Int), .int .i64 16] S (fun v S' => v = .string ⟨(digsF 16 63 u).toArray⟩ /\ S' = S) := by
 refine FC.of Tryz.known48 (by simp) ?_
 unfold Tryz.pc48
 simp only [argT]
 refine PW.seqOps (OL.dp rfl (OL.nil (PW.k2 0 1 rfl (PW.seqOps (OL.dp rfl (OL.dp rfl (OL.call trivial rfl (fuint_fc hT hu) ?_)))))))
 rintro _ Sx ⟨rfl, hSx⟩
 rw [hSx]
 clear hSx
 refine OL.dp rfl (OL.nil (PW.k1 4 rfl (PW.ret ?_)))
 change (Exit.ret = Exit.normal ∨ Exit.ret = Exit.ret) /\ ∃ v, resV _ _ = some v /\ _
 exact ⟨.inr rfl, _, rfl, rfl, rfl⟩
theorem dig_u8 {n : Nat} (h : n < 10) : IntKind.u8.wrap (48 + (n : Int)) = ((dig n).toNat : Int) := by
 rw [show (48 : Int) + (n : Int) = ((48 + n : Nat) : Int) from by omega, cvt_u8]
 have : ∀ n, n < 10 -> (48 + n) % 256 = (dig n).toNat := by decide +kernel
 rw [this n h]
theorem i64_nat {n : Nat} (h : n <= 1000000000) : IntKind.i64.wrap (n : Int) = n := IntWalk.i64_in _ ⟨by omega, by omega⟩
theorem q10 {n : Nat} (h : n <= 1000000000) : IntKind.i64.wrap ((n : Int).tdiv 10) = ((n / 10 : Nat) : Int) := by
 have h1 : (n : Int).tdiv 10 = ((n / 10 : Nat) : Int) := by rw [Int.tdiv_eq_ediv_of_nonneg (by omega)]; rfl
 rw [h1, i64_nat (by omega)]
theorem r10 (n : Nat) : (n : Int).tmod 10 = ((n % 10 : Nat) : Int) := by rw [Int.tmod_eq_emod_of_nonneg (by omega)]; rfl
theorem rdig_w {w0 : World} {S : SS} {n b : Nat} {L : List UInt8} (hb : 2 <= b) (hb2 : b <= 16) (hn : n < 18446744073709551616) (hL : L.length <= 1000) (h : ¬ n < b -> FC Tryz.prog w0 52 [.int .u64 ((n / b : Nat) : Int), .int .u64 (b : Int)] S (fun v S' => v = .string ⟨L.toArray⟩ /\ S' = S)) :
  FC Tryz.prog w0 52 [.int .u64 (n : Int), .int .u64 (b : Int)] S (fun v S' => v = .string ⟨(if n < b then [dig n] else L ++ [dig (n % b)]).toArray⟩ /\ S' = S) := by
 refine FC.of Tryz.known52 (by simp) ?_
 unfold Tryz.pc52
 simp only [argT]
 refine PW.seqOps (OL.dp rfl (OL.nil (PW.k2 0 1 rfl (PW.seqOps (OL.dp rfl (OL.nil (PW.k3 0 1 5 rfl ?_)))))))
 refine PW.seq fun K1 hK1 => ?_
 refine PW.quietK Tryz.mixed (QK.dp rfl (QK.dp rfl (QK.dp rfl ?_)))
 refine QK.det trivial (Yields.remU (a := n) (b := b) rfl rfl (by omega)) ?_
 refine QK.dp rfl (QK.dp rfl ?_)
 refine QK.det trivial (Yields.remU (a := n) (b := b) rfl rfl (by omega)) ?_
 refine QK.det trivial (.to (v' := .int .u64 ((n % b + 1 : Nat) : Int)) (Yields.pure rfl) (congrArg (Value.int _) (u64_inc (by have := Nat.mod_lt n (show 0 < b by omega); omega)))) ?_
 refine QK.nil ?_
 change OL _ _ _ [_, _] _ _ _
 refine OL.det trivial (.to (v' := .string ⟨#[dig (n % b)]⟩) (Yields.slStr (s := dig16) (l := n % b) (h := n % b + 1) rfl rfl rfl (.inl rfl) (.inl rfl) (by omega) (by have := Nat.mod_lt n (show 0 < b by omega); show n % b + 1 <= 16; omega)) (by rw [dig16_cut _ (by have := Nat.mod_lt n (show 0 < b by omega); omega)])) ?_
 refine OL.dp rfl (OL.nil (hK1 _ _ (PW.k3 0 1 6 rfl ?_)))
 refine PW.seq fun K2 hK2 => ?_
 refine PW.seqOps (OL.dp rfl (OL.dp rfl (OL.dp rfl (OL.nil (PW.k4 0 1 6 18 rfl ?_)))))
 refine PW.cond rfl (fun c18 => ?_) (fun c18 => ?_)
 ·try simp only [decide_eq_true_eq, decide_eq_false_iff_not, beq_iff_eq, bne_iff_ne, beq_eq_false_iff_ne, bne_eq_false_iff_eq, Bool.not_eq_true', Bool.not_eq_false', Bool.not_eq_true, ne_eq, Decidable.not_not] at c18
  refine PW.seqOps (OL.dp rfl (OL.dp rfl (OL.nil (PW.k1 4 rfl (PW.ret ?_)))))
  change (Exit.ret = Exit.normal ∨ Exit.ret = Exit.ret) /\ ∃ v, resV _ _ = some v /\ _
  exact ⟨.inr rfl, _, rfl, by rw [if_pos (by omega), Nat.mod_eq_of_lt (by omega)], rfl⟩
 try simp only [decide_eq_true_eq, decide_eq_false_iff_not, beq_iff_eq, bne_iff_ne, beq_eq_false_iff_ne, bne_eq_false_iff_eq, Bool.not_eq_true', Bool.not_eq_false', Bool.not_eq_true, ne_eq, Decidable.not_not] at c18
 refine PW.skip (hK2 _ _ (PW.k3 0 1 6 rfl (PW.seqOps (OL.dp rfl (OL.dp rfl ?_)))))
 refine OL.det trivial (Yields.quoU (a := n) (b := b) rfl rfl (by omega) hn) ?_
 refine OL.dp rfl ?_
 refine OL.call trivial rfl (h (by omega)) ?_
 rintro _ Sx ⟨rfl, hSx⟩
 rw [hSx]
 clear hSx
 refine OL.dp rfl ?_
 refine OL.det trivial (cat_l L [dig (n % b)] rfl rfl (by simp only [List.length_singleton]; omega)) ?_
 refine OL.dp rfl (OL.nil (PW.k1 4 rfl (PW.ret ?_)))
 change (Exit.ret = Exit.normal ∨ Exit.ret = Exit.ret) /\ ∃ v, resV _ _ = some v /\ _
 exact ⟨.inr rfl, _, rfl, by rw [if_neg (by omega)], rfl⟩
theorem rdig_fc {w0 : World} {S : SS} {b : Nat} (hb : 2 <= b) (hb2 : b <= 16) : ∀ f n, f <= 500 -> n < b ^ (f + 1) -> n < 18446744073709551616 -> FC Tryz.prog w0 52 [.int .u64 (n : Int), .int .u64 (b : Int)] S (fun v S' => v = .string ⟨(digsF b f n).toArray⟩ /\ S' = S)
 | 0, n, _, h, hn => by
  have h : n < b := by simpa using h
  have := rdig_w (w0 := w0) (S := S) (L := []) hb hb2 hn (by simp) fun h' => absurd h h'
  rwa [if_pos h] at this
 | f + 1, n, hf, h, hn => by
  have := rdig_w (w0 := w0) (S := S) (L := digsF b f (n / b)) hb hb2 hn (by have := digsF_len (b := b) f (n / b); omega) fun _ => rdig_fc hb hb2 f (n / b) (by omega) (Nat.div_lt_of_lt_mul (by rw [Nat.pow_succ, Nat.mul_comm] at h; exact h)) (Nat.lt_of_le_of_lt (Nat.div_le_self _ _) hn)
  exact this
theorem rnum_w {w0 : World} {S : SS} {n : Nat} {A B : List UInt8} (hn : n <= 1000000000) (hA : A.length <= 1000) (hB : B.length <= 1000) (h1 : ¬ n < 10 -> FC Tryz.prog w0 32 [.int .i64 ((n / 10 : Nat) : Int)] S (fun v S' => v = .string ⟨A.toArray⟩ /\ S' = S)) (h2 : ¬ n < 10 -> FC Tryz.prog w0 32 [.int .i64 ((n % 10 : Nat) : Int)] S (fun v S' => v = .string ⟨B.toArray⟩ /\ S' = S)) :
  FC Tryz.prog w0 32 [.int .i64 (n : Int)] S (fun v S' => v = .string ⟨(if n < 10 then [dig n] else A ++ B).toArray⟩ /\ S' = S) := by
 refine FC.ofD Tryz.known32 (by simp) ?_
 unfold Tryz.pc32
 simp only [argT]
 refine PW.seqOps (OL.dp rfl (OL.nil (PW.k1 0 rfl ?_)))
 refine PW.seq fun K1 hK1 => ?_
 refine PW.seqOps (OL.dp rfl (OL.dp rfl (OL.nil (PW.k2 0 4 rfl ?_))))
 refine PW.cond rfl (fun c4 => ?_) (fun c4 => ?_)
 ·try simp only [decide_eq_true_eq, decide_eq_false_iff_not, beq_iff_eq, bne_iff_ne, beq_eq_false_iff_ne, bne_eq_false_iff_eq, Bool.not_eq_true', Bool.not_eq_false', Bool.not_eq_true, ne_eq, Decidable.not_not] at c4
  exfalso; omega
  -- done
 try simp only [decide_eq_true_eq, decide_eq_false_iff_not, beq_iff_eq, bne_iff_ne, beq_eq_false_iff_ne, bne_eq_false_iff_eq, Bool.not_eq_true', Bool.not_eq_false', Bool.not_eq_true, ne_eq, Decidable.not_not] at c4
 refine PW.skip (hK1 _ _ (PW.k1 0 rfl ?_))
 refine PW.seq fun K2 hK2 => ?_
 refine PW.seqOps (OL.dp rfl (OL.dp rfl (OL.nil (PW.k2 0 10 rfl ?_))))
 refine PW.cond rfl (fun c10 => ?_) (fun c10 => ?_)
 ·try simp only [decide_eq_true_eq, decide_eq_false_iff_not, beq_iff_eq, bne_iff_ne, beq_eq_false_iff_ne, bne_eq_false_iff_eq, Bool.not_eq_true', Bool.not_eq_false', Bool.not_eq_true, ne_eq, Decidable.not_not] at c10
  refine PW.seqOps (OL.dp rfl ?_)
  refine OL.det trivial (.add64 rfl rfl (by omega) (by omega)) ?_
  refine OL.det trivial (.to (v' := .int .u8 ((dig n).toNat : Int)) (Yields.pure rfl) (congrArg (Value.int _) (dig_u8 (by omega)))) ?_
  refine OL.cons trivial (OW.bsl rfl) ?_
  rintro _ _ ⟨r14, rfl, rfl⟩
  change OL _ _ _ _ _ ([(r14, .cells (bytesC [dig n]) 5 1)] :: S) _
  refine OL.det trivial (Yields.strOf rfl (l := [dig n]) rfl (Rd.own (E := 5) (tot := 1) zM0)) (OL.dp rfl (OL.nil (PW.k1 2 rfl (PW.ret ?_))))
  change (Exit.ret = Exit.normal ∨ Exit.ret = Exit.ret) /\ ∃ v, resV _ _ = some v /\ _
  exact ⟨.inr rfl, _, rfl, _, Sub.drop (Sub.refl _), by rw [if_pos (by omega)], rfl⟩
 try simp only [decide_eq_true_eq, decide_eq_false_iff_not, beq_iff_eq, bne_iff_ne, beq_eq_false_iff_ne, bne_eq_false_iff_eq, Bool.not_eq_true', Bool.not_eq_false', Bool.not_eq_true, ne_eq, Decidable.not_not] at c10
 refine PW.skip (hK2 _ _ (PW.k1 0 rfl (PW.seqOps (OL.dp rfl ?_))))
 refine OL.det trivial (.to (v' := .int .i64 ((n / 10 : Nat) : Int)) (Yields.quo rfl rfl (by omega)) (congrArg (Value.int _) (q10 hn))) ?_
 refine OL.call trivial rfl (h1 (by omega)) ?_
 rintro _ Sx ⟨rfl, hSx⟩
 rw [hSx]
 clear hSx
 refine OL.dp rfl ?_
 refine OL.det trivial (.to (v' := .int .i64 ((n % 10 : Nat) : Int)) (Yields.rem rfl rfl (by omega)) (congrArg (Value.int _) (r10 n))) ?_
 refine OL.call trivial rfl (h2 (by omega)) ?_
 rintro _ Sx ⟨rfl, hSx⟩
 rw [hSx]
 clear hSx
 refine OL.det trivial (cat_l A B rfl rfl (by omega)) ?_
 refine OL.dp rfl (OL.nil (PW.k1 2 rfl (PW.ret ?_)))
 change (Exit.ret = Exit.normal ∨ Exit.ret = Exit.ret) /\ ∃ v, resV _ _ = some v /\ _
 exact ⟨.inr rfl, _, rfl, _, Sub.refl _, by rw [if_neg (by omega)], rfl⟩
theorem rnum_fc {w0 : World} {S : SS} : ∀ (f n : Nat), f <= 500 -> n < 10 ^ (f + 1) -> n <= 1000000000 -> FC Tryz.prog w0 32 [.int .i64 (n : Int)] S (fun v S' => v = .string ⟨(digsF 10 f n).toArray⟩ /\ S' = S)
 | 0, n, _, h, hn => by
  have h : n < 10 := by simpa using h
  have := rnum_w (w0 := w0) (S := S) (A := []) (B := []) hn (by simp) (by simp) (fun h' => absurd h h') (fun h' => absurd h h')
  rwa [if_pos h] at this
 | f + 1, n, hf, h, hn => by
  have e : digsF 10 f (n % 10) = [dig (n % 10)] := digsF_lt (Nat.mod_lt _ (by omega))
  have hp : 10 <= 10 ^ (f + 1) := by rw [Nat.pow_succ]; have := Nat.pow_pos (n := f) (show 0 < 10 by omega); omega
  have := rnum_w (w0 := w0) (S := S) (A := digsF 10 f (n / 10)) (B := [dig (n % 10)]) hn (by have := digsF_len (b := 10) f (n / 10); omega) (by simp)
   (fun _ => rnum_fc f (n / 10) (by omega) (Nat.div_lt_of_lt_mul (by rw [Nat.pow_succ, Nat.mul_comm] at h; exact h)) (by omega))
   (fun _ => by rw [<- e]; exact rnum_fc f (n % 10) (by omega) (by have := Nat.mod_lt n (show 0 < 10 by omega); omega) (by omega))
  exact this
def labT (a : LabB) : List UInt8 := if Lb.chkP a.1 ≠ 0 then [63] else numL a.1 ++ [58] ++ digsF 16 63 a.2.toNat
theorem numL_len (z : Int) : (numL z).length <= 11 := by
 unfold numL; split
 ·have := digsF_len (b := 10) 9 z.natAbs; simp; omega
 have := digsF_len (b := 10) 9 z.toNat; omega
theorem labT_len (a : LabB) : (labT a).length <= 76 := by
 unfold labT; split
 ·simp
 have := numL_len a.1; have := digsF_len (b := 16) 63 a.2.toNat; simp only [List.length_append, List.length_singleton]; omega
theorem itoaL_fc {w0 : World} {S : SS} {z : Int} (hT : Tabs w0) (h0 : -999999999 <= z) (h1 : z <= 999999999) : FC Tryz.prog w0 28 [.int .i64 z] S (fun v S' => v = .string ⟨(numL z).toArray⟩ /\ S' = S) := by
 rw [<- num_itoa h0 h1]; exact itoa_fc hT (by omega) (by omega)
theorem chk_rng {z : Int} (h : Lb.chkP z = 0) : 0 <= z /\ z <= 15 := by
 unfold Lb.chkP at h; split at h
 ·cases h
 omega
theorem may_chk7 (a : LabB) : mayP a = decide (Lb.chkP a.1 = 0) := by
 unfold mayP Lb.chkP
 split <;> rename_i h
 ·have : ¬ (0 <= a.1 /\ a.1 <= 15) := by omega
  simp; omega
 simp; omega
theorem ltext_fc {w0 : World} {S : SS} {a : LabB} (hT : Tabs w0) : FC Tryz.prog w0 30 [labB a] S (fun v S' => v = .string ⟨(labT a).toArray⟩ /\ S' = S) := by
 have ha := a.2.isLt
 have hdl := digsF_len (b := 16) 63 a.2.toNat
 have hnl := numL_len a.1
 refine FC.ofD Tryz.known30 (by simp) ?_
 unfold Tryz.pc30
 simp only [argT]
 refine PW.seqOps (OL.cons trivial (OW.bx rfl) ?_)
 rintro _ _ ⟨r1, rfl, rfl⟩
 change OL _ _ _ _ _ (lseg r1 a :: S) _
 refine OL.dp rfl (OL.nil (PW.k1 1 rfl ?_))
 refine PW.seq fun K1 hK1 => ?_
 refine PW.seqOps (OL.det trivial (.ldA rfl rfl (lab_at (a := a) (r := r1) zM0)) (OL.call trivial rfl (check_b) ?_))
 rintro _ Sx ⟨rfl, hSx⟩
 rw [hSx]
 clear hSx
 refine OL.dp rfl (OL.nil (PW.k2 1 5 rfl ?_))
 refine PW.cond rfl (fun c5 => ?_) (fun c5 => ?_)
 ·try simp only [decide_eq_true_eq, decide_eq_false_iff_not, beq_iff_eq, bne_iff_ne, beq_eq_false_iff_ne, bne_eq_false_iff_eq, Bool.not_eq_true', Bool.not_eq_false', Bool.not_eq_true, ne_eq, Decidable.not_not] at c5
  refine PW.seqOps (OL.dp rfl (OL.nil (PW.k1 2 rfl (PW.ret ?_))))
  change (Exit.ret = Exit.normal ∨ Exit.ret = Exit.ret) /\ ∃ v, resV _ _ = some v /\ _
  exact ⟨.inr rfl, _, rfl, _, Sub.drop (Sub.refl _), by unfold labT; rw [if_pos c5], rfl⟩
 try simp only [decide_eq_true_eq, decide_eq_false_iff_not, beq_iff_eq, bne_iff_ne, beq_eq_false_iff_ne, bne_eq_false_iff_eq, Bool.not_eq_true', Bool.not_eq_false', Bool.not_eq_true, ne_eq, Decidable.not_not] at c5
 refine PW.skip (hK1 _ _ (PW.k1 1 rfl ?_))
 refine PW.seq fun K2 hK2 => ?_
 refine PW.quietK Tryz.mixed (QK.dp rfl (QK.det trivial (.ld rfl (own_at (j := 0) (c := [.int .i64 a.1, .int .u64 (a.2.toNat : Int)]) (E := 34) (tot := 2) zM0 rfl)) ?_))
 refine QK.call trivial rfl (itoaL_fc hT (by have := chk_rng c5; omega) (by have := chk_rng c5; omega)) ?_
 refine QK.det trivial (cat_l (numL a.1) [58] rfl rfl (by simp only [List.length_singleton]; omega)) ?_
 refine QK.dp rfl (QK.det trivial (.ld rfl (own_at (j := 1) (c := [.int .i64 a.1, .int .u64 (a.2.toNat : Int)]) (E := 34) (tot := 2) zM0 rfl)) (QK.call trivial rfl (fuint2_fc hT ha) (QK.nil ?_)))
 change OL _ _ _ [_, _] _ _ _
 refine OL.det trivial (cat_l (numL a.1 ++ [58]) (digsF 16 63 a.2.toNat) rfl rfl (by simp only [List.length_append, List.length_singleton]; omega)) ?_
 refine OL.dp rfl (OL.nil (hK2 _ _ (PW.k1 2 rfl (PW.ret ?_))))
 change (Exit.ret = Exit.normal ∨ Exit.ret = Exit.ret) /\ ∃ v, resV _ _ = some v /\ _
 exact ⟨.inr rfl, _, rfl, _, Sub.drop (Sub.refl _), by unfold labT; rw [if_neg (by rw [c5]; simp)], rfl⟩
theorem rltext_fc {w0 : World} {S : SS} {a : LabB} : FC Tryz.prog w0 33 [labB a] S (fun v S' => v = .string ⟨(labT a).toArray⟩ /\ S' = S) := by
 have ha := a.2.isLt
 have hdl := digsF_len (b := 16) 63 a.2.toNat
 have hnl := numL_len a.1
 have hmc := may_chk7 a
 refine FC.ofD Tryz.known33 (by simp) ?_
 unfold Tryz.pc33
 simp only [argT]
 refine PW.seqOps (OL.cons trivial (OW.bx rfl) ?_)
 rintro _ _ ⟨r1, rfl, rfl⟩
 change OL _ _ _ _ _ (lseg r1 a :: S) _
 refine OL.dp rfl (OL.nil (PW.k1 1 rfl ?_))
 refine PW.seq fun K1 hK1 => ?_
 refine PW.seqOps (OL.det trivial (.ldA rfl rfl (lab_at (a := a) (r := r1) zM0)) (OL.call trivial rfl (Lb.may_fc) ?_))
 rintro _ Sx ⟨rfl, hSx⟩
 rw [hSx]
 clear hSx
 refine OL.dp rfl (OL.nil (PW.k2 1 5 rfl ?_))
 refine PW.cond rfl (fun c5 => ?_) (fun c5 => ?_)
 ·try simp only [decide_eq_true_eq, decide_eq_false_iff_not, beq_iff_eq, bne_iff_ne, beq_eq_false_iff_ne, bne_eq_false_iff_eq, Bool.not_eq_true', Bool.not_eq_false', Bool.not_eq_true, ne_eq, Decidable.not_not] at c5
  refine PW.seqOps (OL.dp rfl (OL.nil (PW.k1 2 rfl (PW.ret ?_))))
  change (Exit.ret = Exit.normal ∨ Exit.ret = Exit.ret) /\ ∃ v, resV _ _ = some v /\ _
  exact ⟨.inr rfl, _, rfl, _, Sub.drop (Sub.refl _), by unfold labT; rw [if_pos (by rw [hmc] at c5; simpa using c5)], rfl⟩
 try simp only [decide_eq_true_eq, decide_eq_false_iff_not, beq_iff_eq, bne_iff_ne, beq_eq_false_iff_ne, bne_eq_false_iff_eq, Bool.not_eq_true', Bool.not_eq_false', Bool.not_eq_true, ne_eq, Decidable.not_not] at c5
 have hz : Lb.chkP a.1 = 0 := by rw [hmc] at c5; simpa using c5
 have hr := chk_rng hz
 have hnat : a.1 = ((a.1.toNat : Nat) : Int) := by omega
 have e10 : digsF 10 9 a.1.toNat = numL a.1 := by unfold numL; rw [if_neg (by omega)]
 refine PW.skip (hK1 _ _ (PW.k1 1 rfl ?_))
 refine PW.seq fun K2 hK2 => ?_
 refine PW.quietK Tryz.mixed (QK.dp rfl (QK.det trivial (.ld rfl (own_at (j := 0) (c := [.int .i64 a.1, .int .u64 (a.2.toNat : Int)]) (E := 34) (tot := 2) zM0 rfl)) ?_))
 refine QK.det trivial (.to (v' := .int .u64 ((a.1.toNat : Nat) : Int)) (Yields.pure rfl) (congrArg (Value.int _) (by rw [hnat, u64_wrap (by omega)]; rfl))) ?_
 refine QK.call trivial rfl (rdig_fc (b := 10) (by omega) (by omega) 9 a.1.toNat (by omega) (by omega) (by omega)) ?_
 refine QK.det trivial (cat_l (digsF 10 9 a.1.toNat) [58] rfl rfl (by rw [e10]; simp only [List.length_singleton]; omega)) ?_
 refine QK.dp rfl (QK.det trivial (.ld rfl (own_at (j := 1) (c := [.int .i64 a.1, .int .u64 (a.2.toNat : Int)]) (E := 34) (tot := 2) zM0 rfl)) ?_)
 refine QK.call trivial rfl (rdig_fc (b := 16) (by omega) (by omega) 63 a.2.toNat (by omega) (by omega) ha) ?_
 refine QK.nil ?_
 change OL _ _ _ [_, _] _ _ _
 refine OL.det trivial (cat_l (digsF 10 9 a.1.toNat ++ [58]) (digsF 16 63 a.2.toNat) rfl rfl (by rw [e10]; simp only [List.length_append, List.length_singleton]; omega)) ?_
 refine OL.dp rfl (OL.nil (hK2 _ _ (PW.k1 2 rfl (PW.ret ?_))))
 change (Exit.ret = Exit.normal ∨ Exit.ret = Exit.ret) /\ ∃ v, resV _ _ = some v /\ _
 exact ⟨.inr rfl, _, rfl, _, Sub.drop (Sub.refl _), by unfold labT; rw [if_neg (by rw [hz]; simp), e10], rfl⟩
theorem rneg_fc {w0 : World} {S : SS} {n : Nat} (h0 : 0 < n) (hn : n <= 999999999) : FC Tryz.prog w0 32 [.int .i64 (-(n : Int))] S (fun v S' => v = .string ⟨(45 :: digsF 10 9 n).toArray⟩ /\ S' = S) := by
 refine FC.ofD Tryz.known32 (by simp) ?_
 unfold Tryz.pc32
 simp only [argT]
 refine PW.seqOps (OL.dp rfl (OL.nil (PW.k1 0 rfl ?_)))
 refine PW.seq fun K1 hK1 => ?_
 refine PW.seqOps (OL.dp rfl (OL.dp rfl (OL.nil (PW.k2 0 4 rfl ?_))))
 refine PW.cond rfl (fun c4 => ?_) (fun c4 => ?_)
 ·try simp only [decide_eq_true_eq, decide_eq_false_iff_not, beq_iff_eq, bne_iff_ne, beq_eq_false_iff_ne, bne_eq_false_iff_eq, Bool.not_eq_true', Bool.not_eq_false', Bool.not_eq_true, ne_eq, Decidable.not_not] at c4
  refine PW.seqOps (OL.dp rfl ?_)
  refine OL.det trivial (.to (v' := .int .i64 (n : Int)) (Yields.neg rfl) (congrArg (Value.int _) (by rw [show 0 - -(n : Int) = (n : Int) from by omega, i64_nat (by omega)]))) ?_
  refine OL.call trivial rfl (rnum_fc 9 n (by omega) (by omega) (by omega)) ?_
  rintro _ Sx ⟨rfl, hSx⟩
  rw [hSx]
  clear hSx
  refine OL.det trivial (cat_l [45] (digsF 10 9 n) rfl rfl (by have := digsF_len (b := 10) 9 n; simp only [List.length_singleton]; omega)) ?_
  refine OL.dp rfl (OL.nil (PW.k1 2 rfl (PW.ret ?_)))
  change (Exit.ret = Exit.normal ∨ Exit.ret = Exit.ret) /\ ∃ v, resV _ _ = some v /\ _
  exact ⟨.inr rfl, _, rfl, _, Sub.refl _, rfl, rfl⟩
 try simp only [decide_eq_true_eq, decide_eq_false_iff_not, beq_iff_eq, bne_iff_ne, beq_eq_false_iff_ne, bne_eq_false_iff_eq, Bool.not_eq_true', Bool.not_eq_false', Bool.not_eq_true, ne_eq, Decidable.not_not] at c4
 exfalso; omega
 -- done
theorem rnumb_fc {w0 : World} {S : SS} {z : Int} (h0 : -999999999 <= z) (h1 : z <= 999999999) : FC Tryz.prog w0 32 [.int .i64 z] S (fun v S' => v = .string ⟨(numL z).toArray⟩ /\ S' = S) := by
 by_cases hz : z < 0
 ·obtain ⟨n, rfl⟩ : ∃ n : Nat, z = -(n : Int) := ⟨z.natAbs, by omega⟩
  have := rneg_fc (w0 := w0) (S := S) (n := n) (by omega) (by omega)
  unfold numL; rw [if_pos hz]; simpa using this
 obtain ⟨n, rfl⟩ : ∃ n : Nat, z = n := ⟨z.toNat, by omega⟩
 have := rnum_fc (w0 := w0) (S := S) 9 n (by omega) (by omega) (by omega)
 unfold numL; rw [if_neg hz]; simpa using this
end Go.Proofs.Rl





namespace Go.SL
open Go.RowKit
def mkStr (l : List UInt8) : ByteArray := ⟨l.toArray⟩
section
variable {P : Program} {w0 : World} {n : Nat} {T Tc : TT} {S : SS}
end
end Go.SL









namespace Go.SL
open Go.RowKit
section
variable {P : Program} {w0 : World} {n : Nat} {T Tc : TT} {S : SS}
theorem OW.uss {e b tot k : Nat} {x y : PV} {l : List UInt8} {r : List Value} (hx : x.val T = some (.pointer (some ⟨b, 0, none⟩))) (hy : y.val T = some (.int .i64 (l.length : Int))) (hk : S[k]? = some [(b, .cells (bytesC l ++ r) e tot)]) (h0 : l ≠ [])
  (h63 : l.length <= maxLen) : OW P w0 n (.more (.uss e x y)) T S (fun v S' => v = .string (mkStr l) /\ S' = S.set k []) := by
 intro op a w Q hco hs hr
 obtain ⟨t, u, cl, p, q, ho, hca, hat, har, rfl, rfl, hu, hce⟩ := cOp_spec P hco
 obtain ⟨hge, C, hC, htot, hpre⟩ := hr.own (b, .cells (bytesC l ++ r) e tot) (List.mem_flatten.2 ⟨_, List.mem_of_getElem? hk, by simp⟩)
 simp only at hge hC
 have hlen : l.length <= C.size := by
  have := congrArg List.length hpre
  simp [bytesC_length] at this
  omega
 have hcell : ∀ (j : Nat) (x : UInt8), l[j]? = some x -> w.cell? ((⟨b, 0, none⟩ : Addr).add j) = some (.int .u8 x.toNat) := by
  intro j x hj
  have h1 : (bytesC l)[j]? = some (.int .u8 x.toNat) := by simp [bytesC, hj]
  have := hr.cell (own_at (S := S) (w0 := w0) (List.mem_flatten.2 ⟨_, List.mem_of_getElem? hk, by simp⟩ : (b, AO.cells (bytesC l ++ r) e tot) ∈ S.flatten) (j := j) (v := .int .u8 x.toNat) (by
   rw [List.getElem?_append_left (by rw [bytesC_length]; exact (List.getElem?_eq_some_iff.1 hj).1)]; exact h1))
  rw [add_own]; exact this
 have hrun0 := Lib.run_unsafeString_row (P := P) w t u op.type e hu hce b C.size (by unfold World.shape?; rw [hC]) l h0 hlen (by simpa [maxLen] using h63) hcell
 have hrun : (execOp a.eval op).run P w = .ok (.value (.string (mkStr l))) (w.freeze ⟨b, 0, none⟩ l.length) := by
  simp only [execOp, ho, resolve, hca, invoke, builtin, hat, har]
  simp [hs.eval hx, hs.eval hy, hrun0, mkStr]
 unfold Oper.wp
 rw [hrun]
 refine ⟨_, _, rfl, ?_, rfl, rfl⟩
 refine hr.replace hk (Lib.below_freeze (Below.refl _ w) hge _) (fun i _ hne => ?_) (by simp) (fun p hp => by simp at hp)
 simp only [List.map_cons, List.map_nil, List.mem_singleton] at hne
 unfold World.freeze
 split
 ·rfl
 simp only [Array.getElem?_modify]
 rw [if_neg (by omega)]
theorem Yields.usd {x : PV} {A : Addr} {l c : Nat} (hx : x.val T = some (.slice (some A) l c)) (hc : c ≠ 0) : Yields P w0 n (.more (.usd x)) T S (.pointer (some A)) := by
 intro o a w hco hs hr
 obtain ⟨cl, p, ho, hca, har, rfl⟩ := cOp_spec P hco
 have := Lib.run_unsafeSliceData_row (P := P) w cl.argTypes o.type A l c hc
 simp only [execOp, ho, resolve, hca, invoke, builtin, har]
 simp [hs.eval hx, this]
end
end Go.SL

namespace Go.Proofs.Rl
open Go.SL Go.RowKit Go.Proofs Go.Proofs.Lb
set_option maxHeartbeats 1000000
open Go.Shelf
set_option maxRecDepth 100000 in
theorem Tryz.cc_used (b : Nat) (w : World) (h0 : w.cell? ⟨b, 0, none⟩ = some (.pointer (some ⟨b, 0, none⟩))) :
  Calls Tryz.prog 67 #[.pointer (some ⟨b, 0, none⟩)] w fun e w' => e = .returned (.tuple #[]) /\ w' = w := by
 obtain ⟨j, hj, hjs⟩ : ∃ j, Tryz.prog.info? 71 = some j /\ j.size = 2 := by
  have h : (Tryz.prog.info? 71).map (·.size) = some 2 := by kernel_rfl
  exact Option.map_eq_some_iff.1 h
 go_enter Tryz.func67, Tryz.ntmps67
 go_wp2
 rw [Lib.run_neq_ptr_same w _ Tryz.underlying68 hj]
 go_wp2
 go_end0
 exact ⟨rfl, rfl⟩
set_option maxRecDepth 100000 in
theorem Tryz.cc_fresh (b : Nat) (w : World) (h0 : w.cell? ⟨b, 0, none⟩ = some (.pointer none)) (hsh : w.shape? b = some (71, 2)) (hfz : w.frozen? ⟨b, 0, none⟩ = false) :
  Calls Tryz.prog 67 #[.pointer (some ⟨b, 0, none⟩)] w fun e w' => e = .returned (.tuple #[]) /\ w' = w.setCell ⟨b, 0, none⟩ (.pointer (some ⟨b, 0, none⟩)) := by
 obtain ⟨j, hj, hjs⟩ : ∃ j, Tryz.prog.info? 71 = some j /\ j.size = 2 := by
  have h : (Tryz.prog.info? 71).map (·.size) = some 2 := by kernel_rfl
  exact Option.map_eq_some_iff.1 h
 go_enter Tryz.func67, Tryz.ntmps67
 go_wp2
 rw [Lib.run_to_unsafe w ⟨b, 0, none⟩ Tryz.underlying68 Tryz.underlying110 hj (by rw [hjs]; decide) hsh (Nat.zero_lt_succ 1)]
 simp only [Result.andThen]
 rw [Oper.upon_value]
 go_wp2
 rw [run_callFunc_extern Tryz.func93 (by kernel_rfl) (by kernel_rfl) (by kernel_rfl) (e := Extern.AbiNoEscape.same) (by kernel_rfl)]
 rw [Lib.run_noEscape]
 simp only [Result.andThen]
 rw [Oper.upon_value]
 go_wp2
 rw [Lib.run_from_unsafe w ⟨b, 0, none⟩ Tryz.underlying110 Tryz.underlying68 hj hsh (by rw [show Tryz.prog.cellsOf 71 = 2 by kernel_rfl]; kernel_rfl)]
 simp only [Result.andThen]
 rw [Oper.upon_value]
 go_wp2
 go_end0
 exact ⟨rfl, rfl⟩
theorem two_cells {w0 w : World} {S : SS} {b E : Nat} {p v : Value} (h : Rep w0 ([(b, .cells [p, v] E 2)] :: S) w) : w0.heap.size <= b /\ w.heap[b]? = some (.cells #[p, v] E (0, 0)) := by
 obtain ⟨hge, C, hC, hsz, hpre⟩ := h.own (b, .cells [p, v] E 2) (by simp)
 have : C = #[p, v] := by
  apply Array.toList_inj.1
  rw [<- hpre]
  simp only [List.length_cons, List.length_nil]
  rw [List.take_of_length_le (by simp [hsz])]
 exact ⟨hge, by rw [hC, this]⟩
theorem Rep.cell0 {w0 w : World} {S : SS} {b E : Nat} {p v u : Value} (h : Rep w0 ([(b, .cells [p, v] E 2)] :: S) w) : Rep w0 ([(b, .cells [u, v] E 2)] :: S) (w.setCell ⟨b, 0, none⟩ u) := by
 obtain ⟨hge, hC⟩ := two_cells h
 refine ⟨h.below.setCell (p := ⟨b, 0, none⟩) hge u, by simpa using h.nodup, fun q hq => ?_, h.drawn⟩
 simp only [List.flatten_cons, List.singleton_append, List.mem_cons] at hq
 rcases hq with rfl | hq
 ·refine ⟨hge, #[u, v], ?_, rfl, rfl⟩
  simp [World.setCell, Array.getElem?_modify, hC]
 obtain ⟨h1, h2⟩ := h.own q (by simp [hq])
 refine ⟨h1, h2.congr (Below.heap_setCell _ _ _ _ ?_)⟩
 intro e
 have := h.nodup
 simp only [List.flatten_cons, List.singleton_append, List.map_cons, List.nodup_cons] at this
 exact this.1 (List.mem_map.2 ⟨q, hq, e⟩)
def BS (b : Nat) (p v : Value) : Seg := [(b, .cells [p, v] 71 2)]
def selfP (b : Nat) : Value := .pointer (some ⟨b, 0, none⟩)
theorem cc_fc {w0 : World} {S : SS} {b : Nat} {p v : Value} (hp : p = .pointer none ∨ p = selfP b) : FC Tryz.prog w0 67 [.pointer (some ⟨b, 0, none⟩)] (BS b p v :: S) (fun _ S' => S' = BS b (selfP b) v :: S) := by
 intro w hw
 obtain ⟨hge, hC⟩ := two_cells hw
 rcases hp with rfl | rfl
 ·refine (Tryz.cc_fresh b w (by simp [World.cell?, hC]) (by simp [World.shape?, hC]) (by simp [World.frozen?, hC])).mono ?_
  rintro e w' ⟨rfl, rfl⟩
  exact ⟨_, _, rfl, Rep.cell0 hw, rfl⟩
 refine (Tryz.cc_used b w (by simp [World.cell?, hC, selfP])).mono ?_
 rintro e w' ⟨rfl, rfl⟩
 exact ⟨_, _, rfl, hw, rfl⟩
theorem Sub.swap01 {a b : Seg} {S : SS} : Go.SL.Sub (b :: a :: S) (a :: b :: S) := ⟨fun p hp => by simp only [List.flatten_cons, List.mem_append] at hp ⊢; rcases hp with h | h | h; exact .inr (.inl h); exact .inl h; exact .inr (.inr h), fun hn => by
 have hp : ((a :: b :: S).flatten.map Prod.fst).Perm ((b :: a :: S).flatten.map Prod.fst) := by
  simp only [List.flatten_cons, List.map_append, <- List.append_assoc]
  exact List.Perm.append_right _ List.perm_append_comm
 exact hp.nodup_iff.1 hn⟩
theorem Sub.nilD {S' S : SS} (h : Go.SL.Sub S' S) : Go.SL.Sub S' ([] :: S) := h.drop
abbrev nilS : Value := .slice none 0 0
theorem mnz (w : World) (z : Nat) (hz : z <= 1000000000) : ∃ cs : Array Value, (callFunc 94 #[.int .i64 (z : Int)]).run Tryz.prog w = .ok (.value (.slice (some ⟨w.heap.size, 0, none⟩) z cs.size)) (w.drew.drew.alloc (.cells cs 5)) /\ z <= cs.size /\ cs.size <= maxLen := by
 obtain ⟨cs, h1, h2, h3⟩ := Lib.run_makeNoZero (P := Tryz.prog) w #[3] 69 5 Tryz.underlying69 z (by omega)
 refine ⟨cs, ?_, h2, h3 (by unfold maxLen; omega)⟩
 rw [run_callFunc_extern Tryz.func94 (by kernel_rfl) (by kernel_rfl) (by kernel_rfl) (e := Extern.BytealgMakeNoZero.makeNoZero #[3] #[69]) (by kernel_rfl), h1]
 rfl
theorem ow_mnz {w0 : World} {n : Nat} {T : TT} {S : SS} {x : PV} {z : Nat} (hx : x.val T = some (.int .i64 (z : Int))) (hz : z <= 1000000000) :
  OW Tryz.prog w0 n (.more (.other (.xf 94 [x]))) T S (fun v S' => ∃ r cap, v = .slice (some ⟨r, 0, none⟩) z cap /\ z <= cap /\ cap <= maxLen /\ S' = [(r, .cells [] 5 cap)] :: S) := by
 refine OW.xfW (vs := [.int .i64 (z : Int)]) (by simp [valsP, hx]) fun w hw => ?_
 obtain ⟨cs, h1, h2, h3⟩ := mnz w z hz
 have hd : Rep w0 S w.drew.drew := hw.same ⟨rfl, rfl, rfl, Nat.le_refl _, fun _ _ => rfl⟩ (fun _ _ => rfl) (Nat.le_trans (Nat.le_succ _) (Nat.le_succ _))
 have ha := (hd.alloc cs 5).tell (k := 0) (o' := .cells (cs.toList.take 0) 5 cs.size) rfl (fun w h => owns_take 0 h)
 exact ⟨_, _, [(w.heap.size, .cells [] 5 cs.size)] :: S, h1, ha, _, _, rfl, h2, h3, rfl⟩
theorem sgrow_fc {w0 : World} {S : SS} {b z : Nat} {p : Value} (hz0 : 0 < z) (hz : z <= 1000000000) : FC Tryz.prog w0 68 [.pointer (some ⟨b, 0, none⟩), .int .i64 (z : Int)] (BS b p nilS :: S) (fun _ S' => ∃ v seg, S' = BS b p v :: seg :: S /\ SlV 5 1 v 0 [] seg) := by
 refine FC.ofD Tryz.known68 (by simp) ?_
 unfold Tryz.pc68
 simp only [argT]
 refine PW.seq fun K1 hK1 => ?_
 refine PW.quietG (Ss := Over (BS b p nilS :: S)) (fr := false) [(0, 0), (1, 0), (2, 0), (3, 0), (4, 0), (5, 0), (6, 0), (7, 0), (9, 0), (10, 0), (11, 0), (12, 0), (13, 0), (8, 2)] Tryz.mixed (by decide +kernel) (Over.refl _) (fun h => by cases h) ?_
 refine GL.dp rfl ?_
 refine GL.det trivial (fun Sx hSx => Yields.nilc rfl) ?_
 refine GL.dp rfl ?_
 refine GL.det trivial (fun Sx hSx => Yields.ld rfl (own_at (j := 1) (c := [p, nilS]) (E := 71) (tot := 2) (hSx _ zM0) rfl)) ?_
 refine GL.det trivial (fun Sx hSx => Yields.cap rfl) ?_
 refine GL.det trivial (fun Sx hSx => Yields.to (v' := .int .i64 0) (Yields.mul64 rfl rfl (by omega) (by omega)) rfl) ?_
 refine GL.dp rfl ?_
 refine GL.det trivial (fun Sx hSx => Yields.to (v' := .int .i64 (z : Int)) (Yields.add64 (a := 0) rfl rfl (by omega) (by omega)) (congrArg (Value.int _) (Int.zero_add _))) ?_
 refine GL.dp rfl ?_
 refine GL.det trivial (fun Sx hSx => Yields.nilc rfl) ?_
 refine GL.dp rfl ?_
 refine GL.det trivial (fun Sx hSx => Yields.ld rfl (own_at (j := 1) (c := [p, nilS]) (E := 71) (tot := 2) (hSx _ zM0) rfl)) ?_
 refine GL.dp rfl ?_
 refine GL.lo trivial (OW.mono (ow_mnz (z := z) rfl hz) ?_)
 rintro _ _ ⟨r13, cap, rfl, hzc, hcm, rfl⟩
 refine ⟨(Over.refl _).cons, ?_⟩
 refine OL.subS (S' := [(r13, .cells [] 5 cap)] :: BS b p nilS :: S) (Sub.refl _) ?_
 change OL _ _ _ [_, _] _ _ _
 refine OL.det trivial (.to (v' := .slice (some ⟨r13, 0, none⟩) 0 cap) (Yields.slS (l := 0) (h := 0) rfl rfl rfl (.inr ⟨rfl, rfl⟩) (.inl rfl) (by omega) (by omega)) (by rw [cutV0])) ?_
 refine OL.dp rfl (OL.nil (hK1 _ _ (PW.k2 0 4 rfl (PW.seqOps (OL.dp rfl (OL.dp rfl (OL.det trivial (Yields.nilc rfl) (OL.dp rfl (OL.det trivial (.ld rfl (own_at (j := 1) (c := [p, nilS]) (E := 71) (tot := 2) zM1 rfl)) ?_)))))))))
 refine OL.cons trivial (OW.cpy (k := 0) (news := []) rfl rfl rfl rfl Rd.nil (by simp) rfl) ?_
 rintro _ _ ⟨rfl, rfl⟩
 change OL _ _ _ _ _ ([(r13, .cells [] 5 cap)] :: BS b p nilS :: S) _
 refine OL.nil (PW.k2 0 4 rfl (PW.ops (OL.dp rfl (OL.dp rfl (OL.det trivial (Yields.nilc rfl) (OL.dp rfl ?_))))))
 refine OL.cons trivial (OW.st (k := 1) rfl rfl rfl rfl (by simp) rfl) ?_
 rintro _ _ rfl
 change OL _ _ _ _ _ ([(r13, .cells [] 5 cap)] :: BS b p (.slice (some ⟨r13, 0, none⟩) 0 cap) :: S) _
 refine OL.nil ?_
 change (Exit.normal = Exit.normal ∨ Exit.normal = Exit.ret) /\ ∃ v, resV _ _ = some v /\ _
 exact ⟨.inl rfl, _, rfl, BS b p (.slice (some ⟨r13, 0, none⟩) 0 cap) :: [(r13, .cells [] 5 (cap * 1))] :: S, (by rw [Nat.mul_one]; exact Sub.swap01), _, _, rfl, by simpa using (SlV.mk' (E := 5) (sz := 1) (m := 0) (r := r13) (xs := []) rfl (Nat.zero_le cap) hcm)⟩
theorem sGrow_fc {w0 : World} {S : SS} {b z : Nat} (hz0 : 0 < z) (hz : z <= 1000000000) : FC Tryz.prog w0 49 [.pointer (some ⟨b, 0, none⟩), .int .i64 (z : Int)] (BS b (.pointer none) nilS :: S) (fun _ S' => ∃ v seg, S' = BS b (selfP b) v :: seg :: S /\ SlV 5 1 v 0 [] seg) := by
 refine FC.of Tryz.known49 (by simp) ?_
 unfold Tryz.pc49
 simp only [argT]
 refine PW.seqOps (OL.dp rfl (OL.call trivial rfl (cc_fc (.inl rfl)) ?_))
 rintro _ _ rfl
 change OL _ _ _ _ _ (BS b (selfP b) nilS :: S) _
 refine OL.nil (PW.k2 0 1 rfl ?_)
 refine PW.seq fun K1 hK1 => ?_
 refine PW.seqOps (OL.dp rfl (OL.dp rfl (OL.nil (PW.k3 0 1 7 rfl ?_))))
 refine PW.cond rfl (fun c7 => ?_) (fun c7 => ?_)
 ·try simp only [decide_eq_true_eq, decide_eq_false_iff_not, beq_iff_eq, bne_iff_ne, beq_eq_false_iff_ne, bne_eq_false_iff_eq, Bool.not_eq_true', Bool.not_eq_false', Bool.not_eq_true, ne_eq, Decidable.not_not] at c7
  exfalso; omega
  -- done
 try simp only [decide_eq_true_eq, decide_eq_false_iff_not, beq_iff_eq, bne_iff_ne, beq_eq_false_iff_ne, bne_eq_false_iff_eq, Bool.not_eq_true', Bool.not_eq_false', Bool.not_eq_true, ne_eq, Decidable.not_not] at c7
 refine PW.skip (hK1 _ _ (PW.k2 0 1 rfl ?_))
 refine PW.seq fun K2 hK2 => ?_
 refine PW.quietK Tryz.mixed (QK.dp rfl (QK.det trivial (Yields.nilc rfl) (QK.dp rfl (QK.det trivial (.ld rfl (own_at (j := 1) (c := [selfP b, nilS]) (E := 71) (tot := 2) zM0 rfl)) (QK.det trivial (Yields.cap rfl) (QK.dp rfl (QK.det trivial (Yields.nilc rfl) (QK.dp rfl (QK.det trivial (.ld rfl (own_at (j := 1) (c := [selfP b, nilS]) (E := 71) (tot := 2) zM0 rfl)) (QK.dp rfl ?_))))))))))
 refine QK.det trivial (.sub64 rfl rfl (by omega) (by omega)) ?_
 refine QK.dp rfl (QK.nil ?_)
 change OL _ _ _ [_] _ _ _
 refine OL.dp rfl (OL.nil (hK2 _ _ (PW.k3 0 1 21 rfl ?_)))
 refine PW.cond rfl (fun c21 => ?_) (fun c21 => ?_)
 ·try simp only [decide_eq_true_eq, decide_eq_false_iff_not, beq_iff_eq, bne_iff_ne, beq_eq_false_iff_ne, bne_eq_false_iff_eq, Bool.not_eq_true', Bool.not_eq_false', Bool.not_eq_true, ne_eq, Decidable.not_not] at c21
  refine PW.ops (OL.dp rfl (OL.dp rfl (OL.call trivial rfl (sgrow_fc hz0 hz) ?_)))
  rintro _ _ ⟨v, seg, rfl, hsl⟩
  refine OL.nil ?_
  change (Exit.normal = Exit.normal ∨ Exit.normal = Exit.ret) /\ ∃ v, resV _ _ = some v /\ _
  exact ⟨.inl rfl, _, rfl, _, _, rfl, hsl⟩
 try simp only [decide_eq_true_eq, decide_eq_false_iff_not, beq_iff_eq, bne_iff_ne, beq_eq_false_iff_ne, bne_eq_false_iff_eq, Bool.not_eq_true', Bool.not_eq_false', Bool.not_eq_true, ne_eq, Decidable.not_not] at c21
 exfalso; omega
 -- done
theorem write_fc {w0 : World} {S : SS} {b : Nat} {p v : Value} {seg : Seg} {xs : List UInt8} {l : List UInt8} (hp : p = .pointer none ∨ p = selfP b) (hv : SlV 5 1 v xs.length (bytesC xs) seg) (hb : xs.length + l.length <= 1000000000000) :
  FC Tryz.prog w0 50 [.pointer (some ⟨b, 0, none⟩), .string ⟨l.toArray⟩] (BS b p v :: seg :: S) (fun _ S' => ∃ v2 seg2, S' = BS b (selfP b) v2 :: seg2 :: S /\ SlV 5 1 v2 (xs ++ l).length (bytesC (xs ++ l)) seg2) := by
 have hsz : (⟨l.toArray⟩ : ByteArray).size = l.length := by simp [ByteArray.size]
 refine FC.of Tryz.known50 (by simp) ?_
 unfold Tryz.pc50
 simp only [argT]
 refine PW.seqOps (OL.dp rfl (OL.dp rfl (OL.nil (PW.k2 0 1 rfl (PW.seqOps (OL.dp rfl (OL.call trivial rfl (cc_fc hp) ?_)))))))
 rintro _ _ rfl
 change OL _ _ _ _ _ (BS b (selfP b) v :: seg :: S) _
 refine OL.nil (PW.k2 0 1 rfl (PW.seqOps (OL.dp rfl (OL.dp rfl (OL.det trivial (Yields.nilc rfl) (OL.dp rfl (OL.det trivial (.ld rfl (own_at (j := 1) (c := [selfP b, v]) (E := 71) (tot := 2) zM0 rfl)) (OL.dp rfl ?_))))))))
 refine OL.cons trivial (OW.appStr (k := 1) rfl rfl hv rfl (by rw [hsz]; omega)) ?_
 rintro v14 _ ⟨seg14, rfl, hsl14⟩
 obtain ⟨A14, c14, rfl, _, _⟩ := hsl14.rd (w0 := w0) (S := [seg14]) (k := 0) rfl
 refine OL.det trivial (Yields.nilc rfl) (OL.dp rfl ?_)
 refine OL.cons trivial (OW.st (k := 0) rfl rfl rfl rfl (by first | decide | (simp; done) | (simp; omega)) (by first | rfl | simp)) ?_
 rintro _ _ rfl
 refine OL.nil (PW.k1 1 rfl (PW.seqOps (OL.dp rfl (OL.dp rfl (OL.dp rfl (OL.dp rfl (OL.nil (PW.k2 4 5 rfl (PW.ret ?_)))))))))
 change (Exit.ret = Exit.normal ∨ Exit.ret = Exit.ret) /\ ∃ v, resV _ _ = some v /\ _
 refine ⟨.inr rfl, _, rfl, .slice A14 (xs.length + (⟨l.toArray⟩ : ByteArray).size) c14, seg14, rfl, ?_⟩
 rw [List.length_append, bytesC, List.map_append, <- hsz]
 exact hsl14
theorem sString_fc {w0 : World} {S : SS} {b : Nat} {p v : Value} {seg : Seg} {xs : List UInt8} (hv : SlV 5 1 v xs.length (bytesC xs) seg) (h0 : xs ≠ []) (hb : xs.length <= 1000000000) :
  FC Tryz.prog w0 51 [.pointer (some ⟨b, 0, none⟩)] (BS b p v :: seg :: S) (fun v' S' => v' = .string ⟨xs.toArray⟩ /\ S' = S) := by
 obtain ⟨r, cap, rfl, rfl, hmc, hcm⟩ := slv_nil_len hv (List.length_pos_iff.2 h0)
 refine FC.ofD Tryz.known51 (by simp) ?_
 unfold Tryz.pc51
 simp only [argT]
 refine PW.seqOps (OL.dp rfl (OL.nil (PW.k1 0 rfl ?_)))
 refine PW.seq fun K1 hK1 => ?_
 refine PW.quietK Tryz.mixed (QK.dp rfl (QK.det trivial (Yields.nilc rfl) (QK.dp rfl (QK.det trivial (.ld rfl (own_at (j := 1) (c := [p, .slice (some ⟨r, 0, none⟩) xs.length cap]) (E := 71) (tot := 2) zM0 rfl)) ?_))))
 refine QK.det trivial (Yields.usd rfl (by have := List.length_pos_iff.2 h0; omega)) ?_
 refine QK.dp rfl (QK.det trivial (Yields.nilc rfl) (QK.dp rfl (QK.det trivial (.ld rfl (own_at (j := 1) (c := [p, .slice (some ⟨r, 0, none⟩) xs.length cap]) (E := 71) (tot := 2) zM0 rfl)) (QK.dp rfl (QK.nil ?_)))))
 change OL _ _ _ [_, _] _ _ _
 refine OL.cons trivial (OW.uss (k := 1) (l := xs) (r := []) rfl rfl (by rw [List.append_nil]; rfl) h0 (by unfold maxLen; omega)) ?_
 rintro _ _ ⟨rfl, rfl⟩
 refine OL.dp rfl (OL.nil (hK1 _ _ (PW.k1 2 rfl (PW.ret ?_))))
 change (Exit.ret = Exit.normal ∨ Exit.ret = Exit.ret) /\ ∃ v, resV _ _ = some v /\ _
 exact ⟨.inr rfl, _, rfl, _, Sub.drop (Sub.nilD (Sub.refl _)), rfl, rfl⟩
end Go.Proofs.Rl
