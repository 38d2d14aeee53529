/- Walks. -/
import Derived.Test.YtbidjnjbiibdeaaGreatDoorPart4
set_option linter.unusedVariables false
set_option linter.unusedSimpArgs false
set_option linter.unusedSectionVars false

namespace Go.Proofs.Rl
open Go.SL Go.RowKit Go.Proofs Go.Proofs.Lb
set_option maxHeartbeats 1000000
def strsL (ls : List (List UInt8)) : List Value := ls.map fun l => .string ⟨l.toArray⟩
theorem strsL_len (ls : List (List UInt8)) : (strsL ls).length = ls.length := by simp [strsL]
theorem strsL_at {w0 : World} {S : SS} {a : Addr} {ls : List (List UInt8)} (h : Rd w0 S (some a) (strsL ls)) {k : Nat} (hk : k < ls.length) : Cell w0 S (a.add k) (.string ⟨ls[k].toArray⟩) := h.at (by simp [strsL, hk])
theorem strsL_at1 {w0 : World} {S : SS} {a : Addr} {ls : List (List UInt8)} (h : Rd w0 S (some a) (strsL ls)) {k : Nat} (hk : k + 1 < ls.length) : Cell w0 S ((a.add 1).add k) (.string ⟨ls[k + 1].toArray⟩) := by
 rw [addr_add_add, Nat.add_comm 1 k]; exact strsL_at h hk
theorem strsL_some {w0 : World} {S : SS} {A : Option Addr} {ls : List (List UInt8)} (h : Rd w0 S A (strsL ls)) (hk : 0 < ls.length) : ∃ a, A = some a :=
 h.some (fun e => by have := strsL_len ls; rw [e] at this; simp at this; omega)
def joinL (sep : List UInt8) : List (List UInt8) -> List UInt8
 | [] => []
 | x :: r => x ++ r.flatMap fun y => sep ++ y
theorem joinL_snoc (sep : List UInt8) (ls : List (List UInt8)) (y : List UInt8) (h : ls ≠ []) : joinL sep (ls ++ [y]) = joinL sep ls ++ sep ++ y := by
 cases ls with
 | nil => exact absurd rfl h
 | cons x r => simp [joinL]
theorem joinL_take {sep : List UInt8} {ls : List (List UInt8)} {k : Nat} (h : k + 1 < ls.length) : joinL sep (ls.take (k + 1 + 1)) = joinL sep (ls.take (k + 1)) ++ sep ++ ls[k + 1] := by
 rw [List.take_add_one, List.getElem?_eq_getElem h]
 exact joinL_snoc _ _ _ (fun e => by have := congrArg List.length e; rw [List.length_take] at this; simp only [List.length_nil] at this; omega)
theorem joinL_ne {sep : List UInt8} {ls : List (List UInt8)} (hs : sep ≠ []) (h : 2 <= ls.length) : joinL sep ls ≠ [] := by
 match ls, h with
 | x :: y :: r, _ => intro e; simp [joinL] at e; exact hs e.2.1
theorem ba_size (l : List UInt8) : (⟨l.toArray⟩ : ByteArray).size = l.length := by simp [ByteArray.size]
theorem quo_big {z : Int} (h1 : 1 <= z) (h2 : z <= 1000000) : 1000000000 <= IntKind.i64.wrap ((9223372036854775807 : Int).tdiv z) := by
 rw [Int.tdiv_eq_ediv_of_nonneg (by omega)]
 have h3 : (9223372036854775807 : Int) / z <= 9223372036854775807 := Int.ediv_le_self _ (by omega)
 have h4 : (1000000000 : Int) <= 9223372036854775807 / z := by rw [Int.le_ediv_iff_mul_le (by omega)]; omega
 rw [IntWalk.i64_in _ ⟨by omega, by omega⟩]
 exact h4
theorem join_fc {w0 : World} {S : SS} {A : Option Addr} {c : Nat} {ls : List (List UInt8)} {sep : List UInt8} (hx : Rd w0 S A (strsL ls)) (h1 : 1 <= ls.length) (hn : ls.length <= 1000) (hc : ls.length <= c) (hl : ∀ x ∈ ls, x.length <= 1000) (hs : sep ≠ []) (hsl : sep.length <= 1000) :
  FC Tryz.prog w0 31 [.slice A ls.length c, .string ⟨sep.toArray⟩] S (fun v S' => v = .string ⟨(joinL sep ls).toArray⟩ /\ S' = S) := by
 have hss := ba_size sep
 have hs1 := List.length_pos_iff.2 hs
 refine FC.ofD Tryz.known31 (by simp) ?_
 unfold Tryz.pc31
 simp only [argT]
 refine PW.seqOps (OL.dp rfl (OL.nil (PW.k2 0 1 rfl ?_)))
 refine PW.seq fun K1 hK1 => ?_
 refine PW.seqOps (OL.dp rfl (OL.dp rfl (OL.nil (PW.k3 0 1 12 rfl (PW.block (PW.seqOps (OL.dp rfl (OL.dp rfl (OL.nil (PW.k4 0 1 12 13 rfl ?_))))))))))
 refine PW.cond rfl (fun c13 => ?_) (fun c13 => ?_)
 ·try simp only [decide_eq_true_eq, decide_eq_false_iff_not, beq_iff_eq, bne_iff_ne, beq_eq_false_iff_ne, bne_eq_false_iff_eq, Bool.not_eq_true', Bool.not_eq_false', Bool.not_eq_true, ne_eq, Decidable.not_not] at c13
  exfalso; omega
  -- done
 try simp only [decide_eq_true_eq, decide_eq_false_iff_not, beq_iff_eq, bne_iff_ne, beq_eq_false_iff_ne, bne_eq_false_iff_eq, Bool.not_eq_true', Bool.not_eq_false', Bool.not_eq_true, ne_eq, Decidable.not_not] at c13
 refine PW.seqOps (OL.dp rfl (OL.dp rfl (OL.nil (PW.k3 0 1 15 rfl ?_))))
 refine PW.cond rfl (fun c15 => ?_) (fun c15 => ?_)
 ·try simp only [decide_eq_true_eq, decide_eq_false_iff_not, beq_iff_eq, bne_iff_ne, beq_eq_false_iff_ne, bne_eq_false_iff_eq, Bool.not_eq_true', Bool.not_eq_false', Bool.not_eq_true, ne_eq, Decidable.not_not] at c15
  obtain ⟨a0, rfl⟩ := strsL_some hx (by omega)
  refine PW.seqOps (OL.dp rfl ?_)
  refine OL.det trivial (.ixN1 rfl rfl (j := 0) rfl (by omega)) ?_
  refine OL.det trivial (.ld rfl (strsL_at hx (k := 0) (by omega))) ?_
  refine OL.dp rfl (OL.nil (PW.k1 4 rfl (PW.ret ?_)))
  change (Exit.ret = Exit.normal ∨ Exit.ret = Exit.ret) /\ ∃ v, resV _ _ = some v /\ _
  exact ⟨.inr rfl, _, rfl, _, Sub.refl _, by
   obtain ⟨x, rfl⟩ : ∃ x, ls = [x] := List.length_eq_one_iff.1 (by omega)
   simp [joinL], rfl⟩
 try simp only [decide_eq_true_eq, decide_eq_false_iff_not, beq_iff_eq, bne_iff_ne, beq_eq_false_iff_ne, bne_eq_false_iff_eq, Bool.not_eq_true', Bool.not_eq_false', Bool.not_eq_true, ne_eq, Decidable.not_not] at c15
 have h2 : 2 <= ls.length := by omega
 obtain ⟨M, hM, hM1, hM2⟩ : ∃ M : Nat, ((⟨sep.toArray⟩ : ByteArray).size : Int) * ((ls.length : Int) - 1) = M /\ 1 <= M /\ M <= 1000000 := by
  refine ⟨sep.length * (ls.length - 1), ?_, Nat.mul_pos hs1 (by omega), Nat.mul_le_mul hsl (show ls.length - 1 <= 1000 by omega)⟩
  rw [hss, Int.natCast_mul, Int.natCast_sub (by omega)]
  rfl
 refine PW.skip (hK1 _ _ (PW.k2 0 1 rfl (PW.seqOps (OL.dp rfl (OL.nil (PW.k3 0 1 5 rfl ?_))))))
 refine PW.seq fun K2 hK2 => ?_
 refine PW.seqOps (OL.dp rfl (OL.dp rfl (OL.dp rfl (OL.nil (PW.k4 0 1 5 22 rfl ?_)))))
 refine PW.cond rfl (fun c22 => ?_) (fun c22 => ?_)
 ·try simp only [decide_eq_true_eq, decide_eq_false_iff_not, beq_iff_eq, bne_iff_ne, beq_eq_false_iff_ne, bne_eq_false_iff_eq, Bool.not_eq_true', Bool.not_eq_false', Bool.not_eq_true, ne_eq, Decidable.not_not] at c22
  refine PW.seq fun K3 hK3 => ?_
  refine PW.seqOps (OL.dp rfl (OL.dp rfl (OL.dp rfl (OL.dp rfl ?_))))
  refine OL.det trivial (.sub64 rfl rfl (by omega) (by omega)) ?_
  refine OL.det trivial (Yields.quo rfl rfl (by omega)) ?_
  refine OL.dp rfl (OL.nil (PW.k4 0 1 5 29 rfl ?_))
  refine PW.cond rfl (fun c29 => ?_) (fun c29 => ?_)
  ·try simp only [decide_eq_true_eq, decide_eq_false_iff_not, beq_iff_eq, bne_iff_ne, beq_eq_false_iff_ne, bne_eq_false_iff_eq, Bool.not_eq_true', Bool.not_eq_false', Bool.not_eq_true, ne_eq, Decidable.not_not] at c29
   exfalso
   have := quo_big (z := (ls.length : Int) - 1) (by omega) (by omega)
   omega
   -- done
  try simp only [decide_eq_true_eq, decide_eq_false_iff_not, beq_iff_eq, bne_iff_ne, beq_eq_false_iff_ne, bne_eq_false_iff_eq, Bool.not_eq_true', Bool.not_eq_false', Bool.not_eq_true, ne_eq, Decidable.not_not] at c29
  refine PW.skip (hK3 _ _ (PW.k3 0 1 5 rfl (PW.ops (OL.dp rfl (OL.dp rfl (OL.dp rfl (OL.dp rfl (OL.dp rfl ?_))))))))
  refine OL.det trivial (.sub64 rfl rfl (by omega) (by omega)) ?_
  refine OL.det trivial (.to (v' := .int .i64 (M : Int)) (Yields.mul64 rfl rfl (by rw [hM]; omega) (by rw [hM]; omega)) (congrArg (Value.int _) hM)) ?_
  refine OL.det trivial (.to (v' := .int .i64 (M : Int)) (Yields.add64 (a := 0) rfl rfl (by omega) (by omega)) (congrArg (Value.int _) (Int.zero_add _))) ?_
  refine OL.dp rfl (OL.nil (hK2 _ _ (PW.k3 0 1 5 rfl ?_)))
  refine PW.seq fun K4 hK4 => ?_
  refine PW.seqOps (OL.subS (S' := [] :: S) (Sub.nilL (Sub.refl _)) (OL.dp rfl (OL.dp rfl (OL.dp rfl (OL.nil (PW.k6 0 1 5 39 40 41 rfl (PW.block (PW.k6 0 1 5 39 40 41 rfl ?_))))))))
  refine PW.loopK (I := fun m T S' => ∃ (k Z : Nat), (k <= ls.length /\ m = ls.length - k /\ 1 <= Z /\ Z <= 1000000 + 1000 * k) /\ T = ([(0, .slice A ls.length c), (1, .string ⟨sep.toArray⟩), (5, .int .i64 ((Z : Nat) : Int)), (39, .slice A ls.length c), (40, .int .i64 (ls.length : Int)), (41, .int .i64 k)] : TT) /\ S' = [] :: S) (m := ls.length) ⟨0, M, ⟨by omega, by omega, by omega, by omega⟩, rfl, rfl⟩ ?_
  rintro m _ _ ⟨k, Z, ⟨hk, hm, hZ1, hZ2⟩, rfl, rfl⟩
  refine PW.seqOps (OL.dp rfl (OL.nil (PW.k7 0 1 5 39 40 41 42 rfl ?_)))
  refine PW.seq fun K5 hK5 => ?_
  refine PW.cond rfl (fun c42 => ?_) (fun c42 => ?_)
  ·try simp only [decide_eq_true_eq, decide_eq_false_iff_not, beq_iff_eq, bne_iff_ne, beq_eq_false_iff_ne, bne_eq_false_iff_eq, Bool.not_eq_true', Bool.not_eq_false', Bool.not_eq_true, ne_eq, Decidable.not_not] at c42
   have hkl : k < ls.length := by omega
   obtain ⟨a0, rfl⟩ := strsL_some hx (by omega)
   have hwk := hl _ (List.getElem_mem hkl)
   have hwz := ba_size ls[k]
   refine PW.skip (hK5 _ _ (PW.k6 0 1 5 39 40 41 rfl ?_))
   refine PW.seq fun K6 hK6 => ?_
   refine PW.block (PW.seqOps ?_)
   refine OL.det trivial (.ixN1 rfl rfl rfl (by omega)) ?_
   refine OL.det trivial (.ld rfl (strsL_at hx.cons hkl)) (OL.dp rfl (OL.nil (PW.k7 0 1 5 7 39 40 41 rfl ?_)))
   refine PW.seq fun K7 hK7 => ?_
   refine PW.seqOps (OL.dp rfl (OL.dp rfl (OL.dp rfl ?_)))
   refine OL.det trivial (.sub64 rfl rfl (by omega) (by omega)) ?_
   refine OL.dp rfl (OL.nil (PW.k8 0 1 5 7 39 40 41 49 rfl ?_))
   refine PW.cond rfl (fun c49 => ?_) (fun c49 => ?_)
   ·try simp only [decide_eq_true_eq, decide_eq_false_iff_not, beq_iff_eq, bne_iff_ne, beq_eq_false_iff_ne, bne_eq_false_iff_eq, Bool.not_eq_true', Bool.not_eq_false', Bool.not_eq_true, ne_eq, Decidable.not_not] at c49
    exfalso; omega
    -- done
   try simp only [decide_eq_true_eq, decide_eq_false_iff_not, beq_iff_eq, bne_iff_ne, beq_eq_false_iff_ne, bne_eq_false_iff_eq, Bool.not_eq_true', Bool.not_eq_false', Bool.not_eq_true, ne_eq, Decidable.not_not] at c49
   refine PW.skip (hK7 _ _ (PW.k7 0 1 5 7 39 40 41 rfl (PW.ops (OL.dp rfl (OL.dp rfl (OL.dp rfl ?_))))))
   refine OL.det trivial (.add64 rfl rfl (by omega) (by omega)) ?_
   refine OL.dp rfl (OL.nil (hK6 _ _ (PW.k6 0 1 5 39 40 41 rfl (PW.ops ?_))))
   refine OL.det trivial (.add64 rfl rfl (by omega) (by omega)) ?_
   refine OL.dp rfl (OL.nil ?_)
   repeat rw [inBlk_n]
   try rw [thenK_n]
   refine LoopEnd.mk (T'' := [(0, _), (1, _), (5, _), (39, _), (40, _), (41, _)]) (wi rfl) ?_
   exact ⟨ls.length - (k + 1), by omega, k + 1, Z + (⟨ls[k].toArray⟩ : ByteArray).size, ⟨by omega, rfl, by omega, by omega⟩, rfl, rfl⟩
  try simp only [decide_eq_true_eq, decide_eq_false_iff_not, beq_iff_eq, bne_iff_ne, beq_eq_false_iff_ne, bne_eq_false_iff_eq, Bool.not_eq_true', Bool.not_eq_false', Bool.not_eq_true, ne_eq, Decidable.not_not] at c42
  refine PW.exit (hK4 _ _ (PW.k3 0 1 5 rfl (PW.seqOps ?_)))
  obtain ⟨a0, rfl⟩ := strsL_some hx (by omega)
  have h00 := hl _ (List.getElem_mem (show 0 < ls.length by omega))
  have hj0 : joinL sep (ls.take (0 + 1)) = ls[0] := by rw [List.take_add_one, List.getElem?_eq_getElem (by omega)]; simp [joinL]
  refine OL.cons trivial OW.al ?_
  rintro _ _ ⟨r8, rfl, rfl⟩
  change OL _ _ _ _ _ (BS r8 (.pointer none) nilS :: [] :: S) _
  refine OL.nil (PW.k4 0 1 5 8 rfl (PW.seqOps (OL.dp rfl ?_)))
  refine OL.call trivial rfl (sGrow_fc (z := Z) (by omega) (by omega)) ?_
  rintro _ _ ⟨v0, seg0, rfl, hsl0⟩
  refine OL.nil (PW.k3 0 1 8 rfl (PW.seqOps (OL.dp rfl ?_)))
  refine OL.det trivial (.ixN1 rfl rfl (j := 0) rfl (by omega)) ?_
  refine OL.det trivial (.ld rfl (strsL_at hx.cons.cons.cons (k := 0) (by omega))) ?_
  refine OL.call trivial rfl (write_fc (xs := []) (l := ls[0]) (.inr rfl) hsl0 (by simp only [List.length_nil]; omega)) ?_
  rintro _ _ ⟨v1, seg1, rfl, hsl1⟩
  rw [List.nil_append] at hsl1
  refine OL.nil (PW.k3 0 1 8 rfl ?_)
  refine PW.seq fun K8 hK8 => ?_
  refine PW.seqOps (OL.dp rfl ?_)
  refine OL.det trivial (.to (v' := .slice (some (a0.add 1)) (ls.length - 1) (c - 1)) (Yields.slS (l := 1) (h := ls.length) rfl rfl rfl (.inl rfl) (.inr ⟨rfl, rfl⟩) (by omega) hc) (by simp [cutV]; omega)) ?_
  refine OL.dp rfl (OL.dp rfl (OL.nil (PW.k5 1 8 63 64 65 rfl (PW.block (PW.k5 1 8 63 64 65 rfl ?_)))))
  refine PW.loopK (I := fun m T S' => ∃ (k : Nat) (v : Value) (seg : Seg), (k <= ls.length - 1 /\ m = ls.length - 1 - k /\ SlV 5 1 v (joinL sep (ls.take (k + 1))).length (bytesC (joinL sep (ls.take (k + 1)))) seg /\ (joinL sep (ls.take (k + 1))).length <= 2000 * (k + 1)) /\ T = ([(1, .string ⟨sep.toArray⟩), (8, .pointer (some ⟨r8, 0, none⟩)), (63, .slice (some (a0.add 1)) (ls.length - 1) (c - 1)), (64, .int .i64 ((ls.length - 1 : Nat) : Int)), (65, .int .i64 k)] : TT) /\ S' = BS r8 (selfP r8) v :: seg :: [] :: S) (m := ls.length - 1) ⟨0, v1, seg1, ⟨by omega, by omega, by rw [hj0]; exact hsl1, by rw [hj0]; omega⟩, rfl, rfl⟩ ?_
  rintro m _ _ ⟨k, v, seg, ⟨hk, hm, hsv, hjb⟩, rfl, rfl⟩
  refine PW.seqOps (OL.dp rfl (OL.nil (PW.k6 1 8 63 64 65 66 rfl ?_)))
  refine PW.seq fun K9 hK9 => ?_
  refine PW.cond rfl (fun c66 => ?_) (fun c66 => ?_)
  ·try simp only [decide_eq_true_eq, decide_eq_false_iff_not, beq_iff_eq, bne_iff_ne, beq_eq_false_iff_ne, bne_eq_false_iff_eq, Bool.not_eq_true', Bool.not_eq_false', Bool.not_eq_true, ne_eq, Decidable.not_not] at c66
   have hkl : k + 1 < ls.length := by omega
   have hwk := hl _ (List.getElem_mem hkl)
   refine PW.skip (hK9 _ _ (PW.k5 1 8 63 64 65 rfl ?_))
   refine PW.seq fun K10 hK10 => ?_
   refine PW.block (PW.seqOps ?_)
   refine OL.det trivial (.ixN1 rfl rfl rfl (by omega)) ?_
   refine OL.det trivial (.ld rfl (strsL_at1 hx.cons.cons.cons hkl)) (OL.dp rfl (OL.nil (PW.k6 1 8 10 63 64 65 rfl (PW.seqOps (OL.dp rfl ?_)))))
   refine OL.call trivial rfl (write_fc (l := sep) (.inr rfl) hsv (by omega)) ?_
   rintro _ _ ⟨v70, seg70, rfl, hsl70⟩
   refine OL.nil (PW.k6 1 8 10 63 64 65 rfl (PW.ops (OL.dp rfl ?_)))
   refine OL.call trivial rfl (write_fc (l := ls[k + 1]) (.inr rfl) hsl70 (by simp only [List.length_append]; omega)) ?_
   rintro _ _ ⟨v72, seg72, rfl, hsl72⟩
   refine OL.nil (hK10 _ _ (PW.k5 1 8 63 64 65 rfl (PW.ops ?_)))
   refine OL.det trivial (.add64 rfl rfl (by omega) (by omega)) ?_
   refine OL.dp rfl (OL.nil ?_)
   repeat rw [inBlk_n]
   try rw [thenK_n]
   refine LoopEnd.mk (T'' := [(1, _), (8, _), (63, _), (64, _), (65, _)]) (wi rfl) ?_
   refine ⟨ls.length - 1 - (k + 1), by omega, k + 1, v72, seg72, ⟨by omega, rfl, by rw [joinL_take hkl]; exact hsl72, ?_⟩, rfl, rfl⟩
   rw [joinL_take hkl]; simp only [List.length_append]; omega
  try simp only [decide_eq_true_eq, decide_eq_false_iff_not, beq_iff_eq, bne_iff_ne, beq_eq_false_iff_ne, bne_eq_false_iff_eq, Bool.not_eq_true', Bool.not_eq_false', Bool.not_eq_true, ne_eq, Decidable.not_not] at c66
  refine PW.exit (hK8 _ _ (PW.k1 8 rfl (PW.seqOps ?_)))
  have hall : ls.take (k + 1) = ls := List.take_of_length_le (by omega)
  rw [hall] at hsv hjb
  refine OL.call trivial rfl (sString_fc hsv (joinL_ne hs h2) (by omega)) ?_
  rintro _ Sx ⟨rfl, hSx⟩
  rw [hSx]
  clear hSx
  refine OL.dp rfl (OL.nil (PW.k1 4 rfl (PW.ret ?_)))
  change (Exit.ret = Exit.normal ∨ Exit.ret = Exit.ret) /\ ∃ v, resV _ _ = some v /\ _
  exact ⟨.inr rfl, _, rfl, _, Sub.nilD (Sub.refl _), rfl, rfl⟩
 try simp only [decide_eq_true_eq, decide_eq_false_iff_not, beq_iff_eq, bne_iff_ne, beq_eq_false_iff_ne, bne_eq_false_iff_eq, Bool.not_eq_true', Bool.not_eq_false', Bool.not_eq_true, ne_eq, Decidable.not_not] at c22
 exfalso; omega
 -- done
def lineT (r : RuleB) : List UInt8 := joinL [32] [labT r.2, r.1.data.toList]
def rowsR (tv : Int) (l : List RuleB) (k : Nat) : List (List UInt8) := (118 :: numL tv) :: (l.take k).map lineT
theorem rowsR_succ {tv : Int} {l : List RuleB} {k : Nat} (hk : k < l.length) : rowsR tv l (k + 1) = rowsR tv l k ++ [lineT l[k]] := by
 unfold rowsR; rw [rtake_snoc hk, List.map_append]; rfl
theorem rowsR_len {tv : Int} {l : List RuleB} {k : Nat} (hk : k <= l.length) : (rowsR tv l k).length = k + 1 := by
 unfold rowsR; simp; omega
theorem lineT_eq (r : RuleB) : lineT r = labT r.2 ++ [32] ++ r.1.data.toList := by simp [lineT, joinL]
theorem lineT_len {r : RuleB} (h : r.1.size <= 200) : (lineT r).length <= 277 := by
 rw [lineT_eq]; have := labT_len r.2; have h2 : r.1.data.toList.length = r.1.size := by simp
 simp only [List.length_append, List.length_singleton]; omega
theorem rowsR_small {tv : Int} {l : List RuleB} {k : Nat} (hw : ∀ x ∈ l, x.1.size <= 200) : ∀ x ∈ rowsR tv l k, x.length <= 1000 := by
 intro x hx
 rcases List.mem_cons.1 hx with rfl | hx
 ·have := numL_len tv; simp; omega
 obtain ⟨r, hr, rfl⟩ := List.mem_map.1 hx
 have := lineT_len (hw r (List.mem_of_mem_take hr)); omega
def textR (tv : Int) (l : List RuleB) : List UInt8 := joinL [10] (rowsR tv l l.length)
theorem strsL_app (a b : List (List UInt8)) : strsL (a ++ b) = strsL a ++ strsL b := by simp [strsL]
theorem acc_succ {tv : Int} {l : List RuleB} {k : Nat} (hk : k < l.length) : joinL [10] (rowsR tv l (k + 1)) = joinL [10] (rowsR tv l k) ++ [10] ++ labT l[k].2 ++ [32] ++ l[k].1.data.toList := by
 rw [rowsR_succ hk, joinL_snoc _ _ _ (by simp [rowsR]), lineT_eq]; simp [List.append_assoc]
theorem line_fc {w0 : World} {S : SS} {A : Option Addr} {c : Nat} {ls : List (List UInt8)} (hx : Rd w0 S A (strsL ls)) (h1 : 1 <= ls.length) (hn : ls.length <= 1000) (hc : ls.length <= c) (hl : ∀ x ∈ ls, x.length <= 1000) :
  FC Tryz.prog w0 29 [.slice A ls.length c] S (fun v S' => v = .string ⟨(joinL [32] ls).toArray⟩ /\ S' = S) := by
 refine FC.of Tryz.known29 (by simp) ?_
 unfold Tryz.pc29
 simp only [argT]
 refine PW.seqOps (OL.dp rfl (OL.nil (PW.k1 0 rfl (PW.seqOps (OL.dp rfl ?_)))))
 refine OL.call trivial rfl (join_fc (sep := [32]) hx h1 hn hc hl (by simp) (by simp)) ?_
 rintro _ Sx ⟨rfl, hSx⟩
 rw [hSx]
 clear hSx
 refine OL.dp rfl (OL.nil (PW.k1 2 rfl (PW.ret ?_)))
 change (Exit.ret = Exit.normal ∨ Exit.ret = Exit.ret) /\ ∃ v, resV _ _ = some v /\ _
 exact ⟨.inr rfl, _, rfl, rfl, rfl⟩
theorem rtext_fc {w0 : World} {S : SS} {A : Option Addr} {c : Nat} {tv : Int} {l : List RuleB} (hT : Tabs w0) (hx : Rd w0 S A (ruls l)) (hw : ∀ x ∈ l, x.1.size <= 200) (hl : l.length <= 60) (h0 : -999999999 <= tv) (h1 : tv <= 999999999) :
  FC Tryz.prog w0 15 [tabV tv A l.length c] S (fun v S' => v = .string ⟨(textR tv l).toArray⟩ /\ S' = S) := by
 have hnl := numL_len tv
 refine FC.ofD Tryz.known15 (by simp) ?_
 unfold Tryz.pc15
 simp only [argT]
 refine PW.seqOps (OL.cons trivial (OW.bx rfl) ?_)
 rintro _ _ ⟨r1, rfl, rfl⟩
 change OL _ _ _ _ _ (tseg r1 tv A l.length c :: S) _
 refine OL.dp rfl (OL.nil (PW.k1 1 rfl (PW.seqOps (OL.dp rfl (OL.det trivial (.ld rfl (own_at (j := 0) (c := [.int .i64 tv, .slice A l.length c]) (E := 24) (tot := 2) zM0 rfl)) (OL.call trivial rfl (itoaL_fc hT h0 h1) ?_))))))
 rintro _ Sx ⟨rfl, hSx⟩
 rw [hSx]
 clear hSx
 refine OL.det trivial (cat_l [118] (numL tv) rfl rfl (by simp only [List.length_singleton]; omega)) ?_
 refine OL.cons trivial (OW.bsl rfl) ?_
 rintro _ _ ⟨r10, rfl, rfl⟩
 change OL _ _ _ _ _ ([(r10, .cells (strsL (rowsR tv l 0)) 9 (1 * 1))] :: tseg r1 tv A l.length c :: S) _
 refine OL.dp rfl (OL.nil (PW.k2 1 3 rfl ?_))
 refine PW.seq fun K1 hK1 => ?_
 refine PW.seqOps (OL.dp rfl (OL.det trivial (.ld rfl (own_at (j := 1) (c := [.int .i64 tv, .slice A l.length c]) (E := 24) (tot := 2) zM1 rfl)) (OL.dp rfl (OL.dp rfl (OL.nil (PW.k4 3 12 13 14 rfl (PW.block (PW.k4 3 12 13 14 rfl ?_))))))))
 refine PW.loopK (I := fun m T S' => ∃ (k : Nat) (v3 : Value) (seg : Seg), (k <= l.length /\ m = l.length - k /\ SlV 9 1 v3 (rowsR tv l k).length (strsL (rowsR tv l k)) seg) /\ T = ([(3, v3), (12, .slice A l.length c), (13, .int .i64 (l.length : Int)), (14, .int .i64 k)] : TT) /\ S' = seg :: tseg r1 tv A l.length c :: S) (m := l.length) ⟨0, _, _, ⟨by omega, by omega, SlV.mk' (cap := 1) rfl (Nat.le_refl 1) (by decide)⟩, rfl, rfl⟩ ?_
 rintro m _ _ ⟨k, v3, seg, ⟨hk, hm, hsl⟩, rfl, rfl⟩
 have hlk := rowsR_len (tv := tv) hk
 refine PW.seqOps (OL.dp rfl (OL.nil (PW.k5 3 12 13 14 15 rfl ?_)))
 refine PW.seq fun K2 hK2 => ?_
 refine PW.cond rfl (fun c15 => ?_) (fun c15 => ?_)
 ·try simp only [decide_eq_true_eq, decide_eq_false_iff_not, beq_iff_eq, bne_iff_ne, beq_eq_false_iff_ne, bne_eq_false_iff_eq, Bool.not_eq_true', Bool.not_eq_false', Bool.not_eq_true, ne_eq, Decidable.not_not] at c15
  have hkl : k < l.length := by omega
  obtain ⟨a0, rfl⟩ := ruls_some hx (by omega)
  have hwk := hw _ (List.getElem_mem hkl)
  have hlb := labT_len l[k].2
  refine PW.skip (hK2 _ _ (PW.k4 3 12 13 14 rfl ?_))
  refine PW.seq fun K3 hK3 => ?_
  refine PW.block (PW.seqOps ?_)
  refine OL.det trivial (.ixN rfl rfl rfl (by omega)) ?_
  refine OL.det trivial (.ldA rfl (cs := ruleC l[k]) rfl (rule_at hx.cons.cons hkl)) (OL.cons trivial OW.al ?_)
  rintro _ _ ⟨r5, rfl, rfl⟩
  refine OL.cons trivial (OW.st (k := 0) rfl rfl rfl rfl (by decide) rfl) ?_
  rintro _ _ rfl
  change OL _ _ _ _ _ (rseg r5 l[k] :: seg :: tseg r1 tv (some a0) l.length c :: S) _
  refine OL.nil (PW.k5 3 5 12 13 14 rfl (PW.quietK Tryz.mixed (QK.dp rfl (QK.dp rfl (QK.det trivial (.ldA rfl rfl (rseg_at (x := l[k]))) (QK.call trivial rfl (ltext_fc hT) (QK.dp rfl (QK.det trivial (.ld rfl (own_at (j := 0) (c := ruleC l[k]) (E := 48) (tot := 3) zM0 rfl)) (QK.nil ?_)))))))))
  change OL _ _ _ [_, _, _, _, _] _ _ _
  refine OL.cons trivial (OW.bsl rfl) ?_
  rintro _ _ ⟨r24, rfl, rfl⟩
  change OL _ _ _ _ _ ([(r24, .cells (strsL [labT l[k].2, l[k].1.data.toList]) 9 2)] :: rseg r5 l[k] :: seg :: tseg r1 tv (some a0) l.length c :: S) _
  refine OL.call trivial rfl (line_fc (ls := [labT l[k].2, l[k].1.data.toList]) (Rd.own (E := 9) (tot := 2) zM0) (by simp) (by simp) (by simp) (by intro x hx; simp only [List.mem_cons, List.not_mem_nil, or_false] at hx; rcases hx with rfl | rfl; omega; simp; omega)) ?_
  rintro _ Sx ⟨rfl, hSx⟩
  rw [hSx]
  clear hSx
  apply OL.app1 (k := 2)
  ·rfl
  ·rfl
  ·rfl
  ·rfl
  ·rfl
  ·rfl
  ·exact hsl
  ·rfl
  ·omega
  ·unfold maxLen; omega
  intro v27 seg27 hsl27
  change OL _ _ _ _ _ ([(r24, .cells (strsL [labT l[k].2, l[k].1.data.toList]) 9 2)] :: rseg r5 l[k] :: seg27 :: tseg r1 tv (some a0) l.length c :: S) _
  refine OL.dp rfl (OL.nil (hK3 _ _ (PW.k4 3 12 13 14 rfl (PW.ops ?_))))
  refine OL.det trivial (.add64 rfl rfl (by omega) (by omega)) ?_
  refine OL.dp rfl (OL.nil ?_)
  repeat rw [inBlk_n]
  try rw [thenK_n]
  refine LoopEnd.mkS ((Sub.drop (Sub.drop (Sub.refl _)))) (T'' := [(3, _), (12, _), (13, _), (14, _)]) (wi rfl) ?_
  refine ⟨l.length - (k + 1), by omega, k + 1, _, _, ⟨by omega, rfl, ?_⟩, rfl, rfl⟩
  rw [rowsR_succ hkl, strsL_app, List.length_append]
  exact hsl27
 try simp only [decide_eq_true_eq, decide_eq_false_iff_not, beq_iff_eq, bne_iff_ne, beq_eq_false_iff_ne, bne_eq_false_iff_eq, Bool.not_eq_true', Bool.not_eq_false', Bool.not_eq_true, ne_eq, Decidable.not_not] at c15
 refine PW.exit (hK1 _ _ (PW.k1 3 rfl (PW.seqOps ?_)))
 obtain rfl : k = l.length := by omega
 obtain ⟨A3, c3, rfl, hA3, hle3, hrd3⟩ := slv_rdL (w0 := w0) hsl
 refine OL.dp rfl ?_
 refine OL.call trivial rfl (join_fc (sep := [10]) (hrd3 _) (by omega) (by omega) hle3 (rowsR_small hw) (by simp) (by simp)) ?_
 rintro _ Sx ⟨rfl, hSx⟩
 rw [hSx]
 clear hSx
 refine OL.dp rfl (OL.nil (PW.k1 2 rfl (PW.ret ?_)))
 change (Exit.ret = Exit.normal ∨ Exit.ret = Exit.ret) /\ ∃ v, resV _ _ = some v /\ _
 exact ⟨.inr rfl, _, rfl, _, Sub.drop (Sub.drop (Sub.refl _)), rfl, rfl⟩
theorem rrtext_fc {w0 : World} {S : SS} {A : Option Addr} {c : Nat} {tv : Int} {l : List RuleB} (hx : Rd w0 S A (ruls l)) (hw : ∀ x ∈ l, x.1.size <= 200) (hl : l.length <= 60) (h0 : -999999999 <= tv) (h1 : tv <= 999999999) :
  FC Tryz.prog w0 16 [tabV tv A l.length c] S (fun v S' => v = .string ⟨(textR tv l).toArray⟩ /\ S' = S) := by
 have hnl := numL_len tv
 refine FC.ofD Tryz.known16 (by simp) ?_
 unfold Tryz.pc16
 simp only [argT]
 refine PW.seqOps (OL.cons trivial (OW.bx rfl) ?_)
 rintro _ _ ⟨r1, rfl, rfl⟩
 change OL _ _ _ _ _ (tsegR r1 tv A l.length c :: S) _
 refine OL.dp rfl (OL.nil (PW.k1 1 rfl (PW.seqOps (OL.dp rfl (OL.det trivial (.ld rfl (own_at (j := 0) (c := [.int .i64 tv, .slice A l.length c]) (E := 30) (tot := 2) zM0 rfl)) (OL.call trivial rfl (rnumb_fc h0 h1) ?_))))))
 rintro _ Sx ⟨rfl, hSx⟩
 rw [hSx]
 clear hSx
 refine OL.det trivial (cat_l [118] (numL tv) rfl rfl (by simp only [List.length_singleton]; omega)) ?_
 refine OL.dp rfl (OL.nil (PW.k2 1 3 rfl ?_))
 refine PW.seq fun K1 hK1 => ?_
 refine PW.seqOps (OL.dp rfl (OL.nil (PW.k3 1 3 4 rfl (PW.block (PW.k3 1 3 4 rfl ?_)))))
 refine PW.loopK (I := fun m T S' => ∃ (k : Nat), (k <= l.length /\ m = l.length - k /\ (joinL [10] (rowsR tv l k)).length <= 1000 * (k + 1)) /\ T = ([(1, .pointer (some ⟨r1, 0, none⟩)), (3, .string ⟨(joinL [10] (rowsR tv l k)).toArray⟩), (4, .int .i64 k)] : TT) /\ S' = tsegR r1 tv A l.length c :: S) (m := l.length) ⟨0, ⟨by omega, by omega, by simp [rowsR, joinL]; omega⟩, by simp [rowsR, joinL], rfl⟩ ?_
 rintro m _ _ ⟨k, ⟨hk, hm, hjb⟩, rfl, rfl⟩
 refine PW.seq fun K2 hK2 => ?_
 refine PW.seqOps (OL.dp rfl (OL.dp rfl (OL.det trivial (.ld rfl (own_at (j := 1) (c := [.int .i64 tv, .slice A l.length c]) (E := 30) (tot := 2) zM0 rfl)) (OL.dp rfl (OL.dp rfl (OL.nil (PW.k4 1 3 4 13 rfl ?_)))))))
 refine PW.cond rfl (fun c13 => ?_) (fun c13 => ?_)
 ·try simp only [decide_eq_true_eq, decide_eq_false_iff_not, beq_iff_eq, bne_iff_ne, beq_eq_false_iff_ne, bne_eq_false_iff_eq, Bool.not_eq_true', Bool.not_eq_false', Bool.not_eq_true, ne_eq, Decidable.not_not] at c13
  have hkl : k < l.length := by omega
  obtain ⟨a0, rfl⟩ := ruls_some hx (by omega)
  have hwk := hw _ (List.getElem_mem hkl)
  have hlb := labT_len l[k].2
  have hpl : l[k].1.data.toList.length = l[k].1.size := by simp
  refine PW.skip (hK2 _ _ (PW.k3 1 3 4 rfl ?_))
  refine PW.seq fun K3 hK3 => ?_
  refine PW.block (PW.quietK Tryz.mixed (QK.dp rfl ?_))
  refine QK.det trivial (cat_l (joinL [10] (rowsR tv l k)) [10] rfl rfl (by simp only [List.length_singleton]; omega)) ?_
  refine QK.dp rfl (QK.det trivial (.ld rfl (own_at (j := 1) (c := [.int .i64 tv, .slice (some a0) l.length c]) (E := 30) (tot := 2) zM0 rfl)) (QK.dp rfl ?_))
  refine QK.det trivial (.ixN rfl rfl rfl (by omega)) ?_
  refine QK.dp rfl (QK.det trivial (.ldA rfl rfl (rlab_at hx.cons hkl)) (QK.call trivial rfl (rltext_fc) ?_))
  refine QK.det trivial (cat_l (joinL [10] (rowsR tv l k) ++ [10]) (labT l[k].2) rfl rfl (by simp only [List.length_append, List.length_singleton]; omega)) ?_
  refine QK.det trivial (cat_l (joinL [10] (rowsR tv l k) ++ [10] ++ labT l[k].2) [32] rfl rfl (by simp only [List.length_append, List.length_singleton]; omega)) ?_
  refine QK.dp rfl (QK.det trivial (.ld rfl (own_at (j := 1) (c := [.int .i64 tv, .slice (some a0) l.length c]) (E := 30) (tot := 2) zM0 rfl)) (QK.dp rfl ?_))
  refine QK.det trivial (.ixN rfl rfl rfl (by omega)) ?_
  refine QK.dp rfl (QK.det trivial (.ld rfl (rule_at hx.cons hkl 0 _ rfl)) (QK.nil ?_))
  change OL _ _ _ [_, _] _ _ _
  refine OL.det trivial (cat_l (joinL [10] (rowsR tv l k) ++ [10] ++ labT l[k].2 ++ [32]) l[k].1.data.toList rfl rfl (by simp only [List.length_append, List.length_singleton]; omega)) ?_
  refine OL.dp rfl (OL.nil (hK3 _ _ (PW.k3 1 3 4 rfl (PW.ops (OL.dp rfl ?_)))))
  refine OL.det trivial (.add64 rfl rfl (by omega) (by omega)) ?_
  refine OL.dp rfl (OL.nil ?_)
  repeat rw [inBlk_n]
  try rw [thenK_n]
  refine LoopEnd.mk (T'' := [(1, _), (3, _), (4, _)]) (wi rfl) ?_
  refine ⟨l.length - (k + 1), by omega, k + 1, ⟨by omega, rfl, ?_⟩, by rw [acc_succ hkl]; rfl, rfl⟩
  rw [acc_succ hkl]; simp only [List.length_append, List.length_singleton]; omega
 try simp only [decide_eq_true_eq, decide_eq_false_iff_not, beq_iff_eq, bne_iff_ne, beq_eq_false_iff_ne, bne_eq_false_iff_eq, Bool.not_eq_true', Bool.not_eq_false', Bool.not_eq_true, ne_eq, Decidable.not_not] at c13
 refine PW.exit (hK1 _ _ (PW.k1 3 rfl (PW.seqOps (OL.dp rfl (OL.dp rfl (OL.nil (PW.k1 2 rfl (PW.ret ?_))))))))
 change (Exit.ret = Exit.normal ∨ Exit.ret = Exit.ret) /\ ∃ v, resV _ _ = some v /\ _
 obtain rfl : k = l.length := by omega
 exact ⟨.inr rfl, _, rfl, _, Sub.drop (Sub.refl _), rfl, rfl⟩
def gl : List RuleB := [(⟨#[]⟩, (1, 0)), (⟨#[97]⟩, (2, 1)), (⟨#[97, 47, 98]⟩, (0, 0))]
theorem gl_small : ∀ x ∈ gl, x.1.size <= 200 := by decide +kernel
theorem gl_small9 : ∀ x ∈ gl, x.1.size <= 1000000000 := fun x h => by have := gl_small x h; omega
theorem gl_chk : chkT gl 3 = 0 := by decide +kernel
theorem gl_x : findP gl ⟨#[120]⟩ = (1, 0) := by decide +kernel
theorem gl_ab : findP gl ⟨#[97, 98]⟩ = (1, 0) := by decide +kernel
theorem gl_ac : findP gl ⟨#[97, 47, 99]⟩ = (2, 1) := by decide +kernel
theorem gl_abc : findP gl ⟨#[97, 47, 98, 47, 99]⟩ = (0, 0) := by decide +kernel
theorem lab7_fc {w0 : World} {S : SS} (x : LabB) : FC Tryz.prog w0 19 [.int .i64 x.1, .int .u64 (x.2.toNat : Int)] S (fun v S' => v = labB x /\ S' = S) := by
 refine FC.ofC Tryz.known19 (by simp) ?_
 unfold Tryz.pc19
 simp only [argT]
 refine PW.seqOps (OL.cons trivial OW.al ?_)
 rintro _ _ ⟨r4, rfl, rfl⟩
 refine OL.nil (PW.k3 0 1 4 rfl (PW.seqOps (OL.dp rfl (OL.dp rfl (OL.det trivial (.build rfl) (OL.cons trivial (OW.st (k := 0) (u := labB x) rfl rfl rfl rfl (Nat.le_refl 2) rfl) ?_))))))
 rintro _ _ rfl
 change OL _ _ _ _ _ (lseg r4 x :: S) _
 refine OL.nil (PW.k1 4 rfl (PW.ret ?_))
 exact ⟨.inr rfl, _, labB x, rfl, lab_read (r := r4) (l := x.1) (c := (x.2.toNat : Int)) zM0, _, Sub.drop (Sub.refl _), rfl, rfl⟩
theorem given_fc {w0 : World} {S : SS} : FC Tryz.prog w0 17 [] S (fun v S' => ∃ r cap, v = tabV 3 (some ⟨r, 0, none⟩) gl.length cap /\ gl.length <= cap /\ S' = [(r, .cells (ruls gl) 48 (3 * 3))] :: S) := by
 refine FC.ofC Tryz.known17 (by simp) ?_
 unfold Tryz.pc17
 simp only [argT]
 refine PW.seqOps (OL.cons trivial OW.al ?_)
 rintro _ _ ⟨r0, rfl, rfl⟩
 refine OL.nil (PW.k1 0 rfl (PW.seqOps (OL.call trivial rfl (lab7_fc (1, 0)) ?_)))
 rintro _ Sx ⟨rfl, hSx⟩
 rw [hSx]
 clear hSx
 refine OL.det trivial (.build rfl) (OL.call trivial rfl (lab7_fc (2, 1)) ?_)
 rintro _ Sx ⟨rfl, hSx⟩
 rw [hSx]
 clear hSx
 refine OL.det trivial (.build rfl) (OL.det trivial (.build rfl) (OL.cons trivial (OW.bsl rfl) ?_))
 rintro _ _ ⟨r6, rfl, rfl⟩
 change OL _ _ _ _ _ ([(r6, .cells (ruls gl) 48 (3 * 3))] :: [(r0, .cells [.int .i64 0, .slice none 0 0] 24 2)] :: S) _
 refine OL.det trivial (.build rfl) (OL.cons trivial (OW.st (k := 1) (u := tabV 3 (some ⟨r6, 0, none⟩) gl.length 3) rfl rfl rfl rfl (Nat.le_refl 2) rfl) ?_)
 rintro _ _ rfl
 change OL _ _ _ _ _ ([(r6, .cells (ruls gl) 48 (3 * 3))] :: tseg r0 3 (some ⟨r6, 0, none⟩) gl.length 3 :: S) _
 refine OL.nil (PW.k1 0 rfl (PW.ret ?_))
 exact ⟨.inr rfl, _, tabV 3 (some ⟨r6, 0, none⟩) gl.length 3, rfl, tab_read (r := r0) zM1, _, Sub.cons (Sub.drop (Sub.refl _)), r6, 3, rfl, Nat.le_refl _, rfl⟩
theorem awake7_fc {w0 : World} {S : SS} : FC Tryz.prog w0 6 [] S (fun v S' => v = .bool true /\ S' = S) := by
 refine FC.ofD Tryz.known6 (by simp) ?_
 unfold Tryz.pc6
 simp only [argT]
 refine PW.seqOps (OL.dp rfl (OL.nil (PW.keep (T' := []) trivial (PW.seqOps (OL.call trivial rfl (given_fc) ?_)))))
 rintro _ _ ⟨r, cap, rfl, hcap, rfl⟩
 refine OL.cons trivial OW.al ?_
 rintro _ _ ⟨r1, rfl, rfl⟩
 refine OL.cons trivial (OW.st (k := 0) (u := tabV 3 (some ⟨r, 0, none⟩) gl.length cap) rfl rfl rfl rfl (Nat.le_refl 2) rfl) ?_
 rintro _ _ rfl
 change OL _ _ _ _ _ (tseg r1 3 (some ⟨r, 0, none⟩) gl.length cap :: [(r, .cells (ruls gl) 48 (3 * 3))] :: S) _
 refine OL.nil (PW.k1 1 rfl (PW.seqOps (OL.det trivial (.ldA rfl rfl (tab_at (tv := 3) (A := some ⟨r, 0, none⟩) (n := gl.length) (c := cap) (r := r1) zM0)) ?_)))
 refine OL.call trivial rfl (chkT_fc (Rd.own (E := 48) (tot := 3 * 3) zM1) gl_small9 (by decide)) ?_
 rintro _ Sx ⟨rfl, hSx⟩
 rw [hSx]
 clear hSx
 rw [gl_chk]
 refine OL.det trivial (.to (v' := .bool true) (Yields.pure rfl) rfl) (OL.dp rfl (OL.det rfl (.ldA rfl rfl (tab_at (tv := 3) (A := some ⟨r, 0, none⟩) (n := gl.length) (c := cap) (r := r1) zM0)) ?_))
 refine OL.call rfl rfl (find_fc (Rd.own (E := 48) (tot := 3 * 3) zM1) gl_small9 (by decide) (by decide)) ?_
 rintro _ Sx ⟨rfl, hSx⟩
 rw [hSx]
 clear hSx
 rw [gl_x]
 refine OL.call rfl rfl (lab7_fc (1, 0)) ?_
 rintro _ Sx ⟨rfl, hSx⟩
 rw [hSx]
 clear hSx
 refine OL.det rfl (.to (v' := .bool true) (Yields.eqA rfl rfl (eq_lab ((1 : Int), (0 : BitVec 64)) ((1 : Int), (0 : BitVec 64)))) (by simp)) ?_
 refine OL.dp rfl (OL.dp rfl (OL.det rfl (.ldA rfl rfl (tab_at (tv := 3) (A := some ⟨r, 0, none⟩) (n := gl.length) (c := cap) (r := r1) zM0)) ?_))
 refine OL.call rfl rfl (find_fc (Rd.own (E := 48) (tot := 3 * 3) zM1) gl_small9 (by decide) (by decide)) ?_
 rintro _ Sx ⟨rfl, hSx⟩
 rw [hSx]
 clear hSx
 rw [gl_ab]
 refine OL.call rfl rfl (lab7_fc (1, 0)) ?_
 rintro _ Sx ⟨rfl, hSx⟩
 rw [hSx]
 clear hSx
 refine OL.det rfl (.to (v' := .bool true) (Yields.eqA rfl rfl (eq_lab ((1 : Int), (0 : BitVec 64)) ((1 : Int), (0 : BitVec 64)))) (by simp)) ?_
 refine OL.dp rfl (OL.dp rfl (OL.det rfl (.ldA rfl rfl (tab_at (tv := 3) (A := some ⟨r, 0, none⟩) (n := gl.length) (c := cap) (r := r1) zM0)) ?_))
 refine OL.call rfl rfl (find_fc (Rd.own (E := 48) (tot := 3 * 3) zM1) gl_small9 (by decide) (by decide)) ?_
 rintro _ Sx ⟨rfl, hSx⟩
 rw [hSx]
 clear hSx
 rw [gl_ac]
 refine OL.call rfl rfl (lab7_fc (2, 1)) ?_
 rintro _ Sx ⟨rfl, hSx⟩
 rw [hSx]
 clear hSx
 refine OL.det rfl (.to (v' := .bool true) (Yields.eqA rfl rfl (eq_lab ((2 : Int), (1 : BitVec 64)) ((2 : Int), (1 : BitVec 64)))) (by simp)) ?_
 refine OL.dp rfl (OL.dp rfl (OL.det rfl (.ldA rfl rfl (tab_at (tv := 3) (A := some ⟨r, 0, none⟩) (n := gl.length) (c := cap) (r := r1) zM0)) ?_))
 refine OL.call rfl rfl (find_fc (Rd.own (E := 48) (tot := 3 * 3) zM1) gl_small9 (by decide) (by decide)) ?_
 rintro _ Sx ⟨rfl, hSx⟩
 rw [hSx]
 clear hSx
 rw [gl_abc]
 refine OL.call rfl rfl (lab7_fc (0, 0)) ?_
 rintro _ Sx ⟨rfl, hSx⟩
 rw [hSx]
 clear hSx
 refine OL.det rfl (.to (v' := .bool true) (Yields.eqA rfl rfl (eq_lab ((0 : Int), (0 : BitVec 64)) ((0 : Int), (0 : BitVec 64)))) (by simp)) ?_
 refine OL.dp rfl (OL.dp rfl (OL.nil (PW.k1 0 rfl (PW.ret ?_))))
 change (Exit.ret = Exit.normal ∨ Exit.ret = Exit.ret) /\ ∃ v, resV _ _ = some v /\ _
 exact ⟨.inr rfl, _, rfl, _, Sub.drop (Sub.drop (Sub.refl _)), rfl, rfl⟩
theorem same_self {w0 : World} {S : SS} {A B : Option Addr} {cA cB : Nat} {l : List LabB} (hx : Rd w0 S A (labs l)) (hy : Rd w0 S B (labs l)) (hb : l.length <= 1000000000000) :
  FC Tryz.prog w0 12 [.slice A l.length cA, .slice B l.length cB] S (fun v S' => v = .bool true /\ S' = S) :=
 (same_fc hx hy hb hb).mono fun v S' h => ⟨h.1.trans (by simp), h.2⟩
theorem Rd.up {w0 : World} {S : SS} {A : Option Addr} {cs : List Value} (h : Rd w0 [] A cs) : Rd w0 S A cs := h.mono (fun p hp => absurd hp (by simp))
theorem rulesFind_fc {w0 : World} {A : Option Addr} {c : Nat} {tv : Int} {l : List RuleB} {s : ByteArray} (hT : Tabs w0) (hx : Rd w0 [] A (ruls l)) (hw : ∀ x ∈ l, x.1.size <= maxLen) (hs : s.size <= maxLen) (hl : l.length <= maxLen) :
  FC Tryz.prog w0 3 [tabV tv A l.length c, .string s] [] (fun v _ => v = .bool true) := by
 refine FC.of Tryz.known3 (by simp) ?_
 unfold Tryz.pc3
 simp only [argT]
 refine PW.seqOps (OL.cons trivial (OW.bx rfl) ?_)
 rintro _ _ ⟨r2, rfl, rfl⟩
 change OL _ _ _ _ _ (tseg r2 tv A l.length c :: []) _
 refine OL.dp rfl (OL.nil (PW.k2 1 2 rfl ?_))
 refine PW.seq fun K1 hK1 => ?_
 refine PW.seqOps (OL.det trivial (.ldA rfl rfl (tab_at (tv := tv) (A := A) (n := l.length) (c := c) (r := r2) zM0)) (OL.dp rfl (OL.call trivial rfl (large_fc hx.cons hw hs hl) ?_)))
 rintro _ Sx ⟨b7, rfl, hSx, hb7⟩
 rw [hSx]
 clear hSx
 refine OL.nil (PW.k3 1 2 7 rfl ?_)
 refine PW.cond rfl (fun c7 => ?_) (fun c7 => ?_)
 ·try simp only [decide_eq_true_eq, decide_eq_false_iff_not, beq_iff_eq, bne_iff_ne, beq_eq_false_iff_ne, bne_eq_false_iff_eq, Bool.not_eq_true', Bool.not_eq_false', Bool.not_eq_true, ne_eq, Decidable.not_not] at c7
  refine PW.seqOps (OL.call trivial rfl (awake7_fc) ?_)
  rintro _ _ ⟨rfl, _⟩
  refine OL.dp rfl (OL.nil (PW.k1 4 rfl (PW.ret ?_)))
  change (Exit.ret = Exit.normal ∨ Exit.ret = Exit.ret) /\ ∃ v, resV _ _ = some v /\ _
  exact ⟨.inr rfl, _, rfl, rfl⟩
 try simp only [decide_eq_true_eq, decide_eq_false_iff_not, beq_iff_eq, bne_iff_ne, beq_eq_false_iff_ne, bne_eq_false_iff_eq, Bool.not_eq_true', Bool.not_eq_false', Bool.not_eq_true, ne_eq, Decidable.not_not] at c7
 obtain ⟨hl60, hs200, hw200, htv1, htv2⟩ := hb7 c7
 have hw9 : ∀ x ∈ l, x.1.size <= 1000000000 := fun x h => by have := hw200 x h; omega
 have hs9 : s.size <= 1000000000 := by omega
 have hl9 : l.length <= 1000000000 := by omega
 have hLb : (refS (touP l s)).length <= 1000000000000 := by
  have h1 := refS_len (l := touP l s) _ (Nat.le_refl _)
  have h2 := touK_len (l := l) (p := s) (Nat.le_refl _)
  rw [List.take_length] at h1
  change (touP l s).length <= _ at h2
  omega
 refine PW.skip (hK1 _ _ (PW.k2 1 2 rfl ?_))
 refine PW.seq fun K2 hK2 => ?_
 refine PW.quietG (Ss := Over (tseg r2 tv A l.length c :: [])) (fr := false) [(0, 0), (1, 1), (2, 0), (3, 1), (4, 1), (5, 0), (6, 0), (7, 0), (8, 0), (9, 1), (10, 0), (11, 1), (12, 0), (13, 1), (14, 0), (15, 0), (16, 0), (17, 0), (18, 0), (20, 0), (22, 0), (19, 2), (21, 1), (23, 2), (24, 2), (25, 0), (26, 0), (27, 0), (28, 1), (29, 0)] Tryz.mixed (by decide +kernel) (Over.refl _) (fun h => by cases h) ?_
 refine GL.det trivial (fun Sx hSx => Yields.ldA rfl rfl (tab_at (tv := tv) (A := A) (n := l.length) (c := c) (r := r2) (hSx _ zM0))) ?_
 refine GL.call trivial rfl (fun Sx hSx => chkT_fc (Rd.up hx) hw9 hl9) ?_
 refine GL.det trivial (fun Sx hSx => Yields.ldA rfl rfl (tab_at (tv := tv) (A := A) (n := l.length) (c := c) (r := r2) (hSx _ zM0))) ?_
 refine GL.call trivial rfl (fun Sx hSx => of_fc) ?_
 refine GL.call trivial rfl (fun Sx hSx => chkR_fc (Rd.up hx) hw9 hl9) ?_
 refine GL.det trivial (fun Sx hSx => Yields.to (v' := .bool true) (Yields.pure rfl) (by rw [chk_eq]; simp)) ?_
 refine GL.dp rfl ?_
 refine GL.det rfl (fun Sx hSx => Yields.ldA rfl rfl (tab_at (tv := tv) (A := A) (n := l.length) (c := c) (r := r2) (hSx _ zM0))) ?_
 refine GL.det rfl (fun Sx hSx => Yields.pure rfl) ?_
 refine GL.call rfl rfl (fun Sx hSx => find_fc (Rd.up hx) hw9 hs9 hl9) ?_
 refine GL.det rfl (fun Sx hSx => Yields.ldA rfl rfl (tab_at (tv := tv) (A := A) (n := l.length) (c := c) (r := r2) (hSx _ zM0))) ?_
 refine GL.call rfl rfl (fun Sx hSx => of_fc) ?_
 refine GL.det rfl (fun Sx hSx => Yields.pure rfl) ?_
 refine GL.call rfl rfl (fun Sx hSx => rfind_fc (Rd.up hx) hw9 hs9 hl9) ?_
 refine GL.det rfl (fun Sx hSx => Yields.to (v' := .bool true) (Yields.eqA rfl rfl (eq_lab (findP l s) (findP l s))) (by simp)) ?_
 refine GL.dp rfl ?_
 refine GL.dp rfl ?_
 refine GL.det rfl (fun Sx hSx => Yields.ldA rfl rfl (tab_at (tv := tv) (A := A) (n := l.length) (c := c) (r := r2) (hSx _ zM0))) ?_
 refine GL.det rfl (fun Sx hSx => Yields.pure rfl) ?_
 refine GL.det rfl (fun Sx hSx => Yields.ldA rfl rfl (tab_at (tv := tv) (A := A) (n := l.length) (c := c) (r := r2) (hSx _ zM0))) ?_
 refine GL.det rfl (fun Sx hSx => Yields.pure rfl) ?_
 refine GL.lo rfl (OW.mono (OW.call rfl (touched_fc hx.cons hw9 hs9 hl9)) ?_)
 rintro _ _ ⟨A28, c28, seg28, rfl, rfl, hrd28⟩
 refine ⟨(Over.refl _).cons, ?_⟩
 refine GL.call rfl rfl (fun Sx hSx => of_fc) ?_
 refine GL.lo rfl (OW.mono (OW.call rfl (rtouched_fc hx.cons.cons hw9 hs9 hl9)) ?_)
 rintro _ _ ⟨A32, c32, seg32, rfl, rfl, hrd32⟩
 refine ⟨(Over.refl _).cons.cons, ?_⟩
 refine GL.lo rfl (OW.mono (OW.call rfl (same_self (hrd28 _).cons (hrd32 _) hLb)) ?_)
 rintro _ _ ⟨rfl, rfl⟩
 refine ⟨(Over.refl _).cons.cons, ?_⟩
 refine GL.dp rfl ?_
 refine GL.dp rfl ?_
 refine GL.det rfl (fun Sx hSx => Yields.ldA rfl rfl (tab_at (tv := tv) (A := A) (n := l.length) (c := c) (r := r2) (hSx _ zM0))) ?_
 refine GL.call rfl rfl (fun Sx hSx => rtext_fc hT (Rd.up hx) hw200 hl60 htv1 htv2) ?_
 refine GL.det rfl (fun Sx hSx => Yields.ldA rfl rfl (tab_at (tv := tv) (A := A) (n := l.length) (c := c) (r := r2) (hSx _ zM0))) ?_
 change OL _ _ _ [_, _, _, _, _, _, _, _] _ _ _
 refine OL.call rfl rfl (of_fc) ?_
 rintro _ Sx ⟨rfl, hSx⟩
 rw [hSx]
 clear hSx
 refine OL.call rfl rfl (rrtext_fc (Rd.up hx) hw200 hl60 htv1 htv2) ?_
 rintro _ Sx ⟨rfl, hSx⟩
 rw [hSx]
 clear hSx
 refine OL.det rfl (.to (v' := .bool true) (Yields.pure rfl) (by simp)) ?_
 refine OL.dp rfl (OL.dp rfl (OL.call rfl rfl (awake7_fc) ?_))
 rintro _ Sx ⟨rfl, hSx⟩
 rw [hSx]
 clear hSx
 refine OL.dp rfl (OL.dp rfl (OL.nil (hK2 _ _ (PW.k1 4 rfl (PW.ret ?_)))))
 change (Exit.ret = Exit.normal ∨ Exit.ret = Exit.ret) /\ ∃ v, resV _ _ = some v /\ _
 exact ⟨.inr rfl, _, rfl, rfl⟩
end Go.Proofs.Rl
