/- Walks. -/
import Derived.Test.YtbidjnjbiibdeaaGreatDoorPart2
import Derived.Shelf.SlSortCmp.NoneTotal
import Derived.Shelf.SlicesG.Cmp
import Derived.Ground.SlsfProg
import Derived.Ground.SlgcProg
import Derived.WalkKit
import Derived.Test.YtbidjnjbiibdeaaGreatDoorChecked
import Derived.Maps.RangeRun
import Derived.DeepKeys4
set_option linter.unusedVariables false
set_option linter.unusedSimpArgs false
set_option linter.unusedSectionVars false

namespace Go.Proofs
open Go.SL Go.RowKit
set_option maxHeartbeats 1000000
theorem cut_size : ∀ (l : List UInt8) (x : ByteArray), x ∈ cutL l -> x.size <= l.length
 | [], x, h => by simp [cutL] at h; subst h; exact Nat.zero_le _
 | b :: r, x, h => by
  simp only [cutL] at h
  split at h
  ·rcases List.mem_cons.1 h with rfl | h
   ·exact Nat.zero_le _
   have := cut_size r x h; simp; omega
  split at h
  ·rename_i y ys e
   rcases List.mem_cons.1 h with rfl | h
   ·have := cut_size r y (by rw [e]; simp)
    have e1 : y.data.toList.length = y.size := by simp
    show (b :: y.data.toList).toArray.size <= _
    simp only [List.size_toArray, List.length_cons]; omega
   have := cut_size r x (by rw [e]; simp [h]); simp; omega
  cases h
theorem parts_size {s x : ByteArray} (h : x ∈ partsP s) : x.size <= s.size := by
 have := cut_size _ _ h
 simpa using this
def isP (s : ByteArray) : Bool := decide (s.size <= 60) && decide ((partsP s).length <= 8) && (partsP s).all partP
def chkP (s : ByteArray) : Int := if isP s = true then 0 else 15
def prefP (s : ByteArray) : Int := if s = ⟨#[]⟩ then 0 else chkP s
theorem any_not (ls : List ByteArray) : (ls.any fun s => !(partP s)) = !(ls.all partP) := by rw [List.any_eq_not_all_not]; simp
theorem parts_len_le (s : ByteArray) : (partsP s).length <= s.size + 1 := by rw [parts_len]; have := num_le s; omega
theorem rsplit_fc {w0 : World} {S : SS} {s : ByteArray} (hs : s.size <= 1000000000) : FC Tryz.prog w0 74 [.string s] S (resL w0 (partsP s) S) := by
 have hsz : s.size = s.data.toList.length := by simp
 refine FC.of Tryz.known74 (by simp) ?_
 unfold Tryz.pc74
 simp only [argT]
 refine PW.seqOps (OL.nilseg (OL.dp rfl (OL.nil (PW.k1 0 rfl (PW.seqOps (OL.dp rfl (OL.nil (PW.k2 0 3 rfl (PW.seqOps (OL.dp rfl (OL.nil ?_)))))))))))
 refine PW.k3 0 3 4 rfl ?_
 refine PW.seq fun K1 hK1 => ?_
 refine PW.seqOps (OL.dp rfl (OL.nil (PW.k4 0 3 4 5 rfl (PW.block (PW.k4 0 3 4 5 rfl ?_)))))
 refine PW.loopK (I := fun m T S' => ∃ (k f : Nat) (w : Value) (sb : Seg) (ls : List ByteArray), (f <= k /\ k <= s.data.toList.length /\ ls.length <= k /\ m = s.data.toList.length - k /\ SlV 9 1 w ls.length (strs ls) sb /\ cutL s.data.toList = ls ++ cutL (s.data.toList.drop f) /\ ∀ j, f <= j -> j < k -> s.data.toList[j]? ≠ some 47) /\ T = ([(0, .string s), (3, w), (4, .int .i64 (f : Int)), (5, .int .i64 (k : Int))] : TT) /\ S' = sb :: S) (m := s.data.toList.length) ⟨0, 0, _, [], [], ⟨by omega, by omega, by simp, by omega, SlV.nil 9 1, by rw [List.drop_zero, List.nil_append], fun j h1 h2 => by omega⟩, rfl, rfl⟩ ?_
 rintro m _ _ ⟨k, f, w, sb, ls, ⟨hfk, hk, hlk, hm, hv, hcut, hno⟩, rfl, rfl⟩
 refine PW.seq fun K2 hK2 => ?_
 refine PW.seqOps (OL.dp rfl (OL.dp rfl (OL.dp rfl (OL.dp rfl (OL.nil (PW.k5 0 3 4 5 9 rfl ?_))))))
 refine PW.cond rfl (fun c9 => ?_) (fun c9 => ?_)
 ·try simp only [decide_eq_true_eq, decide_eq_false_iff_not, beq_iff_eq, bne_iff_ne, beq_eq_false_iff_ne, bne_eq_false_iff_eq, Bool.not_eq_true', Bool.not_eq_false', Bool.not_eq_true, ne_eq, Decidable.not_not] at c9
  have hkl : k < s.size := by omega
  obtain ⟨bk, hbk, hbk2, _, _⟩ := ba_get hkl
  refine PW.skip (hK2 _ _ (PW.k4 0 3 4 5 rfl ?_))
  refine PW.seq fun K3 hK3 => ?_
  refine PW.block (PW.seqOps (OL.dp rfl (OL.dp rfl (OL.det trivial (Yields.ixStr rfl rfl hbk) (OL.dp rfl (OL.nil (PW.k5 0 3 4 5 15 rfl ?_)))))))
  refine PW.cond rfl (fun c15 => ?_) (fun c15 => ?_)
  ·try simp only [decide_eq_true_eq, decide_eq_false_iff_not, beq_iff_eq, bne_iff_ne, beq_eq_false_iff_ne, bne_eq_false_iff_eq, Bool.not_eq_true', Bool.not_eq_false', Bool.not_eq_true, ne_eq, Decidable.not_not] at c15
   refine PW.seqOps (OL.dp rfl (OL.dp rfl (OL.dp rfl (OL.dp rfl ?_))))
   refine OL.det trivial (Yields.slStr (s := s) (l := f) (h := k) rfl rfl rfl (.inl rfl) (.inl rfl) (by omega) (by omega)) ?_
   apply OL.app1 (k := 0)
   ·rfl
   ·rfl
   ·rfl
   ·rfl
   ·rfl
   ·rfl
   ·exact hv
   ·rfl
   ·omega
   ·unfold maxLen; omega
   intro v22 seg22 hsl22
   refine OL.dp rfl (OL.nil (PW.k3 0 3 5 rfl (PW.ops (OL.dp rfl ?_))))
   refine OL.det trivial (.add64 rfl rfl (by omega) (by omega)) ?_
   refine OL.dp rfl (OL.nil (hK3 _ _ (PW.k4 0 3 4 5 rfl (PW.ops (OL.dp rfl ?_)))))
   refine OL.det trivial (.add64 rfl rfl (by omega) (by omega)) ?_
   refine OL.dp rfl (OL.nil ?_)
   repeat rw [inBlk_n]
   try rw [thenK_n]
   refine LoopEnd.mk (T'' := [(0, _), (3, _), (4, _), (5, _)]) (wi rfl) ?_
   refine ⟨s.data.toList.length - (k + 1), by omega, k + 1, k + 1, v22, seg22, ls ++ [s.extract f k], ⟨by omega, by omega, by simp; omega, rfl, by rw [show strs (ls ++ [s.extract f k]) = strs ls ++ [Value.string (s.extract f k)] by simp [strs], List.length_append]; exact hsl22, ?_, fun j h1 h2 => by omega⟩, by simp, rfl⟩
   have hcutl : s.data.toList.drop f = (s.data.toList.take k).drop f ++ 47 :: s.data.toList.drop (k + 1) := by
    have h10 : bk = 47 := UInt8.toNat_inj.1 (by show bk.toNat = 47; omega)
    conv => lhs; rw [<- List.take_append_drop k s.data.toList]
    rw [List.drop_append_of_le_length (by simp; omega)]
    congr 1
    have := List.getElem?_eq_some_iff.1 hbk2
    rw [List.drop_eq_getElem_cons this.1, this.2, h10]
   rw [hcut, hcutl, cut_cons _ _ ?_]
   ·rw [show (⟨((s.data.toList.take k).drop f).toArray⟩ : ByteArray) = s.extract f k from ba_ext (by rw [ext_list])]
    simp
   intro x hx e
   obtain ⟨j, hj⟩ := List.getElem?_of_mem hx
   rw [List.getElem?_drop] at hj
   have hjk : f + j < k := by
    have := (List.getElem?_eq_some_iff.1 hj).1
    simp at this; omega
   rw [List.getElem?_take_of_lt hjk, e] at hj
   exact hno (f + j) (by omega) hjk hj
  try simp only [decide_eq_true_eq, decide_eq_false_iff_not, beq_iff_eq, bne_iff_ne, beq_eq_false_iff_ne, bne_eq_false_iff_eq, Bool.not_eq_true', Bool.not_eq_false', Bool.not_eq_true, ne_eq, Decidable.not_not] at c15
  refine PW.skip (hK3 _ _ (PW.k4 0 3 4 5 rfl (PW.ops (OL.dp rfl ?_))))
  refine OL.det trivial (.add64 rfl rfl (by omega) (by omega)) ?_
  refine OL.dp rfl (OL.nil ?_)
  repeat rw [inBlk_n]
  try rw [thenK_n]
  refine LoopEnd.mk (T'' := [(0, _), (3, _), (4, _), (5, _)]) (wi rfl) ?_
  refine ⟨s.data.toList.length - (k + 1), by omega, k + 1, f, w, sb, ls, ⟨by omega, by omega, by omega, rfl, hv, hcut, fun j h1 h2 => ?_⟩, by simp, rfl⟩
  rcases Nat.lt_or_ge j k with h | h
  ·exact hno j h1 h
  obtain rfl : j = k := by omega
  rw [hbk2]; intro e; obtain rfl := Option.some.inj e; exact c15 rfl
 try simp only [decide_eq_true_eq, decide_eq_false_iff_not, beq_iff_eq, bne_iff_ne, beq_eq_false_iff_ne, bne_eq_false_iff_eq, Bool.not_eq_true', Bool.not_eq_false', Bool.not_eq_true, ne_eq, Decidable.not_not] at c9
 refine PW.exit (hK1 _ _ (PW.k3 0 3 4 rfl (PW.seqOps (OL.dp rfl (OL.dp rfl (OL.dp rfl ?_))))))
 refine OL.det trivial (Yields.slStr (s := s) (l := f) (h := s.size) rfl rfl rfl (.inl rfl) (.inr ⟨rfl, rfl⟩) (by omega) (by omega)) ?_
 apply OL.app1 (k := 0)
 ·rfl
 ·rfl
 ·rfl
 ·rfl
 ·rfl
 ·rfl
 ·exact hv
 ·rfl
 ·omega
 ·unfold maxLen; omega
 intro v30 seg30 hsl30
 refine OL.dp rfl (OL.nil (PW.k1 2 rfl (PW.ret ?_)))
 change (Exit.ret = Exit.normal ∨ Exit.ret = Exit.ret) /\ ∃ v, resV _ _ = some v /\ _
 have he : partsP s = ls ++ [s.extract f s.size] := by
  unfold partsP
  rw [hcut, cut_no]
  ·congr 2
   exact ba_ext (by rw [ext_list, List.take_of_length_le (by omega)])
  intro x hx e
  obtain ⟨j, hj⟩ := List.getElem?_of_mem hx
  rw [List.getElem?_drop] at hj
  have hjl := (List.getElem?_eq_some_iff.1 hj).1
  rw [e] at hj
  exact hno (f + j) (by omega) (by omega) hj
 obtain ⟨A, cap, rfl, _, _⟩ := hsl30.rd (w0 := w0) (S := [seg30]) (k := 0) rfl
 exact ⟨.inr rfl, _, rfl, A, cap, seg30, by rw [he]; simp, rfl, fun S2 => by obtain ⟨A', cap', e, h2, _⟩ := hsl30.rd (w0 := w0) (S := seg30 :: S2) (k := 0) rfl; cases e; rw [he, show strs (ls ++ [s.extract f s.size]) = strs ls ++ [Value.string (s.extract f s.size)] by simp [strs]]; exact h2⟩
theorem is_fc {w0 : World} {S : SS} {s : ByteArray} (hs : s.size <= 1000000000) : FC Tryz.prog w0 55 [.string s] S (fun v S' => v = .bool (isP s) /\ S' = S) := by
  refine FC.ofD Tryz.known55 (by simp) ?_
  unfold Tryz.pc55
  simp only [argT]
  refine PW.seqOps (OL.dp rfl (OL.nil (PW.k1 0 rfl ?_)))
  refine PW.seq fun K1 hK1 => ?_
  refine PW.seqOps (OL.dp rfl (OL.dp rfl (OL.dp rfl (OL.nil (PW.k2 0 6 rfl ?_)))))
  refine PW.cond rfl (fun c6 => ?_) (fun c6 => ?_)
  · try simp only [decide_eq_true_eq, decide_eq_false_iff_not, beq_iff_eq, bne_iff_ne, beq_eq_false_iff_ne, bne_eq_false_iff_eq, Bool.not_eq_true', Bool.not_eq_false', Bool.not_eq_true, ne_eq, Decidable.not_not] at c6
    refine PW.seqOps (OL.dp rfl (OL.nil (PW.k1 2 rfl (PW.ret ?_))))
    change (Exit.ret = Exit.normal ∨ Exit.ret = Exit.ret) /\ ∃ v, resV _ _ = some v /\ _
    exact ⟨.inr rfl, _, rfl, _, Sub.refl _, by unfold isP; rw [show decide (s.size <= 60) = false from decide_eq_false (by omega)]; rfl, rfl⟩
  try simp only [decide_eq_true_eq, decide_eq_false_iff_not, beq_iff_eq, bne_iff_ne, beq_eq_false_iff_ne, bne_eq_false_iff_eq, Bool.not_eq_true', Bool.not_eq_false', Bool.not_eq_true, ne_eq, Decidable.not_not] at c6
  refine PW.skip (hK1 _ _ (PW.k1 0 rfl (PW.seqOps (OL.dp rfl (OL.call trivial rfl (split_fc hs) ?_)))))
  rintro _ _ ⟨A, cap, seg, rfl, rfl, hrd⟩
  refine OL.dp rfl (OL.nil (PW.k1 3 rfl (PW.seqOps (OL.dp rfl (OL.dp rfl (OL.dp rfl ?_))))))
  refine OL.bool trivial (Yields.pure rfl) (fun g12 => ?_) (fun g12 => ?_)
  · try simp only [decide_eq_true_eq, decide_eq_false_iff_not, beq_iff_eq, bne_iff_ne, beq_eq_false_iff_ne, bne_eq_false_iff_eq, Bool.not_eq_true', Bool.not_eq_false', Bool.not_eq_true, ne_eq, Decidable.not_not] at g12
    refine OL.det rfl (.pure rfl) ?_
    refine OL.call rfl rfl (contains_fc (q := fun s => !(partP s)) (hrd S) (by have := parts_len_le s; omega) (by kernel_rfl) (fun x hx => is1_fc (by have := parts_size hx; omega))) ?_
    rintro _ Sx ⟨rfl, hSx⟩
    rw [hSx]
    clear hSx
    refine OL.det rfl (.pure rfl) (OL.dp rfl (OL.dp rfl (OL.nil (PW.k1 2 rfl (PW.ret ?_)))))
    change (Exit.ret = Exit.normal ∨ Exit.ret = Exit.ret) /\ ∃ v, resV _ _ = some v /\ _
    have h60 : decide (s.size <= 60) = true := decide_eq_true (by omega)
    first
      | (have h8 : decide ((partsP s).length <= 8) = true := decide_eq_true (by omega)
         exact ⟨.inr rfl, _, rfl, _, Sub.drop (Sub.refl _), by unfold isP; rw [h60, h8, any_not]; simp, rfl⟩)
      | (have h8 : decide ((partsP s).length <= 8) = false := decide_eq_false (by omega)
         exact ⟨.inr rfl, _, rfl, _, Sub.drop (Sub.refl _), by unfold isP; rw [h60, h8]; rfl, rfl⟩)
  try simp only [decide_eq_true_eq, decide_eq_false_iff_not, beq_iff_eq, bne_iff_ne, beq_eq_false_iff_ne, bne_eq_false_iff_eq, Bool.not_eq_true', Bool.not_eq_false', Bool.not_eq_true, ne_eq, Decidable.not_not] at g12
  refine OL.off rfl rfl (OL.off rfl rfl (OL.off rfl rfl (OL.dp rfl (OL.dp rfl (OL.nil (PW.k1 2 rfl (PW.ret ?_)))))))
  change (Exit.ret = Exit.normal ∨ Exit.ret = Exit.ret) /\ ∃ v, resV _ _ = some v /\ _
  have h60 : decide (s.size <= 60) = true := decide_eq_true (by omega)
  first
    | (have h8 : decide ((partsP s).length <= 8) = true := decide_eq_true (by omega)
       exact ⟨.inr rfl, _, rfl, _, Sub.drop (Sub.refl _), by unfold isP; rw [h60, h8, any_not]; simp, rfl⟩)
    | (have h8 : decide ((partsP s).length <= 8) = false := decide_eq_false (by omega)
       exact ⟨.inr rfl, _, rfl, _, Sub.drop (Sub.refl _), by unfold isP; rw [h60, h8]; rfl, rfl⟩)
theorem check_fc {w0 : World} {S : SS} {s : ByteArray} (hs : s.size <= 1000000000) : FC Tryz.prog w0 38 [.string s] S (fun v S' => v = .int .i64 (chkP s) /\ S' = S) := by
 refine FC.of Tryz.known38 (by simp) ?_
 unfold Tryz.pc38
 simp only [argT]
 refine PW.seqOps (OL.dp rfl (OL.nil (PW.k1 0 rfl ?_)))
 refine PW.seq fun K1 hK1 => ?_
 refine PW.seqOps (OL.dp rfl (OL.call trivial rfl (is_fc hs) ?_))
 rintro _ Sx ⟨rfl, hSx⟩
 rw [hSx]
 clear hSx
 refine OL.dp rfl (OL.nil (PW.k1 5 rfl ?_))
 refine PW.cond rfl (fun c5 => ?_) (fun c5 => ?_)
 ·try simp only [decide_eq_true_eq, decide_eq_false_iff_not, beq_iff_eq, bne_iff_ne, beq_eq_false_iff_ne, bne_eq_false_iff_eq, Bool.not_eq_true', Bool.not_eq_false', Bool.not_eq_true, ne_eq, Decidable.not_not] at c5
  refine PW.seqOps (OL.dp rfl (OL.nil (PW.k1 2 rfl (PW.ret ?_))))
  change (Exit.ret = Exit.normal ∨ Exit.ret = Exit.ret) /\ ∃ v, resV _ _ = some v /\ _
  exact ⟨.inr rfl, _, rfl, by unfold chkP; rw [if_neg (by rw [c5]; simp)], rfl⟩
 try simp only [decide_eq_true_eq, decide_eq_false_iff_not, beq_iff_eq, bne_iff_ne, beq_eq_false_iff_ne, bne_eq_false_iff_eq, Bool.not_eq_true', Bool.not_eq_false', Bool.not_eq_true, ne_eq, Decidable.not_not] at c5
 refine PW.skip (hK1 _ _ (PW.keep (T' := []) trivial (PW.seqOps (OL.dp rfl (OL.nil (PW.k1 2 rfl (PW.ret ?_)))))))
 change (Exit.ret = Exit.normal ∨ Exit.ret = Exit.ret) /\ ∃ v, resV _ _ = some v /\ _
 exact ⟨.inr rfl, _, rfl, by unfold chkP; rw [if_pos (by simpa using c5)], rfl⟩
theorem pref_fc {w0 : World} {S : SS} {s : ByteArray} (hs : s.size <= 1000000000) : FC Tryz.prog w0 57 [.string s] S (fun v S' => v = .int .i64 (prefP s) /\ S' = S) := by
 refine FC.of Tryz.known57 (by simp) ?_
 unfold Tryz.pc57
 simp only [argT]
 refine PW.seqOps (OL.dp rfl (OL.nil (PW.k1 0 rfl ?_)))
 refine PW.seq fun K1 hK1 => ?_
 refine PW.seqOps (OL.dp rfl (OL.dp rfl (OL.nil (PW.k2 0 4 rfl ?_))))
 refine PW.cond rfl (fun c4 => ?_) (fun c4 => ?_)
 ·try simp only [decide_eq_true_eq, decide_eq_false_iff_not, beq_iff_eq, bne_iff_ne, beq_eq_false_iff_ne, bne_eq_false_iff_eq, Bool.not_eq_true', Bool.not_eq_false', Bool.not_eq_true, ne_eq, Decidable.not_not] at c4
  refine PW.seqOps (OL.dp rfl (OL.nil (PW.k1 2 rfl (PW.ret ?_))))
  change (Exit.ret = Exit.normal ∨ Exit.ret = Exit.ret) /\ ∃ v, resV _ _ = some v /\ _
  exact ⟨.inr rfl, _, rfl, by unfold prefP; rw [if_pos (toL_inj.1 c4)], rfl⟩
 try simp only [decide_eq_true_eq, decide_eq_false_iff_not, beq_iff_eq, bne_iff_ne, beq_eq_false_iff_ne, bne_eq_false_iff_eq, Bool.not_eq_true', Bool.not_eq_false', Bool.not_eq_true, ne_eq, Decidable.not_not] at c4
 refine PW.skip (hK1 _ _ (PW.k1 0 rfl (PW.seqOps (OL.dp rfl (OL.call trivial rfl (check_fc hs) ?_)))))
 rintro _ Sx ⟨rfl, hSx⟩
 rw [hSx]
 clear hSx
 refine OL.dp rfl (OL.nil (PW.k1 2 rfl (PW.ret ?_)))
 change (Exit.ret = Exit.normal ∨ Exit.ret = Exit.ret) /\ ∃ v, resV _ _ = some v /\ _
 exact ⟨.inr rfl, _, rfl, by unfold prefP; rw [if_neg (fun e => c4 (toL_inj.2 e))], rfl⟩
def underP (p s : ByteArray) : Bool := isP s && decide (prefP p = 0) && (decide (p = ⟨#[]⟩) || decide (p = s) || startsB s (p ++ slB))
theorem under_fc {w0 : World} {S : SS} {p s : ByteArray} (hp : p.size <= 1000000000) (hs : s.size <= 1000000000) : FC Tryz.prog w0 40 [.string p, .string s] S (fun v S' => v = .bool (underP p s) /\ S' = S) := by
 refine FC.of Tryz.known40 (by simp) ?_
 unfold Tryz.pc40
 simp only [argT]
 refine PW.seqOps (OL.dp rfl (OL.nil (PW.k2 0 1 rfl ?_)))
 refine PW.seq fun K1 hK1 => ?_
 refine PW.seqOps (OL.dp rfl (OL.call trivial rfl (is_fc hs) ?_))
 rintro _ Sx ⟨rfl, hSx⟩
 rw [hSx]
 clear hSx
 refine OL.dp rfl ?_
 refine OL.bool trivial (Yields.pure rfl) (fun g8 => ?_) (fun g8 => ?_)
 ·try simp only [decide_eq_true_eq, decide_eq_false_iff_not, beq_iff_eq, bne_iff_ne, beq_eq_false_iff_ne, bne_eq_false_iff_eq, Bool.not_eq_true', Bool.not_eq_false', Bool.not_eq_true, ne_eq, Decidable.not_not] at g8
  refine OL.off rfl rfl (OL.off rfl rfl (OL.off rfl rfl (OL.dp rfl (OL.nil (PW.k3 0 1 12 rfl (PW.ite (b := true) rfl ?_))))))
  rw [if_pos rfl]
  refine PW.seqOps (OL.dp rfl (OL.nil (PW.k1 4 rfl (PW.ret ?_))))
  change (Exit.ret = Exit.normal ∨ Exit.ret = Exit.ret) /\ ∃ v, resV _ _ = some v /\ _
  exact ⟨.inr rfl, _, rfl, by unfold underP; first | (rw [show isP s = false by simpa using g8]; rfl) | (rw [show decide (prefP p = 0) = false from decide_eq_false (by simpa using c12), Bool.and_false]; rfl), rfl⟩
 try simp only [decide_eq_true_eq, decide_eq_false_iff_not, beq_iff_eq, bne_iff_ne, beq_eq_false_iff_ne, bne_eq_false_iff_eq, Bool.not_eq_true', Bool.not_eq_false', Bool.not_eq_true, ne_eq, Decidable.not_not] at g8
 refine OL.det rfl (.pure rfl) (OL.call rfl rfl (pref_fc hp) ?_)
 rintro _ Sx ⟨rfl, hSx⟩
 rw [hSx]
 clear hSx
 refine OL.det rfl (.pure rfl) (OL.dp rfl (OL.nil (PW.k3 0 1 12 rfl ?_)))
 refine PW.cond rfl (fun c12 => ?_) (fun c12 => ?_)
 ·try simp only [decide_eq_true_eq, decide_eq_false_iff_not, beq_iff_eq, bne_iff_ne, beq_eq_false_iff_ne, bne_eq_false_iff_eq, Bool.not_eq_true', Bool.not_eq_false', Bool.not_eq_true, ne_eq, Decidable.not_not] at c12
  refine PW.seqOps (OL.dp rfl (OL.nil (PW.k1 4 rfl (PW.ret ?_))))
  change (Exit.ret = Exit.normal ∨ Exit.ret = Exit.ret) /\ ∃ v, resV _ _ = some v /\ _
  exact ⟨.inr rfl, _, rfl, by unfold underP; first | (rw [show isP s = false by simpa using g8]; rfl) | (rw [show decide (prefP p = 0) = false from decide_eq_false (by simpa using c12), Bool.and_false]; rfl), rfl⟩
 try simp only [decide_eq_true_eq, decide_eq_false_iff_not, beq_iff_eq, bne_iff_ne, beq_eq_false_iff_ne, bne_eq_false_iff_eq, Bool.not_eq_true', Bool.not_eq_false', Bool.not_eq_true, ne_eq, Decidable.not_not] at c12
 refine PW.skip (hK1 _ _ (PW.k2 0 1 rfl (PW.seqOps (OL.dp rfl (OL.dp rfl ?_)))))
 refine OL.bool trivial (Yields.pure rfl) (fun g15 => ?_) (fun g15 => ?_)
 ·try simp only [decide_eq_true_eq, decide_eq_false_iff_not, beq_iff_eq, bne_iff_ne, beq_eq_false_iff_ne, bne_eq_false_iff_eq, Bool.not_eq_true', Bool.not_eq_false', Bool.not_eq_true, ne_eq, Decidable.not_not] at g15
  rw [toL_inj] at g15
  refine OL.off rfl rfl (OL.off rfl rfl (OL.off rfl rfl (OL.dp rfl (OL.dp rfl (OL.off rfl rfl (OL.off rfl rfl (OL.off rfl rfl (OL.off rfl rfl (OL.dp rfl (OL.dp rfl (OL.nil ?_)))))))))))
  refine PW.k1 4 rfl (PW.ret ?_)
  change (Exit.ret = Exit.normal ∨ Exit.ret = Exit.ret) /\ ∃ v, resV _ _ = some v /\ _
  have h1 : isP s = true := by simpa using g8
  have h2 : decide (prefP p = 0) = true := decide_eq_true (by simpa using c12)
  refine ⟨.inr rfl, _, rfl, congrArg Value.bool ?_, rfl⟩
  unfold underP
  rw [h1, h2]
  first | (rw [show decide (p = ⟨#[]⟩) = true from decide_eq_true g15]; rfl) | (rw [show decide (p = s) = true from decide_eq_true g20, Bool.or_true]; rfl) | (rw [show decide (p = ⟨#[]⟩) = false from decide_eq_false g15, show decide (p = s) = false from decide_eq_false g20]; rfl)
 try simp only [decide_eq_true_eq, decide_eq_false_iff_not, beq_iff_eq, bne_iff_ne, beq_eq_false_iff_ne, bne_eq_false_iff_eq, Bool.not_eq_true', Bool.not_eq_false', Bool.not_eq_true, ne_eq, Decidable.not_not] at g15
 rw [toL_inj] at g15
 refine OL.det rfl (.pure rfl) (OL.det rfl (.pure rfl) (OL.det rfl (.pure rfl) (OL.dp rfl ?_)))
 refine OL.bool trivial (Yields.pure rfl) (fun g20 => ?_) (fun g20 => ?_)
 ·try simp only [decide_eq_true_eq, decide_eq_false_iff_not, beq_iff_eq, bne_iff_ne, beq_eq_false_iff_ne, bne_eq_false_iff_eq, Bool.not_eq_true', Bool.not_eq_false', Bool.not_eq_true, ne_eq, Decidable.not_not] at g20
  rw [toL_inj] at g20
  refine OL.off rfl rfl (OL.off rfl rfl (OL.off rfl rfl (OL.off rfl rfl (OL.dp rfl (OL.dp rfl (OL.nil (PW.k1 4 rfl (PW.ret ?_))))))))
  change (Exit.ret = Exit.normal ∨ Exit.ret = Exit.ret) /\ ∃ v, resV _ _ = some v /\ _
  have h1 : isP s = true := by simpa using g8
  have h2 : decide (prefP p = 0) = true := decide_eq_true (by simpa using c12)
  refine ⟨.inr rfl, _, rfl, congrArg Value.bool ?_, rfl⟩
  unfold underP
  rw [h1, h2]
  first | (rw [show decide (p = ⟨#[]⟩) = true from decide_eq_true g15]; rfl) | (rw [show decide (p = s) = true from decide_eq_true g20, Bool.or_true]; rfl) | (rw [show decide (p = ⟨#[]⟩) = false from decide_eq_false g15, show decide (p = s) = false from decide_eq_false g20]; rfl)
 try simp only [decide_eq_true_eq, decide_eq_false_iff_not, beq_iff_eq, bne_iff_ne, beq_eq_false_iff_ne, bne_eq_false_iff_eq, Bool.not_eq_true', Bool.not_eq_false', Bool.not_eq_true, ne_eq, Decidable.not_not] at g20
 rw [toL_inj] at g20
 refine OL.det rfl (.pure rfl) (OL.det rfl (.pure rfl) ?_)
 refine OL.det rfl (yields_cat (a := p) (b := slB) rfl rfl (by show p.size + 1 <= _; omega)) ?_
 refine OL.call rfl rfl (hasp_fc (p := p ++ slB)) ?_
 rintro _ Sx ⟨rfl, hSx⟩
 rw [hSx]
 clear hSx
 refine OL.dp rfl (OL.dp rfl (OL.nil (PW.k1 4 rfl (PW.ret ?_))))
 change (Exit.ret = Exit.normal ∨ Exit.ret = Exit.ret) /\ ∃ v, resV _ _ = some v /\ _
 have h1 : isP s = true := by simpa using g8
 have h2 : decide (prefP p = 0) = true := decide_eq_true (by simpa using c12)
 refine ⟨.inr rfl, _, rfl, congrArg Value.bool ?_, rfl⟩
 unfold underP
 rw [h1, h2]
 first | (rw [show decide (p = ⟨#[]⟩) = true from decide_eq_true g15]; rfl) | (rw [show decide (p = s) = true from decide_eq_true g20, Bool.or_true]; rfl) | (rw [show decide (p = ⟨#[]⟩) = false from decide_eq_false g15, show decide (p = s) = false from decide_eq_false g20]; rfl)
end Go.Proofs



namespace Go.Proofs.Lb
open Go.SL Go.RowKit Go.Proofs
set_option maxHeartbeats 1000000
abbrev Lab := Int × Nat
def labV (a : Lab) : Value := .agg #[.int .i64 a.1, .int .u64 (a.2 : Int)]
def labVI (l c : Int) : Value := .agg #[.int .i64 l, .int .u64 c]
theorem lab_read {w0 : World} {S : SS} {r : Nat} {l c : Int} (hm : (r, AO.cells [.int .i64 l, .int .u64 c] 34 2) ∈ S.flatten) : ReadsAs w0 S (some 2) ⟨r, 0, none⟩ (labVI l c) :=
 ⟨[.int .i64 l, .int .u64 c], rfl, rfl, fun j u hj => (Rd.own hm).at hj⟩
def chkP (l : Int) : Int := if l < 0 ∨ l > 15 then 2 else 0
theorem check_lab {w0 : World} {S : SS} {a : Lab} : FC Tryz.prog w0 21 [labV a] S (fun v S' => v = .int .i64 (chkP a.1) /\ S' = S) := by
 refine FC.ofD Tryz.known21 (by simp) ?_
 unfold Tryz.pc21
 simp only [argT]
 refine PW.seqOps (OL.cons trivial (OW.bx rfl) ?_)
 rintro _ _ ⟨r1, rfl, rfl⟩
 change OL _ _ _ _ _ ([(r1, .cells [.int .i64 a.1, .int .u64 (a.2 : Int)] 34 2)] :: S) _
 refine OL.dp rfl (OL.nil (PW.k1 1 rfl ?_))
 refine PW.seq fun K1 hK1 => ?_
 refine PW.seqOps (OL.dp rfl ?_)
 refine OL.det trivial (.ld rfl (own_at (j := 0) (c := [.int .i64 a.1, .int .u64 (a.2 : Int)]) (E := 34) (tot := 2) (by simp) rfl)) ?_
 refine OL.dp rfl ?_
 refine OL.bool trivial (Yields.pure rfl) (fun g6 => ?_) (fun g6 => ?_)
 ·try simp only [decide_eq_true_eq, decide_eq_false_iff_not, beq_iff_eq, bne_iff_ne, beq_eq_false_iff_ne, bne_eq_false_iff_eq, Bool.not_eq_true', Bool.not_eq_false', Bool.not_eq_true, ne_eq, Decidable.not_not] at g6
  refine OL.off rfl rfl (OL.off rfl rfl (OL.off rfl rfl (OL.dp rfl (OL.nil (PW.k1 10 rfl (PW.ite (b := true) rfl ?_))))))
  rw [if_pos rfl]
  refine PW.seqOps (OL.dp rfl (OL.nil (PW.k1 2 rfl (PW.ret ?_))))
  change (Exit.ret = Exit.normal ∨ Exit.ret = Exit.ret) /\ ∃ v, resV _ _ = some v /\ _
  exact ⟨.inr rfl, _, rfl, _, Sub.drop (Sub.refl _), by unfold chkP; rw [if_pos (by omega)], rfl⟩
 try simp only [decide_eq_true_eq, decide_eq_false_iff_not, beq_iff_eq, bne_iff_ne, beq_eq_false_iff_ne, bne_eq_false_iff_eq, Bool.not_eq_true', Bool.not_eq_false', Bool.not_eq_true, ne_eq, Decidable.not_not] at g6
 refine OL.det rfl (.pure rfl) ?_
 refine OL.det rfl (.ld rfl (own_at (j := 0) (c := [.int .i64 a.1, .int .u64 (a.2 : Int)]) (E := 34) (tot := 2) (by simp) rfl)) ?_
 refine OL.det rfl (.pure rfl) (OL.dp rfl (OL.nil (PW.k1 10 rfl ?_)))
 refine PW.cond rfl (fun c10 => ?_) (fun c10 => ?_)
 ·try simp only [decide_eq_true_eq, decide_eq_false_iff_not, beq_iff_eq, bne_iff_ne, beq_eq_false_iff_ne, bne_eq_false_iff_eq, Bool.not_eq_true', Bool.not_eq_false', Bool.not_eq_true, ne_eq, Decidable.not_not] at c10
  refine PW.seqOps (OL.dp rfl (OL.nil (PW.k1 2 rfl (PW.ret ?_))))
  change (Exit.ret = Exit.normal ∨ Exit.ret = Exit.ret) /\ ∃ v, resV _ _ = some v /\ _
  exact ⟨.inr rfl, _, rfl, _, Sub.drop (Sub.refl _), by unfold chkP; rw [if_pos (by omega)], rfl⟩
 try simp only [decide_eq_true_eq, decide_eq_false_iff_not, beq_iff_eq, bne_iff_ne, beq_eq_false_iff_ne, bne_eq_false_iff_eq, Bool.not_eq_true', Bool.not_eq_false', Bool.not_eq_true, ne_eq, Decidable.not_not] at c10
 refine PW.skip (hK1 _ _ (PW.keep (T' := []) trivial (PW.seqOps (OL.dp rfl (OL.nil (PW.k1 2 rfl (PW.ret ?_)))))))
 change (Exit.ret = Exit.normal ∨ Exit.ret = Exit.ret) /\ ∃ v, resV _ _ = some v /\ _
 exact ⟨.inr rfl, _, rfl, _, Sub.drop (Sub.refl _), by unfold chkP; rw [if_neg (by omega)], rfl⟩
abbrev LabB := Int × BitVec 64
abbrev lseg (r : Nat) (a : Int × BitVec 64) : Seg := [(r, .cells [.int .i64 a.1, .int .u64 (a.2.toNat : Int)] 34 2)]
def labB (a : LabB) : Value := .agg #[.int .i64 a.1, .int .u64 (a.2.toNat : Int)]
theorem nat_zero (x : BitVec 64) : ((x.toNat : Int) == 0) = (x == 0#64) := by
 rw [Bool.eq_iff_iff]
 simp only [beq_iff_eq]
 constructor
 ·intro h
  apply BitVec.eq_of_toNat_eq
  simp; omega
 rintro rfl; rfl
section
variable {w0 : World} {S : SS} {a b : LabB}
theorem check_b : FC Tryz.prog w0 21 [labB a] S (fun v S' => v = .int .i64 (chkP a.1) /\ S' = S) := check_lab (a := (a.1, a.2.toNat))
end
theorem lab_at {w0 : World} {S : SS} {r : Nat} {a : LabB} (hm : (r, AO.cells [.int .i64 a.1, .int .u64 (a.2.toNat : Int)] 34 2) ∈ S.flatten) : ∀ (j : Nat) (v : Value), [Value.int .i64 a.1, .int .u64 (a.2.toNat : Int)][j]? = some v -> Cell w0 S ((⟨r, 0, none⟩ : Addr).add j) v :=
 fun j u hj => (Rd.own hm).at hj
theorem eq_lab (a b : LabB) : eqCells [.int .i64, .int .u64] [.int .i64 a.1, .int .u64 (a.2.toNat : Int)] [.int .i64 b.1, .int .u64 (b.2.toNat : Int)] = some (decide (a = b)) := by
 have e : decide (a = b) = (a.1 == b.1 && (a.2.toNat : Int) == (b.2.toNat : Int)) := by
  rw [Bool.eq_iff_iff]
  simp only [decide_eq_true_eq, Bool.and_eq_true, beq_iff_eq]
  constructor
  ·rintro rfl; exact ⟨rfl, rfl⟩
  rintro ⟨h1, h2⟩; exact Prod.ext h1 (BitVec.eq_of_toNat_eq (by omega))
 rw [e]
 simp [eqCells, eqCell]
def cmpI (x y : Int) : Int := if x < y then -1 else if y < x then 1 else 0
def orZ (a b : LabB) : Int := if cmpI a.1 b.1 ≠ 0 then cmpI a.1 b.1 else cmpI (a.2.toNat : Int) (b.2.toNat : Int)
theorem nan_i64 {w0 : World} {S : SS} {z : Int} : FC Tryz.prog w0 87 [.int .i64 z] S (fun v S' => v = .bool false /\ S' = S) := by
 refine FC.of Tryz.known87 (by simp) ?_
 unfold Tryz.pc87
 simp only [argT]
 refine PW.seqOps (OL.dp rfl (OL.nil (PW.k1 0 rfl (PW.seqOps (OL.dp rfl (OL.dp rfl (OL.dp rfl (OL.dp rfl (OL.nil (PW.k1 2 rfl (PW.ret ?_)))))))))))
 change (Exit.ret = Exit.normal ∨ Exit.ret = Exit.ret) /\ ∃ v, resV _ _ = some v /\ _
 exact ⟨.inr rfl, _, rfl, congrArg Value.bool (by simp), rfl⟩
theorem cmp_i64 {w0 : World} {S : SS} {x y : Int} : FC Tryz.prog w0 63 [.int .i64 x, .int .i64 y] S (fun v S' => v = .int .i64 (cmpI x y) /\ S' = S) := by
 refine FC.of Tryz.known63 (by simp) ?_
 unfold Tryz.pc63
 simp only [argT]
 refine PW.seqOps (OL.dp rfl (OL.nil (PW.k2 0 1 rfl (PW.seqOps (OL.dp rfl (OL.call trivial rfl (nan_i64) ?_))))))
 rintro _ Sx ⟨rfl, hSx⟩
 rw [hSx]
 clear hSx
 refine OL.dp rfl (OL.nil (PW.k3 0 1 5 rfl (PW.seqOps (OL.dp rfl (OL.call trivial rfl (nan_i64) ?_)))))
 rintro _ Sx ⟨rfl, hSx⟩
 rw [hSx]
 clear hSx
 refine OL.dp rfl (OL.nil (PW.k4 0 1 5 6 rfl ?_))
 refine PW.seq fun K1 hK1 => ?_
 refine PW.seqOps (OL.dp rfl (OL.nil (PW.k4 0 1 6 11 rfl (PW.ite (b := false) rfl ?_))))
 rw [if_neg Bool.false_ne_true]
 refine PW.skip (hK1 _ _ (PW.k3 0 1 6 rfl ?_))
 refine PW.seq fun K2 hK2 => ?_
 refine PW.seqOps (OL.dp rfl (OL.nil (PW.k3 0 1 13 rfl (PW.ite (b := false) rfl ?_))))
 rw [if_neg Bool.false_ne_true]
 refine PW.skip (hK2 _ _ (PW.k2 0 1 rfl ?_))
 refine PW.seq fun K3 hK3 => ?_
 refine PW.seqOps (OL.dp rfl (OL.dp rfl (OL.dp rfl (OL.nil (PW.k3 0 1 16 rfl ?_)))))
 refine PW.cond rfl (fun c16 => ?_) (fun c16 => ?_)
 ·try simp only [decide_eq_true_eq, decide_eq_false_iff_not, beq_iff_eq, bne_iff_ne, beq_eq_false_iff_ne, bne_eq_false_iff_eq, Bool.not_eq_true', Bool.not_eq_false', Bool.not_eq_true, ne_eq, Decidable.not_not] at c16
  refine PW.seqOps (OL.dp rfl (OL.nil (PW.k1 4 rfl (PW.ret ?_))))
  change (Exit.ret = Exit.normal ∨ Exit.ret = Exit.ret) /\ ∃ v, resV _ _ = some v /\ _
  exact ⟨.inr rfl, _, rfl, by unfold cmpI; rw [if_pos (by omega)], rfl⟩
 try simp only [decide_eq_true_eq, decide_eq_false_iff_not, beq_iff_eq, bne_iff_ne, beq_eq_false_iff_ne, bne_eq_false_iff_eq, Bool.not_eq_true', Bool.not_eq_false', Bool.not_eq_true, ne_eq, Decidable.not_not] at c16
 refine PW.skip (hK3 _ _ (PW.k2 0 1 rfl ?_))
 refine PW.seq fun K4 hK4 => ?_
 refine PW.seqOps (OL.dp rfl (OL.dp rfl (OL.dp rfl (OL.nil (PW.k1 19 rfl ?_)))))
 refine PW.cond rfl (fun c19 => ?_) (fun c19 => ?_)
 ·try simp only [decide_eq_true_eq, decide_eq_false_iff_not, beq_iff_eq, bne_iff_ne, beq_eq_false_iff_ne, bne_eq_false_iff_eq, Bool.not_eq_true', Bool.not_eq_false', Bool.not_eq_true, ne_eq, Decidable.not_not] at c19
  refine PW.seqOps (OL.dp rfl (OL.nil (PW.k1 4 rfl (PW.ret ?_))))
  change (Exit.ret = Exit.normal ∨ Exit.ret = Exit.ret) /\ ∃ v, resV _ _ = some v /\ _
  exact ⟨.inr rfl, _, rfl, by unfold cmpI; rw [if_neg (by omega), if_pos (by omega)], rfl⟩
 try simp only [decide_eq_true_eq, decide_eq_false_iff_not, beq_iff_eq, bne_iff_ne, beq_eq_false_iff_ne, bne_eq_false_iff_eq, Bool.not_eq_true', Bool.not_eq_false', Bool.not_eq_true, ne_eq, Decidable.not_not] at c19
 refine PW.skip (hK4 _ _ (PW.keep (T' := []) trivial (PW.seqOps (OL.dp rfl (OL.nil (PW.k1 4 rfl (PW.ret ?_)))))))
 change (Exit.ret = Exit.normal ∨ Exit.ret = Exit.ret) /\ ∃ v, resV _ _ = some v /\ _
 exact ⟨.inr rfl, _, rfl, by unfold cmpI; rw [if_neg (by omega), if_neg (by omega)], rfl⟩
theorem nan_u64 {w0 : World} {S : SS} {z : Int} : FC Tryz.prog w0 88 [.int .u64 z] S (fun v S' => v = .bool false /\ S' = S) := by
 refine FC.of Tryz.known88 (by simp) ?_
 unfold Tryz.pc88
 simp only [argT]
 refine PW.seqOps (OL.dp rfl (OL.nil (PW.k1 0 rfl (PW.seqOps (OL.dp rfl (OL.dp rfl (OL.dp rfl (OL.dp rfl (OL.nil (PW.k1 2 rfl (PW.ret ?_)))))))))))
 change (Exit.ret = Exit.normal ∨ Exit.ret = Exit.ret) /\ ∃ v, resV _ _ = some v /\ _
 exact ⟨.inr rfl, _, rfl, congrArg Value.bool (by simp), rfl⟩
theorem cmp_u64 {w0 : World} {S : SS} {x y : Int} : FC Tryz.prog w0 64 [.int .u64 x, .int .u64 y] S (fun v S' => v = .int .i64 (cmpI x y) /\ S' = S) := by
 refine FC.of Tryz.known64 (by simp) ?_
 unfold Tryz.pc64
 simp only [argT]
 refine PW.seqOps (OL.dp rfl (OL.nil (PW.k2 0 1 rfl (PW.seqOps (OL.dp rfl (OL.call trivial rfl (nan_u64) ?_))))))
 rintro _ Sx ⟨rfl, hSx⟩
 rw [hSx]
 clear hSx
 refine OL.dp rfl (OL.nil (PW.k3 0 1 5 rfl (PW.seqOps (OL.dp rfl (OL.call trivial rfl (nan_u64) ?_)))))
 rintro _ Sx ⟨rfl, hSx⟩
 rw [hSx]
 clear hSx
 refine OL.dp rfl (OL.nil (PW.k4 0 1 5 6 rfl ?_))
 refine PW.seq fun K1 hK1 => ?_
 refine PW.seqOps (OL.dp rfl (OL.nil (PW.k4 0 1 6 11 rfl (PW.ite (b := false) rfl ?_))))
 rw [if_neg Bool.false_ne_true]
 refine PW.skip (hK1 _ _ (PW.k3 0 1 6 rfl ?_))
 refine PW.seq fun K2 hK2 => ?_
 refine PW.seqOps (OL.dp rfl (OL.nil (PW.k3 0 1 13 rfl (PW.ite (b := false) rfl ?_))))
 rw [if_neg Bool.false_ne_true]
 refine PW.skip (hK2 _ _ (PW.k2 0 1 rfl ?_))
 refine PW.seq fun K3 hK3 => ?_
 refine PW.seqOps (OL.dp rfl (OL.dp rfl (OL.dp rfl (OL.nil (PW.k3 0 1 16 rfl ?_)))))
 refine PW.cond rfl (fun c16 => ?_) (fun c16 => ?_)
 ·try simp only [decide_eq_true_eq, decide_eq_false_iff_not, beq_iff_eq, bne_iff_ne, beq_eq_false_iff_ne, bne_eq_false_iff_eq, Bool.not_eq_true', Bool.not_eq_false', Bool.not_eq_true, ne_eq, Decidable.not_not] at c16
  refine PW.seqOps (OL.dp rfl (OL.nil (PW.k1 4 rfl (PW.ret ?_))))
  change (Exit.ret = Exit.normal ∨ Exit.ret = Exit.ret) /\ ∃ v, resV _ _ = some v /\ _
  exact ⟨.inr rfl, _, rfl, by unfold cmpI; rw [if_pos (by omega)], rfl⟩
 try simp only [decide_eq_true_eq, decide_eq_false_iff_not, beq_iff_eq, bne_iff_ne, beq_eq_false_iff_ne, bne_eq_false_iff_eq, Bool.not_eq_true', Bool.not_eq_false', Bool.not_eq_true, ne_eq, Decidable.not_not] at c16
 refine PW.skip (hK3 _ _ (PW.k2 0 1 rfl ?_))
 refine PW.seq fun K4 hK4 => ?_
 refine PW.seqOps (OL.dp rfl (OL.dp rfl (OL.dp rfl (OL.nil (PW.k1 19 rfl ?_)))))
 refine PW.cond rfl (fun c19 => ?_) (fun c19 => ?_)
 ·try simp only [decide_eq_true_eq, decide_eq_false_iff_not, beq_iff_eq, bne_iff_ne, beq_eq_false_iff_ne, bne_eq_false_iff_eq, Bool.not_eq_true', Bool.not_eq_false', Bool.not_eq_true, ne_eq, Decidable.not_not] at c19
  refine PW.seqOps (OL.dp rfl (OL.nil (PW.k1 4 rfl (PW.ret ?_))))
  change (Exit.ret = Exit.normal ∨ Exit.ret = Exit.ret) /\ ∃ v, resV _ _ = some v /\ _
  exact ⟨.inr rfl, _, rfl, by unfold cmpI; rw [if_neg (by omega), if_pos (by omega)], rfl⟩
 try simp only [decide_eq_true_eq, decide_eq_false_iff_not, beq_iff_eq, bne_iff_ne, beq_eq_false_iff_ne, bne_eq_false_iff_eq, Bool.not_eq_true', Bool.not_eq_false', Bool.not_eq_true, ne_eq, Decidable.not_not] at c19
 refine PW.skip (hK4 _ _ (PW.keep (T' := []) trivial (PW.seqOps (OL.dp rfl (OL.nil (PW.k1 4 rfl (PW.ret ?_)))))))
 change (Exit.ret = Exit.normal ∨ Exit.ret = Exit.ret) /\ ∃ v, resV _ _ = some v /\ _
 exact ⟨.inr rfl, _, rfl, by unfold cmpI; rw [if_neg (by omega), if_neg (by omega)], rfl⟩
def el2 (x y : Int) (k : Nat) : Int := if k = 0 then x else y
theorem el_at {w0 : World} {S : SS} {a : Addr} {x y : Int} (h : Rd w0 S (some a) [.int .i64 x, .int .i64 y]) {k : Nat} (hk : k < 2) : Cell w0 S (a.add k) (.int .i64 (el2 x y k)) := by
 refine h.at ?_
 rcases k with _ | _ | k
 ·rfl
 ·rfl
 omega
theorem or_fc {w0 : World} {S : SS} {a : Addr} {cap : Nat} {x y : Int} (hx : Rd w0 S (some a) [.int .i64 x, .int .i64 y]) : FC Tryz.prog w0 62 [.slice (some a) 2 cap] S (fun v S' => v = .int .i64 (if x ≠ 0 then x else y) /\ S' = S) := by
 refine FC.of Tryz.known62 (by simp) ?_
 unfold Tryz.pc62
 simp only [argT]
 refine PW.seqOps (OL.dp rfl (OL.nil (PW.k1 0 rfl (PW.seqOps (OL.dp rfl (OL.nil (PW.k2 0 3 rfl ?_)))))))
 refine PW.seq fun K1 hK1 => ?_
 refine PW.seqOps (OL.dp rfl (OL.dp rfl (OL.dp rfl (OL.nil (PW.k4 3 6 7 8 rfl (PW.block (PW.k4 3 6 7 8 rfl ?_)))))))
 refine PW.loopK (I := fun m T S' => ∃ (k : Nat), (k <= 2 /\ m = 2 - k /\ (1 <= k -> x = 0) /\ (2 <= k -> y = 0)) /\ T = ([(3, .int .i64 0), (6, .slice (some a) 2 cap), (7, .int .i64 2), (8, .int .i64 k)] : TT) /\ S' = S) (m := 2) ⟨0, ⟨by omega, by omega, fun h => by omega, fun h => by omega⟩, rfl, rfl⟩ ?_
 rintro m _ _ ⟨k, ⟨hk, hm, h0, h1⟩, rfl, rfl⟩
 refine PW.seqOps (OL.dp rfl (OL.nil (PW.k5 3 6 7 8 9 rfl ?_)))
 refine PW.seq fun K2 hK2 => ?_
 refine PW.cond rfl (fun c9 => ?_) (fun c9 => ?_)
 ·try simp only [decide_eq_true_eq, decide_eq_false_iff_not, beq_iff_eq, bne_iff_ne, beq_eq_false_iff_ne, bne_eq_false_iff_eq, Bool.not_eq_true', Bool.not_eq_false', Bool.not_eq_true, ne_eq, Decidable.not_not] at c9
  have hkl : k < 2 := by omega
  refine PW.skip (hK2 _ _ (PW.k4 3 6 7 8 rfl ?_))
  refine PW.seq fun K3 hK3 => ?_
  refine PW.block (PW.seqOps ?_)
  refine OL.det trivial (.ixN1 rfl rfl rfl (by omega)) ?_
  refine OL.det trivial (.ld rfl (el_at hx hkl)) (OL.dp rfl (OL.nil (PW.k5 3 5 6 7 8 rfl (PW.seqOps (OL.dp rfl (OL.dp rfl (OL.dp rfl (OL.nil (PW.k6 3 5 6 7 8 14 rfl ?_)))))))))
  refine PW.cond rfl (fun c14 => ?_) (fun c14 => ?_)
  ·try simp only [decide_eq_true_eq, decide_eq_false_iff_not, beq_iff_eq, bne_iff_ne, beq_eq_false_iff_ne, bne_eq_false_iff_eq, Bool.not_eq_true', Bool.not_eq_false', Bool.not_eq_true, ne_eq, Decidable.not_not] at c14
   refine PW.seqOps (OL.dp rfl (OL.dp rfl (OL.nil (PW.k1 2 rfl (PW.ret ?_)))))
   change (Exit.ret = Exit.normal ∨ Exit.ret = Exit.ret) /\ ∃ v, resV _ _ = some v /\ _
   refine ⟨.inr rfl, _, rfl, ?_, rfl⟩
   rcases k with _ | _ | k
   ·have e : el2 x y 0 = x := rfl
    rw [e] at c14 ⊢
    rw [if_pos c14]
   ·have e : el2 x y (0 + 1) = y := rfl
    rw [e]
    rw [if_neg (by have := h0 (by omega); omega)]
   omega
  try simp only [decide_eq_true_eq, decide_eq_false_iff_not, beq_iff_eq, bne_iff_ne, beq_eq_false_iff_ne, bne_eq_false_iff_eq, Bool.not_eq_true', Bool.not_eq_false', Bool.not_eq_true, ne_eq, Decidable.not_not] at c14
  refine PW.skip (hK3 _ _ (PW.k4 3 6 7 8 rfl (PW.ops ?_)))
  refine OL.det trivial (.add64 rfl rfl (by omega) (by omega)) ?_
  refine OL.dp rfl (OL.nil ?_)
  repeat rw [inBlk_n]
  try rw [thenK_n]
  refine LoopEnd.mk (T'' := [(3, _), (6, _), (7, _), (8, _)]) (wi rfl) ?_
  refine ⟨2 - (k + 1), by omega, k + 1, ⟨by omega, rfl, fun h => ?_, fun h => ?_⟩, rfl, rfl⟩
  ·rcases k with _ | k
   ·have e : el2 x y 0 = x := rfl
    omega
   exact h0 (by omega)
  obtain rfl : k = 1 := by omega
  have e : el2 x y 1 = y := rfl
  omega
 try simp only [decide_eq_true_eq, decide_eq_false_iff_not, beq_iff_eq, bne_iff_ne, beq_eq_false_iff_ne, bne_eq_false_iff_eq, Bool.not_eq_true', Bool.not_eq_false', Bool.not_eq_true, ne_eq, Decidable.not_not] at c9
 refine PW.exit (hK1 _ _ (PW.k1 3 rfl (PW.seqOps (OL.dp rfl (OL.dp rfl (OL.nil (PW.k1 2 rfl (PW.ret ?_))))))))
 change (Exit.ret = Exit.normal ∨ Exit.ret = Exit.ret) /\ ∃ v, resV _ _ = some v /\ _
 exact ⟨.inr rfl, _, rfl, by rw [if_neg (by have := h0 (by omega); omega)]; congr 1; exact (h1 (by omega)).symm, rfl⟩
theorem order_l {w0 : World} {S : SS} {a b : LabB} : FC Tryz.prog w0 44 [labB a, labB b] S (fun v S' => v = .int .i64 (orZ a b) /\ S' = S) := by
 refine FC.ofD Tryz.known44 (by simp) ?_
 unfold Tryz.pc44
 simp only [argT]
 refine PW.seqOps (OL.cons trivial (OW.bx rfl) ?_)
 rintro _ _ ⟨r2, rfl, rfl⟩
 change OL _ _ _ _ _ (lseg r2 a :: S) _
 refine OL.cons trivial (OW.bx rfl) ?_
 rintro _ _ ⟨r3, rfl, rfl⟩
 change OL _ _ _ _ _ (lseg r3 b :: lseg r2 a :: S) _
 refine OL.dp rfl (OL.nil (PW.k2 2 3 rfl ?_))
 refine PW.seq fun K1 hK1 => ?_
 refine PW.quietK Tryz.mixed (QK.dp rfl ?_)
 refine QK.det trivial (.ld rfl (own_at (j := 0) (c := [.int .i64 a.1, .int .u64 (a.2.toNat : Int)]) (E := 34) (tot := 2) (by simp) rfl)) ?_
 refine QK.dp rfl ?_
 refine QK.det trivial (.ld rfl (own_at (j := 0) (c := [.int .i64 b.1, .int .u64 (b.2.toNat : Int)]) (E := 34) (tot := 2) (by simp) rfl)) ?_
 refine QK.call trivial rfl (cmp_i64) (QK.dp rfl ?_)
 refine QK.det trivial (.ld rfl (own_at (j := 1) (c := [.int .i64 a.1, .int .u64 (a.2.toNat : Int)]) (E := 34) (tot := 2) (by simp) rfl)) ?_
 refine QK.dp rfl ?_
 refine QK.det trivial (.ld rfl (own_at (j := 1) (c := [.int .i64 b.1, .int .u64 (b.2.toNat : Int)]) (E := 34) (tot := 2) (by simp) rfl)) ?_
 refine QK.nil ?_
 change OL _ _ _ [_, _, _, _] _ _ _
 refine OL.call trivial rfl (cmp_u64) ?_
 rintro _ Sx ⟨rfl, hSx⟩
 rw [hSx]
 clear hSx
 refine OL.cons trivial (OW.bsl rfl) ?_
 rintro _ _ ⟨r15, rfl, rfl⟩
 change OL _ _ _ _ _ ([(r15, .cells [.int .i64 (cmpI a.1 b.1), .int .i64 (cmpI (a.2.toNat : Int) (b.2.toNat : Int))] 3 2)] :: lseg r3 b :: lseg r2 a :: S) _
 refine OL.call trivial rfl (or_fc (x := cmpI a.1 b.1) (y := cmpI (a.2.toNat : Int) (b.2.toNat : Int)) (Rd.own (E := 3) (tot := 2) (by simp))) ?_
 rintro _ Sx ⟨rfl, hSx⟩
 rw [hSx]
 clear hSx
 refine OL.dp rfl (OL.nil (hK1 _ _ (PW.k1 4 rfl (PW.ret ?_))))
 change (Exit.ret = Exit.normal ∨ Exit.ret = Exit.ret) /\ ∃ v, resV _ _ = some v /\ _
 exact ⟨.inr rfl, _, rfl, _, Sub.drop (Sub.drop (Sub.drop (Sub.refl _))), rfl, rfl⟩
end Go.Proofs.Lb

namespace Go.SL
open Go.RowKit
theorem grow_of {w w' : World} (h : Below w.heap.size w w') (hd : w.drawn <= w'.drawn) : ∃ q os', w' = Go.Sort.grow (w.drewN q) os' := by
 refine ⟨w'.drawn - w.drawn, w'.heap.extract w.heap.size w'.heap.size, ?_⟩
 have e : w'.heap = w.heap ++ w'.heap.extract w.heap.size w'.heap.size := by
  apply Array.ext_getElem?
  intro i
  rw [Array.getElem?_append]
  split
  ·rename_i hi; exact h.block i hi
  rename_i hi
  rw [Array.getElem?_extract]
  have := h.size
  split
  ·congr 1; omega
  rw [Array.getElem?_eq_none (by omega)]
 obtain ⟨heap, tape, drawn, os, output⟩ := w
 obtain ⟨heap', tape', drawn', os', output'⟩ := w'
 obtain ⟨h1, h2, h3, h4, h5⟩ := h
 simp only at *
 subst h1 h2 h3
 simp only [Go.Sort.grow, World.drewN, World.mk.injEq, true_and, and_true]
 exact ⟨e, by omega⟩
section
variable {α : Type} [Inhabited α]
theorem flat_get {enc : α -> List Value} {k : Nat} (hk : ∀ x, (enc x).length = k) : ∀ (l : List α) (t : Nat), t < l.length * k -> (l.flatMap enc)[t]? = (enc l[t / k]!)[t % k]?
 | [], t, h => by simp at h
 | x :: l, t, h => by
  have h' : t < l.length * k + k := by simpa [Nat.add_mul] using h
  have k0 : 0 < k := by exact Nat.pos_of_ne_zero fun e => by subst e; simp at h
  rw [List.flatMap_cons]
  rcases Nat.lt_or_ge t k with a | a
  ·rw [List.getElem?_append_left (by rw [hk]; exact a), Nat.div_eq_of_lt a, Nat.mod_eq_of_lt a]; simp
  obtain ⟨u, rfl⟩ : ∃ u, t = u + k := ⟨t - k, by omega⟩
  rw [List.getElem?_append_right (by rw [hk]; omega), hk, Nat.add_sub_cancel, flat_get hk l u (by omega), Nat.add_div_right _ k0, Nat.add_mod_right]
  simp
theorem flatK_list {enc : α -> List Value} {k : Nat} (hk : ∀ x, (enc x).length = k) (d : Array α) : (Go.Sort.flatK enc k d).toList = d.toList.flatMap enc := by
 apply List.ext_getElem?
 intro t
 by_cases ht : t < d.size * k
 ·have k0 : 0 < k := by exact Nat.pos_of_ne_zero fun e => by subst e; simp at ht
  rw [flat_get hk _ _ (by simpa using ht)]
  have h1 := Go.Sort.get_flatK enc k d t ht
  have hs : t < (Go.Sort.flatK enc k d).size := by simpa using ht
  have hm : t % k < (enc d[t / k]!).length := by rw [hk]; exact Nat.mod_lt _ k0
  rw [getElem!_pos (Go.Sort.flatK enc k d) t hs, getElem!_pos (enc d[t / k]!) (t % k) hm] at h1
  have e2 : d.toList[t / k]! = d[t / k]! := by
   have : t / k < d.size := Nat.div_lt_of_lt_mul (by rwa [Nat.mul_comm] at ht)
   rw [getElem!_pos d.toList _ (by simpa using this), getElem!_pos d _ this]; simp
  rw [e2, List.getElem?_eq_getElem hm, <- h1]
  simp [hs]
 rw [List.getElem?_eq_none (by simp; omega), List.getElem?_eq_none]
 rw [List.length_flatMap, show (List.map (fun a => (enc a).length) d.toList) = List.replicate d.size k from by simp only [hk]; rw [List.map_const']; simp]
 simp; omega
theorem Rep.sorted {w0 w : World} {S : SS} {k E sz blk cap n : Nat} {os : Array Obj} {enc : α -> List Value} (hk : ∀ x, (enc x).length = sz) {d d' : Array α} (h : Rep w0 S w) (hs : S[k]? = some [(blk, .cells (d.toList.flatMap enc) E (cap * sz))]) (hd : d'.size = d.size)
  (hc : d.size <= cap) : Rep w0 (S.set k [(blk, .cells (d'.toList.flatMap enc) E (cap * sz))]) (Go.Proofs.sortWorldK enc sz w blk 0 n d' os) := by
 obtain ⟨hge, C, hC, htot, hpre⟩ := h.own (blk, .cells (d.toList.flatMap enc) E (cap * sz)) (List.mem_flatten.2 ⟨_, List.mem_of_getElem? hs, by simp⟩)
 have hlt : blk < w.heap.size := h.lt (List.mem_flatten.2 ⟨_, List.mem_of_getElem? hs, List.mem_singleton.2 rfl⟩)
 have hheap : ∀ i, i < w.heap.size -> i ≠ blk -> (Go.Proofs.sortWorldK enc sz w blk 0 n d' os).heap[i]? = w.heap[i]? := by
  intro i hi hne
  show (w.heap.modify blk _ ++ os)[i]? = _
  rw [Array.getElem?_append, if_pos (by simpa using hi), Array.getElem?_modify, if_neg (Ne.symm hne)]
 have hnew : (Go.Proofs.sortWorldK enc sz w blk 0 n d' os).heap[blk]? = some (.cells (Go.Sort.putCells id 0 (Go.Sort.flatK enc sz d') C) E (0, 0)) := by
  show (w.heap.modify blk _ ++ os)[blk]? = _
  rw [Array.getElem?_append, if_pos (by simpa using hlt), Array.getElem?_modify, if_pos rfl, hC]
  rfl
 refine h.replace hs ?_ (fun i hi hne => hheap i hi (by simpa using hne)) (by simp) ?_ (Nat.le_add_right _ _)
 ·refine ⟨rfl, rfl, rfl, ?_, fun i hi => hheap i (by omega) (by omega)⟩
  show _ <= (w.heap.modify blk _ ++ os).size
  simp
 intro p hp
 simp only [List.mem_singleton] at hp
 subst hp
 refine ⟨hge, ⟨_, hnew, ?_, ?_⟩, .inl (by simp)⟩
 ·rw [<- htot]; simp [Go.Sort.putCells]
 have hsz : (d'.toList.flatMap enc).length = d.size * sz := by
  rw [<- flatK_list hk, Array.length_toList, Go.Sort.size_flatK, hd]
 have hcs : d.size * sz <= C.size := by rw [htot]; exact Nat.mul_le_mul_right _ hc
 rw [hsz, <- flatK_list hk]
 apply List.ext_getElem?
 intro t
 rw [List.getElem?_take]
 split
 ·rename_i ht
  have hF : t < (Go.Sort.flatK enc sz d').size := by simpa [hd] using ht
  have hF' : t < d'.size * sz := by simpa using hF
  rw [Array.getElem?_toList, Array.getElem?_toList]
  simp only [Go.Sort.putCells, Array.getElem?_mapIdx]
  rw [Array.getElem?_eq_getElem (by omega : t < C.size), Array.getElem?_eq_getElem hF]
  simp [getElem!_pos (Go.Sort.flatK enc sz d') t hF, hF']
 rename_i ht
 rw [List.getElem?_eq_none (by simp [hd]; omega)]
end
end Go.SL

namespace Go.Proofs
open Go.Shelf Go.RowKit Go.Lib Go.Sort
def Tryz.sortL_ren : Go.Shelf.Ren := ⟨fun | 6 => 43 | 15 => 61 | 14 => 60 | 28 => 85 | 29 => 86 | 20 => 77 | 21 => 78 | 22 => 79 | 23 => 80 | 24 => 81 | 25 => 82 | 26 => 83 | 27 => 84 | 46 => 100 | 47 => 101 | 48 => 102 | 49 => 103 | 50 => 104 | 57 => 112 | n => n, fun | 22 => 38 | 24 => 34 | 25 => 66 | 3 => 3 | 39 => 83 | 0 => 0 | 53 => 101 | 55 => 32 | 4 => 4 | 46 => 94 | 45 => 93 | 50 => 98 | 5 => 5 | 9 => 9 | 66 => 118 | 70 => 122 | 76 => 130 | 77 => 131 | n => n, fun | n => n⟩
theorem Tryz.sortL : Go.Proofs.SlLaysF0.n6 Tryz.prog Tryz.sortL_ren := {
 mixed := by kernel_rfl
 f6 := ⟨Tryz.f43.name, by decide, Tryz.func43.trans (congrArg some (by kernel_rfl))⟩
 f14 := ⟨Tryz.f60.name, by decide, Tryz.func60.trans (congrArg some (by kernel_rfl))⟩
 f15 := Tryz.func61.trans (congrArg some (by kernel_rfl))
 f20 := ⟨Tryz.f77.name, by decide, Tryz.func77.trans (congrArg some (by kernel_rfl))⟩
 f21 := ⟨Tryz.f78.name, by decide, Tryz.func78.trans (congrArg some (by kernel_rfl))⟩
 f22 := ⟨Tryz.f79.name, by decide, Tryz.func79.trans (congrArg some (by kernel_rfl))⟩
 f23 := ⟨Tryz.f80.name, by decide, Tryz.func80.trans (congrArg some (by kernel_rfl))⟩
 f24 := ⟨Tryz.f81.name, by decide, Tryz.func81.trans (congrArg some (by kernel_rfl))⟩
 f25 := ⟨Tryz.f82.name, by decide, Tryz.func82.trans (congrArg some (by kernel_rfl))⟩
 f26 := ⟨Tryz.f83.name, by decide, Tryz.func83.trans (congrArg some (by kernel_rfl))⟩
 f27 := ⟨Tryz.f84.name, by decide, Tryz.func84.trans (congrArg some (by kernel_rfl))⟩
 f28 := Tryz.func85.trans (congrArg some (by kernel_rfl))
 f29 := Tryz.func86.trans (congrArg some (by kernel_rfl))
 f46 := ⟨Tryz.f100.name, by decide, Tryz.func100.trans (congrArg some (by kernel_rfl))⟩
 f47 := Tryz.func101.trans (congrArg some (by kernel_rfl))
 f48 := Tryz.func102.trans (congrArg some (by kernel_rfl))
 f49 := ⟨Tryz.f103.name, by decide, Tryz.func103.trans (congrArg some (by kernel_rfl))⟩
 f50 := ⟨Tryz.f104.name, by decide, Tryz.func104.trans (congrArg some (by kernel_rfl))⟩
 f57 := ⟨Tryz.f112.name, by decide, Tryz.func112.trans (congrArg some (by kernel_rfl))⟩
 t0 := Tryz.underlying0
 a0 := Tryz.isAgg0
 z0 := Tryz.sizeOf0
 v0 := Tryz.zeroValue0
 t3 := Tryz.underlying3
 a3 := Tryz.isAgg3
 z3 := Tryz.sizeOf3
 v3 := Tryz.zeroValue3
 t4 := Tryz.underlying4
 a4 := Tryz.isAgg4
 z4 := Tryz.sizeOf4
 v4 := Tryz.zeroValue4
 t5 := Tryz.underlying5
 a5 := Tryz.isAgg5
 z5 := Tryz.sizeOf5
 v5 := Tryz.zeroValue5
 t9 := Tryz.underlying9
 a9 := Tryz.isAgg9
 z9 := Tryz.sizeOf9
 v9 := Tryz.zeroValue9
 t22 := Tryz.underlying38
 a22 := Tryz.isAgg38
 z22 := Tryz.sizeOf38
 v22 := Tryz.zeroValue38
 t25 := Tryz.underlying66
 a25 := Tryz.isAgg66
 z25 := Tryz.sizeOf66
 v25 := Tryz.zeroValue66
 t39 := Tryz.underlying83
 a39 := Tryz.isAgg83
 z39 := Tryz.sizeOf83
 v39 := Tryz.zeroValue83
 t45 := Tryz.underlying93
 a45 := Tryz.isAgg93
 z45 := Tryz.sizeOf93
 v45 := Tryz.zeroValue93
 t46 := Tryz.underlying94
 a46 := Tryz.isAgg94
 z46 := Tryz.sizeOf94
 v46 := Tryz.zeroValue94
 t50 := Tryz.underlying98
 a50 := Tryz.isAgg98
 z50 := Tryz.sizeOf98
 v50 := Tryz.zeroValue98
 t53 := Tryz.underlying101
 a53 := Tryz.isAgg101
 z53 := Tryz.sizeOf101
 v53 := Tryz.zeroValue101
 t55 := Tryz.underlying32
 a55 := Tryz.isAgg32
 z55 := Tryz.sizeOf32
 v55 := Tryz.zeroValue32
 t66 := Tryz.underlying118
 a66 := Tryz.isAgg118
 z66 := Tryz.sizeOf118
 v66 := Tryz.zeroValue118
 t70 := Tryz.underlying122
 a70 := Tryz.isAgg122
 z70 := Tryz.sizeOf122
 v70 := Tryz.zeroValue122
 t76 := Tryz.underlying130
 a76 := Tryz.isAgg130
 z76 := Tryz.sizeOf130
 v76 := Tryz.zeroValue130
 t77 := Tryz.underlying131
 a77 := Tryz.isAgg131
 z77 := Tryz.sizeOf131
 v77 := Tryz.zeroValue131 }
end Go.Proofs
namespace Go.Proofs.Lb
open Go.SL Go.RowKit Go.Sort Go.Proofs
def labC (a : LabB) : List Value := [.int .i64 a.1, .int .u64 (a.2.toNat : Int)]
def sortL (l : List LabB) : List LabB := l.mergeSort fun x y => !(ltOf orZ) y x
theorem ltOf_orZ (a b : LabB) : ltOf orZ a b = decide (a.1 < b.1 ∨ (a.1 = b.1 /\ a.2.toNat < b.2.toNat)) := by
 unfold ltOf orZ cmpI
 rw [decide_eq_decide]
 repeat' split
 all_goals omega
theorem orZ_swo : SWO (ltOf orZ) where
 irrefl x := by rw [ltOf_orZ]; simp
 trans x y z h1 h2 := by rw [ltOf_orZ, decide_eq_true_eq] at *; omega
 ntrans x y z h1 h2 := by rw [ltOf_orZ, decide_eq_false_iff_not] at *; omega
theorem orZ_tot (x y : LabB) (h1 : ltOf orZ x y = false) (h2 : ltOf orZ y x = false) : x = y := by
 rw [ltOf_orZ, decide_eq_false_iff_not] at h1 h2
 exact Prod.ext (by omega) (BitVec.eq_of_toNat_eq (by omega))
theorem labC_len (x : LabB) : (labC x).length = 2 := rfl
theorem order_lays (blk off size : Nat) (w : World) : CmpLays Tryz.prog 44 #[] labC 2 orZ blk off size w := by
 intro m os dk hs x y
 refine (order_l (a := x) (b := y) (S := []) _ (Rep.start _)).mono ?_
 rintro e w' ⟨u, S', rfl, hr, rfl, rfl⟩
 refine ⟨rfl, grow_of hr.below (hr.drawn.resolve_left ?_)⟩
 unfold Loose
 exact id
theorem sort_fc {w0 : World} {S : SS} {k : Nat} {v : Value} {seg : Seg} {l : List LabB} (hs : S[k]? = some seg) (hv : SlV 34 2 v l.length (l.flatMap labC) seg) (hm : l.length < 4611686018427387904) :
  FC Tryz.prog w0 43 [v, .func (.func 44) #[] #[]] S (fun u S' => u = .tuple #[] /\ ∃ seg', SlV 34 2 v l.length ((sortL l).flatMap labC) seg' /\ S' = S.set k seg') := by
 intro w hr
 obtain ⟨hl, ⟨rfl, h0, rfl⟩ | ⟨r, cap, rfl, rfl, h1, h2⟩⟩ := hv
 ·obtain rfl : l = [] := List.length_eq_zero_iff.1 h0
  refine (AnyF.slices_SortFunc_none Tryz.sortL none 0 _ w).mono ?_
  rintro e w' ⟨rfl, rfl⟩
  have e0 : sortL [] = [] := by simp [sortL]
  rw [e0]
  refine ⟨_, S, rfl, hr, rfl, [], SlV.nil 34 2, ?_⟩
  apply List.ext_getElem?
  intro i
  rw [List.getElem?_set]
  split
  ·rename_i h; subst h; rw [hs]; split
   ·rfl
   rename_i h; rw [List.getElem?_eq_none (by omega)] at hs; cases hs
  rfl
 have hlt : r < w.heap.size := hr.lt (List.mem_flatten.2 ⟨_, List.mem_of_getElem? hs, List.mem_singleton.2 rfl⟩)
 obtain ⟨hge, C, hC, htot, hpre⟩ := hr.own (r, .cells (l.flatMap labC) 34 (cap * 2)) (List.mem_flatten.2 ⟨_, List.mem_of_getElem? hs, by simp⟩)
 have hH : HoldsK labC 2 w r 0 l.toArray := by
  intro j hj
  have hj' : j < l.length * 2 := by simpa using hj
  have e1 : (flatK labC 2 l.toArray)[j]? = C[j]? := by
   have := congrArg (·[j]?) hpre
   simp only [List.getElem?_take, Array.getElem?_toList] at this
   rw [if_pos (by rw [hl]; exact hj')] at this
   rw [this, <- Array.getElem?_toList, flatK_list labC_len]
  rw [Array.getElem?_eq_getElem hj] at e1
  constructor
  ·simp only [World.cell?, hC, Nat.zero_add]
   rw [getElem!_pos _ j hj]
   exact e1.symm
  simp [World.frozen?, hC]
 have hcon := AnyQ.slices_SortFunc_total Tryz.sortL 2 Tryz.isAgg34 Tryz.sizeOf34 labC labC_len (fun x v hv => by simp [labC] at hv; rcases hv with rfl | rfl <;> rfl) orZ orZ_swo 44 #[] r 0 cap l.toArray w
  (enters_of Tryz.func44 (by kernel_rfl) rfl) (order_lays r 0 _ w) hH hlt (by simpa using hm) orZ_tot
 rw [List.size_toArray] at hcon
 refine hcon.mono ?_
 rintro e w' ⟨rfl, n, os, rfl⟩
 have hlen : (sortL l).length = l.length := by simp [sortL]
 refine ⟨_, _, rfl, hr.sorted (d := l.toArray) (d' := (sortL l).toArray) labC_len (by simpa using hs) (by simp [hlen]) (by simpa using h1), rfl, [(r, .cells ((sortL l).flatMap labC) 34 (cap * 2))], ?_, by simp⟩
 have := SlV.mk' (E := 34) (r := r) (xs := (sortL l).flatMap labC) (sz := 2) (m := l.length) (cap := cap) (by rw [List.length_flatMap]; simp [labC_len, List.map_const', hlen]) h1 h2
 exact this
end Go.Proofs.Lb

namespace Go.SL
open Go.RowKit Go.ChangeShapes
section plain
variable {α β γ : Type} [DecidableEq α]
end plain
section
variable {P : Program} {w0 : World} {n : Nat} {T : TT} {S : SS}
variable {α β : Type} [DecidableEq α] {f : α -> Value} {g : β -> Value} {kt et t : TypeId} {ok : α -> Prop}
theorem mem_at {S : SS} {j b : Nat} {o : AO} (hk : S[j]? = some [(b, o)]) : (b, o) ∈ S.flatten := List.mem_flatten.2 ⟨_, List.mem_of_getElem? hk, List.mem_singleton.2 rfl⟩
theorem OW.mkG : OW P w0 n .mkM T S (fun v S' => ∃ r, v = .map (some r) /\ S' = [(r, .gm [])] :: S) := by
 intro op a w Q hco hs hr
 obtain ⟨t, ho⟩ := cOp_spec P hco
 have hrun : (execOp a.eval op).run P w = .ok (.value (.map (some w.heap.size))) (w.alloc (.map #[] 0)) := by
  simp [execOp, ho, Instr.makeMap, newObj, Sem.run]
 unfold Oper.wp
 rw [hrun]
 refine ⟨_, _, rfl, ?_, w.heap.size, rfl, rfl⟩
 refine hr.push (below_alloc hr _) (fun i hi => alloc_heap_lt w _ i hi) (by simp) ?_
 intro p hp
 simp only [List.mem_singleton] at hp
 subst hp
 exact ⟨⟨#[], 0, alloc_heap_new w _, by simp⟩, Nat.le_refl _⟩
theorem Rep.tell {w : World} {k b : Nat} {o o' : AO} (h : Rep w0 S w) (hk : S[k]? = some [(b, o)]) (ho : ∀ w, Owns w b o -> Owns w b o') : Rep w0 (S.set k [(b, o')]) w := by
 obtain ⟨hge, how⟩ := h.own (b, o) (mem_at hk)
 refine h.replace hk (Below.refl _ _) (fun _ _ _ => rfl) (by simp) (by
  intro p hp
  simp only [List.mem_singleton] at hp
  subst hp
  exact ⟨hge, ho _ how, .inl (by simp)⟩)
theorem OL.tell {l : List PI} {k b : Nat} {o o' : AO} {K : TT -> SS -> Prop} (hk : S[k]? = some [(b, o)]) (ho : ∀ w, Owns w b o -> Owns w b o') (h : OL P w0 n l T (S.set k [(b, o')]) K) : OL P w0 n l T S K :=
 fun ops is a w Q hc hs hr hq => h ops is a w Q hc hs (hr.tell hk ho) hq
theorem OW.xfW {k : FuncId} {args : List PV} {vs : List Value} {K : Value -> SS -> Prop} (hv : valsP T args = some vs) (h : ∀ w, Rep w0 S w -> ∃ v w' S', (callFunc k vs.toArray).run P w = .ok (.value v) w' /\ Rep w0 S' w' /\ K v S') :
  OW P w0 n (.more (.other (.xf k args))) T S K := by
 intro o a w Q hco hs hr
 obtain ⟨c, ho, hca, rfl⟩ := cOp_spec P hco
 have hargs : c.args.map a.eval = vs.toArray := by
  apply Array.toList_inj.1
  simpa using valsP_spec hs hv
 obtain ⟨v, w', S', h1, h2, h3⟩ := h w hr
 unfold Oper.wp
 have hrun : (execOp a.eval o).run P w = .ok (.value v) w' := by
  simp only [execOp, ho]
  simp [resolve, hca, Act.eval, Deferred.ofValue, invoke, hargs, h1]
 rw [hrun]
 exact ⟨v, S', rfl, h2, h3⟩
end
end Go.SL





namespace Go.Proofs.Lb
open Go.SL Go.RowKit Go.Proofs
set_option maxHeartbeats 1000000
def labs (l : List LabB) : List Value := l.flatMap labC
theorem labs_len (l : List LabB) : (labs l).length = l.length * 2 := by
 unfold labs
 rw [List.length_flatMap]
 simp [labC_len, List.map_const']
theorem labs_one (l : List LabB) : (labs l).all (·.oneCell') = true := by
 rw [List.all_eq_true]
 intro v hv
 obtain ⟨a, _, h⟩ := List.mem_flatMap.1 hv
 simp [labC] at h
 rcases h with rfl | rfl <;> rfl
theorem labs_get {l : List LabB} {k : Nat} (hk : k < l.length) {j : Nat} (hj : j < 2) : (labs l)[k * 2 + j]? = (labC l[k])[j]? := by
 unfold labs
 rw [flat_get labC_len l (k * 2 + j) (by omega), show (k * 2 + j) / 2 = k from by omega, show (k * 2 + j) % 2 = j from by omega, getElem!_pos l k hk]
theorem labs_at {w0 : World} {S : SS} {a : Addr} {l : List LabB} (h : Rd w0 S (some a) (labs l)) {k : Nat} (hk : k < l.length) :
  ∀ (j : Nat) (v : Value), [Value.int .i64 l[k].1, .int .u64 (l[k].2.toNat : Int)][j]? = some v -> Cell w0 S ((a.add (k * 2)).add j) v := by
 intro j v hj
 have hj2 : j < 2 := by have := (List.getElem?_eq_some_iff.1 hj).1; simpa using this
 rw [addr_add_add]
 exact h.at (by rw [labs_get hk hj2]; exact hj)
theorem labs_some {w0 : World} {S : SS} {A : Option Addr} {l : List LabB} (h : Rd w0 S A (labs l)) (hk : 0 < l.length) : ∃ a, A = some a :=
 h.some (fun e => by have := labs_len l; rw [e] at this; simp at this; omega)
theorem clone_fc {w0 : World} {S : SS} {A : Option Addr} {c : Nat} {l : List LabB} (hx : Rd w0 S A (labs l)) (hb : l.length <= 1000000000000) :
  FC Tryz.prog w0 42 [.slice A l.length c] S (fun v S' => ∃ seg, S' = seg :: S /\ SlV 34 2 v l.length (labs l) seg) := by
 refine FC.ofD Tryz.known42 (by simp) ?_
 unfold Tryz.pc42
 simp only [argT]
 refine PW.seqOps (OL.dp rfl (OL.nil (PW.k1 0 rfl ?_)))
 refine PW.seq fun K1 hK1 => ?_
 refine PW.seqOps (OL.dp rfl (OL.det trivial (Yields.slNil rfl) (OL.nil (PW.k2 0 4 rfl ?_))))
 refine PW.cond rfl (fun c4 => ?_) (fun c4 => ?_)
 ·try simp only [decide_eq_true_eq, decide_eq_false_iff_not, beq_iff_eq, bne_iff_ne, beq_eq_false_iff_ne, bne_eq_false_iff_eq, Bool.not_eq_true', Bool.not_eq_false', Bool.not_eq_true, ne_eq, Decidable.not_not] at c4
  refine PW.seqOps (OL.dp rfl (OL.nil (PW.k1 2 rfl (PW.ret ?_))))
  change (Exit.ret = Exit.normal ∨ Exit.ret = Exit.ret) /\ ∃ v, resV _ _ = some v /\ _
  obtain rfl : A = none := by cases A with
   | none => rfl
   | some a => simp at c4
  have hl : l = [] := by
   cases l with
   | nil => rfl
   | cons x l => obtain ⟨a, e⟩ := labs_some hx (by simp); cases e
  subst hl
  exact ⟨.inr rfl, _, rfl, _, Sub.nilL (Sub.refl _), [], rfl, SlV.nil 34 2⟩
 try simp only [decide_eq_true_eq, decide_eq_false_iff_not, beq_iff_eq, bne_iff_ne, beq_eq_false_iff_ne, bne_eq_false_iff_eq, Bool.not_eq_true', Bool.not_eq_false', Bool.not_eq_true, ne_eq, Decidable.not_not] at c4
 refine PW.skip (hK1 _ _ (PW.k1 0 rfl (PW.seqOps (OL.cons trivial OW.bsl0 ?_))))
 rintro _ _ ⟨r5, rfl, rfl⟩
 refine OL.dp rfl ?_
 obtain ⟨a0, rfl⟩ : ∃ a, A = some a := by cases A with
  | none => simp at c4
  | some a => exact ⟨a, rfl⟩
 refine OL.cons trivial (OW.app (k := 0) (m := 0) (xs := []) rfl rfl (SlV.mk' (cap := 0) rfl (Nat.le_refl 0) (by decide)) rfl (labs_len l) (fun j u hj => hx.cons.at hj) (labs_one l) (by omega) (by unfold maxLen; omega)) ?_
 rintro v7 _ ⟨seg7, rfl, hsl7⟩
 change OL _ _ _ _ _ (seg7 :: S) _
 rw [Nat.zero_add, List.nil_append] at hsl7
 refine OL.dp rfl (OL.nil (PW.k1 2 rfl (PW.ret ?_)))
 change (Exit.ret = Exit.normal ∨ Exit.ret = Exit.ret) /\ ∃ v, resV _ _ = some v /\ _
 exact ⟨.inr rfl, _, rfl, _, Sub.refl _, _, rfl, hsl7⟩
end Go.Proofs.Lb

namespace Go.SL
open Go.RowKit
section
variable {P : Program} {w0 : World} {n : Nat} {T : TT} {S : SS}
def madeL (z : List Value) (n : Nat) : List Value := (List.range n).map fun i => z.getD (i % z.length) undef
theorem zeroCells_eq {z : Array Value} (h : 0 < z.size) (k : Nat) : (Builtin.zeroCells z k).toList = madeL z.toList (k * z.size) := by
 simp only [Builtin.zeroCells, madeL, Array.toList_map, Array.toList_range]
 apply List.map_congr_left
 intro i _
 have : i % z.size < z.size := Nat.mod_lt _ h
 rw [getElem!_pos z (i % z.size) this]
 simp [List.getD_eq_getElem?_getD, this]
theorem OW.clr {E E' sz b o l cp tot k : Nat} {z : Value} {x : PV} {c news : List Value} (hx : x.val T = some (.slice (some ⟨b, o, none⟩) l cp)) (hk : S[k]? = some [(b, .cells c E' tot)]) (hl : 0 < l) (hz : 0 < z.cells.size)
  (hn : news = madeL z.cells.toList (l * z.cells.size)) (hb : o + news.length <= c.length) (h1 : news.all (·.oneCell') = true) :
  OW P w0 n (.more (.clr E sz z x)) T S (fun v S' => v = .tuple #[] /\ S' = S.set k [(b, .cells (setAt c o news) E' tot)]) := by
 intro op a w Q hco hs hr
 obtain ⟨t, y, cl, i, ho, hca, hat, har, rfl, hu, hi, hiz, hsz, hzs, hs0⟩ := cOp_spec P hco
 obtain ⟨hge, C, hC, htot, hpre⟩ := hr.own (b, .cells c E' tot) (List.mem_flatten.2 ⟨_, List.mem_of_getElem? hk, by simp⟩)
 simp only at hge hC
 have hlen : c.length <= C.size := by
  have := congrArg List.length hpre
  simp at this
  omega
 have hst := run_storeCells_at P b o E' news 0 C w hC (by omega) (fun v hv => (List.all_eq_true.1 h1) v hv)
 simp only [Nat.add_zero] at hst
 unfold Oper.wp
 have hrun : (execOp a.eval op).run P w = .ok (.value (.tuple #[])) (w.setRow b (C.toList.take o ++ news ++ C.toList.drop (o + news.length)).toArray) := by
  simp only [execOp, ho, resolve, hca, invoke, builtin, hat, har]
  obtain ⟨l', rfl⟩ : ∃ l', l = l' + 1 := ⟨l - 1, by omega⟩
  simp [Builtin.clear_, hs.eval hx, run_underlying hu, zeroValue, typeInfo, program, Sem.run, hi, hiz, zeroCells_eq hz, <- hn, hst]
 rw [hrun]
 refine ⟨_, _, rfl, ?_, rfl, rfl⟩
 have hheap := setRow_heap w b C (C.toList.take o ++ news ++ C.toList.drop (o + news.length)).toArray E' (0, 0) hC
 refine hr.replace hk (below_setRow w b _ hge) (fun i _ hne => setRow_heap_other w b i _ (by simpa using hne)) (by simp) ?_
 intro p hp
 simp only [List.mem_singleton] at hp
 subst hp
 refine ⟨hge, ⟨_, hheap, ?_, ?_⟩, .inl (by simp)⟩
 ·simp only [List.size_toArray, List.length_append, List.length_take, List.length_drop, Array.length_toList]; omega
 rw [setAt_length, setAt_eq c o _ (by omega)]
 have := take_lay C.toList o news c.length (by omega) (by simp; omega)
 simp only at this ⊢
 rw [hpre] at this
 simpa using this
end
end Go.SL

namespace Go.Proofs.Lb
open Go.SL Go.RowKit Go.Proofs
set_option maxHeartbeats 1000000
def ddS (acc : List LabB) (x : LabB) : List LabB := if acc.getLast? = some x then acc else acc ++ [x]
def dd (l : List LabB) : List LabB := l.foldl ddS []
theorem dd_snoc (l : List LabB) (a : LabB) : dd (l ++ [a]) = if (dd l).getLast? = some a then dd l else dd l ++ [a] := by
 unfold dd; rw [List.foldl_append]; rfl
theorem dd_take {l : List LabB} {k : Nat} (hk : k < l.length) : dd (l.take (k + 1)) = if (dd (l.take k)).getLast? = some l[k] then dd (l.take k) else dd (l.take k) ++ [l[k]] := by
 rw [List.take_add_one, List.getElem?_eq_getElem hk, <- dd_snoc]; rfl
theorem dd_last {l : List LabB} {k : Nat} (hk : k < l.length) : (dd (l.take (k + 1))).getLast? = some l[k] := by
 rw [dd_take hk]
 split
 ·assumption
 simp
theorem dd_len : ∀ {l : List LabB} (k : Nat), k <= l.length -> (dd (l.take k)).length <= k
 | l, 0, _ => by simp [dd]
 | l, k + 1, h => by
  rw [dd_take (by omega)]
  have := dd_len (l := l) k (by omega)
  split <;> simp <;> omega
theorem dd_step {l : List LabB} {k : Nat} (h0 : 0 < k) (hk : k < l.length) : dd (l.take (k + 1)) = if l[k] = l[k - 1] then dd (l.take k) else dd (l.take k) ++ [l[k]] := by
 obtain ⟨j, rfl⟩ : ∃ j, k = j + 1 := ⟨k - 1, by omega⟩
 rw [dd_take hk, dd_last (by omega)]
 simp only [Option.some.injEq, Nat.add_sub_cancel]
 by_cases h : l[j] = l[j + 1]
 ·rw [if_pos h, if_pos h.symm]
 rw [if_neg h, if_neg (Ne.symm h)]
theorem labs_set {X : List LabB} {i : Nat} (hi : i < X.length) (a : LabB) : setAt (labs X) (i * 2) [.int .i64 a.1, .int .u64 (a.2.toNat : Int)] = labs (X.set i a) := by
 rw [setAt_eq _ _ _ (by rw [labs_len]; simp; omega)]
 have e : X.set i a = X.take i ++ a :: X.drop (i + 1) := by rw [List.set_eq_take_append_cons_drop, if_pos hi]
 have e1 : ∀ j, j <= X.length -> (labs X).take (j * 2) = labs (X.take j) /\ (labs X).drop (j * 2) = labs (X.drop j) := by
  intro j hj
  have : labs X = labs (X.take j) ++ labs (X.drop j) := by unfold labs; rw [<- List.flatMap_append, List.take_append_drop]
  have hl : (labs (X.take j)).length = j * 2 := by rw [labs_len, List.length_take]; omega
  constructor
  ·rw [this, <- hl, List.take_left]
  rw [this, <- hl, List.drop_left]
 rw [e, (e1 i (by omega)).1, show i * 2 + [Value.int .i64 a.1, .int .u64 (a.2.toNat : Int)].length = (i + 1) * 2 from by simp; omega, (e1 (i + 1) (by omega)).2]
 unfold labs
 rw [List.flatMap_append, List.flatMap_cons]
 simp [labC]
theorem labs_tail {X : List LabB} {i q : Nat} (hi : i + q = X.length) {z : LabB} : setAt (labs X) (i * 2) (labs (List.replicate q z)) = labs (X.take i ++ List.replicate q z) := by
 rw [setAt_eq _ _ _ (by rw [labs_len, labs_len]; simp; omega)]
 have : labs X = labs (X.take i) ++ labs (X.drop i) := by unfold labs; rw [<- List.flatMap_append, List.take_append_drop]
 have hl : (labs (X.take i)).length = i * 2 := by rw [labs_len, List.length_take]; omega
 have h1 : (labs X).take (i * 2) = labs (X.take i) := by rw [this, <- hl, List.take_left]
 rw [h1, List.drop_of_length_le (by rw [labs_len, labs_len]; simp; omega)]
 unfold labs
 rw [List.flatMap_append, List.append_nil]
def lab0 : LabB := (0, 0)
theorem labs_rep (q : Nat) : labs (List.replicate q lab0) = madeL [.int .i64 0, .int .u64 0] (q * 2) := by
 have hl : ∀ q, (labs (List.replicate q lab0)).length = q * 2 := fun q => by rw [labs_len]; simp
 unfold madeL
 apply List.ext_getElem?
 intro t
 by_cases h : t < q * 2
 ·have h1 := labs_get (l := List.replicate q lab0) (k := t / 2) (by simp; omega) (j := t % 2) (by omega)
  rw [show t / 2 * 2 + t % 2 = t from by omega] at h1
  rw [h1]
  simp only [List.getElem_replicate]
  rw [List.getElem?_map, List.getElem?_range h]
  rcases (by omega : t % 2 = 0 ∨ t % 2 = 1) with e | e <;> simp [e, labC, lab0]
 rw [List.getElem?_eq_none (by rw [hl]; omega), List.getElem?_eq_none (by simp; omega)]
theorem drop_get {X l : List LabB} {p q : Nat} (hd : X.drop p = l.drop p) (hpq : p <= q) : X[q]? = l[q]? := by
 have := congrArg (·[q - p]?) hd
 simp only [List.getElem?_drop] at this
 rwa [show p + (q - p) = q from by omega] at this
theorem lab_off {w0 : World} {S : SS} {r c j : Nat} {X : List LabB} (h : Rd w0 S (some ⟨r, 0, none⟩) (labs X)) (hk : c + j < X.length) {a : LabB} (ha : X[c + j]? = some a) :
  ∀ (jj : Nat) (v : Value), [Value.int .i64 a.1, .int .u64 (a.2.toNat : Int)][jj]? = some v -> Cell w0 S (((⟨r, c * 2, none⟩ : Addr).add (j * 2)).add jj) v := by
 obtain rfl : X[c + j] = a := by rw [List.getElem?_eq_getElem hk] at ha; exact Option.some.inj ha
 have := labs_at h hk
 have e : (⟨r, c * 2, none⟩ : Addr).add (j * 2) = (⟨r, 0, none⟩ : Addr).add ((c + j) * 2) := by
  rw [Addr.add_lit, Addr.add_lit]; congr 1; omega
 rw [e]; exact this
def Cut (v : Value) (n : Nat) (l : List LabB) (seg : Seg) : Prop := (v = .slice none 0 0 /\ n = 0 /\ l = [] /\ seg = []) ∨ ∃ r cap, v = .slice (some ⟨r, 0, none⟩) n cap /\ seg = [(r, .cells (labs l) 34 (cap * 2))] /\ n <= l.length /\ l.length <= cap /\ cap <= maxLen
theorem take_snoc {l : List LabB} {k : Nat} (hk : k < l.length) : l.take (k + 1) = l.take k ++ [l[k]] := by
 rw [List.take_add_one, List.getElem?_eq_getElem hk]; rfl
theorem compact_own {w0 : World} {S : SS} {r cap : Nat} {l : List LabB} (hb : l.length <= 1000000000000) (hc : l.length <= cap) :
  FC Tryz.prog w0 45 [.slice (some ⟨r, 0, none⟩) l.length cap] ([(r, .cells (labs l) 34 (cap * 2))] :: S) (fun v S' => ∃ l', v = .slice (some ⟨r, 0, none⟩) (dd l).length cap /\ S' = [(r, .cells (labs l') 34 (cap * 2))] :: S /\ l'.take (dd l).length = dd l /\ l'.length = l.length) := by
 refine FC.of Tryz.known45 (by simp) ?_
 unfold Tryz.pc45
 simp only [argT]
 refine PW.seqOps (OL.dp rfl (OL.nil (PW.k1 0 rfl ?_)))
 refine PW.seq fun K1 hK1 => ?_
 refine PW.seqOps (OL.dp rfl (OL.dp rfl (OL.dp rfl (OL.nil (PW.k2 0 8 rfl ?_)))))
 refine PW.cond rfl (fun c8 => ?_) (fun c8 => ?_)
 ·try simp only [decide_eq_true_eq, decide_eq_false_iff_not, beq_iff_eq, bne_iff_ne, beq_eq_false_iff_ne, bne_eq_false_iff_eq, Bool.not_eq_true', Bool.not_eq_false', Bool.not_eq_true, ne_eq, Decidable.not_not] at c8
  refine PW.seqOps (OL.dp rfl (OL.dp rfl (OL.nil (PW.k1 2 rfl (PW.ret ?_)))))
  change (Exit.ret = Exit.normal ∨ Exit.ret = Exit.ret) /\ ∃ v, resV _ _ = some v /\ _
  have hd : dd l = l := by
   match l, c8 with
   | [], _ => rfl
   | [x], _ => rfl
   | _ :: _ :: _, h => simp at h; omega
  rw [hd]
  exact ⟨.inr rfl, _, rfl, l, rfl, rfl, List.take_length, rfl⟩
 try simp only [decide_eq_true_eq, decide_eq_false_iff_not, beq_iff_eq, bne_iff_ne, beq_eq_false_iff_ne, bne_eq_false_iff_eq, Bool.not_eq_true', Bool.not_eq_false', Bool.not_eq_true, ne_eq, Decidable.not_not] at c8
 refine PW.skip (hK1 _ _ (PW.k1 0 rfl ?_))
 refine PW.seq fun K2 hK2 => ?_
 refine PW.seqOps (OL.dp rfl (OL.nil (PW.k2 0 3 rfl (PW.block (PW.k2 0 3 rfl ?_)))))
 refine PW.loopK (I := fun m T S' => ∃ (k : Nat), (1 <= k /\ k <= l.length /\ m = l.length - k /\ dd (l.take k) = l.take k) /\ T = ([(0, .slice (some ⟨r, 0, none⟩) l.length cap), (3, .int .i64 k)] : TT) /\ S' = [(r, .cells (labs l) 34 (cap * 2))] :: S) (m := l.length - 1) ⟨1, ⟨by omega, by omega, rfl, by
 match l, c8 with
 | [], h => simp at h
 | x :: l, _ => rfl⟩, rfl, rfl⟩ ?_
 rintro m _ _ ⟨k, ⟨h1, hk, hm, hd⟩, rfl, rfl⟩
 refine PW.seq fun K3 hK3 => ?_
 refine PW.seqOps (OL.dp rfl (OL.dp rfl (OL.dp rfl (OL.dp rfl (OL.nil (PW.k3 0 3 13 rfl ?_))))))
 refine PW.cond rfl (fun c13 => ?_) (fun c13 => ?_)
 ·try simp only [decide_eq_true_eq, decide_eq_false_iff_not, beq_iff_eq, bne_iff_ne, beq_eq_false_iff_ne, bne_eq_false_iff_eq, Bool.not_eq_true', Bool.not_eq_false', Bool.not_eq_true, ne_eq, Decidable.not_not] at c13
  have hkl : k < l.length := by omega
  refine PW.skip (hK3 _ _ (PW.k2 0 3 rfl ?_))
  refine PW.seq fun K4 hK4 => ?_
  refine PW.block ?_
  refine PW.seq fun K5 hK5 => ?_
  refine PW.quietK Tryz.mixed (QK.dp rfl (QK.dp rfl ?_))
  refine QK.det trivial (.ixN rfl rfl rfl (by omega)) ?_
  refine QK.det trivial (.ldA rfl rfl (labs_at (Rd.own (E := 34) (tot := cap * 2) (List.mem_flatten.2 ⟨_, List.mem_cons_self .., List.mem_cons_self ..⟩)) hkl)) (QK.dp rfl (QK.dp rfl ?_))
  refine QK.det trivial (.sub64 rfl rfl (by omega) (by omega)) ?_
  refine QK.det trivial (.ixN rfl rfl (show (k : Int) - 1 = ((k - 1 : Nat) : Int) from by omega) (by omega)) ?_
  refine QK.det trivial (.ldA rfl rfl (labs_at (Rd.own (E := 34) (tot := cap * 2) (List.mem_flatten.2 ⟨_, List.mem_cons_self .., List.mem_cons_self ..⟩)) (show k - 1 < l.length from by omega))) ?_
  refine QK.nil ?_
  change OL _ _ _ [_] _ _ _
  refine OL.det trivial (Yields.eqA rfl rfl (eq_lab l[k] l[k - 1])) (OL.nil (hK5 _ _ (PW.k3 0 3 25 rfl ?_)))
  refine PW.cond rfl (fun c25 => ?_) (fun c25 => ?_)
  ·try simp only [decide_eq_true_eq, decide_eq_false_iff_not, beq_iff_eq, bne_iff_ne, beq_eq_false_iff_ne, bne_eq_false_iff_eq, Bool.not_eq_true', Bool.not_eq_false', Bool.not_eq_true, ne_eq, Decidable.not_not] at c25
   have hdup : l[k] = l[k - 1] := by simpa using c25
   clear c25
   generalize hc0 : k = c at *
   clear hc0
   refine PW.seqOps (OL.dp rfl (OL.dp rfl ?_))
   refine OL.det trivial (.to (v' := .slice (some ⟨r, c * 2, none⟩) (l.length - c) (cap - c)) (Yields.slS (l := c) (h := l.length) rfl rfl rfl (.inl rfl) (.inr ⟨rfl, rfl⟩) (by omega) (by omega)) (by unfold cutV; rw [if_neg (by omega)]; simp [Addr.add_lit])) ?_
   refine OL.dp rfl (OL.nil (PW.k3 0 3 4 rfl ?_))
   refine PW.seq fun K6 hK6 => ?_
   refine PW.seqOps (OL.dp rfl (OL.nil (PW.k4 0 3 4 5 rfl (PW.block (PW.k4 0 3 4 5 rfl ?_)))))
   refine PW.loopK (I := fun m T S' => ∃ (i j : Nat) (X : List LabB), (1 <= j /\ c + j <= l.length /\ m = l.length - (c + j) /\ i + 1 <= c + j /\ X.length = l.length /\ X.take i = dd (l.take (c + j)) /\ X.drop (c + j - 1) = l.drop (c + j - 1)) /\ T = ([(0, .slice (some ⟨r, 0, none⟩) l.length cap), (3, .int .i64 i), (4, .slice (some ⟨r, c * 2, none⟩) (l.length - c) (cap - c)), (5, .int .i64 j)] : TT) /\ S' = [(r, .cells (labs X) 34 (cap * 2))] :: S) (m := l.length - (c + 1)) ⟨c, 1, l, ⟨by omega, by omega, rfl, by omega, rfl, by rw [dd_step (by omega) hkl, if_pos hdup, hd], rfl⟩, rfl, rfl⟩ ?_
   rintro m _ _ ⟨i, j, X, ⟨h1j, hcj, hm, hi, hX, hx, hdr⟩, rfl, rfl⟩
   refine PW.seq fun K7 hK7 => ?_
   refine PW.seqOps (OL.dp rfl (OL.dp rfl (OL.dp rfl (OL.dp rfl (OL.nil (PW.k5 0 3 4 5 32 rfl ?_))))))
   refine PW.cond rfl (fun c32 => ?_) (fun c32 => ?_)
   ·try simp only [decide_eq_true_eq, decide_eq_false_iff_not, beq_iff_eq, bne_iff_ne, beq_eq_false_iff_ne, bne_eq_false_iff_eq, Bool.not_eq_true', Bool.not_eq_false', Bool.not_eq_true, ne_eq, Decidable.not_not] at c32
    have hjl : c + j < l.length := by omega
    have hp1 : X[c + j]? = some l[c + j] := by rw [drop_get hdr (by omega)]; exact List.getElem?_eq_getElem hjl
    have hp2 : X[c + (j - 1)]? = some (l[c + j - 1]) := by rw [drop_get hdr (by omega), show c + (j - 1) = c + j - 1 from by omega]; exact List.getElem?_eq_getElem (by omega)
    refine PW.skip (hK7 _ _ (PW.k4 0 3 4 5 rfl ?_))
    refine PW.seq fun K8 hK8 => ?_
    refine PW.block ?_
    refine PW.seq fun K9 hK9 => ?_
    refine PW.quietK Tryz.mixed (QK.dp rfl (QK.dp rfl ?_))
    refine QK.det trivial (.ixN rfl rfl rfl (by omega)) ?_
    refine QK.det trivial (.ldA rfl rfl (lab_off (Rd.own (E := 34) (tot := cap * 2) (List.mem_flatten.2 ⟨_, List.mem_cons_self .., List.mem_cons_self ..⟩)) (by omega) hp1)) ?_
    refine QK.dp rfl (QK.dp rfl ?_)
    refine QK.det trivial (.sub64 rfl rfl (by omega) (by omega)) ?_
    refine QK.det trivial (.ixN rfl rfl (show (j : Int) - 1 = ((j - 1 : Nat) : Int) from by omega) (by omega)) ?_
    refine QK.det trivial (.ldA rfl rfl (lab_off (Rd.own (E := 34) (tot := cap * 2) (List.mem_flatten.2 ⟨_, List.mem_cons_self .., List.mem_cons_self ..⟩)) (by omega) hp2)) ?_
    refine QK.nil ?_
    change OL _ _ _ [_] _ _ _
    refine OL.det trivial (Yields.eqA rfl rfl (eq_lab l[c + j] l[c + j - 1])) (OL.nil (hK9 _ _ (PW.k5 0 3 4 5 44 rfl ?_)))
    refine PW.cond rfl (fun c44 => ?_) (fun c44 => ?_)
    ·try simp only [decide_eq_true_eq, decide_eq_false_iff_not, beq_iff_eq, bne_iff_ne, beq_eq_false_iff_ne, bne_eq_false_iff_eq, Bool.not_eq_true', Bool.not_eq_false', Bool.not_eq_true, ne_eq, Decidable.not_not] at c44
     refine PW.seqOps (OL.dp rfl (OL.dp rfl (OL.dp rfl (OL.dp rfl ?_))))
     refine OL.det trivial (.ixN rfl rfl rfl (by omega)) ?_
     refine OL.det trivial (.ldA rfl rfl (lab_off (Rd.own (E := 34) (tot := cap * 2) (List.mem_flatten.2 ⟨_, List.mem_cons_self .., List.mem_cons_self ..⟩)) (by omega) hp1)) ?_
     refine OL.det trivial (Yields.ixO rfl rfl rfl (by omega)) ?_
     refine OL.cons trivial (OW.st (k := 0) (u := labB l[c + j]) rfl rfl rfl rfl (by show i * 2 + 2 <= (labs X).length; rw [labs_len]; omega) rfl) ?_
     rintro _ _ rfl
     change OL _ _ _ _ _ ([(r, .cells (setAt (labs X) (i * 2) [.int .i64 l[c + j].1, .int .u64 (l[c + j].2.toNat : Int)]) 34 (cap * 2))] :: S) _
     rw [labs_set (by omega)]
     refine OL.nil (PW.k4 0 3 4 5 rfl (PW.ops (OL.dp rfl ?_)))
     refine OL.det trivial (.add64 rfl rfl (by omega) (by omega)) ?_
     refine OL.dp rfl (OL.nil (hK8 _ _ (PW.k4 0 3 4 5 rfl (PW.ops (OL.dp rfl ?_)))))
     refine OL.det trivial (.add64 rfl rfl (by omega) (by omega)) ?_
     refine OL.dp rfl (OL.nil ?_)
     repeat rw [inBlk_n]
     try rw [thenK_n]
     refine LoopEnd.mk (T'' := [(0, _), (3, _), (4, _), (5, _)]) (wi rfl) ?_
     refine ⟨l.length - (c + (j + 1)), by omega, i + 1, j + 1, X.set i l[c + j], ⟨by omega, by omega, rfl, by omega, by simp [hX], ?_, ?_⟩, by simp, rfl⟩
     ·have hd2 := dd_step (l := l) (k := c + j) (by omega) hjl
      rw [if_neg (by simpa using c44)] at hd2
      rw [show c + (j + 1) = c + j + 1 from by omega, hd2, <- hx, List.take_add_one, List.take_set_of_le (Nat.le_refl _)]
      simp [hX, show i < l.length from by omega]
     rw [List.drop_set_of_lt (by omega)]
     have := congrArg (List.drop 1) hdr
     rw [List.drop_drop, List.drop_drop] at this
     rwa [show c + j - 1 + 1 = c + (j + 1) - 1 from by omega] at this
    try simp only [decide_eq_true_eq, decide_eq_false_iff_not, beq_iff_eq, bne_iff_ne, beq_eq_false_iff_ne, bne_eq_false_iff_eq, Bool.not_eq_true', Bool.not_eq_false', Bool.not_eq_true, ne_eq, Decidable.not_not] at c44
    refine PW.skip (hK8 _ _ (PW.k4 0 3 4 5 rfl (PW.ops (OL.dp rfl ?_))))
    refine OL.det trivial (.add64 rfl rfl (by omega) (by omega)) ?_
    refine OL.dp rfl (OL.nil ?_)
    repeat rw [inBlk_n]
    try rw [thenK_n]
    refine LoopEnd.mk (T'' := [(0, _), (3, _), (4, _), (5, _)]) (wi rfl) ?_
    refine ⟨l.length - (c + (j + 1)), by omega, i, j + 1, X, ⟨by omega, by omega, rfl, by omega, hX, ?_, ?_⟩, by simp, rfl⟩
    ·have hd2 := dd_step (l := l) (k := c + j) (by omega) hjl
     rw [if_pos (by simpa using c44)] at hd2
     rw [show c + (j + 1) = c + j + 1 from by omega, hd2, <- hx]
    have := congrArg (List.drop 1) hdr
    rw [List.drop_drop, List.drop_drop] at this
    rwa [show c + j - 1 + 1 = c + (j + 1) - 1 from by omega] at this
   try simp only [decide_eq_true_eq, decide_eq_false_iff_not, beq_iff_eq, bne_iff_ne, beq_eq_false_iff_ne, bne_eq_false_iff_eq, Bool.not_eq_true', Bool.not_eq_false', Bool.not_eq_true, ne_eq, Decidable.not_not] at c32
   refine PW.exit (hK6 _ _ (PW.k2 0 3 rfl (PW.seqOps (OL.dp rfl (OL.dp rfl ?_)))))
   refine OL.det trivial (.to (v' := .slice (some ⟨r, i * 2, none⟩) (l.length - i) (cap - i)) (Yields.slS (l := i) (h := l.length) rfl rfl rfl (.inl rfl) (.inr ⟨rfl, rfl⟩) (by omega) (by omega)) (by unfold cutV; rw [if_neg (by omega)]; simp [Addr.add_lit])) ?_
   refine OL.cons trivial (OW.clr (k := 0) (c := labs X) (news := labs (List.replicate (l.length - i) lab0)) rfl rfl (by omega) (by decide) (by rw [labs_rep]; rfl) (by rw [labs_len, labs_len]; simp; omega) (labs_one _)) ?_
   rintro _ _ ⟨rfl, rfl⟩
   change OL _ _ _ _ _ ([(r, .cells (setAt (labs X) (i * 2) (labs (List.replicate (l.length - i) lab0))) 34 (cap * 2))] :: S) _
   rw [labs_tail (by omega)]
   refine OL.nil (PW.k2 0 3 rfl (PW.seqOps (OL.dp rfl (OL.dp rfl ?_))))
   refine OL.det trivial (.slS (l := 0) (h := i) rfl rfl rfl (.inr ⟨rfl, rfl⟩) (.inl rfl) (by omega) (by omega)) ?_
   refine OL.dp rfl (OL.nil (PW.k1 2 rfl (PW.ret ?_)))
   change (Exit.ret = Exit.normal ∨ Exit.ret = Exit.ret) /\ ∃ v, resV _ _ = some v /\ _
   have hcj : c + j = l.length := by omega
   rw [hcj, List.take_length] at hx
   have hil : i = (dd l).length := by rw [<- hx, List.length_take]; omega
   have hil2 : (X.take i ++ List.replicate (l.length - i) lab0).length = l.length := by simp; omega
   refine ⟨.inr rfl, _, rfl, X.take i ++ List.replicate (l.length - i) lab0, ?_, rfl, ?_, hil2⟩
   ·rw [<- hil, cutV0]
   rw [<- hil, List.take_left' (by simp; omega)]; exact hx
  try simp only [decide_eq_true_eq, decide_eq_false_iff_not, beq_iff_eq, bne_iff_ne, beq_eq_false_iff_ne, bne_eq_false_iff_eq, Bool.not_eq_true', Bool.not_eq_false', Bool.not_eq_true, ne_eq, Decidable.not_not] at c25
  refine PW.skip (hK4 _ _ (PW.k2 0 3 rfl (PW.ops (OL.dp rfl ?_))))
  refine OL.det trivial (.add64 rfl rfl (by omega) (by omega)) ?_
  refine OL.dp rfl (OL.nil ?_)
  repeat rw [inBlk_n]
  try rw [thenK_n]
  refine LoopEnd.mk (T'' := [(0, _), (3, _)]) (wi rfl) ?_
  refine ⟨l.length - (k + 1), by omega, k + 1, ⟨by omega, by omega, rfl, ?_⟩, rfl, rfl⟩
  rw [dd_step (by omega) hkl, if_neg (by simpa using c25), hd, <- take_snoc hkl]
 try simp only [decide_eq_true_eq, decide_eq_false_iff_not, beq_iff_eq, bne_iff_ne, beq_eq_false_iff_ne, bne_eq_false_iff_eq, Bool.not_eq_true', Bool.not_eq_false', Bool.not_eq_true, ne_eq, Decidable.not_not] at c13
 refine PW.exit (hK2 _ _ (PW.k1 0 rfl (PW.seqOps (OL.dp rfl (OL.dp rfl (OL.nil (PW.k1 2 rfl (PW.ret ?_))))))))
 change (Exit.ret = Exit.normal ∨ Exit.ret = Exit.ret) /\ ∃ v, resV _ _ = some v /\ _
 obtain rfl : k = l.length := by omega
 rw [List.take_length] at hd
 rw [hd]
 exact ⟨.inr rfl, _, rfl, l, rfl, rfl, List.take_length, rfl⟩
theorem slv_rdL {w0 : World} {E sz m : Nat} {v : Value} {xs : List Value} {seg : Seg} (hv : SlV E sz v m xs seg) : ∃ A cap, v = .slice A m cap /\ (A = none -> cap = 0) /\ m <= cap /\ ∀ S, Rd w0 (seg :: S) A xs := by
 obtain ⟨hl, ⟨rfl, rfl, rfl⟩ | ⟨r, cap, rfl, rfl, h1, h2⟩⟩ := hv
 ·have : xs = [] := List.eq_nil_of_length_eq_zero (by simpa using hl)
  subst this
  exact ⟨none, 0, rfl, fun _ => rfl, Nat.le_refl _, fun _ => Rd.nil⟩
 exact ⟨_, cap, rfl, (fun h => nomatch h), h1, fun S => Rd.own (List.mem_flatten.2 ⟨_, List.mem_cons_self .., List.mem_singleton.2 rfl⟩)⟩
theorem labs_app (a b : List LabB) : labs (a ++ b) = labs a ++ labs b := by unfold labs; rw [List.flatMap_append]
theorem pre_rd {w0 : World} {S : SS} {A : Option Addr} {i : Nat} {l : List LabB} (h : Rd w0 S A (labs l)) : Rd w0 S A (labs (l.take i)) :=
 h.pre (by rw [<- List.take_append_drop i l, labs_app, List.take_append_drop]; exact List.prefix_append _ _)
def insP (a : LabB) : List LabB -> List LabB
 | [] => [a]
 | x :: l => if orZ x a < 0 then x :: insP a l else if x = a then x :: l else a :: x :: l
def refS (l : List LabB) : List LabB := l.foldl (fun acc a => insP a acc) []
theorem compact_nil {w0 : World} {S : SS} : FC Tryz.prog w0 45 [.slice none 0 0] S (fun v S' => v = .slice none 0 0 /\ S' = S) := by
 refine FC.of Tryz.known45 (by simp) ?_
 unfold Tryz.pc45
 simp only [argT]
 refine PW.seqOps (OL.dp rfl (OL.nil (PW.k1 0 rfl ?_)))
 refine PW.seq fun K1 hK1 => ?_
 refine PW.seqOps (OL.dp rfl (OL.dp rfl (OL.dp rfl (OL.nil (PW.k2 0 8 rfl ?_)))))
 refine PW.cond rfl (fun c8 => ?_) (fun c8 => ?_)
 ·try simp only [decide_eq_true_eq, decide_eq_false_iff_not, beq_iff_eq, bne_iff_ne, beq_eq_false_iff_ne, bne_eq_false_iff_eq, Bool.not_eq_true', Bool.not_eq_false', Bool.not_eq_true, ne_eq, Decidable.not_not] at c8
  refine PW.seqOps (OL.dp rfl (OL.dp rfl (OL.nil (PW.k1 2 rfl (PW.ret ?_)))))
  change (Exit.ret = Exit.normal ∨ Exit.ret = Exit.ret) /\ ∃ v, resV _ _ = some v /\ _
  exact ⟨.inr rfl, _, rfl, rfl, rfl⟩
 try simp only [decide_eq_true_eq, decide_eq_false_iff_not, beq_iff_eq, bne_iff_ne, beq_eq_false_iff_ne, bne_eq_false_iff_eq, Bool.not_eq_true', Bool.not_eq_false', Bool.not_eq_true, ne_eq, Decidable.not_not] at c8
 exfalso; revert c8; decide
 -- done
theorem compact_fc {w0 : World} {S : SS} {v : Value} {seg : Seg} {l : List LabB} (hv : SlV 34 2 v l.length (labs l) seg) (hb : l.length <= 1000000000000) :
  FC Tryz.prog w0 45 [v] (seg :: S) (fun v' S' => ∃ seg' l', S' = seg' :: S /\ Cut v' (dd l).length l' seg' /\ l'.take (dd l).length = dd l /\ l'.length = l.length) := by
 obtain ⟨hl, ⟨rfl, h0, rfl⟩ | ⟨r, cap, rfl, rfl, h1, h2⟩⟩ := hv
 ·obtain rfl : l = [] := List.length_eq_zero_iff.1 h0
  refine (compact_nil (S := [] :: S)).mono ?_
  rintro v' S' ⟨rfl, rfl⟩
  exact ⟨[], [], rfl, .inl ⟨rfl, rfl, rfl, rfl⟩, rfl, rfl⟩
 refine (compact_own (S := S) hb h1).mono ?_
 rintro v' S' ⟨l', rfl, rfl, h3, h4⟩
 have h5 : (dd l).length <= l'.length := by
  have := dd_len (l := l) l.length (Nat.le_refl _)
  rw [List.take_length] at this
  omega
 exact ⟨_, l', rfl, .inr ⟨r, cap, rfl, rfl, h5, by omega, h2⟩, h3, h4⟩
theorem sortL_len (l : List LabB) : (sortL l).length = l.length := by simp [sortL]
theorem sorted_fc {w0 : World} {S : SS} {A : Option Addr} {c : Nat} {l : List LabB} (hx : Rd w0 S A (labs l)) (hb : l.length <= 1000000000000) :
  FC Tryz.prog w0 26 [.slice A l.length c] S (fun v S' => ∃ seg l', S' = seg :: S /\ Cut v (dd (sortL l)).length l' seg /\ l'.take (dd (sortL l)).length = dd (sortL l) /\ l'.length = l.length) := by
 refine FC.of Tryz.known26 (by simp) ?_
 unfold Tryz.pc26
 simp only [argT]
 refine PW.seqOps (OL.dp rfl (OL.nil (PW.k1 0 rfl (PW.seqOps (OL.dp rfl (OL.call trivial rfl (clone_fc hx hb) ?_))))))
 rintro v5 _ ⟨seg5, rfl, hsl5⟩
 refine OL.dp rfl (OL.nil (PW.k1 3 rfl (PW.seqOps (OL.dp rfl ?_))))
 refine OL.call trivial rfl (sort_fc (k := 0) rfl hsl5 (by omega)) ?_
 rintro _ _ ⟨rfl, seg7, hsl7, rfl⟩
 change OL _ _ _ _ _ (seg7 :: S) _
 rw [<- sortL_len] at hsl7
 refine OL.nil (PW.k1 3 rfl (PW.seqOps (OL.dp rfl ?_)))
 refine OL.call trivial rfl (compact_fc hsl7 (by rw [sortL_len]; omega)) ?_
 rintro v9 _ ⟨seg9, l9, rfl, hcut9, ht9, hl9⟩
 refine OL.dp rfl (OL.nil (PW.k1 2 rfl (PW.ret ?_)))
 change (Exit.ret = Exit.normal ∨ Exit.ret = Exit.ret) /\ ∃ v, resV _ _ = some v /\ _
 exact ⟨.inr rfl, _, rfl, seg9, l9, rfl, hcut9, ht9, by rw [hl9, sortL_len]⟩
end Go.Proofs.Lb

namespace Go.Proofs.Rl
open Go.SL Go.RowKit Go.Proofs Go.Proofs.Lb
set_option maxHeartbeats 1000000
abbrev RuleB := ByteArray × LabB
def ruleC (r : RuleB) : List Value := [.string r.1, .int .i64 r.2.1, .int .u64 (r.2.2.toNat : Int)]
def ruls (l : List RuleB) : List Value := l.flatMap ruleC
def tabV (v : Int) (A : Option Addr) (n c : Nat) : Value := .agg #[.int .i64 v, .slice A n c]
abbrev tseg (r : Nat) (v : Int) (A : Option Addr) (n c : Nat) : Seg := [(r, .cells [.int .i64 v, .slice A n c] 24 2)]
abbrev rseg (r : Nat) (x : RuleB) : Seg := [(r, .cells [.string x.1, .int .i64 x.2.1, .int .u64 (x.2.2.toNat : Int)] 48 3)]
theorem ruleC_len (x : RuleB) : (ruleC x).length = 3 := rfl
instance : Inhabited RuleB := ⟨(⟨#[]⟩, lab0)⟩
theorem ruls_len (l : List RuleB) : (ruls l).length = l.length * 3 := by
 unfold ruls; rw [List.length_flatMap]; simp [ruleC_len, List.map_const']
theorem ruls_get {l : List RuleB} {k : Nat} (hk : k < l.length) {j : Nat} (hj : j < 3) : (ruls l)[k * 3 + j]? = (ruleC l[k])[j]? := by
 unfold ruls
 rw [flat_get ruleC_len l (k * 3 + j) (by omega), show (k * 3 + j) / 3 = k from by omega, show (k * 3 + j) % 3 = j from by omega, getElem!_pos l k hk]
theorem ruls_some {w0 : World} {S : SS} {A : Option Addr} {l : List RuleB} (h : Rd w0 S A (ruls l)) (hk : 0 < l.length) : ∃ a, A = some a :=
 h.some (fun e => by have := ruls_len l; rw [e] at this; simp at this; omega)
theorem rule_at {w0 : World} {S : SS} {a : Addr} {l : List RuleB} (h : Rd w0 S (some a) (ruls l)) {k : Nat} (hk : k < l.length) :
  ∀ (j : Nat) (v : Value), (ruleC l[k])[j]? = some v -> Cell w0 S ((a.add (k * 3)).add j) v := by
 intro j v hj
 have hj2 : j < 3 := by have := (List.getElem?_eq_some_iff.1 hj).1; simpa [ruleC] using this
 rw [addr_add_add]
 exact h.at (by rw [ruls_get hk hj2]; exact hj)
theorem tab_at {w0 : World} {S : SS} {r : Nat} {tv : Int} {A : Option Addr} {n c : Nat} (hm : (r, AO.cells [.int .i64 tv, .slice A n c] 24 2) ∈ S.flatten) :
  ∀ (j : Nat) (v : Value), [Value.int .i64 tv, .slice A n c][j]? = some v -> Cell w0 S ((⟨r, 0, none⟩ : Addr).add j) v := fun j v hj => (Rd.own hm).at hj
theorem rseg_at {w0 : World} {S : SS} {r : Nat} {x : RuleB} : ∀ (j : Nat) (v : Value), [Value.int .i64 x.2.1, .int .u64 (x.2.2.toNat : Int)][j]? = some v -> Cell w0 (rseg r x :: S) ((⟨r, 1, none⟩ : Addr).add j) v := by
 intro j v hj
 have : (⟨r, 1, none⟩ : Addr).add j = (⟨r, 0, none⟩ : Addr).add (1 + j) := by rw [Addr.add_lit, Addr.add_lit]; congr 1; omega
 rw [this]
 refine (Rd.own (E := 48) (tot := 3) zM0).at ?_
 rw [Nat.add_comm]
 exact hj
def overP (p s : ByteArray) : Bool := decide (p = s) || underP p s
def findS (l : List RuleB) (s : ByteArray) : Int × LabB := l.foldl (fun o r => if o.1 < (r.1.size : Int) /\ overP r.1 s = true then ((r.1.size : Int), r.2) else o) (-1, lab0)
def findP (l : List RuleB) (s : ByteArray) : LabB := (findS l s).2
theorem rtake_snoc {l : List RuleB} {k : Nat} (hk : k < l.length) : l.take (k + 1) = l.take k ++ [l[k]] := by
 rw [List.take_add_one, List.getElem?_eq_getElem hk]; rfl
theorem findS_take {l : List RuleB} {s : ByteArray} {k : Nat} (hk : k < l.length) : findS (l.take (k + 1)) s = if (findS (l.take k) s).1 < (l[k].1.size : Int) /\ overP l[k].1 s = true then ((l[k].1.size : Int), l[k].2) else findS (l.take k) s := by
 rw [rtake_snoc hk]; unfold findS; rw [List.foldl_append]; rfl
theorem findS_rng {l : List RuleB} {s : ByteArray} (hb : ∀ x ∈ l, x.1.size <= 1000000000) : ∀ k, k <= l.length -> -1 <= (findS (l.take k) s).1 /\ (findS (l.take k) s).1 <= 1000000000
 | 0, _ => by simp [findS]
 | k + 1, h => by
  rw [findS_take (by omega)]
  have := findS_rng (s := s) hb k (by omega)
  have h2 := hb l[k] (List.getElem_mem _)
  split
  ·exact ⟨by show (-1 : Int) <= (l[k].1.size : Int); omega, by show (l[k].1.size : Int) <= 1000000000; omega⟩
  exact this
theorem rover_fc {w0 : World} {S : SS} {p s : ByteArray} (hp : p.size <= 1000000000) (hs : s.size <= 1000000000) : FC Tryz.prog w0 24 [.string p, .string s] S (fun v S' => v = .bool (overP p s) /\ S' = S) := by
 refine FC.of Tryz.known24 (by simp) ?_
 unfold Tryz.pc24
 simp only [argT]
 refine PW.seqOps (OL.dp rfl (OL.nil (PW.k2 0 1 rfl (PW.seqOps (OL.dp rfl (OL.dp rfl (OL.dp rfl ?_)))))))
 refine OL.bool trivial (Yields.pure rfl) (fun g8 => ?_) (fun g8 => ?_)
 ·try simp only [decide_eq_true_eq, decide_eq_false_iff_not, beq_iff_eq, bne_iff_ne, beq_eq_false_iff_ne, bne_eq_false_iff_eq, Bool.not_eq_true', Bool.not_eq_false', Bool.not_eq_true, ne_eq, Decidable.not_not] at g8
  rw [toL_inj] at g8
  refine OL.off rfl rfl (OL.off rfl rfl (OL.off rfl rfl (OL.dp rfl (OL.dp rfl (OL.nil (PW.k1 4 rfl (PW.ret ?_)))))))
  change (Exit.ret = Exit.normal ∨ Exit.ret = Exit.ret) /\ ∃ v, resV _ _ = some v /\ _
  exact ⟨.inr rfl, _, rfl, by unfold overP; first | (rw [decide_eq_true g8]; rfl) | (rw [decide_eq_false g8]; rfl), rfl⟩
 try simp only [decide_eq_true_eq, decide_eq_false_iff_not, beq_iff_eq, bne_iff_ne, beq_eq_false_iff_ne, bne_eq_false_iff_eq, Bool.not_eq_true', Bool.not_eq_false', Bool.not_eq_true, ne_eq, Decidable.not_not] at g8
 rw [toL_inj] at g8
 refine OL.det rfl (.pure rfl) (OL.det rfl (.pure rfl) (OL.call rfl rfl (under_fc hp hs) ?_))
 rintro _ Sx ⟨rfl, hSx⟩
 rw [hSx]
 clear hSx
 refine OL.dp rfl (OL.dp rfl (OL.nil (PW.k1 4 rfl (PW.ret ?_))))
 change (Exit.ret = Exit.normal ∨ Exit.ret = Exit.ret) /\ ∃ v, resV _ _ = some v /\ _
 exact ⟨.inr rfl, _, rfl, by unfold overP; first | (rw [decide_eq_true g8]; rfl) | (rw [decide_eq_false g8]; rfl), rfl⟩
theorem large_fc {w0 : World} {S : SS} {A : Option Addr} {c : Nat} {tv : Int} {l : List RuleB} {s : ByteArray} (hx : Rd w0 S A (ruls l)) (hw : ∀ x ∈ l, x.1.size <= maxLen) (hs : s.size <= maxLen) (hl : l.length <= maxLen) :
    FC Tryz.prog w0 5 [tabV tv A l.length c, .string s] S (fun v S' => ∃ b, v = .bool b /\ S' = S /\ (b = false -> l.length <= 60 /\ s.size <= 200 /\ (∀ x ∈ l, x.1.size <= 200) /\ -999999999 <= tv /\ tv <= 999999999)) := by
  refine FC.ofD Tryz.known5 (by simp) ?_
  unfold Tryz.pc5
  simp only [argT]
  refine PW.seqOps (OL.cons trivial (OW.bx rfl) ?_)
  rintro _ _ ⟨r2, rfl, rfl⟩
  change OL _ _ _ _ _ (tseg r2 tv A l.length c :: S) _
  refine OL.dp rfl (OL.nil (PW.k2 1 2 rfl ?_))
  refine PW.seq fun K1 hK1 => ?_
  refine PW.seqOps (OL.dp rfl (OL.nil (PW.k3 1 2 5 rfl (PW.block (PW.k3 1 2 5 rfl ?_)))))
  refine PW.loopK (I := fun m T S' => ∃ (k : Nat), (k <= l.length /\ k <= 70 /\ m = 70 - k /\ ∀ x ∈ l.take k, x.1.size <= 200) /\ T = ([(1, .string s), (2, .pointer (some ⟨r2, 0, none⟩)), (5, .int .i64 k)] : TT) /\ S' = tseg r2 tv A l.length c :: S) (m := 70) ⟨0, ⟨by omega, by omega, by omega, fun x h => by simp at h⟩, rfl, rfl⟩ ?_
  rintro m _ _ ⟨k, ⟨hk, hk70, hm, hall⟩, rfl, rfl⟩
  refine PW.seq fun K2 hK2 => ?_
  refine PW.seqOps (OL.dp rfl (OL.dp rfl (OL.det trivial (.ld rfl (own_at (j := 1) (c := [.int .i64 tv, .slice A l.length c]) (E := 24) (tot := 2) zM0 rfl)) (OL.dp rfl (OL.dp rfl ?_)))))
  refine OL.bool trivial (Yields.pure rfl) (fun g11 => ?_) (fun g11 => ?_)
  · try simp only [decide_eq_true_eq, decide_eq_false_iff_not, beq_iff_eq, bne_iff_ne, beq_eq_false_iff_ne, bne_eq_false_iff_eq, Bool.not_eq_true', Bool.not_eq_false', Bool.not_eq_true, ne_eq, Decidable.not_not] at g11
    refine OL.det rfl (.pure rfl) (OL.det rfl (.pure rfl) (OL.dp rfl (OL.nil (PW.k4 1 2 5 14 rfl ?_))))
    refine PW.cond rfl (fun c14 => ?_) (fun c14 => ?_)
    · try simp only [decide_eq_true_eq, decide_eq_false_iff_not, beq_iff_eq, bne_iff_ne, beq_eq_false_iff_ne, bne_eq_false_iff_eq, Bool.not_eq_true', Bool.not_eq_false', Bool.not_eq_true, ne_eq, Decidable.not_not] at c14
      have hkl : k < l.length := by omega
      obtain ⟨a0, rfl⟩ := ruls_some hx (by omega)
      have hwk := hw _ (List.getElem_mem hkl)
      refine PW.skip (hK2 _ _ (PW.k3 1 2 5 rfl ?_))
      refine PW.seq fun K3 hK3 => ?_
      refine PW.block (PW.seqOps (OL.dp rfl (OL.det trivial (.ld rfl (own_at (j := 1) (c := [.int .i64 tv, .slice (some a0) l.length c]) (E := 24) (tot := 2) zM0 rfl)) (OL.dp rfl ?_))))
      refine OL.det trivial (.ixN rfl rfl rfl (by omega)) ?_
      refine OL.dp rfl (OL.det trivial (.ld rfl (rule_at hx.cons hkl 0 _ rfl)) (OL.dp rfl (OL.dp rfl (OL.nil (PW.k4 1 2 5 24 rfl ?_)))))
      refine PW.cond rfl (fun c24 => ?_) (fun c24 => ?_)
      · try simp only [decide_eq_true_eq, decide_eq_false_iff_not, beq_iff_eq, bne_iff_ne, beq_eq_false_iff_ne, bne_eq_false_iff_eq, Bool.not_eq_true', Bool.not_eq_false', Bool.not_eq_true, ne_eq, Decidable.not_not] at c24
        refine PW.seqOps (OL.dp rfl (OL.nil (PW.k1 4 rfl (PW.ret ?_))))
        change (Exit.ret = Exit.normal ∨ Exit.ret = Exit.ret) /\ ∃ v, resV _ _ = some v /\ _
        exact ⟨.inr rfl, _, rfl, _, Sub.drop (Sub.refl _), _, rfl, rfl, fun h => by cases h⟩
      try simp only [decide_eq_true_eq, decide_eq_false_iff_not, beq_iff_eq, bne_iff_ne, beq_eq_false_iff_ne, bne_eq_false_iff_eq, Bool.not_eq_true', Bool.not_eq_false', Bool.not_eq_true, ne_eq, Decidable.not_not] at c24
      refine PW.skip (hK3 _ _ (PW.k3 1 2 5 rfl (PW.ops (OL.dp rfl ?_))))
      refine OL.det trivial (.add64 rfl rfl (by omega) (by omega)) ?_
      refine OL.dp rfl (OL.nil ?_)
      repeat rw [inBlk_n]
      try rw [thenK_n]
      refine LoopEnd.mk (T'' := [(1, _), (2, _), (5, _)]) (wi rfl) ?_
      refine ⟨70 - (k + 1), by omega, k + 1, ⟨by omega, by omega, rfl, fun x hx => ?_⟩, rfl, rfl⟩
      rw [rtake_snoc hkl, List.mem_append, List.mem_singleton] at hx
      rcases hx with hx | rfl
      · exact hall x hx
      omega
    try simp only [decide_eq_true_eq, decide_eq_false_iff_not, beq_iff_eq, bne_iff_ne, beq_eq_false_iff_ne, bne_eq_false_iff_eq, Bool.not_eq_true', Bool.not_eq_false', Bool.not_eq_true, ne_eq, Decidable.not_not] at c14
    refine PW.exit (hK1 _ _ (PW.k2 1 2 rfl (PW.seqOps (OL.dp rfl (OL.det trivial (.ld rfl (own_at (j := 1) (c := [.int .i64 tv, .slice A l.length c]) (E := 24) (tot := 2) zM0 rfl)) (OL.dp rfl (OL.dp rfl ?_)))))))
    refine OL.bool trivial (Yields.pure rfl) (fun g29 => ?_) (fun g29 => ?_)
    · try simp only [decide_eq_true_eq, decide_eq_false_iff_not, beq_iff_eq, bne_iff_ne, beq_eq_false_iff_ne, bne_eq_false_iff_eq, Bool.not_eq_true', Bool.not_eq_false', Bool.not_eq_true, ne_eq, Decidable.not_not] at g29
      refine OL.off rfl rfl (OL.off rfl rfl (OL.off rfl rfl (OL.dp rfl (OL.dp rfl (OL.off rfl rfl (OL.off rfl rfl (OL.off rfl rfl (OL.dp rfl (OL.dp rfl (OL.off rfl rfl (OL.off rfl rfl ?_)))))))))))
      refine OL.off rfl rfl (OL.dp rfl (OL.dp rfl (OL.nil (PW.k1 4 rfl (PW.ret ?_)))))
      change (Exit.ret = Exit.normal ∨ Exit.ret = Exit.ret) /\ ∃ v, resV _ _ = some v /\ _
      refine ⟨.inr rfl, _, rfl, _, Sub.drop (Sub.refl _), _, rfl, rfl, fun hb => ?_⟩
      first
        | (cases hb; done)
        | (simp only [decide_eq_false_iff_not, Int.not_lt] at hb
           obtain rfl : k = l.length := by omega
           rw [List.take_length] at hall
           exact ⟨by omega, by omega, hall, by omega, by omega⟩)
    try simp only [decide_eq_true_eq, decide_eq_false_iff_not, beq_iff_eq, bne_iff_ne, beq_eq_false_iff_ne, bne_eq_false_iff_eq, Bool.not_eq_true', Bool.not_eq_false', Bool.not_eq_true, ne_eq, Decidable.not_not] at g29
    refine OL.det rfl (.pure rfl) (OL.det rfl (.pure rfl) (OL.det rfl (.pure rfl) (OL.dp rfl ?_)))
    refine OL.bool trivial (Yields.pure rfl) (fun g34 => ?_) (fun g34 => ?_)
    · try simp only [decide_eq_true_eq, decide_eq_false_iff_not, beq_iff_eq, bne_iff_ne, beq_eq_false_iff_ne, bne_eq_false_iff_eq, Bool.not_eq_true', Bool.not_eq_false', Bool.not_eq_true, ne_eq, Decidable.not_not] at g34
      refine OL.off rfl rfl (OL.off rfl rfl (OL.off rfl rfl (OL.dp rfl (OL.dp rfl (OL.off rfl rfl (OL.off rfl rfl (OL.off rfl rfl (OL.dp rfl (OL.dp rfl (OL.nil (PW.k1 4 rfl ?_)))))))))))
      refine PW.ret ?_
      change (Exit.ret = Exit.normal ∨ Exit.ret = Exit.ret) /\ ∃ v, resV _ _ = some v /\ _
      refine ⟨.inr rfl, _, rfl, _, Sub.drop (Sub.refl _), _, rfl, rfl, fun hb => ?_⟩
      first
        | (cases hb; done)
        | (simp only [decide_eq_false_iff_not, Int.not_lt] at hb
           obtain rfl : k = l.length := by omega
           rw [List.take_length] at hall
           exact ⟨by omega, by omega, hall, by omega, by omega⟩)
    try simp only [decide_eq_true_eq, decide_eq_false_iff_not, beq_iff_eq, bne_iff_ne, beq_eq_false_iff_ne, bne_eq_false_iff_eq, Bool.not_eq_true', Bool.not_eq_false', Bool.not_eq_true, ne_eq, Decidable.not_not] at g34
    refine OL.det rfl (.pure rfl) (OL.det rfl (.ld rfl (own_at (j := 0) (c := [.int .i64 tv, .slice A l.length c]) (E := 24) (tot := 2) zM0 rfl)) (OL.det rfl (.pure rfl) (OL.dp rfl ?_)))
    refine OL.bool trivial (Yields.pure rfl) (fun g39 => ?_) (fun g39 => ?_)
    · try simp only [decide_eq_true_eq, decide_eq_false_iff_not, beq_iff_eq, bne_iff_ne, beq_eq_false_iff_ne, bne_eq_false_iff_eq, Bool.not_eq_true', Bool.not_eq_false', Bool.not_eq_true, ne_eq, Decidable.not_not] at g39
      refine OL.off rfl rfl (OL.off rfl rfl (OL.off rfl rfl (OL.dp rfl (OL.dp rfl (OL.nil (PW.k1 4 rfl (PW.ret ?_)))))))
      change (Exit.ret = Exit.normal ∨ Exit.ret = Exit.ret) /\ ∃ v, resV _ _ = some v /\ _
      refine ⟨.inr rfl, _, rfl, _, Sub.drop (Sub.refl _), _, rfl, rfl, fun hb => ?_⟩
      first
        | (cases hb; done)
        | (simp only [decide_eq_false_iff_not, Int.not_lt] at hb
           obtain rfl : k = l.length := by omega
           rw [List.take_length] at hall
           exact ⟨by omega, by omega, hall, by omega, by omega⟩)
    try simp only [decide_eq_true_eq, decide_eq_false_iff_not, beq_iff_eq, bne_iff_ne, beq_eq_false_iff_ne, bne_eq_false_iff_eq, Bool.not_eq_true', Bool.not_eq_false', Bool.not_eq_true, ne_eq, Decidable.not_not] at g39
    refine OL.det rfl (.pure rfl) (OL.det rfl (.ld rfl (own_at (j := 0) (c := [.int .i64 tv, .slice A l.length c]) (E := 24) (tot := 2) zM0 rfl)) (OL.det rfl (.pure rfl) (OL.dp rfl (OL.dp rfl (OL.nil (PW.k1 4 rfl (PW.ret ?_)))))))
    change (Exit.ret = Exit.normal ∨ Exit.ret = Exit.ret) /\ ∃ v, resV _ _ = some v /\ _
    refine ⟨.inr rfl, _, rfl, _, Sub.drop (Sub.refl _), _, rfl, rfl, fun hb => ?_⟩
    first
      | (cases hb; done)
      | (simp only [decide_eq_false_iff_not, Int.not_lt] at hb
         obtain rfl : k = l.length := by omega
         rw [List.take_length] at hall
         exact ⟨by omega, by omega, hall, by omega, by omega⟩)
  try simp only [decide_eq_true_eq, decide_eq_false_iff_not, beq_iff_eq, bne_iff_ne, beq_eq_false_iff_ne, bne_eq_false_iff_eq, Bool.not_eq_true', Bool.not_eq_false', Bool.not_eq_true, ne_eq, Decidable.not_not] at g11
  refine OL.off rfl rfl (OL.off rfl rfl (OL.dp rfl (OL.nil (PW.k4 1 2 5 14 rfl (PW.ite (b := false) rfl ?_)))))
  rw [if_neg Bool.false_ne_true]
  refine PW.exit (hK1 _ _ (PW.k2 1 2 rfl (PW.seqOps (OL.dp rfl (OL.det trivial (.ld rfl (own_at (j := 1) (c := [.int .i64 tv, .slice A l.length c]) (E := 24) (tot := 2) zM0 rfl)) (OL.dp rfl (OL.dp rfl ?_)))))))
  refine OL.bool trivial (Yields.pure rfl) (fun g29 => ?_) (fun g29 => ?_)
  · try simp only [decide_eq_true_eq, decide_eq_false_iff_not, beq_iff_eq, bne_iff_ne, beq_eq_false_iff_ne, bne_eq_false_iff_eq, Bool.not_eq_true', Bool.not_eq_false', Bool.not_eq_true, ne_eq, Decidable.not_not] at g29
    refine OL.off rfl rfl (OL.off rfl rfl (OL.off rfl rfl (OL.dp rfl (OL.dp rfl (OL.off rfl rfl (OL.off rfl rfl (OL.off rfl rfl (OL.dp rfl (OL.dp rfl (OL.off rfl rfl (OL.off rfl rfl ?_)))))))))))
    refine OL.off rfl rfl (OL.dp rfl (OL.dp rfl (OL.nil (PW.k1 4 rfl (PW.ret ?_)))))
    change (Exit.ret = Exit.normal ∨ Exit.ret = Exit.ret) /\ ∃ v, resV _ _ = some v /\ _
    refine ⟨.inr rfl, _, rfl, _, Sub.drop (Sub.refl _), _, rfl, rfl, fun hb => ?_⟩
    first
      | (cases hb; done)
      | (simp only [decide_eq_false_iff_not, Int.not_lt] at hb
         obtain rfl : k = l.length := by omega
         rw [List.take_length] at hall
         exact ⟨by omega, by omega, hall, by omega, by omega⟩)
  try simp only [decide_eq_true_eq, decide_eq_false_iff_not, beq_iff_eq, bne_iff_ne, beq_eq_false_iff_ne, bne_eq_false_iff_eq, Bool.not_eq_true', Bool.not_eq_false', Bool.not_eq_true, ne_eq, Decidable.not_not] at g29
  refine OL.det rfl (.pure rfl) (OL.det rfl (.pure rfl) (OL.det rfl (.pure rfl) (OL.dp rfl ?_)))
  refine OL.bool trivial (Yields.pure rfl) (fun g34 => ?_) (fun g34 => ?_)
  · try simp only [decide_eq_true_eq, decide_eq_false_iff_not, beq_iff_eq, bne_iff_ne, beq_eq_false_iff_ne, bne_eq_false_iff_eq, Bool.not_eq_true', Bool.not_eq_false', Bool.not_eq_true, ne_eq, Decidable.not_not] at g34
    refine OL.off rfl rfl (OL.off rfl rfl (OL.off rfl rfl (OL.dp rfl (OL.dp rfl (OL.off rfl rfl (OL.off rfl rfl (OL.off rfl rfl (OL.dp rfl (OL.dp rfl (OL.nil (PW.k1 4 rfl ?_)))))))))))
    refine PW.ret ?_
    change (Exit.ret = Exit.normal ∨ Exit.ret = Exit.ret) /\ ∃ v, resV _ _ = some v /\ _
    refine ⟨.inr rfl, _, rfl, _, Sub.drop (Sub.refl _), _, rfl, rfl, fun hb => ?_⟩
    first
      | (cases hb; done)
      | (simp only [decide_eq_false_iff_not, Int.not_lt] at hb
         obtain rfl : k = l.length := by omega
         rw [List.take_length] at hall
         exact ⟨by omega, by omega, hall, by omega, by omega⟩)
  try simp only [decide_eq_true_eq, decide_eq_false_iff_not, beq_iff_eq, bne_iff_ne, beq_eq_false_iff_ne, bne_eq_false_iff_eq, Bool.not_eq_true', Bool.not_eq_false', Bool.not_eq_true, ne_eq, Decidable.not_not] at g34
  refine OL.det rfl (.pure rfl) (OL.det rfl (.ld rfl (own_at (j := 0) (c := [.int .i64 tv, .slice A l.length c]) (E := 24) (tot := 2) zM0 rfl)) (OL.det rfl (.pure rfl) (OL.dp rfl ?_)))
  refine OL.bool trivial (Yields.pure rfl) (fun g39 => ?_) (fun g39 => ?_)
  · try simp only [decide_eq_true_eq, decide_eq_false_iff_not, beq_iff_eq, bne_iff_ne, beq_eq_false_iff_ne, bne_eq_false_iff_eq, Bool.not_eq_true', Bool.not_eq_false', Bool.not_eq_true, ne_eq, Decidable.not_not] at g39
    refine OL.off rfl rfl (OL.off rfl rfl (OL.off rfl rfl (OL.dp rfl (OL.dp rfl (OL.nil (PW.k1 4 rfl (PW.ret ?_)))))))
    change (Exit.ret = Exit.normal ∨ Exit.ret = Exit.ret) /\ ∃ v, resV _ _ = some v /\ _
    refine ⟨.inr rfl, _, rfl, _, Sub.drop (Sub.refl _), _, rfl, rfl, fun hb => ?_⟩
    first
      | (cases hb; done)
      | (simp only [decide_eq_false_iff_not, Int.not_lt] at hb
         obtain rfl : k = l.length := by omega
         rw [List.take_length] at hall
         exact ⟨by omega, by omega, hall, by omega, by omega⟩)
  try simp only [decide_eq_true_eq, decide_eq_false_iff_not, beq_iff_eq, bne_iff_ne, beq_eq_false_iff_ne, bne_eq_false_iff_eq, Bool.not_eq_true', Bool.not_eq_false', Bool.not_eq_true, ne_eq, Decidable.not_not] at g39
  refine OL.det rfl (.pure rfl) (OL.det rfl (.ld rfl (own_at (j := 0) (c := [.int .i64 tv, .slice A l.length c]) (E := 24) (tot := 2) zM0 rfl)) (OL.det rfl (.pure rfl) (OL.dp rfl (OL.dp rfl (OL.nil (PW.k1 4 rfl (PW.ret ?_)))))))
  change (Exit.ret = Exit.normal ∨ Exit.ret = Exit.ret) /\ ∃ v, resV _ _ = some v /\ _
  refine ⟨.inr rfl, _, rfl, _, Sub.drop (Sub.refl _), _, rfl, rfl, fun hb => ?_⟩
  first
    | (cases hb; done)
    | (simp only [decide_eq_false_iff_not, Int.not_lt] at hb
       obtain rfl : k = l.length := by omega
       rw [List.take_length] at hall
       exact ⟨by omega, by omega, hall, by omega, by omega⟩)
theorem find_fc {w0 : World} {S : SS} {A : Option Addr} {c : Nat} {tv : Int} {l : List RuleB} {s : ByteArray} (hx : Rd w0 S A (ruls l)) (hw : ∀ x ∈ l, x.1.size <= 1000000000) (hs : s.size <= 1000000000) (hl : l.length <= 1000000000) :
  FC Tryz.prog w0 10 [tabV tv A l.length c, .string s] S (fun v S' => v = labB (findP l s) /\ S' = S) := by
 refine FC.ofC Tryz.known10 (by simp) ?_
 unfold Tryz.pc10
 simp only [argT]
 refine PW.seqOps (OL.cons trivial (OW.bx rfl) ?_)
 rintro _ _ ⟨r2, rfl, rfl⟩
 change OL _ _ _ _ _ (tseg r2 tv A l.length c :: S) _
 refine OL.cons trivial OW.al ?_
 rintro _ _ ⟨r4, rfl, rfl⟩
 refine OL.nil (PW.k3 1 2 4 rfl (PW.seqOps (OL.dp rfl (OL.nil (PW.k4 1 2 4 5 rfl ?_)))))
 refine PW.seq fun K1 hK1 => ?_
 refine PW.seqOps (OL.dp rfl (OL.det trivial (.ld rfl (own_at (j := 1) (c := [.int .i64 tv, .slice A l.length c]) (E := 24) (tot := 2) zM1 rfl)) (OL.dp rfl (OL.dp rfl (OL.nil (PW.k6 1 4 5 9 10 11 rfl (PW.block (PW.k6 1 4 5 9 10 11 rfl ?_))))))))
 refine PW.loopK (I := fun m T S' => ∃ (k : Nat), (k <= l.length /\ m = l.length - k) /\ T = ([(1, .string s), (4, .pointer (some ⟨r4, 0, none⟩)), (5, .int .i64 (findS (l.take k) s).1), (9, .slice A l.length c), (10, .int .i64 (l.length : Int)), (11, .int .i64 k)] : TT) /\ S' = lseg r4 (findS (l.take k) s).2 :: tseg r2 tv A l.length c :: S) (m := l.length) ⟨0, ⟨by omega, by omega⟩, rfl, rfl⟩ ?_
 rintro m _ _ ⟨k, ⟨hk, hm⟩, rfl, rfl⟩
 have hrg := findS_rng (s := s) hw k hk
 refine PW.seqOps (OL.dp rfl (OL.nil (PW.k7 1 4 5 9 10 11 12 rfl ?_)))
 refine PW.seq fun K2 hK2 => ?_
 refine PW.cond rfl (fun c12 => ?_) (fun c12 => ?_)
 ·try simp only [decide_eq_true_eq, decide_eq_false_iff_not, beq_iff_eq, bne_iff_ne, beq_eq_false_iff_ne, bne_eq_false_iff_eq, Bool.not_eq_true', Bool.not_eq_false', Bool.not_eq_true, ne_eq, Decidable.not_not] at c12
  have hkl : k < l.length := by omega
  obtain ⟨a0, rfl⟩ := ruls_some hx (by omega)
  have hwk := hw _ (List.getElem_mem hkl)
  refine PW.skip (hK2 _ _ (PW.k6 1 4 5 9 10 11 rfl ?_))
  refine PW.seq fun K3 hK3 => ?_
  refine PW.block (PW.seqOps ?_)
  refine OL.det trivial (.ixN rfl rfl rfl (by omega)) ?_
  refine OL.det trivial (.ldA rfl (cs := ruleC l[k]) rfl (rule_at hx.cons.cons hkl)) (OL.cons trivial OW.al ?_)
  rintro _ _ ⟨r7, rfl, rfl⟩
  refine OL.cons trivial (OW.st (k := 0) rfl rfl rfl rfl (by decide) rfl) ?_
  rintro _ _ rfl
  change OL _ _ _ _ _ (rseg r7 l[k] :: lseg r4 (findS (l.take k) s).2 :: tseg r2 tv (some a0) l.length c :: S) _
  refine OL.nil (PW.k7 1 4 5 7 9 10 11 rfl (PW.seqOps (OL.dp rfl (OL.det trivial (.ld rfl (own_at (j := 0) (c := ruleC l[k]) (E := 48) (tot := 3) zM0 rfl)) (OL.dp rfl (OL.dp rfl (OL.dp rfl ?_)))))))
  refine OL.bool trivial (Yields.pure rfl) (fun g20 => ?_) (fun g20 => ?_)
  ·try simp only [decide_eq_true_eq, decide_eq_false_iff_not, beq_iff_eq, bne_iff_ne, beq_eq_false_iff_ne, bne_eq_false_iff_eq, Bool.not_eq_true', Bool.not_eq_false', Bool.not_eq_true, ne_eq, Decidable.not_not] at g20
   refine OL.det rfl (.pure rfl) (OL.det rfl (.ld rfl (own_at (j := 0) (c := ruleC l[k]) (E := 48) (tot := 3) zM0 rfl)) (OL.det rfl (.pure rfl) (OL.call rfl rfl (rover_fc hwk hs) ?_)))
   rintro _ Sx ⟨rfl, hSx⟩
   rw [hSx]
   clear hSx
   refine OL.dp rfl (OL.nil (PW.k8 1 4 5 7 9 10 11 25 rfl ?_))
   refine PW.cond rfl (fun c25 => ?_) (fun c25 => ?_)
   ·try simp only [decide_eq_true_eq, decide_eq_false_iff_not, beq_iff_eq, bne_iff_ne, beq_eq_false_iff_ne, bne_eq_false_iff_eq, Bool.not_eq_true', Bool.not_eq_false', Bool.not_eq_true, ne_eq, Decidable.not_not] at c25
    refine PW.quietK Tryz.mixed (QK.dp rfl (QK.det trivial (.ld rfl (own_at (j := 0) (c := ruleC l[k]) (E := 48) (tot := 3) zM0 rfl)) (QK.dp rfl (QK.dp rfl (QK.det trivial (.ldA rfl rfl (rseg_at (x := l[k]))) (QK.dp rfl (QK.nil ?_)))))))
    change OL _ _ _ [_] _ _ _
    refine OL.cons trivial (OW.st (k := 1) (u := labB l[k].2) rfl rfl rfl rfl (Nat.le_refl 2) rfl) ?_
    rintro _ _ rfl
    change OL _ _ _ _ _ (rseg r7 l[k] :: lseg r4 l[k].2 :: tseg r2 tv (some a0) l.length c :: S) _
    refine OL.nil (hK3 _ _ (PW.k6 1 4 5 9 10 11 rfl (PW.ops ?_)))
    refine OL.det trivial (.add64 rfl rfl (by omega) (by omega)) ?_
    refine OL.dp rfl (OL.nil ?_)
    repeat rw [inBlk_n]
    try rw [thenK_n]
    refine LoopEnd.mkS ((Sub.drop (Sub.refl _))) (T'' := [(1, _), (4, _), (5, _), (9, _), (10, _), (11, _)]) (wi rfl) ?_
    refine ⟨l.length - (k + 1), by omega, k + 1, ⟨by omega, rfl⟩, ?_, ?_⟩
    ·rw [findS_take hkl, if_pos ⟨by omega, c25⟩] <;> rfl
    rw [findS_take hkl, if_pos ⟨by omega, c25⟩] <;> rfl
   try simp only [decide_eq_true_eq, decide_eq_false_iff_not, beq_iff_eq, bne_iff_ne, beq_eq_false_iff_ne, bne_eq_false_iff_eq, Bool.not_eq_true', Bool.not_eq_false', Bool.not_eq_true, ne_eq, Decidable.not_not] at c25
   refine PW.skip (hK3 _ _ (PW.k6 1 4 5 9 10 11 rfl (PW.ops ?_)))
   refine OL.det trivial (.add64 rfl rfl (by omega) (by omega)) ?_
   refine OL.dp rfl (OL.nil ?_)
   repeat rw [inBlk_n]
   try rw [thenK_n]
   refine LoopEnd.mkS ((Sub.drop (Sub.refl _))) (T'' := [(1, _), (4, _), (5, _), (9, _), (10, _), (11, _)]) (wi rfl) ?_
   refine ⟨l.length - (k + 1), by omega, k + 1, ⟨by omega, rfl⟩, ?_, ?_⟩
   ·rw [findS_take hkl, if_neg (fun h => by rw [h.2] at c25; cases c25)] <;> rfl
   rw [findS_take hkl, if_neg (fun h => by rw [h.2] at c25; cases c25)]
  try simp only [decide_eq_true_eq, decide_eq_false_iff_not, beq_iff_eq, bne_iff_ne, beq_eq_false_iff_ne, bne_eq_false_iff_eq, Bool.not_eq_true', Bool.not_eq_false', Bool.not_eq_true, ne_eq, Decidable.not_not] at g20
  refine OL.off rfl rfl (OL.off rfl rfl (OL.off rfl rfl (OL.off rfl rfl (OL.dp rfl (OL.nil (PW.k8 1 4 5 7 9 10 11 25 rfl (PW.ite (b := false) rfl ?_)))))))
  rw [if_neg Bool.false_ne_true]
  refine PW.skip (hK3 _ _ (PW.k6 1 4 5 9 10 11 rfl (PW.ops ?_)))
  refine OL.det trivial (.add64 rfl rfl (by omega) (by omega)) ?_
  refine OL.dp rfl (OL.nil ?_)
  repeat rw [inBlk_n]
  try rw [thenK_n]
  refine LoopEnd.mkS ((Sub.drop (Sub.refl _))) (T'' := [(1, _), (4, _), (5, _), (9, _), (10, _), (11, _)]) (wi rfl) ?_
  refine ⟨l.length - (k + 1), by omega, k + 1, ⟨by omega, rfl⟩, ?_, ?_⟩
  ·rw [findS_take hkl, if_neg (fun h => by omega)] <;> rfl
  rw [findS_take hkl, if_neg (fun h => by omega)]
 try simp only [decide_eq_true_eq, decide_eq_false_iff_not, beq_iff_eq, bne_iff_ne, beq_eq_false_iff_ne, bne_eq_false_iff_eq, Bool.not_eq_true', Bool.not_eq_false', Bool.not_eq_true, ne_eq, Decidable.not_not] at c12
 refine PW.exit (hK1 _ _ (PW.k1 4 rfl (PW.seqOps (OL.det trivial (.ldA rfl rfl (lab_at (a := (findS (l.take k) s).2) (r := r4) zM0)) (OL.cons trivial (OW.st (k := 0) (u := labB (findS (l.take k) s).2) rfl rfl rfl rfl (Nat.le_refl 2) rfl) ?_)))))
 rintro _ _ rfl
 change OL _ _ _ _ _ (lseg r4 (findS (l.take k) s).2 :: tseg r2 tv A l.length c :: S) _
 refine OL.nil (PW.k1 4 rfl (PW.ret ?_))
 obtain rfl : k = l.length := by omega
 rw [List.take_length]
 exact ⟨.inr rfl, _, labB (findP l s), rfl, lab_read (r := r4) (l := (findS l s).2.1) (c := ((findS l s).2.2.toNat : Int)) zM0, _, Sub.drop (Sub.drop (Sub.refl _)), rfl, rfl⟩
theorem ruls_app (a b : List RuleB) : ruls (a ++ b) = ruls a ++ ruls b := by unfold ruls; rw [List.flatMap_append]
theorem ruls_one (l : List RuleB) : (ruls l).all (·.oneCell') = true := by
 rw [List.all_eq_true]
 intro v hv
 obtain ⟨a, _, h⟩ := List.mem_flatMap.1 hv
 simp [ruleC] at h
 rcases h with rfl | rfl | rfl <;> rfl
theorem slv_nil_len {E sz m : Nat} {v : Value} {xs : List Value} {seg : Seg} (hv : SlV E sz v m xs seg) (h : 0 < m) : ∃ r cap, v = .slice (some ⟨r, 0, none⟩) m cap /\ seg = [(r, .cells xs E (cap * sz))] /\ m <= cap /\ cap <= maxLen := by
 obtain ⟨hl, ⟨rfl, rfl, rfl⟩ | h2⟩ := hv
 ·omega
 exact h2
def insL (l : List RuleB) (i : Nat) (x : RuleB) : List RuleB := l.take i ++ x :: l.drop i
theorem insL_len {l : List RuleB} {i : Nat} (h : i <= l.length) (x : RuleB) : (insL l i x).length = l.length + 1 := by unfold insL; simp; omega
theorem insL_ruls (l : List RuleB) (i : Nat) (x : RuleB) : ruls (insL l i x) = ruls (l.take i) ++ ruleC x ++ ruls (l.drop i) := by
 unfold insL
 rw [ruls_app, List.append_assoc]
 rfl
theorem lay2 {A Z X B : List Value} {i p q : Nat} (hi : A.length = i) (hX : X.length = p) (hB : B.length = q) (hZ : p + q <= Z.length) : (setAt (setAt (A ++ Z) i X) (i + p) B).take (i + p + q) = A ++ X ++ B /\ i + p + q <= (setAt (setAt (A ++ Z) i X) (i + p) B).length := by
 have h1 : i + X.length <= (A ++ Z).length := by simp; omega
 have e1 := setAt_eq (A ++ Z) i X h1
 have e2 : (A ++ Z).take i = A := by rw [<- hi]; simp
 have h2 : i + p + B.length <= (setAt (A ++ Z) i X).length := by rw [setAt_length]; simp; omega
 refine ⟨?_, by rw [setAt_length, setAt_length]; simp; omega⟩
 rw [setAt_eq _ _ _ h2, e1, e2]
 have e3 : (A ++ X ++ (A ++ Z).drop (i + X.length)).take (i + p) = A ++ X := by
  rw [List.take_append_of_le_length (by simp; omega), List.take_of_length_le (by simp; omega)]
 rw [e3, List.take_append_of_le_length (by simp; omega), List.take_of_length_le (by simp; omega)]
theorem lay3 {A Z X B : List Value} {i p q : Nat} (hi : A.length = i) (hX : X.length = p) (hB : B.length = q) (hZ : p + q <= Z.length) : (setAt (setAt (A ++ Z) (i + p) B) i X).take (i + p + q) = A ++ X ++ B /\ i + p + q <= (setAt (setAt (A ++ Z) (i + p) B) i X).length := by
 have h2 : i + p + B.length <= (A ++ Z).length := by simp; omega
 have h1 : i + X.length <= (setAt (A ++ Z) (i + p) B).length := by rw [setAt_length]; simp; omega
 refine ⟨?_, by rw [setAt_length, setAt_length]; simp; omega⟩
 rw [setAt_eq _ _ _ h1, setAt_eq _ _ _ h2]
 have e2 : ((A ++ Z).take (i + p) ++ B ++ (A ++ Z).drop (i + p + B.length)).take i = A := by
  rw [List.append_assoc, List.take_append_of_le_length (by simp; omega), List.take_take, Nat.min_eq_left (by omega), <- hi]; simp
 have e3 : ((A ++ Z).take (i + p) ++ B ++ (A ++ Z).drop (i + p + B.length)).drop (i + X.length) = B ++ (A ++ Z).drop (i + p + B.length) := by
  rw [List.append_assoc, hX]
  have : ((A ++ Z).take (i + p)).length = i + p := by simp; omega
  exact List.drop_left' this
 rw [e2, e3, <- List.append_assoc, List.take_append_of_le_length (by simp; omega), List.take_of_length_le (by simp; omega)]
theorem owns_take {w : World} {b E tot : Nat} {c : List Value} (m : Nat) (h : Owns w b (.cells c E tot)) : Owns w b (.cells (c.take m) E tot) := by
 obtain ⟨C, h1, h2, h3⟩ := h
 refine ⟨C, h1, h2, ?_⟩
 rw [<- h3]
 simp [List.take_take]
theorem OL_neq {P : Program} {w0 : World} {n : Nat} {T : TT} {S : SS} {l : List PI} {K : TT -> SS -> Prop} {i j a b : Nat} {x y : AO} (h1 : S[i]? = some [(a, x)]) (h2 : S[j]? = some [(b, y)]) (hij : i < j) (h : a ≠ b -> OL P w0 n l T S K) : OL P w0 n l T S K := by
 intro ops is ac w Q hc hs hr hq
 refine h ?_ ops is ac w Q hc hs hr hq
 have := nodup_disj hr.nodup hij (p := (a, x)) (q := (b, y)) (by rw [List.getD_eq_getElem?_getD, h1]; simp) (by rw [List.getD_eq_getElem?_getD, h2]; simp)
 exact this
theorem callOver (vs : Array Value) (w : World) : (callFunc 53 vs).run Tryz.prog w = ((Extern.SlicesOverlaps.overlaps #[22, 22] #[4] vs).run Tryz.prog w).andThen fun v w => .ok (.value v) w :=
 run_callFunc_extern Tryz.func53 (by kernel_rfl) (by kernel_rfl) (by kernel_rfl) (e := Extern.SlicesOverlaps.overlaps #[22, 22] #[4]) (by kernel_rfl) vs w
theorem size56 (w : World) : (Go.sizeOf 48).run Tryz.prog w = .ok 3 w := by
 obtain ⟨i, hi⟩ := info_of_underlying Tryz.underlying48
 rw [run_sizeOf w hi, show Tryz.prog.cellsOf 48 = 3 by kernel_rfl]
def ltB (a b : ByteArray) : Bool := Op.bytesLess a.toList b.toList
def idxZ (q : RuleB -> Bool) (l : List RuleB) : Int := match l.findIdx? q with | some k => (k : Int) | none => -1
theorem idx_take {q : RuleB -> Bool} {l : List RuleB} {k : Nat} (hk : k < l.length) (h : ∀ x ∈ l.take k, q x = false) (hq : q l[k] = true) : idxZ q l = (k : Int) := by
 unfold idxZ
 have : l.findIdx? q = some k := by
  rw [List.findIdx?_eq_some_iff_getElem]
  refine ⟨hk, hq, fun j hj => ?_⟩
  have := h l[j] (List.mem_take_iff_getElem.2 ⟨j, by omega, rfl⟩)
  simp [this]
 rw [this]
theorem idx_no {q : RuleB -> Bool} {l : List RuleB} (h : ∀ x ∈ l, q x = false) : idxZ q l = -1 := by
 unfold idxZ
 have : l.findIdx? q = none := by rw [List.findIdx?_eq_none_iff]; exact h
 rw [this]
theorem rclone_fc {w0 : World} {S : SS} {A : Option Addr} {c : Nat} {l : List RuleB} (hx : Rd w0 S A (ruls l)) (hb : l.length <= 1000000000000) :
  FC Tryz.prog w0 34 [.slice A l.length c] S (fun v S' => ∃ seg, S' = seg :: S /\ SlV 48 3 v l.length (ruls l) seg) := by
 refine FC.ofD Tryz.known34 (by simp) ?_
 unfold Tryz.pc34
 simp only [argT]
 refine PW.seqOps (OL.dp rfl (OL.nil (PW.k1 0 rfl ?_)))
 refine PW.seq fun K1 hK1 => ?_
 refine PW.seqOps (OL.dp rfl (OL.det trivial (Yields.slNil rfl) (OL.nil (PW.k2 0 4 rfl ?_))))
 refine PW.cond rfl (fun c4 => ?_) (fun c4 => ?_)
 ·try simp only [decide_eq_true_eq, decide_eq_false_iff_not, beq_iff_eq, bne_iff_ne, beq_eq_false_iff_ne, bne_eq_false_iff_eq, Bool.not_eq_true', Bool.not_eq_false', Bool.not_eq_true, ne_eq, Decidable.not_not] at c4
  refine PW.seqOps (OL.dp rfl (OL.nil (PW.k1 2 rfl (PW.ret ?_))))
  change (Exit.ret = Exit.normal ∨ Exit.ret = Exit.ret) /\ ∃ v, resV _ _ = some v /\ _
  obtain rfl : A = none := by cases A with
   | none => rfl
   | some a => simp at c4
  have hl : l = [] := by
   cases l with
   | nil => rfl
   | cons x l => obtain ⟨a, e⟩ := ruls_some hx (by simp); cases e
  subst hl
  exact ⟨.inr rfl, _, rfl, _, Sub.nilL (Sub.refl _), [], rfl, SlV.nil 48 3⟩
 try simp only [decide_eq_true_eq, decide_eq_false_iff_not, beq_iff_eq, bne_iff_ne, beq_eq_false_iff_ne, bne_eq_false_iff_eq, Bool.not_eq_true', Bool.not_eq_false', Bool.not_eq_true, ne_eq, Decidable.not_not] at c4
 refine PW.skip (hK1 _ _ (PW.k1 0 rfl (PW.seqOps (OL.cons trivial OW.bsl0 ?_))))
 rintro _ _ ⟨r5, rfl, rfl⟩
 refine OL.dp rfl ?_
 obtain ⟨a0, rfl⟩ : ∃ a, A = some a := by cases A with
  | none => simp at c4
  | some a => exact ⟨a, rfl⟩
 refine OL.cons trivial (OW.app (k := 0) (m := 0) (xs := []) rfl rfl (SlV.mk' (cap := 0) rfl (Nat.le_refl 0) (by decide)) rfl (ruls_len l) (fun j u hj => hx.cons.at hj) (ruls_one l) (by omega) (by unfold maxLen; omega)) ?_
 rintro v7 _ ⟨seg7, rfl, hsl7⟩
 change OL _ _ _ _ _ (seg7 :: S) _
 rw [Nat.zero_add, List.nil_append] at hsl7
 refine OL.dp rfl (OL.nil (PW.k1 2 rfl (PW.ret ?_)))
 change (Exit.ret = Exit.normal ∨ Exit.ret = Exit.ret) /\ ∃ v, resV _ _ = some v /\ _
 exact ⟨.inr rfl, _, rfl, _, Sub.refl _, _, rfl, hsl7⟩
theorem geq_fc {w0 : World} {S : SS} {x : RuleB} {rp : Nat} {at_ : ByteArray} (h : Cell w0 S ⟨rp, 0, none⟩ (.string at_)) :
  FC Tryz.prog w0 36 [.agg #[.string x.1, .int .i64 x.2.1, .int .u64 (x.2.2.toNat : Int)], .pointer (some ⟨rp, 0, none⟩)] S (fun v S' => v = .bool (!ltB x.1 at_) /\ S' = S) := by
 refine FC.ofD Tryz.known36 (by simp) ?_
 unfold Tryz.pc36
 simp only [argT]
 refine PW.seqOps (OL.cons trivial (OW.bx rfl) ?_)
 rintro _ _ ⟨r2, rfl, rfl⟩
 change OL _ _ _ _ _ (rseg r2 x :: S) _
 refine OL.dp rfl (OL.nil (PW.k2 1 2 rfl (PW.seqOps (OL.dp rfl (OL.det trivial (.ld rfl (own_at (j := 0) (c := ruleC x) (E := 48) (tot := 3) zM0 rfl)) ?_)))))
 refine OL.det trivial (.ld rfl (h.mono (fun p hp => by simp [hp]))) ?_
 refine OL.dp rfl (OL.dp rfl (OL.nil (PW.k1 3 rfl (PW.ret ?_))))
 change (Exit.ret = Exit.normal ∨ Exit.ret = Exit.ret) /\ ∃ v, resV _ _ = some v /\ _
 exact ⟨.inr rfl, _, rfl, _, Sub.drop (Sub.refl _), rfl, rfl⟩
theorem indexR_fc {w0 : World} {S : SS} {A : Option Addr} {cap g : Nat} {ca : List Value} {l : List RuleB} {q : RuleB -> Bool} (hx : Rd w0 S A (ruls l)) (hb : l.length <= 1000000000) (hok : fnOk Tryz.prog g = true) (hq : ∀ x ∈ l, FC Tryz.prog w0 g (.agg #[.string x.1, .int .i64 x.2.1, .int .u64 (x.2.2.toNat : Int)] :: ca) S (fun v S' => v = .bool (q x) /\ S' = S)) :
  FC Tryz.prog w0 35 [.slice A l.length cap, .func (.func g) #[] ca.toArray] S (fun v S' => v = .int .i64 (idxZ q l) /\ S' = S) := by
 refine FC.of Tryz.known35 (by simp) ?_
 unfold Tryz.pc35
 simp only [argT]
 refine PW.seqOps (OL.dp rfl (OL.nil (PW.k2 0 1 rfl ?_)))
 refine PW.seq fun K1 hK1 => ?_
 refine PW.seqOps (OL.dp rfl (OL.dp rfl (OL.dp rfl (OL.nil (PW.k4 0 1 7 8 rfl (PW.block (PW.k4 0 1 7 8 rfl ?_)))))))
 refine PW.loopK (I := fun m T S' => ∃ (k : Nat), (k <= l.length /\ m = l.length - k /\ ∀ x ∈ l.take k, q x = false) /\ T = ([(0, .slice A l.length cap), (1, .func (.func g) #[] ca.toArray), (7, .int .i64 (l.length : Int)), (8, .int .i64 k)] : TT) /\ S' = S) (m := l.length) ⟨0, ⟨by omega, by omega, by simp⟩, rfl, rfl⟩ ?_
 rintro m _ _ ⟨k, ⟨hk, hm, hall⟩, rfl, rfl⟩
 refine PW.seqOps (OL.dp rfl (OL.nil (PW.k5 0 1 7 8 9 rfl ?_)))
 refine PW.seq fun K2 hK2 => ?_
 refine PW.cond rfl (fun c9 => ?_) (fun c9 => ?_)
 ·try simp only [decide_eq_true_eq, decide_eq_false_iff_not, beq_iff_eq, bne_iff_ne, beq_eq_false_iff_ne, bne_eq_false_iff_eq, Bool.not_eq_true', Bool.not_eq_false', Bool.not_eq_true, ne_eq, Decidable.not_not] at c9
  have hkl : k < l.length := by omega
  obtain ⟨b0, rfl⟩ := ruls_some hx (by omega)
  refine PW.skip (hK2 _ _ (PW.k4 0 1 7 8 rfl ?_))
  refine PW.seq fun K3 hK3 => ?_
  refine PW.block (PW.seqOps (OL.dp rfl (OL.dp rfl (OL.nil (PW.k5 0 1 5 7 8 rfl (PW.seqOps (OL.dp rfl (OL.dp rfl (OL.dp rfl ?_)))))))))
  refine OL.det trivial (.ixN rfl rfl rfl (by omega)) ?_
  refine OL.det trivial (.ldA rfl (cs := ruleC l[k]) rfl (rule_at hx hkl)) (OL.cons trivial (OW.callv (fi := []) (ca := ca) rfl hok rfl (hq _ (List.getElem_mem hkl))) ?_)
  rintro _ Sx ⟨rfl, hSx⟩
  rw [hSx]
  clear hSx
  refine OL.nil (PW.k6 0 1 5 7 8 16 rfl ?_)
  refine PW.cond rfl (fun c16 => ?_) (fun c16 => ?_)
  ·try simp only [decide_eq_true_eq, decide_eq_false_iff_not, beq_iff_eq, bne_iff_ne, beq_eq_false_iff_ne, bne_eq_false_iff_eq, Bool.not_eq_true', Bool.not_eq_false', Bool.not_eq_true, ne_eq, Decidable.not_not] at c16
   refine PW.seqOps (OL.dp rfl (OL.dp rfl (OL.nil (PW.k1 4 rfl (PW.ret ?_)))))
   change (Exit.ret = Exit.normal ∨ Exit.ret = Exit.ret) /\ ∃ v, resV _ _ = some v /\ _
   exact ⟨.inr rfl, _, rfl, by rw [idx_take hkl hall c16], rfl⟩
  try simp only [decide_eq_true_eq, decide_eq_false_iff_not, beq_iff_eq, bne_iff_ne, beq_eq_false_iff_ne, bne_eq_false_iff_eq, Bool.not_eq_true', Bool.not_eq_false', Bool.not_eq_true, ne_eq, Decidable.not_not] at c16
  refine PW.skip (hK3 _ _ (PW.k4 0 1 7 8 rfl (PW.ops ?_)))
  refine OL.det trivial (.add64 rfl rfl (by omega) (by omega)) ?_
  refine OL.dp rfl (OL.nil ?_)
  repeat rw [inBlk_n]
  try rw [thenK_n]
  refine LoopEnd.mk (T'' := [(0, _), (1, _), (7, _), (8, _)]) (wi rfl) ?_
  refine ⟨l.length - (k + 1), by omega, k + 1, ⟨by omega, rfl, fun x hx => ?_⟩, by simp, rfl⟩
  rw [rtake_snoc hkl, List.mem_append, List.mem_singleton] at hx
  rcases hx with hx | rfl
  ·exact hall x hx
  exact c16
 try simp only [decide_eq_true_eq, decide_eq_false_iff_not, beq_iff_eq, bne_iff_ne, beq_eq_false_iff_ne, bne_eq_false_iff_eq, Bool.not_eq_true', Bool.not_eq_false', Bool.not_eq_true, ne_eq, Decidable.not_not] at c9
 refine PW.exit (hK1 _ _ (PW.keep (T' := []) trivial (PW.seqOps (OL.dp rfl (OL.nil (PW.k1 4 rfl (PW.ret ?_)))))))
 change (Exit.ret = Exit.normal ∨ Exit.ret = Exit.ret) /\ ∃ v, resV _ _ = some v /\ _
 obtain rfl : k = l.length := by omega
 rw [List.take_length] at hall
 exact ⟨.inr rfl, _, rfl, by rw [idx_no hall], rfl⟩
theorem insert_nil {w0 : World} {S : SS} {rv : Nat} {x : RuleB} :
  FC Tryz.prog w0 37 [.slice none 0 0, .int .i64 0, .slice (some ⟨rv, 0, none⟩) 1 1] ([(rv, .cells (ruleC x) 48 3)] :: S) (fun v S' => ∃ seg, S' = seg :: S /\ SlV 48 3 v 1 (ruls [x]) seg) := by
 refine FC.ofD Tryz.known37 (by simp) ?_
 unfold Tryz.pc37
 simp only [argT]
 refine PW.seqOps (OL.dp rfl (OL.nil (PW.k3 0 1 2 rfl (PW.seqOps (OL.dp rfl (OL.dp rfl ?_))))))
 refine OL.det trivial (.slS (l := 0) (h := 0) rfl rfl rfl (.inl rfl) (.inr ⟨rfl, rfl⟩) (by omega) (by omega)) ?_
 refine OL.nil (PW.k3 0 1 2 rfl (PW.seqOps (OL.dp rfl (OL.dp rfl (OL.dp rfl (OL.nil (PW.k4 0 1 2 7 rfl ?_)))))))
 refine PW.seq fun K1 hK1 => ?_
 refine PW.seqOps (OL.dp rfl (OL.dp rfl (OL.nil (PW.k5 0 1 2 7 16 rfl ?_))))
 refine PW.cond rfl (fun c16 => ?_) (fun c16 => ?_)
 ·try simp only [decide_eq_true_eq, decide_eq_false_iff_not, beq_iff_eq, bne_iff_ne, beq_eq_false_iff_ne, bne_eq_false_iff_eq, Bool.not_eq_true', Bool.not_eq_false', Bool.not_eq_true, ne_eq, Decidable.not_not] at c16
  exfalso; revert c16; decide
  -- done
 try simp only [decide_eq_true_eq, decide_eq_false_iff_not, beq_iff_eq, bne_iff_ne, beq_eq_false_iff_ne, bne_eq_false_iff_eq, Bool.not_eq_true', Bool.not_eq_false', Bool.not_eq_true, ne_eq, Decidable.not_not] at c16
 refine PW.skip (hK1 _ _ (PW.k4 0 1 2 7 rfl (PW.seqOps (OL.dp rfl (OL.dp rfl (OL.dp rfl (OL.nil (PW.k5 0 1 2 7 8 rfl ?_))))))))
 refine PW.seq fun K2 hK2 => ?_
 refine PW.seqOps (OL.dp rfl (OL.dp rfl (OL.dp rfl (OL.nil (PW.k6 0 1 2 7 8 22 rfl ?_)))))
 refine PW.cond rfl (fun c22 => ?_) (fun c22 => ?_)
 ·try simp only [decide_eq_true_eq, decide_eq_false_iff_not, beq_iff_eq, bne_iff_ne, beq_eq_false_iff_ne, bne_eq_false_iff_eq, Bool.not_eq_true', Bool.not_eq_false', Bool.not_eq_true, ne_eq, Decidable.not_not] at c22
  refine PW.seqOps (OL.dp rfl (OL.dp rfl (OL.nilseg ?_)))
  refine OL.cons trivial (OW.app (k := 0) (m := 0) (q := 1) (xs := []) (news := ruleC x) rfl rfl (SlV.nil 48 3) rfl rfl (fun j u hj => (Rd.own (E := 48) (tot := 3) zM1).at hj) rfl (by omega) (by unfold maxLen; omega)) ?_
  rintro v25 _ ⟨seg25, rfl, hsl25⟩
  rw [Nat.zero_add, List.nil_append] at hsl25
  change OL _ _ _ _ _ (seg25 :: [(rv, .cells (ruleC x) 48 3)] :: S) _
  refine OL.dp rfl (OL.nil (PW.k1 6 rfl (PW.ret ?_)))
  change (Exit.ret = Exit.normal ∨ Exit.ret = Exit.ret) /\ ∃ v, resV _ _ = some v /\ _
  exact ⟨.inr rfl, _, rfl, _, Sub.cons (Sub.drop (Sub.refl _)), _, rfl, hsl25⟩
 try simp only [decide_eq_true_eq, decide_eq_false_iff_not, beq_iff_eq, bne_iff_ne, beq_eq_false_iff_ne, bne_eq_false_iff_eq, Bool.not_eq_true', Bool.not_eq_false', Bool.not_eq_true, ne_eq, Decidable.not_not] at c22
 exfalso; revert c22; decide
 -- done
theorem insert_own {w0 : World} {S : SS} {rv r cap i : Nat} {x : RuleB} {l : List RuleB} (hi : i <= l.length) (hc : l.length <= cap) (hcm : cap <= maxLen) (hb : l.length <= 1000000000) :
  FC Tryz.prog w0 37 [.slice (some ⟨r, 0, none⟩) l.length cap, .int .i64 i, .slice (some ⟨rv, 0, none⟩) 1 1] ([(rv, .cells (ruleC x) 48 3)] :: [(r, .cells (ruls l) 48 (cap * 3))] :: S) (fun v S' => ∃ seg, S' = seg :: S /\ SlV 48 3 v (l.length + 1) (ruls (insL l i x)) seg) := by
 refine FC.ofD Tryz.known37 (by simp) ?_
 unfold Tryz.pc37
 simp only [argT]
 refine PW.seqOps (OL.dp rfl (OL.nil (PW.k3 0 1 2 rfl (PW.seqOps (OL.dp rfl (OL.dp rfl ?_))))))
 refine OL.det trivial (.slS (l := i) (h := l.length) rfl rfl rfl (.inl rfl) (.inr ⟨rfl, rfl⟩) (by omega) (by omega)) ?_
 refine OL.nil (PW.k3 0 1 2 rfl (PW.seqOps (OL.dp rfl (OL.dp rfl (OL.dp rfl (OL.nil (PW.k4 0 1 2 7 rfl ?_)))))))
 refine PW.seq fun K1 hK1 => ?_
 refine PW.seqOps (OL.dp rfl (OL.dp rfl (OL.nil (PW.k5 0 1 2 7 16 rfl ?_))))
 refine PW.cond rfl (fun c16 => ?_) (fun c16 => ?_)
 ·try simp only [decide_eq_true_eq, decide_eq_false_iff_not, beq_iff_eq, bne_iff_ne, beq_eq_false_iff_ne, bne_eq_false_iff_eq, Bool.not_eq_true', Bool.not_eq_false', Bool.not_eq_true, ne_eq, Decidable.not_not] at c16
  exfalso; revert c16; decide
  -- done
 try simp only [decide_eq_true_eq, decide_eq_false_iff_not, beq_iff_eq, bne_iff_ne, beq_eq_false_iff_ne, bne_eq_false_iff_eq, Bool.not_eq_true', Bool.not_eq_false', Bool.not_eq_true, ne_eq, Decidable.not_not] at c16
 refine PW.skip (hK1 _ _ (PW.k4 0 1 2 7 rfl (PW.seqOps (OL.dp rfl (OL.dp rfl (OL.dp rfl (OL.nil (PW.k5 0 1 2 7 8 rfl ?_))))))))
 refine PW.seq fun K2 hK2 => ?_
 refine PW.seqOps (OL.dp rfl (OL.dp rfl (OL.dp rfl (OL.nil (PW.k6 0 1 2 7 8 22 rfl ?_)))))
 refine PW.cond rfl (fun c22 => ?_) (fun c22 => ?_)
 ·try simp only [decide_eq_true_eq, decide_eq_false_iff_not, beq_iff_eq, bne_iff_ne, beq_eq_false_iff_ne, bne_eq_false_iff_eq, Bool.not_eq_true', Bool.not_eq_false', Bool.not_eq_true, ne_eq, Decidable.not_not] at c22
  refine PW.seqOps (OL.dp rfl (OL.dp rfl ?_))
  refine OL.cons trivial (OW.app (k := 1) (m := l.length) (q := 1) (xs := ruls l) (news := ruleC x) rfl rfl (SlV.mk' (ruls_len l) hc hcm) rfl rfl (fun j u hj => (Rd.own (E := 48) (tot := 3) zM0).at hj) rfl (by omega) (by unfold maxLen; omega)) ?_
  rintro v25 _ ⟨seg25, rfl, hsl25⟩
  change OL _ _ _ _ _ ([(rv, .cells (ruleC x) 48 3)] :: seg25 :: S) _
  refine OL.dp rfl (OL.nil (PW.k1 6 rfl (PW.ret ?_)))
  change (Exit.ret = Exit.normal ∨ Exit.ret = Exit.ret) /\ ∃ v, resV _ _ = some v /\ _
  obtain rfl : i = l.length := by omega
  refine ⟨.inr rfl, _, rfl, _, Sub.drop (Sub.refl _), _, rfl, ?_⟩
  have e : ruls (insL l l.length x) = ruls l ++ ruleC x := by rw [insL_ruls, List.take_length, List.drop_length]; simp [ruls]
  rw [e]
  exact hsl25
 try simp only [decide_eq_true_eq, decide_eq_false_iff_not, beq_iff_eq, bne_iff_ne, beq_eq_false_iff_ne, bne_eq_false_iff_eq, Bool.not_eq_true', Bool.not_eq_false', Bool.not_eq_true, ne_eq, Decidable.not_not] at c22
 refine PW.skip (hK2 _ _ (PW.k5 0 1 2 7 8 rfl ?_))
 refine PW.seq fun K3 hK3 => ?_
 refine PW.seqOps (OL.dp rfl (OL.dp rfl ?_))
 refine OL.det trivial (.add64 rfl rfl (by omega) (by omega)) ?_
 refine OL.dp rfl (OL.det trivial (Yields.cap rfl) (OL.dp rfl (OL.nil (PW.k6 0 1 2 7 8 31 rfl ?_))))
 refine PW.cond rfl (fun c31 => ?_) (fun c31 => ?_)
 ·try simp only [decide_eq_true_eq, decide_eq_false_iff_not, beq_iff_eq, bne_iff_ne, beq_eq_false_iff_ne, bne_eq_false_iff_eq, Bool.not_eq_true', Bool.not_eq_false', Bool.not_eq_true, ne_eq, Decidable.not_not] at c31
  refine PW.seqOps (OL.dp rfl (OL.dp rfl ?_))
  refine OL.det trivial (.to (v' := .slice (some ⟨r, 0, none⟩) i cap) (Yields.slS (l := 0) (h := i) rfl rfl rfl (.inr ⟨rfl, rfl⟩) (.inl rfl) (by omega) (by omega)) (by rw [cutV0])) ?_
  refine OL.dp rfl (OL.dp rfl ?_)
  refine OL.det trivial (.add64 rfl rfl (by omega) (by omega)) ?_
  refine OL.dp rfl ?_
  refine OL.det trivial (.to (v' := .int .i64 ((l.length + 1 - i : Nat) : Int)) (Yields.sub64 rfl rfl (by omega) (by omega)) (by congr 1; omega)) ?_
  refine OL.cons trivial (OW.appM (m := i) (q := l.length + 1 - i) (olds := ruls (l.take i)) rfl rfl ((Rd.own (E := 48) (tot := cap * 3) zM1).pre (by rw [<- List.take_append_drop i l, ruls_app, List.take_append_drop]; exact List.prefix_append _ _)) (by rw [ruls_len, List.length_take]; omega) (by omega) (by omega) (by unfold maxLen; omega) (by omega)) ?_
  rintro _ _ ⟨r40, c40, rfl, hc40, hm40, rfl⟩
  rw [show i + (l.length + 1 - i) = l.length + 1 from by omega] at *
  rw [List.append_assoc]
  generalize hZ : (Builtin.zeroCells _ (l.length + 1 - i)).toList ++ (Builtin.zeroCells _ (c40 - (l.length + 1))).toList = Z
  have hZl : 3 + (l.length - i) * 3 <= Z.length := by rw [<- hZ]; simp [Builtin.zeroCells, Value.cells]; omega
  clear hZ
  refine OL.dp rfl (OL.nil (PW.k5 0 1 2 7 9 rfl (PW.seqOps (OL.dp rfl (OL.dp rfl ?_)))))
  refine OL.det trivial (.to (v' := .slice (some ⟨r40, i * 3, none⟩) (l.length + 1 - i) (c40 - i)) (Yields.slS (l := i) (h := l.length + 1) rfl rfl rfl (.inl rfl) (.inr ⟨rfl, rfl⟩) (by omega) (by omega)) (by unfold cutV; rw [if_neg (by omega)]; simp [Addr.add_lit])) ?_
  refine OL.dp rfl ?_
  refine OL.cons trivial (OW.cpyN (k := 0) (news := ruleC x) rfl rfl rfl (by rw [show Nat.min 1 (l.length + 1 - i) = 1 from Nat.min_eq_left (by omega)]; rfl) (Rd.own (E := 48) (tot := 3) zM1) (by simp [ruls_len, ruleC_len]; omega) rfl) ?_
  rintro _ _ ⟨rfl, rfl⟩
  change OL _ _ _ _ _ ([(r40, .cells (setAt (ruls (l.take i) ++ Z) (i * 3) (ruleC x)) 48 (c40 * 3))] :: [(rv, .cells (ruleC x) 48 3)] :: [(r, .cells (ruls l) 48 (cap * 3))] :: S) _
  refine OL.nil (PW.k4 0 1 7 9 rfl ?_)
  refine PW.seq fun K4 hK4 => ?_
  refine PW.quietK Tryz.mixed (QK.dp rfl (QK.dp rfl (QK.dp rfl ?_)))
  refine QK.det trivial (.add64 rfl rfl (by omega) (by omega)) ?_
  refine QK.det trivial (.to (v' := .slice (some ⟨r40, (i + 1) * 3, none⟩) (l.length - i) (c40 - (i + 1))) (Yields.slS (l := i + 1) (h := l.length + 1) rfl rfl rfl (.inl (by first | (congr 1; done) | (congr 1; omega))) (.inr ⟨rfl, rfl⟩) (by omega) (by omega)) (by unfold cutV; rw [if_neg (by omega)]; simp [Addr.add_lit])) ?_
  refine QK.dp rfl (QK.dp rfl ?_)
  refine QK.det trivial (.slS (l := i) (h := l.length) rfl rfl rfl (.inl rfl) (.inr ⟨rfl, rfl⟩) (by omega) (by omega)) ?_
  refine QK.nil ?_
  change OL _ _ _ [_] _ _ _
  have hsrc : ∀ S', (r, AO.cells (ruls l) 48 (cap * 3)) ∈ S'.flatten -> ∃ A c, cutV (some ⟨r, 0, none⟩) cap 3 i l.length = .slice A (l.length - i) c /\ Rd w0 S' A (ruls (l.drop i)) := by
   intro S' hm
   have hrd := Rd.own (w0 := w0) hm
   unfold cutV
   split
   ·refine ⟨_, _, rfl, ?_⟩
    rw [List.drop_of_length_le (by omega)]
    exact Rd.nil
   refine ⟨_, _, rfl, ?_⟩
   intro j v hj
   refine ⟨_, rfl, ?_⟩
   rw [addr_add_add]
   refine hrd.at ?_
   have hd : ruls l = ruls (l.take i) ++ ruls (l.drop i) := by rw [<- ruls_app, List.take_append_drop]
   rw [hd, List.getElem?_append_right (by rw [ruls_len, List.length_take]; omega), ruls_len, List.length_take, show i * 3 + j - min i l.length * 3 = j from by omega]
   exact hj
  obtain ⟨Ac, cc, ec, hrc⟩ := hsrc ([(r40, .cells (setAt (ruls (l.take i) ++ Z) (i * 3) (ruleC x)) 48 (c40 * 3))] :: [(rv, .cells (ruleC x) 48 3)] :: [(r, .cells (ruls l) 48 (cap * 3))] :: S) zM2
  rw [ec]
  have hlc : (ruls (l.drop i)).length = (l.length - i) * 3 := by rw [ruls_len, List.length_drop]
  refine OL.cons trivial (OW.cpyN (k := 0) (news := ruls (l.drop i)) rfl rfl rfl (by rw [hlc, show Nat.min (l.length - i) (l.length - i) = l.length - i from Nat.min_self _]) hrc (by rw [setAt_length, hlc, List.length_append, ruls_len, List.length_take]; omega) (ruls_one _)) ?_
  rintro _ _ ⟨rfl, rfl⟩
  have hlay := lay2 (A := ruls (l.take i)) (Z := Z) (X := ruleC x) (B := ruls (l.drop i)) (i := i * 3) (p := 3) (q := (l.length - i) * 3) (by rw [ruls_len, List.length_take]; omega) rfl hlc hZl
  rw [show i * 3 + 3 = (i + 1) * 3 from by omega, <- insL_ruls] at hlay
  refine OL.tell (k := 0) (o' := .cells (ruls (insL l i x)) 48 (c40 * 3)) rfl (fun w h => by have h2 := owns_take ((i + 1) * 3 + (l.length - i) * 3) h; rw [hlay.1] at h2; exact h2) ?_
  change OL _ _ _ _ _ ([(r40, .cells (ruls (insL l i x)) 48 (c40 * 3))] :: [(rv, .cells (ruleC x) 48 3)] :: [(r, .cells (ruls l) 48 (cap * 3))] :: S) _
  refine OL.nil (hK4 _ _ (PW.k1 9 rfl (PW.seqOps (OL.dp rfl (OL.dp rfl (OL.nil (PW.k1 6 rfl (PW.ret ?_))))))))
  change (Exit.ret = Exit.normal ∨ Exit.ret = Exit.ret) /\ ∃ v, resV _ _ = some v /\ _
  refine ⟨.inr rfl, _, rfl, _, Sub.cons (Sub.drop (Sub.drop (Sub.refl _))), _, rfl, ?_⟩
  exact SlV.mk' (by rw [ruls_len, insL_len hi]) hc40 hm40
 try simp only [decide_eq_true_eq, decide_eq_false_iff_not, beq_iff_eq, bne_iff_ne, beq_eq_false_iff_ne, bne_eq_false_iff_eq, Bool.not_eq_true', Bool.not_eq_false', Bool.not_eq_true, ne_eq, Decidable.not_not] at c31
 refine PW.skip (hK3 _ _ (PW.k5 0 1 2 7 8 rfl (PW.seqOps (OL.dp rfl (OL.dp rfl (OL.dp rfl ?_))))))
 refine OL.det trivial (.add64 rfl rfl (by omega) (by omega)) ?_
 refine OL.det trivial (.to (v' := .slice (some ⟨r, 0, none⟩) (l.length + 1) cap) (Yields.slS (l := 0) (h := l.length + 1) rfl rfl rfl (.inr ⟨rfl, rfl⟩) (.inl (by first | (congr 1; done) | (congr 1; omega))) (by omega) (by omega)) (by rw [cutV0])) ?_
 refine OL.dp rfl (OL.nil (PW.k5 0 1 2 7 8 rfl ?_))
 refine PW.seq fun K5 hK5 => ?_
 refine PW.seqOps (OL.dp rfl (OL.dp rfl (OL.dp rfl (OL.dp rfl ?_))))
 refine OL.det trivial (.add64 rfl rfl (by omega) (by omega)) ?_
 refine OL.det trivial (.to (v' := .slice (some ⟨r, (i + 1) * 3, none⟩) (l.length - i) (cap - (i + 1))) (Yields.slS (l := i + 1) (h := l.length + 1) rfl rfl rfl (.inl (by first | (congr 1; done) | (congr 1; omega))) (.inr ⟨rfl, rfl⟩) (by omega) (by omega)) (by unfold cutV; rw [if_neg (by omega)]; simp [Addr.add_lit])) ?_
 refine OL_neq (i := 0) (j := 1) rfl rfl (by omega) fun hne => ?_
 refine OL.cons trivial (OW.xf rfl (overlaps_no (sz := 3) (i := default) Tryz.func53 callOver Tryz.underlying22 size56 zM0 zM1 hne (by omega))) ?_
 rintro _ _ ⟨rfl, rfl⟩
 refine OL.dp rfl (OL.nil (PW.k6 0 1 2 7 8 68 rfl ?_))
 refine PW.cond rfl (fun c68 => ?_) (fun c68 => ?_)
 ·try simp only [decide_eq_true_eq, decide_eq_false_iff_not, beq_iff_eq, bne_iff_ne, beq_eq_false_iff_ne, bne_eq_false_iff_eq, Bool.not_eq_true', Bool.not_eq_false', Bool.not_eq_true, ne_eq, Decidable.not_not] at c68
  refine PW.seq fun K6 hK6 => ?_
  refine PW.quietK Tryz.mixed (QK.dp rfl (QK.dp rfl (QK.dp rfl ?_)))
  refine QK.det trivial (.add64 rfl rfl (by omega) (by omega)) ?_
  refine QK.det trivial (.to (v' := .slice (some ⟨r, (i + 1) * 3, none⟩) (l.length - i) (cap - (i + 1))) (Yields.slS (l := i + 1) (h := l.length + 1) rfl rfl rfl (.inl (by first | (congr 1; done) | (congr 1; omega))) (.inr ⟨rfl, rfl⟩) (by omega) (by omega)) (by unfold cutV; rw [if_neg (by omega)]; simp [Addr.add_lit])) ?_
  refine QK.dp rfl (QK.dp rfl ?_)
  refine QK.det trivial (.to (v' := .slice (some ⟨r, i * 3, none⟩) (l.length + 1 - i) (cap - i)) (Yields.slS (l := i) (h := l.length + 1) rfl rfl rfl (.inl rfl) (.inr ⟨rfl, rfl⟩) (by omega) (by omega)) (by unfold cutV; rw [if_neg (by omega)]; simp [Addr.add_lit])) ?_
  refine QK.nil ?_
  change OL _ _ _ [_] _ _ _
  refine OL.full (k := 1) rfl fun d hd => ?_
  change OL _ _ _ _ _ ([(rv, .cells (ruleC x) 48 3)] :: [(r, .cells (ruls l ++ d) 48 (cap * 3))] :: S) _
  rw [List.length_append, ruls_len] at hd
  have hlc : (ruls (l.drop i)).length = (l.length - i) * 3 := by rw [ruls_len, List.length_drop]
  have hsp : ruls l = ruls (l.take i) ++ ruls (l.drop i) := by rw [<- ruls_app, List.take_append_drop]
  have hrc : Rd w0 ([(rv, .cells (ruleC x) 48 3)] :: [(r, .cells (ruls l ++ d) 48 (cap * 3))] :: S) (some ⟨r, i * 3, none⟩) (ruls (l.drop i)) := by
   intro j v hj
   have hlt := (List.getElem?_eq_some_iff.1 hj).1
   refine ⟨_, rfl, ?_⟩
   have e : (⟨r, i * 3, none⟩ : Addr).add j = (⟨r, 0, none⟩ : Addr).add (i * 3 + j) := by rw [Addr.add_lit, Addr.add_lit]; congr 1; omega
   rw [e]
   refine (Rd.own (E := 48) (tot := cap * 3) zM1).at (cs := ruls l ++ d) ?_
   rw [List.getElem?_append_left (by rw [ruls_len]; omega), hsp, List.getElem?_append_right (by rw [ruls_len, List.length_take]; omega), ruls_len, List.length_take, show i * 3 + j - min i l.length * 3 = j from by omega]
   exact hj
  refine OL.cons trivial (OW.cpyN (k := 1) (news := ruls (l.drop i)) rfl rfl rfl (by rw [hlc, show Nat.min (l.length + 1 - i) (l.length - i) = l.length - i from Nat.min_eq_right (by omega)]) hrc (by rw [hlc, List.length_append, ruls_len]; omega) (ruls_one _)) ?_
  rintro _ _ ⟨rfl, rfl⟩
  change OL _ _ _ _ _ ([(rv, .cells (ruleC x) 48 3)] :: [(r, .cells (setAt (ruls l ++ d) ((i + 1) * 3) (ruls (l.drop i))) 48 (cap * 3))] :: S) _
  refine OL.nil (hK6 _ _ (PW.k3 0 1 2 rfl (PW.seqOps (OL.dp rfl (OL.dp rfl ?_)))))
  refine OL.det trivial (.to (v' := .slice (some ⟨r, i * 3, none⟩) (l.length + 1 - i) (cap - i)) (Yields.slS (l := i) (h := l.length + 1) rfl rfl rfl (.inl rfl) (.inr ⟨rfl, rfl⟩) (by omega) (by omega)) (by unfold cutV; rw [if_neg (by omega)]; simp [Addr.add_lit])) ?_
  refine OL.dp rfl ?_
  refine OL.cons trivial (OW.cpyN (k := 1) (news := ruleC x) rfl rfl rfl (by rw [show Nat.min 1 (l.length + 1 - i) = 1 from Nat.min_eq_left (by omega)]; rfl) (Rd.own (E := 48) (tot := 3) zM0) (by rw [setAt_length, List.length_append, ruls_len, ruleC_len]; omega) rfl) ?_
  rintro _ _ ⟨rfl, rfl⟩
  have hlay := lay3 (A := ruls (l.take i)) (Z := ruls (l.drop i) ++ d) (X := ruleC x) (B := ruls (l.drop i)) (i := i * 3) (p := 3) (q := (l.length - i) * 3) (by rw [ruls_len, List.length_take]; omega) rfl hlc (by rw [List.length_append, hlc]; omega)
  rw [show i * 3 + 3 = (i + 1) * 3 from by omega, <- insL_ruls, <- List.append_assoc, <- hsp] at hlay
  refine OL.tell (k := 1) (o' := .cells (ruls (insL l i x)) 48 (cap * 3)) rfl (fun w h => by have h2 := owns_take ((i + 1) * 3 + (l.length - i) * 3) h; rw [hlay.1] at h2; exact h2) ?_
  change OL _ _ _ _ _ ([(rv, .cells (ruleC x) 48 3)] :: [(r, .cells (ruls (insL l i x)) 48 (cap * 3))] :: S) _
  refine OL.nil (PW.k1 0 rfl (PW.seqOps (OL.dp rfl (OL.dp rfl (OL.nil (PW.k1 6 rfl (PW.ret ?_)))))))
  change (Exit.ret = Exit.normal ∨ Exit.ret = Exit.ret) /\ ∃ v, resV _ _ = some v /\ _
  refine ⟨.inr rfl, _, rfl, _, Sub.drop (Sub.refl _), _, rfl, ?_⟩
  exact SlV.mk' (by rw [ruls_len, insL_len hi]) (by omega) hcm
 try simp only [decide_eq_true_eq, decide_eq_false_iff_not, beq_iff_eq, bne_iff_ne, beq_eq_false_iff_ne, bne_eq_false_iff_eq, Bool.not_eq_true', Bool.not_eq_false', Bool.not_eq_true, ne_eq, Decidable.not_not] at c68
 exfalso; revert c68; decide
 -- done
theorem bl_trans : ∀ a b c : List UInt8, Op.bytesLess a b = true -> Op.bytesLess b c = true -> Op.bytesLess a c = true
 | a, b, [], _, h => by cases b <;> simp [Op.bytesLess] at h
 | [], b, x :: c, _, _ => rfl
 | y :: a, [], x :: c, h, _ => by simp [Op.bytesLess] at h
 | y :: a, z :: b, x :: c, h, k => by
  simp only [Op.bytesLess, Bool.or_eq_true, decide_eq_true_eq, Bool.and_eq_true, beq_iff_eq] at h k ⊢
  rcases h with h | ⟨rfl, h⟩ <;> rcases k with k | ⟨rfl, k⟩
  ·exact .inl (UInt8.lt_trans h k)
  ·exact .inl h
  ·exact .inl k
  exact .inr ⟨rfl, bl_trans a b c h k⟩
theorem bl_total : ∀ a b : List UInt8, Op.bytesLess a b = false -> a = b ∨ Op.bytesLess b a = true
 | [], [], _ => .inl rfl
 | [], _ :: _, h => by simp [Op.bytesLess] at h
 | _ :: _, [], _ => .inr rfl
 | x :: a, y :: b, h => by
  simp only [Op.bytesLess, Bool.or_eq_false_iff, decide_eq_false_iff_not] at h ⊢
  obtain ⟨h1, h2⟩ := h
  by_cases e : x = y
  ·subst e
   simp only [beq_self_eq_true, Bool.true_and] at h2
   rcases bl_total a b h2 with rfl | h3
   ·exact .inl rfl
   right; simp [h3]
  right
  have : y < x := by
   rcases UInt8.lt_or_lt_of_ne e with h | h
   ·exact absurd h h1
   exact h
  simp [this]
def prefB (s : ByteArray) : Bool := decide (s = ⟨#[]⟩) || isP s
theorem pref_chk (s : ByteArray) : (Go.Proofs.chkP s == 0) = isP s := by
 unfold Go.Proofs.chkP
 cases isP s <;> simp
def okL (a : LabB) : Bool := decide (0 <= a.1) && decide (a.1 <= 15)
theorem okL_chk (a : LabB) : Go.Proofs.Lb.chkP a.1 = 0 ↔ okL a = true := by
 unfold Go.Proofs.Lb.chkP okL
 split <;> simp <;> omega
def okAt (l : List RuleB) (i : Nat) : Bool := (decide (i = 0) || ltB l[i - 1]!.1 l[i]!.1) && prefB l[i]!.1 && okL l[i]!.2
def chkT (l : List RuleB) (tv : Int) : Int := if 32 < l.length ∨ tv < (l.length : Int) then 2 else if (List.range l.length).all (okAt l) = true then 0 else 2
theorem all_bad {f : Nat -> Bool} {n k : Nat} (hk : k < n) (h : f k = false) : ¬ (List.range n).all f = true := by
 intro h2
 have := List.all_eq_true.1 h2 k (List.mem_range.2 hk)
 rw [h] at this; cases this
theorem all_succ {f : Nat -> Bool} {k : Nat} (h : (List.range k).all f = true) (h2 : f k = true) : (List.range (k + 1)).all f = true := by
 rw [List.range_succ, List.all_append, h]; simp [h2]
theorem prefB_fc {w0 : World} {S : SS} {s : ByteArray} (hs : s.size <= 1000000000) : FC Tryz.prog w0 20 [.string s] S (fun v S' => v = .bool (prefB s) /\ S' = S) := by
 refine FC.of Tryz.known20 (by simp) ?_
 unfold Tryz.pc20
 simp only [argT]
 refine PW.seqOps (OL.dp rfl (OL.nil (PW.k1 0 rfl (PW.seqOps (OL.dp rfl (OL.dp rfl ?_))))))
 refine OL.bool trivial (Yields.pure rfl) (fun g5 => ?_) (fun g5 => ?_)
 ·try simp only [decide_eq_true_eq, decide_eq_false_iff_not, beq_iff_eq, bne_iff_ne, beq_eq_false_iff_ne, bne_eq_false_iff_eq, Bool.not_eq_true', Bool.not_eq_false', Bool.not_eq_true, ne_eq, Decidable.not_not] at g5
  rw [toL_inj] at g5
  refine OL.off rfl rfl (OL.off rfl rfl (OL.off rfl rfl (OL.dp rfl (OL.dp rfl (OL.nil (PW.k1 2 rfl (PW.ret ?_)))))))
  change (Exit.ret = Exit.normal ∨ Exit.ret = Exit.ret) /\ ∃ v, resV _ _ = some v /\ _
  exact ⟨.inr rfl, _, rfl, by unfold prefB; first | (rw [decide_eq_true g5]; rfl) | (rw [decide_eq_false g5, <- pref_chk]; rfl), rfl⟩
 try simp only [decide_eq_true_eq, decide_eq_false_iff_not, beq_iff_eq, bne_iff_ne, beq_eq_false_iff_ne, bne_eq_false_iff_eq, Bool.not_eq_true', Bool.not_eq_false', Bool.not_eq_true, ne_eq, Decidable.not_not] at g5
 rw [toL_inj] at g5
 refine OL.det rfl (.pure rfl) (OL.call rfl rfl (check_fc hs) ?_)
 rintro _ Sx ⟨rfl, hSx⟩
 rw [hSx]
 clear hSx
 refine OL.det rfl (.pure rfl) (OL.dp rfl (OL.dp rfl (OL.nil (PW.k1 2 rfl (PW.ret ?_)))))
 change (Exit.ret = Exit.normal ∨ Exit.ret = Exit.ret) /\ ∃ v, resV _ _ = some v /\ _
 exact ⟨.inr rfl, _, rfl, by unfold prefB; first | (rw [decide_eq_true g5]; rfl) | (rw [decide_eq_false g5, <- pref_chk]; rfl), rfl⟩
theorem chkT_fc {w0 : World} {S : SS} {A : Option Addr} {c : Nat} {tv : Int} {l : List RuleB} (hx : Rd w0 S A (ruls l)) (hw : ∀ x ∈ l, x.1.size <= 1000000000) (hl : l.length <= 1000000000) :
  FC Tryz.prog w0 7 [tabV tv A l.length c] S (fun v S' => v = .int .i64 (chkT l tv) /\ S' = S) := by
 refine FC.ofD Tryz.known7 (by simp) ?_
 unfold Tryz.pc7
 simp only [argT]
 refine PW.seqOps (OL.cons trivial (OW.bx rfl) ?_)
 rintro _ _ ⟨r1, rfl, rfl⟩
 change OL _ _ _ _ _ (tseg r1 tv A l.length c :: S) _
 refine OL.dp rfl (OL.nil (PW.k1 1 rfl ?_))
 refine PW.seq fun K1 hK1 => ?_
 refine PW.seqOps (OL.dp rfl (OL.det trivial (.ld rfl (own_at (j := 1) (c := [.int .i64 tv, .slice A l.length c]) (E := 24) (tot := 2) zM0 rfl)) (OL.dp rfl (OL.dp rfl ?_))))
 refine OL.bool trivial (Yields.pure rfl) (fun g9 => ?_) (fun g9 => ?_)
 ·try simp only [decide_eq_true_eq, decide_eq_false_iff_not, beq_iff_eq, bne_iff_ne, beq_eq_false_iff_ne, bne_eq_false_iff_eq, Bool.not_eq_true', Bool.not_eq_false', Bool.not_eq_true, ne_eq, Decidable.not_not] at g9
  refine OL.off rfl rfl (OL.off rfl rfl (OL.off rfl rfl (OL.off rfl rfl (OL.off rfl rfl (OL.off rfl rfl (OL.dp rfl (OL.nil (PW.k2 1 16 rfl (PW.ite (b := true) rfl ?_)))))))))
  rw [if_pos rfl]
  refine PW.seqOps (OL.dp rfl (OL.nil (PW.k1 2 rfl (PW.ret ?_))))
  change (Exit.ret = Exit.normal ∨ Exit.ret = Exit.ret) /\ ∃ v, resV _ _ = some v /\ _
  exact ⟨.inr rfl, _, rfl, _, Sub.drop (Sub.refl _), by unfold chkT; rw [if_pos (by omega)], rfl⟩
 try simp only [decide_eq_true_eq, decide_eq_false_iff_not, beq_iff_eq, bne_iff_ne, beq_eq_false_iff_ne, bne_eq_false_iff_eq, Bool.not_eq_true', Bool.not_eq_false', Bool.not_eq_true, ne_eq, Decidable.not_not] at g9
 refine OL.det rfl (.pure rfl) (OL.det rfl (.ld rfl (own_at (j := 0) (c := [.int .i64 tv, .slice A l.length c]) (E := 24) (tot := 2) zM0 rfl)) (OL.det rfl (.pure rfl) (OL.det rfl (.ld rfl (own_at (j := 1) (c := [.int .i64 tv, .slice A l.length c]) (E := 24) (tot := 2) zM0 rfl)) (OL.det rfl (.pure rfl) (OL.det rfl (.pure rfl) (OL.dp rfl (OL.nil (PW.k2 1 16 rfl ?_))))))))
 refine PW.cond rfl (fun c16 => ?_) (fun c16 => ?_)
 ·try simp only [decide_eq_true_eq, decide_eq_false_iff_not, beq_iff_eq, bne_iff_ne, beq_eq_false_iff_ne, bne_eq_false_iff_eq, Bool.not_eq_true', Bool.not_eq_false', Bool.not_eq_true, ne_eq, Decidable.not_not] at c16
  refine PW.seqOps (OL.dp rfl (OL.nil (PW.k1 2 rfl (PW.ret ?_))))
  change (Exit.ret = Exit.normal ∨ Exit.ret = Exit.ret) /\ ∃ v, resV _ _ = some v /\ _
  exact ⟨.inr rfl, _, rfl, _, Sub.drop (Sub.refl _), by unfold chkT; rw [if_pos (by omega)], rfl⟩
 try simp only [decide_eq_true_eq, decide_eq_false_iff_not, beq_iff_eq, bne_iff_ne, beq_eq_false_iff_ne, bne_eq_false_iff_eq, Bool.not_eq_true', Bool.not_eq_false', Bool.not_eq_true, ne_eq, Decidable.not_not] at c16
 refine PW.skip (hK1 _ _ (PW.k1 1 rfl ?_))
 refine PW.seq fun K2 hK2 => ?_
 refine PW.seqOps (OL.dp rfl (OL.det trivial (.ld rfl (own_at (j := 1) (c := [.int .i64 tv, .slice A l.length c]) (E := 24) (tot := 2) zM0 rfl)) (OL.dp rfl (OL.dp rfl (OL.nil (PW.k4 1 18 19 20 rfl (PW.block (PW.k4 1 18 19 20 rfl ?_))))))))
 refine PW.loopK (I := fun m T S' => ∃ (k : Nat), (k <= l.length /\ m = l.length - k /\ (List.range k).all (okAt l) = true) /\ T = ([(1, .pointer (some ⟨r1, 0, none⟩)), (18, .slice A l.length c), (19, .int .i64 (l.length : Int)), (20, .int .i64 k)] : TT) /\ S' = tseg r1 tv A l.length c :: S) (m := l.length) ⟨0, ⟨by omega, by omega, rfl⟩, rfl, rfl⟩ ?_
 rintro m _ _ ⟨k, ⟨hk, hm, hall⟩, rfl, rfl⟩
 refine PW.seqOps (OL.dp rfl (OL.nil (PW.k5 1 18 19 20 21 rfl ?_)))
 refine PW.seq fun K3 hK3 => ?_
 refine PW.cond rfl (fun c21 => ?_) (fun c21 => ?_)
 ·try simp only [decide_eq_true_eq, decide_eq_false_iff_not, beq_iff_eq, bne_iff_ne, beq_eq_false_iff_ne, bne_eq_false_iff_eq, Bool.not_eq_true', Bool.not_eq_false', Bool.not_eq_true, ne_eq, Decidable.not_not] at c21
  have hkl : k < l.length := by omega
  obtain ⟨a0, rfl⟩ := ruls_some hx (by omega)
  have hwk := hw _ (List.getElem_mem hkl)
  refine PW.skip (hK3 _ _ (PW.k4 1 18 19 20 rfl ?_))
  refine PW.seq fun K4 hK4 => ?_
  refine PW.block (PW.seqOps (OL.dp rfl ?_))
  refine OL.det trivial (.ixN rfl rfl rfl (by omega)) ?_
  refine OL.det trivial (.ldA rfl (cs := ruleC l[k]) rfl (rule_at hx.cons hkl)) (OL.cons trivial OW.al ?_)
  rintro _ _ ⟨r4, rfl, rfl⟩
  refine OL.dp rfl ?_
  refine OL.cons trivial (OW.st (k := 0) rfl rfl rfl rfl (by decide) rfl) ?_
  rintro _ _ rfl
  change OL _ _ _ _ _ (rseg r4 l[k] :: tseg r1 tv (some a0) l.length c :: S) _
  refine OL.nil (PW.k6 1 3 4 18 19 20 rfl ?_)
  refine PW.seq fun K5 hK5 => ?_
  refine PW.quietK Tryz.mixed (QK.dp rfl (QK.dp rfl ?_))
  refine QK.bool trivial (Yields.pure rfl) (fun g27 => ?_) (fun g27 => ?_)
  ·try simp only [decide_eq_true_eq, decide_eq_false_iff_not, beq_iff_eq, bne_iff_ne, beq_eq_false_iff_ne, bne_eq_false_iff_eq, Bool.not_eq_true', Bool.not_eq_false', Bool.not_eq_true, ne_eq, Decidable.not_not] at g27
   refine QK.det rfl (.pure rfl) (QK.det rfl (.ld rfl (own_at (j := 1) (c := [.int .i64 tv, .slice (some a0) l.length c]) (E := 24) (tot := 2) zM1 rfl)) (QK.det rfl (.pure rfl) ?_))
   refine QK.det rfl (.sub64 rfl rfl (by omega) (by omega)) ?_
   refine QK.det rfl (.ixN rfl rfl (show (k : Int) - 1 = ((k - 1 : Nat) : Int) from by omega) (by omega)) ?_
   refine QK.det rfl (.pure rfl) ?_
   refine QK.det rfl (.ld rfl (rule_at hx.cons.cons (show k - 1 < l.length from by omega) 0 _ rfl)) ?_
   refine QK.det rfl (.pure rfl) (QK.det rfl (.ld rfl (own_at (j := 0) (c := ruleC l[k]) (E := 48) (tot := 3) zM0 rfl)) (QK.nil ?_))
   change OL _ _ _ [_, _, _, _, _, _, _, _, _, _, _, _, _, _] _ _ _
   refine OL.det rfl (.pure rfl) (OL.dp rfl ?_)
   refine OL.bool trivial (Yields.pure rfl) (fun g39 => ?_) (fun g39 => ?_)
   ·try simp only [decide_eq_true_eq, decide_eq_false_iff_not, beq_iff_eq, bne_iff_ne, beq_eq_false_iff_ne, bne_eq_false_iff_eq, Bool.not_eq_true', Bool.not_eq_false', Bool.not_eq_true, ne_eq, Decidable.not_not] at g39
    have hbad : okAt l k = false := by
     unfold okAt
     rw [(getElem!_pos l k hkl), getElem!_pos l (k - 1) (by omega), decide_eq_false (by omega : ¬ k = 0)]
     have e : ltB l[k - 1].1 l[k].1 = false := by simpa [ltB] using g39
     rw [e]; rfl
    refine OL.off rfl rfl (OL.off rfl rfl (OL.off rfl rfl (OL.off rfl rfl (OL.dp rfl (OL.dp rfl (OL.off rfl rfl (OL.off rfl rfl (OL.off rfl rfl (OL.off rfl rfl (OL.dp rfl (OL.nil ?_)))))))))))
    refine hK5 _ _ (PW.k5 1 18 19 20 50 rfl (PW.ite (b := true) rfl ?_))
    rw [if_pos rfl]
    refine PW.seqOps (OL.dp rfl (OL.nil (PW.k1 2 rfl (PW.ret ?_))))
    change (Exit.ret = Exit.normal ∨ Exit.ret = Exit.ret) /\ ∃ v, resV _ _ = some v /\ _
    exact ⟨.inr rfl, _, rfl, _, Sub.drop (Sub.drop (Sub.refl _)), by unfold chkT; rw [if_neg (by omega), if_neg (all_bad hkl hbad)], rfl⟩
   try simp only [decide_eq_true_eq, decide_eq_false_iff_not, beq_iff_eq, bne_iff_ne, beq_eq_false_iff_ne, bne_eq_false_iff_eq, Bool.not_eq_true', Bool.not_eq_false', Bool.not_eq_true, ne_eq, Decidable.not_not] at g39
   have hs1 : (decide (k = 0) || ltB l[k - 1]!.1 l[k].1) = true := by
    rw [getElem!_pos l (k - 1) (by omega)]
    have e : ltB l[k - 1].1 l[k].1 = true := by simpa [ltB] using g39
    rw [e, Bool.or_true]
   refine OL.det rfl (.pure rfl) (OL.det rfl (.ld rfl (own_at (j := 0) (c := ruleC l[k]) (E := 48) (tot := 3) zM0 rfl)) (OL.call rfl rfl (prefB_fc hwk) ?_))
   rintro _ Sx ⟨rfl, hSx⟩
   rw [hSx]
   clear hSx
   refine OL.det rfl (.pure rfl) (OL.dp rfl ?_)
   refine OL.bool trivial (Yields.pure rfl) (fun g45 => ?_) (fun g45 => ?_)
   ·try simp only [decide_eq_true_eq, decide_eq_false_iff_not, beq_iff_eq, bne_iff_ne, beq_eq_false_iff_ne, bne_eq_false_iff_eq, Bool.not_eq_true', Bool.not_eq_false', Bool.not_eq_true, ne_eq, Decidable.not_not] at g45
    have hbad : okAt l k = false := by
     unfold okAt
     rw [(getElem!_pos l k hkl), show prefB l[k].1 = false by simpa using g45]
     simp
    refine OL.off rfl rfl (OL.off rfl rfl (OL.off rfl rfl (OL.off rfl rfl (OL.dp rfl (OL.nil (hK5 _ _ (PW.k5 1 18 19 20 50 rfl (PW.ite (b := true) rfl ?_))))))))
    rw [if_pos rfl]
    refine PW.seqOps (OL.dp rfl (OL.nil (PW.k1 2 rfl (PW.ret ?_))))
    change (Exit.ret = Exit.normal ∨ Exit.ret = Exit.ret) /\ ∃ v, resV _ _ = some v /\ _
    exact ⟨.inr rfl, _, rfl, _, Sub.drop (Sub.drop (Sub.refl _)), by unfold chkT; rw [if_neg (by omega), if_neg (all_bad hkl hbad)], rfl⟩
   try simp only [decide_eq_true_eq, decide_eq_false_iff_not, beq_iff_eq, bne_iff_ne, beq_eq_false_iff_ne, bne_eq_false_iff_eq, Bool.not_eq_true', Bool.not_eq_false', Bool.not_eq_true, ne_eq, Decidable.not_not] at g45
   have hs2 : prefB l[k].1 = true := by simpa using g45
   refine OL.det rfl (.pure rfl) (OL.det rfl (.ldA rfl rfl (rseg_at (x := l[k]))) (OL.call rfl rfl (check_lab (a := (l[k].2.1, (l[k].2.2.toNat)))) ?_))
   rintro _ Sx ⟨rfl, hSx⟩
   rw [hSx]
   clear hSx
   refine OL.det rfl (.pure rfl) (OL.dp rfl (OL.nil (hK5 _ _ (PW.k5 1 18 19 20 50 rfl ?_))))
   refine PW.cond rfl (fun c50 => ?_) (fun c50 => ?_)
   ·try simp only [decide_eq_true_eq, decide_eq_false_iff_not, beq_iff_eq, bne_iff_ne, beq_eq_false_iff_ne, bne_eq_false_iff_eq, Bool.not_eq_true', Bool.not_eq_false', Bool.not_eq_true, ne_eq, Decidable.not_not] at c50
    have hbad : okAt l k = false := by
     have h0 : okL l[k].2 = false := by rw [Bool.eq_false_iff, Ne, <- okL_chk]; exact c50
     unfold okAt; rw [(getElem!_pos l k hkl), h0, Bool.and_false]
    refine PW.seqOps (OL.dp rfl (OL.nil (PW.k1 2 rfl (PW.ret ?_))))
    change (Exit.ret = Exit.normal ∨ Exit.ret = Exit.ret) /\ ∃ v, resV _ _ = some v /\ _
    exact ⟨.inr rfl, _, rfl, _, Sub.drop (Sub.drop (Sub.refl _)), by unfold chkT; rw [if_neg (by omega), if_neg (all_bad hkl hbad)], rfl⟩
   try simp only [decide_eq_true_eq, decide_eq_false_iff_not, beq_iff_eq, bne_iff_ne, beq_eq_false_iff_ne, bne_eq_false_iff_eq, Bool.not_eq_true', Bool.not_eq_false', Bool.not_eq_true, ne_eq, Decidable.not_not] at c50
   have hs3 : okL l[k].2 = true := (okL_chk _).1 (by simpa using c50)
   refine PW.skip (hK4 _ _ (PW.k4 1 18 19 20 rfl (PW.ops ?_)))
   refine OL.det trivial (.add64 rfl rfl (by omega) (by omega)) ?_
   refine OL.dp rfl (OL.nil ?_)
   repeat rw [inBlk_n]
   try rw [thenK_n]
   refine LoopEnd.mkS ((Sub.drop (Sub.refl _))) (T'' := [(1, _), (18, _), (19, _), (20, _)]) (wi rfl) ?_
   refine ⟨l.length - (k + 1), by omega, k + 1, ⟨by omega, rfl, all_succ hall ?_⟩, rfl, rfl⟩
   unfold okAt
   rw [(getElem!_pos l k hkl), hs1, hs2, hs3]; rfl
  try simp only [decide_eq_true_eq, decide_eq_false_iff_not, beq_iff_eq, bne_iff_ne, beq_eq_false_iff_ne, bne_eq_false_iff_eq, Bool.not_eq_true', Bool.not_eq_false', Bool.not_eq_true, ne_eq, Decidable.not_not] at g27
  have hs1 : (decide (k = 0) || ltB l[k - 1]!.1 l[k].1) = true := by
   obtain rfl : k = 0 := by omega
   rfl
  refine QK.off rfl rfl (QK.off rfl rfl (QK.off rfl rfl (QK.off rfl rfl (QK.off rfl rfl (QK.off rfl rfl (QK.off rfl rfl (QK.off rfl rfl (QK.off rfl rfl (QK.nil ?_)))))))))
  change OL _ _ _ [_, _, _, _, _, _, _, _, _, _, _, _, _, _] _ _ _
  refine OL.off rfl rfl (OL.dp rfl (OL.dp rfl (OL.det rfl (.pure rfl) (OL.det rfl (.ld rfl (own_at (j := 0) (c := ruleC l[k]) (E := 48) (tot := 3) zM0 rfl)) (OL.call rfl rfl (prefB_fc hwk) ?_)))))
  rintro _ Sx ⟨rfl, hSx⟩
  rw [hSx]
  clear hSx
  refine OL.det rfl (.pure rfl) (OL.dp rfl ?_)
  refine OL.bool trivial (Yields.pure rfl) (fun g45 => ?_) (fun g45 => ?_)
  ·try simp only [decide_eq_true_eq, decide_eq_false_iff_not, beq_iff_eq, bne_iff_ne, beq_eq_false_iff_ne, bne_eq_false_iff_eq, Bool.not_eq_true', Bool.not_eq_false', Bool.not_eq_true, ne_eq, Decidable.not_not] at g45
   have hbad : okAt l k = false := by
    unfold okAt
    rw [(getElem!_pos l k hkl), show prefB l[k].1 = false by simpa using g45]
    simp
   refine OL.off rfl rfl (OL.off rfl rfl (OL.off rfl rfl (OL.off rfl rfl (OL.dp rfl (OL.nil (hK5 _ _ (PW.k5 1 18 19 20 50 rfl (PW.ite (b := true) rfl ?_))))))))
   rw [if_pos rfl]
   refine PW.seqOps (OL.dp rfl (OL.nil (PW.k1 2 rfl (PW.ret ?_))))
   change (Exit.ret = Exit.normal ∨ Exit.ret = Exit.ret) /\ ∃ v, resV _ _ = some v /\ _
   exact ⟨.inr rfl, _, rfl, _, Sub.drop (Sub.drop (Sub.refl _)), by unfold chkT; rw [if_neg (by omega), if_neg (all_bad hkl hbad)], rfl⟩
  try simp only [decide_eq_true_eq, decide_eq_false_iff_not, beq_iff_eq, bne_iff_ne, beq_eq_false_iff_ne, bne_eq_false_iff_eq, Bool.not_eq_true', Bool.not_eq_false', Bool.not_eq_true, ne_eq, Decidable.not_not] at g45
  have hs2 : prefB l[k].1 = true := by simpa using g45
  refine OL.det rfl (.pure rfl) (OL.det rfl (.ldA rfl rfl (rseg_at (x := l[k]))) (OL.call rfl rfl (check_lab (a := (l[k].2.1, (l[k].2.2.toNat)))) ?_))
  rintro _ Sx ⟨rfl, hSx⟩
  rw [hSx]
  clear hSx
  refine OL.det rfl (.pure rfl) (OL.dp rfl (OL.nil (hK5 _ _ (PW.k5 1 18 19 20 50 rfl ?_))))
  refine PW.cond rfl (fun c50 => ?_) (fun c50 => ?_)
  ·try simp only [decide_eq_true_eq, decide_eq_false_iff_not, beq_iff_eq, bne_iff_ne, beq_eq_false_iff_ne, bne_eq_false_iff_eq, Bool.not_eq_true', Bool.not_eq_false', Bool.not_eq_true, ne_eq, Decidable.not_not] at c50
   have hbad : okAt l k = false := by
    have h0 : okL l[k].2 = false := by rw [Bool.eq_false_iff, Ne, <- okL_chk]; exact c50
    unfold okAt; rw [(getElem!_pos l k hkl), h0, Bool.and_false]
   refine PW.seqOps (OL.dp rfl (OL.nil (PW.k1 2 rfl (PW.ret ?_))))
   change (Exit.ret = Exit.normal ∨ Exit.ret = Exit.ret) /\ ∃ v, resV _ _ = some v /\ _
   exact ⟨.inr rfl, _, rfl, _, Sub.drop (Sub.drop (Sub.refl _)), by unfold chkT; rw [if_neg (by omega), if_neg (all_bad hkl hbad)], rfl⟩
  try simp only [decide_eq_true_eq, decide_eq_false_iff_not, beq_iff_eq, bne_iff_ne, beq_eq_false_iff_ne, bne_eq_false_iff_eq, Bool.not_eq_true', Bool.not_eq_false', Bool.not_eq_true, ne_eq, Decidable.not_not] at c50
  have hs3 : okL l[k].2 = true := (okL_chk _).1 (by simpa using c50)
  refine PW.skip (hK4 _ _ (PW.k4 1 18 19 20 rfl (PW.ops ?_)))
  refine OL.det trivial (.add64 rfl rfl (by omega) (by omega)) ?_
  refine OL.dp rfl (OL.nil ?_)
  repeat rw [inBlk_n]
  try rw [thenK_n]
  refine LoopEnd.mkS ((Sub.drop (Sub.refl _))) (T'' := [(1, _), (18, _), (19, _), (20, _)]) (wi rfl) ?_
  refine ⟨l.length - (k + 1), by omega, k + 1, ⟨by omega, rfl, all_succ hall ?_⟩, rfl, rfl⟩
  unfold okAt
  rw [(getElem!_pos l k hkl), hs1, hs2, hs3]; rfl
 try simp only [decide_eq_true_eq, decide_eq_false_iff_not, beq_iff_eq, bne_iff_ne, beq_eq_false_iff_ne, bne_eq_false_iff_eq, Bool.not_eq_true', Bool.not_eq_false', Bool.not_eq_true, ne_eq, Decidable.not_not] at c21
 refine PW.exit (hK2 _ _ (PW.keep (T' := []) trivial (PW.seqOps (OL.dp rfl (OL.nil (PW.k1 2 rfl (PW.ret ?_)))))))
 change (Exit.ret = Exit.normal ∨ Exit.ret = Exit.ret) /\ ∃ v, resV _ _ = some v /\ _
 obtain rfl : k = l.length := by omega
 exact ⟨.inr rfl, _, rfl, _, Sub.drop (Sub.refl _), by unfold chkT; rw [if_neg (by omega), if_pos hall], rfl⟩
theorem tab_read {w0 : World} {S : SS} {r E : Nat} {tv : Int} {A : Option Addr} {n c : Nat} (hm : (r, AO.cells [.int .i64 tv, .slice A n c] E 2) ∈ S.flatten) : ReadsAs w0 S (some 2) ⟨r, 0, none⟩ (tabV tv A n c) :=
 ⟨[.int .i64 tv, .slice A n c], rfl, rfl, fun j u hj => (Rd.own hm).at hj⟩
theorem insert_fc {w0 : World} {S : SS} {rv i : Nat} {x : RuleB} {v : Value} {l : List RuleB} {seg : Seg} (hv : SlV 48 3 v l.length (ruls l) seg) (hi : i <= l.length) (hb : l.length <= 1000000000) :
  FC Tryz.prog w0 37 [v, .int .i64 i, .slice (some ⟨rv, 0, none⟩) 1 1] ([(rv, .cells (ruleC x) 48 3)] :: seg :: S) (fun v S' => ∃ seg, S' = seg :: S /\ SlV 48 3 v (l.length + 1) (ruls (insL l i x)) seg) := by
 obtain ⟨hl, ⟨rfl, h0, rfl⟩ | ⟨r, cap, rfl, rfl, h1, h2⟩⟩ := hv
 ·have e : l = [] := List.eq_nil_of_length_eq_zero h0
  subst e
  obtain rfl : i = 0 := by simpa using hi
  exact FC.subS (Sub.cons (Sub.drop (Sub.refl _))) insert_nil
 exact insert_own hi h1 h2 hb
theorem idx_at (q : RuleB -> Bool) (l : List RuleB) : ∃ k, k <= l.length /\ (∀ x ∈ l.take k, q x = false) /\ (∀ h : k < l.length, q l[k] = true) /\ ((idxZ q l = (k : Int) /\ k < l.length) ∨ (idxZ q l = -1 /\ k = l.length)) := by
 unfold idxZ
 cases h : l.findIdx? q with
 | none =>
  refine ⟨l.length, Nat.le_refl _, fun x hx => ?_, fun h => by omega, .inr ⟨rfl, rfl⟩⟩
  rw [List.take_length] at hx
  exact List.findIdx?_eq_none_iff.1 h x hx
 | some k =>
  obtain ⟨hk, h1, h2⟩ := List.findIdx?_eq_some_iff_getElem.1 h
  refine ⟨k, by omega, fun x hx => ?_, fun _ => h1, .inl ⟨rfl, hk⟩⟩
  obtain ⟨j, hj, rfl⟩ := List.mem_take_iff_getElem.1 hx
  have := h2 j (by omega)
  simpa using this
theorem ruls_setlab {l : List RuleB} {k : Nat} (hk : k < l.length) (x : LabB) : setAt (ruls l) (k * 3 + 1) [.int .i64 x.1, .int .u64 (x.2.toNat : Int)] = ruls (l.set k (l[k].1, x)) := by
 rw [setAt_eq _ _ _ (by rw [ruls_len]; simp; omega)]
 have h1 : l = l.take k ++ l[k] :: l.drop (k + 1) := by simp
 have h2 : l.set k (l[k].1, x) = l.take k ++ (l[k].1, x) :: l.drop (k + 1) := by rw [List.set_eq_take_append_cons_drop, if_pos hk]
 have e : ∀ y : RuleB, ruls (l.take k ++ y :: l.drop (k + 1)) = ruls (l.take k) ++ ruleC y ++ ruls (l.drop (k + 1)) := fun y => by rw [ruls_app, List.append_assoc]; rfl
 have hl : (ruls (l.take k)).length = k * 3 := by rw [ruls_len, List.length_take]; omega
 rw [h2, e]
 conv => lhs; rw [h1]
 rw [e]
 have e1 : (ruls (l.take k) ++ ruleC l[k] ++ ruls (l.drop (k + 1))).take (k * 3 + 1) = ruls (l.take k) ++ [.string l[k].1] := by
  rw [List.append_assoc, List.take_append, hl, List.take_of_length_le (by omega), show k * 3 + 1 - k * 3 = 1 from by omega]
  rfl
 have e2 : (ruls (l.take k) ++ ruleC l[k] ++ ruls (l.drop (k + 1))).drop (k * 3 + 1 + 2) = ruls (l.drop (k + 1)) := by
  exact List.drop_left' (by simp [hl, ruleC_len])
 show _ ++ _ ++ List.drop (k * 3 + 1 + 2) _ = _
 rw [e1, e2]
 simp [ruleC]
def geL (a : ByteArray) (x : RuleB) : Bool := !ltB x.1 a
def withT (l : List RuleB) (tv : Int) (a : ByteArray) (x : LabB) : Int × Int × List RuleB :=
 if prefB a = false then (15, 0, []) else if okL x = false ∨ chkT l tv ≠ 0 then (2, 0, []) else
  match l.findIdx? (geL a) with
  | some k => if l[k]!.1 = a then (0, tv + 1, l.set k (a, x)) else if l.length = 32 then (7, 0, []) else (0, tv + 1, insL l k (a, x))
  | none => if l.length = 32 then (7, 0, []) else (0, tv + 1, insL l l.length (a, x))
theorem withT_bad {l : List RuleB} {tv : Int} {a : ByteArray} {x : LabB} (h : prefB a = false) : withT l tv a x = (15, 0, []) := by unfold withT; rw [if_pos h]
theorem withT_arg {l : List RuleB} {tv : Int} {a : ByteArray} {x : LabB} (h : prefB a = true) (h2 : okL x = false ∨ chkT l tv ≠ 0) : withT l tv a x = (2, 0, []) := by unfold withT; rw [if_neg (by rw [h]; simp), if_pos h2]
theorem withT_at {l : List RuleB} {tv : Int} {a : ByteArray} {x : LabB} {k : Nat} (h : prefB a = true) (h2 : okL x = true) (h3 : chkT l tv = 0) (hz : (idxZ (geL a) l = (k : Int) /\ k < l.length) ∨ (idxZ (geL a) l = -1 /\ k = l.length)) :
  withT l tv a x = if h : k < l.length /\ l[k]!.1 = a then (0, tv + 1, l.set k (a, x)) else if l.length = 32 then (7, 0, []) else (0, tv + 1, insL l k (a, x)) := by
 unfold withT
 rw [if_neg (by rw [h]; simp), if_neg (by rw [h2, h3]; simp)]
 unfold idxZ at hz
 cases hf : l.findIdx? (geL a) with
 | none =>
  rw [hf] at hz
  rcases hz with ⟨hz, _⟩ | ⟨_, rfl⟩
  ·exact absurd hz (by show ¬ ((-1 : Int) = _); omega)
  rw [dif_neg (fun h => by omega)]
 | some j =>
  rw [hf] at hz
  rcases hz with ⟨hz, hk⟩ | ⟨hz, _⟩
  ·obtain rfl : j = k := by have : (j : Int) = (k : Int) := hz; omega
   by_cases e : l[j]!.1 = a
   ·simp only [if_pos e]; rw [dif_pos ⟨hk, e⟩]
   simp only [if_neg e]; rw [dif_neg (fun h => e h.2)]
  exact absurd hz (by show ¬ ((j : Int) = -1); omega)
theorem with_fc {w0 : World} {S : SS} {A : Option Addr} {c : Nat} {tv : Int} {l : List RuleB} {at_ : ByteArray} {x : LabB} (hx : Rd w0 S A (ruls l)) (hw : ∀ x ∈ l, x.1.size <= 1000000000) (hs : at_.size <= 1000000000) (hl : l.length <= 1000000000) (htv0 : -1000000000 <= tv) (htv : tv <= 1000000000) :
  FC Tryz.prog w0 18 [tabV tv A l.length c, .string at_, labB x] S (fun v S' => ∃ A' c' seg, v = .tuple #[tabV (withT l tv at_ x).2.1 A' (withT l tv at_ x).2.2.length c', .int .i64 (withT l tv at_ x).1] /\ S' = seg :: S /\ SlV 48 3 (.slice A' (withT l tv at_ x).2.2.length c') (withT l tv at_ x).2.2.length (ruls (withT l tv at_ x).2.2) seg) := by
 refine FC.ofCT Tryz.known18 (by simp) ?_
 unfold Tryz.pc18
 simp only [argT]
 refine PW.seqOps (OL.cons trivial (OW.bx rfl) ?_)
 rintro _ _ ⟨r3, rfl, rfl⟩
 change OL _ _ _ _ _ (tseg r3 tv A l.length c :: S) _
 refine OL.cons trivial (OW.bx rfl) ?_
 rintro _ _ ⟨r4, rfl, rfl⟩
 change OL _ _ _ _ _ ([(r4, .cells [.string at_] 9 1)] :: tseg r3 tv A l.length c :: S) _
 refine OL.cons trivial (OW.bx rfl) ?_
 rintro _ _ ⟨r5, rfl, rfl⟩
 change OL _ _ _ _ _ (lseg r5 x :: [(r4, .cells [.string at_] 9 1)] :: tseg r3 tv A l.length c :: S) _
 refine OL.cons trivial OW.al ?_
 rintro _ _ ⟨r6, rfl, rfl⟩
 change OL _ _ _ _ _ ([(r6, .cells [.int .i64 0, .slice none 0 0] 24 2)] :: lseg r5 x :: [(r4, .cells [.string at_] 9 1)] :: tseg r3 tv A l.length c :: S) _
 refine OL.dp rfl (OL.nil (PW.k4 3 4 5 6 rfl ?_))
 refine PW.seq fun K1 hK1 => ?_
 refine PW.block (PW.seqOps (OL.det trivial (.ld rfl (own_at (j := 0) (c := [.string at_]) (E := 9) (tot := 1) zM2 rfl)) (OL.call trivial rfl (prefB_fc hs) ?_)))
 rintro _ Sx ⟨rfl, hSx⟩
 rw [hSx]
 clear hSx
 refine OL.dp rfl (OL.dp rfl (OL.nil (PW.k5 3 4 5 6 10 rfl ?_)))
 refine PW.cond rfl (fun c10 => ?_) (fun c10 => ?_)
 ·try simp only [decide_eq_true_eq, decide_eq_false_iff_not, beq_iff_eq, bne_iff_ne, beq_eq_false_iff_ne, bne_eq_false_iff_eq, Bool.not_eq_true', Bool.not_eq_false', Bool.not_eq_true, ne_eq, Decidable.not_not] at c10
  refine PW.seqOps (OL.det trivial (.build rfl) (OL.cons trivial (OW.st (k := 0) (u := tabV 0 none 0 0) rfl rfl rfl rfl (Nat.le_refl 2) rfl) ?_))
  rintro _ _ rfl
  change OL _ _ _ _ _ ([(r6, .cells [.int .i64 0, .slice none 0 0] 24 2)] :: lseg r5 x :: [(r4, .cells [.string at_] 9 1)] :: tseg r3 tv A l.length c :: S) _
  refine OL.dp rfl (OL.nil (PW.k2 6 7 rfl (PW.ret ?_)))
  change (Exit.ret = Exit.normal ∨ Exit.ret = Exit.ret) /\ ∃ a v x, Go.SL.look _ _ = some (.pointer (some a)) /\ ReadsAs _ _ _ _ _ /\ Go.SL.look _ _ = some x /\ _
  have hres := withT_bad (l := l) (tv := tv) (x := x) c10
  rw [hres]
  refine ⟨.inr rfl, _, tabV 0 none 0 0, .int .i64 15, rfl, tab_read (E := 24) zM0, rfl, _, Sub.nilL (Sub.drop (Sub.drop (Sub.drop (Sub.drop (Sub.refl _))))), none, 0, [], rfl, rfl, SlV.nil 48 3⟩
 try simp only [decide_eq_true_eq, decide_eq_false_iff_not, beq_iff_eq, bne_iff_ne, beq_eq_false_iff_ne, bne_eq_false_iff_eq, Bool.not_eq_true', Bool.not_eq_false', Bool.not_eq_true, ne_eq, Decidable.not_not] at c10
 have hp0 : prefB at_ = true := by simpa using c10
 refine PW.seqOps (OL.det trivial (.ldA rfl rfl (lab_at (a := x) (r := r5) zM1)) (OL.call trivial rfl (check_lab (a := (x.1, (x.2.toNat)))) ?_))
 rintro _ Sx ⟨rfl, hSx⟩
 rw [hSx]
 clear hSx
 refine OL.dp rfl ?_
 refine OL.bool trivial (Yields.pure rfl) (fun g19 => ?_) (fun g19 => ?_)
 ·try simp only [decide_eq_true_eq, decide_eq_false_iff_not, beq_iff_eq, bne_iff_ne, beq_eq_false_iff_ne, bne_eq_false_iff_eq, Bool.not_eq_true', Bool.not_eq_false', Bool.not_eq_true, ne_eq, Decidable.not_not] at g19
  have harg : okL x = false ∨ chkT l tv ≠ 0 := .inl (by rw [Bool.eq_false_iff, Ne, <- okL_chk]; exact g19)
  refine OL.off rfl rfl (OL.off rfl rfl (OL.off rfl rfl (OL.dp rfl (OL.dp rfl (OL.nil (PW.k5 3 4 5 6 15 rfl (PW.ite (b := true) rfl ?_)))))))
  rw [if_pos rfl]
  refine PW.seqOps (OL.det trivial (.build rfl) (OL.cons trivial (OW.st (k := 0) (u := tabV 0 none 0 0) rfl rfl rfl rfl (Nat.le_refl 2) rfl) ?_))
  rintro _ _ rfl
  change OL _ _ _ _ _ ([(r6, .cells [.int .i64 0, .slice none 0 0] 24 2)] :: lseg r5 x :: [(r4, .cells [.string at_] 9 1)] :: tseg r3 tv A l.length c :: S) _
  refine OL.dp rfl (OL.nil (PW.k2 6 7 rfl (PW.ret ?_)))
  change (Exit.ret = Exit.normal ∨ Exit.ret = Exit.ret) /\ ∃ a v x, Go.SL.look _ _ = some (.pointer (some a)) /\ ReadsAs _ _ _ _ _ /\ Go.SL.look _ _ = some x /\ _
  have hres := withT_arg hp0 harg
  rw [hres]
  refine ⟨.inr rfl, _, tabV 0 none 0 0, .int .i64 2, rfl, tab_read (E := 24) zM0, rfl, _, Sub.nilL (Sub.drop (Sub.drop (Sub.drop (Sub.drop (Sub.refl _))))), none, 0, [], rfl, rfl, SlV.nil 48 3⟩
 try simp only [decide_eq_true_eq, decide_eq_false_iff_not, beq_iff_eq, bne_iff_ne, beq_eq_false_iff_ne, bne_eq_false_iff_eq, Bool.not_eq_true', Bool.not_eq_false', Bool.not_eq_true, ne_eq, Decidable.not_not] at g19
 have hok : okL x = true := (okL_chk _).1 (by simpa using g19)
 refine OL.det rfl (.ldA rfl (cs := [.int .i64 tv, .slice A l.length c]) rfl (tab_at (tv := tv) (A := A) (n := l.length) (c := c) (r := r3) zM3)) (OL.call rfl rfl (chkT_fc hx.cons.cons.cons.cons hw hl) ?_)
 rintro _ Sx ⟨rfl, hSx⟩
 rw [hSx]
 clear hSx
 refine OL.det rfl (.pure rfl) (OL.dp rfl (OL.dp rfl (OL.nil (PW.k5 3 4 5 6 15 rfl ?_))))
 refine PW.cond rfl (fun c15 => ?_) (fun c15 => ?_)
 ·try simp only [decide_eq_true_eq, decide_eq_false_iff_not, beq_iff_eq, bne_iff_ne, beq_eq_false_iff_ne, bne_eq_false_iff_eq, Bool.not_eq_true', Bool.not_eq_false', Bool.not_eq_true, ne_eq, Decidable.not_not] at c15
  have harg : okL x = false ∨ chkT l tv ≠ 0 := .inr c15
  refine PW.seqOps (OL.det trivial (.build rfl) (OL.cons trivial (OW.st (k := 0) (u := tabV 0 none 0 0) rfl rfl rfl rfl (Nat.le_refl 2) rfl) ?_))
  rintro _ _ rfl
  change OL _ _ _ _ _ ([(r6, .cells [.int .i64 0, .slice none 0 0] 24 2)] :: lseg r5 x :: [(r4, .cells [.string at_] 9 1)] :: tseg r3 tv A l.length c :: S) _
  refine OL.dp rfl (OL.nil (PW.k2 6 7 rfl (PW.ret ?_)))
  change (Exit.ret = Exit.normal ∨ Exit.ret = Exit.ret) /\ ∃ a v x, Go.SL.look _ _ = some (.pointer (some a)) /\ ReadsAs _ _ _ _ _ /\ Go.SL.look _ _ = some x /\ _
  have hres := withT_arg hp0 harg
  rw [hres]
  refine ⟨.inr rfl, _, tabV 0 none 0 0, .int .i64 2, rfl, tab_read (E := 24) zM0, rfl, _, Sub.nilL (Sub.drop (Sub.drop (Sub.drop (Sub.drop (Sub.refl _))))), none, 0, [], rfl, rfl, SlV.nil 48 3⟩
 try simp only [decide_eq_true_eq, decide_eq_false_iff_not, beq_iff_eq, bne_iff_ne, beq_eq_false_iff_ne, bne_eq_false_iff_eq, Bool.not_eq_true', Bool.not_eq_false', Bool.not_eq_true, ne_eq, Decidable.not_not] at c15
 have hch : chkT l tv = 0 := by simpa using c15
 refine PW.skip (hK1 _ _ (PW.k4 3 4 5 6 rfl (PW.seqOps (OL.dp rfl (OL.det trivial (.ld rfl (own_at (j := 1) (c := [.int .i64 tv, .slice A l.length c]) (E := 24) (tot := 2) zM3 rfl)) ?_)))))
 refine OL.call trivial rfl (rclone_fc hx.cons.cons.cons.cons (by omega)) ?_
 rintro v8 _ ⟨seg8, rfl, hsl8⟩
 obtain ⟨A8, c8, rfl, hc8, _, hrd8⟩ := slv_rdL (w0 := w0) hsl8
 refine OL.dp rfl (OL.nil (PW.k5 3 4 5 6 8 rfl (PW.seqOps (OL.dp rfl (OL.det trivial (Yields.mkF rfl) ?_)))))
 refine OL.call trivial rfl (indexR_fc (q := geL at_) (ca := [.pointer (some ⟨r4, 0, none⟩)]) (hrd8 _) hl (by kernel_rfl) (fun y hy => geq_fc (own_at (j := 0) (c := [.string at_]) (E := 9) (tot := 1) zM3 rfl))) ?_
 rintro _ Sx ⟨rfl, hSx⟩
 rw [hSx]
 clear hSx
 obtain ⟨kf, hkle, hkt, hkq, hkz⟩ := idx_at (geL at_) l
 refine OL.dp rfl (OL.nil (PW.k6 3 4 5 6 8 9 rfl ?_))
 refine PW.seq fun K2 hK2 => ?_
 refine PW.seqOps (OL.dp rfl (OL.dp rfl (OL.nil (PW.k7 3 4 5 6 8 9 32 rfl ?_))))
 refine PW.cond rfl (fun c32 => ?_) (fun c32 => ?_)
 ·try simp only [decide_eq_true_eq, decide_eq_false_iff_not, beq_iff_eq, bne_iff_ne, beq_eq_false_iff_ne, bne_eq_false_iff_eq, Bool.not_eq_true', Bool.not_eq_false', Bool.not_eq_true, ne_eq, Decidable.not_not] at c32
  have hkz2 : kf = l.length := by rcases hkz with h | h <;> omega
  refine PW.ops (OL.dp rfl ?_)
  refine OL.det trivial (.to (v' := .int .i64 (kf : Int)) (Yields.pure rfl) (by rw [hkz2])) ?_
  refine OL.dp rfl (OL.nil (hK2 _ _ (PW.k6 3 4 5 6 8 9 rfl ?_)))
  refine PW.seq fun K3 hK3 => ?_
  refine PW.seq fun K4 hK4 => ?_
  refine PW.quietK Tryz.mixed (QK.dp rfl (QK.dp rfl (QK.dp rfl (QK.dp rfl ?_))))
  refine QK.bool trivial (Yields.pure rfl) (fun g39 => ?_) (fun g39 => ?_)
  ·try simp only [decide_eq_true_eq, decide_eq_false_iff_not, beq_iff_eq, bne_iff_ne, beq_eq_false_iff_ne, bne_eq_false_iff_eq, Bool.not_eq_true', Bool.not_eq_false', Bool.not_eq_true, ne_eq, Decidable.not_not] at g39
   have hkl : kf < l.length := by omega
   obtain ⟨a8, rfl⟩ := ruls_some (hrd8 []) (by omega)
   refine QK.det rfl (.pure rfl) (QK.det rfl (.pure rfl) ?_)
   refine QK.det rfl (.ixN rfl rfl rfl (by omega)) ?_
   refine QK.det rfl (.pure rfl) (QK.det rfl (.ld rfl (rule_at (hrd8 _) hkl 0 _ rfl)) (QK.det rfl (.ld rfl (own_at (j := 0) (c := [.string at_]) (E := 9) (tot := 1) zM3 rfl)) (QK.nil ?_)))
   change OL _ _ _ [_, _] _ _ _
   refine OL.det rfl (.pure rfl) (OL.dp rfl (OL.nil (hK4 _ _ (PW.k7 3 4 5 6 8 9 47 rfl ?_))))
   refine PW.cond rfl (fun c47 => ?_) (fun c47 => ?_)
   ·try simp only [decide_eq_true_eq, decide_eq_false_iff_not, beq_iff_eq, bne_iff_ne, beq_eq_false_iff_ne, bne_eq_false_iff_eq, Bool.not_eq_true', Bool.not_eq_false', Bool.not_eq_true, ne_eq, Decidable.not_not] at c47
    rw [toL_inj] at c47
    obtain ⟨r8, c8n, e8, rfl, hc8, hm8⟩ := slv_nil_len hsl8 (by omega)
    obtain ⟨rfl, rfl⟩ : a8 = ⟨r8, 0, none⟩ /\ c8 = c8n := by cases e8; exact ⟨rfl, rfl⟩
    refine PW.seqOps (OL.dp rfl (OL.dp rfl (OL.det trivial (.ldA rfl rfl (lab_at (a := x) (r := r5) zM2)) ?_)))
    refine OL.det trivial (Yields.ixO rfl rfl rfl (by omega)) ?_
    refine OL.dp rfl ?_
    refine OL.cons trivial (OW.st (k := 0) (c := ruls l) (u := labB x) rfl rfl rfl rfl (by rw [ruls_len]; show kf * 3 + 1 + 2 <= _; omega) rfl) ?_
    rintro _ _ rfl
    change OL _ _ _ _ _ ([(r8, .cells (setAt (ruls l) (kf * 3 + 1) [.int .i64 x.1, .int .u64 (x.2.toNat : Int)]) 48 (c8 * 3))] :: [(r6, .cells [.int .i64 0, .slice none 0 0] 24 2)] :: lseg r5 x :: [(r4, .cells [.string at_] 9 1)] :: tseg r3 tv A l.length c :: S) _
    rw [ruls_setlab hkl, c47]
    have hsl9 : SlV 48 3 (.slice (some ⟨r8, 0, none⟩) l.length c8) l.length (ruls (l.set kf (at_, x))) [(r8, .cells (ruls (l.set kf (at_, x))) 48 (c8 * 3))] := SlV.mk' (by rw [ruls_len]; simp) hc8 hm8
    refine OL.nil (PW.k3 3 6 8 rfl (PW.seqOps (OL.dp rfl (OL.det trivial (.ld rfl (own_at (j := 0) (c := [.int .i64 tv, .slice A l.length c]) (E := 24) (tot := 2) zM4 rfl)) ?_))))
    refine OL.det trivial (.add64 rfl rfl (by omega) (by omega)) ?_
    refine OL.dp rfl (OL.det trivial (.build rfl) (OL.cons trivial (OW.st (k := 1) (u := tabV (tv + 1) (some ⟨r8, 0, none⟩) l.length c8) rfl rfl rfl rfl (Nat.le_refl 2) rfl) ?_))
    rintro _ _ rfl
    change OL _ _ _ _ _ ([(r8, .cells (ruls (l.set kf (at_, x))) 48 (c8 * 3))] :: [(r6, .cells [.int .i64 (tv + 1), .slice (some ⟨r8, 0, none⟩) l.length c8] 24 2)] :: lseg r5 x :: [(r4, .cells [.string at_] 9 1)] :: tseg r3 tv A l.length c :: S) _
    refine OL.dp rfl (OL.nil (PW.k2 6 7 rfl (PW.ret ?_)))
    change (Exit.ret = Exit.normal ∨ Exit.ret = Exit.ret) /\ ∃ a v x, Go.SL.look _ _ = some (.pointer (some a)) /\ ReadsAs _ _ _ _ _ /\ Go.SL.look _ _ = some x /\ _
    have hres := withT_at (x := x) hp0 hok hch hkz
    rw [dif_pos ⟨hkl, by rw [getElem!_pos l kf hkl]; exact c47⟩] at hres
    rw [hres]
    have hls : (l.set kf (at_, x)).length = l.length := by simp
    refine ⟨.inr rfl, _, tabV (tv + 1) (some ⟨r8, 0, none⟩) l.length c8, .int .i64 0, rfl, tab_read (E := 24) zM1, rfl, _, Sub.cons (Sub.drop (Sub.drop (Sub.drop (Sub.drop (Sub.refl _))))), some ⟨r8, 0, none⟩, c8, _, by simp only [hls], rfl, ?_⟩
    simp only [hls]
    exact hsl9
   try simp only [decide_eq_true_eq, decide_eq_false_iff_not, beq_iff_eq, bne_iff_ne, beq_eq_false_iff_ne, bne_eq_false_iff_eq, Bool.not_eq_true', Bool.not_eq_false', Bool.not_eq_true, ne_eq, Decidable.not_not] at c47
   have hnat : ¬ (kf < l.length /\ l[kf]!.1 = at_) := fun h => c47 (toL_inj.2 (by rw [<- getElem!_pos l kf hkl]; exact h.2))
   refine PW.skip (hK3 _ _ (PW.k6 3 4 5 6 8 9 rfl ?_))
   refine PW.seq fun K5 hK5 => ?_
   refine PW.seqOps (OL.dp rfl (OL.dp rfl (OL.dp rfl (OL.nil (PW.k7 3 4 5 6 8 9 60 rfl ?_)))))
   refine PW.cond rfl (fun c60 => ?_) (fun c60 => ?_)
   ·try simp only [decide_eq_true_eq, decide_eq_false_iff_not, beq_iff_eq, bne_iff_ne, beq_eq_false_iff_ne, bne_eq_false_iff_eq, Bool.not_eq_true', Bool.not_eq_false', Bool.not_eq_true, ne_eq, Decidable.not_not] at c60
    refine PW.seqOps (OL.det trivial (.build rfl) (OL.cons trivial (OW.st (k := 1) (u := tabV 0 none 0 0) rfl rfl rfl rfl (Nat.le_refl 2) rfl) ?_))
    rintro _ _ rfl
    change OL _ _ _ _ _ (seg8 :: [(r6, .cells [.int .i64 0, .slice none 0 0] 24 2)] :: lseg r5 x :: [(r4, .cells [.string at_] 9 1)] :: tseg r3 tv A l.length c :: S) _
    refine OL.dp rfl (OL.nil (PW.k2 6 7 rfl (PW.ret ?_)))
    change (Exit.ret = Exit.normal ∨ Exit.ret = Exit.ret) /\ ∃ a v x, Go.SL.look _ _ = some (.pointer (some a)) /\ ReadsAs _ _ _ _ _ /\ Go.SL.look _ _ = some x /\ _
    have hres := withT_at (x := x) hp0 hok hch hkz
    rw [dif_neg hnat, if_pos (by omega)] at hres
    rw [hres]
    refine ⟨.inr rfl, _, tabV 0 none 0 0, .int .i64 7, rfl, tab_read (E := 24) zM1, rfl, _, Sub.nilL (Sub.drop (Sub.drop (Sub.drop (Sub.drop (Sub.drop (Sub.refl _)))))), none, 0, [], rfl, rfl, SlV.nil 48 3⟩
   try simp only [decide_eq_true_eq, decide_eq_false_iff_not, beq_iff_eq, bne_iff_ne, beq_eq_false_iff_ne, bne_eq_false_iff_eq, Bool.not_eq_true', Bool.not_eq_false', Bool.not_eq_true, ne_eq, Decidable.not_not] at c60
   refine PW.skip (hK5 _ _ (PW.k6 3 4 5 6 8 9 rfl ?_))
   refine PW.seq fun K6 hK6 => ?_
   refine PW.quietG (Ss := Over ([(r6, .cells [.int .i64 0, .slice none 0 0] 24 2)] :: lseg r5 x :: [(r4, .cells [.string at_] 9 1)] :: tseg r3 tv A l.length c :: S)) (fr := false) [(0, 0), (1, 0), (2, 0), (3, 0), (4, 0), (5, 0), (6, 0), (7, 0), (8, 2), (9, 2)] Tryz.mixed (by decide +kernel) (Over.refl _).cons (fun h => by cases h) ?_
   refine GL.dp rfl ?_
   refine GL.det trivial (fun Sx hSx => Yields.ld rfl (own_at (j := 0) (c := [.int .i64 tv, .slice A l.length c]) (E := 24) (tot := 2) (hSx _ zM3) rfl)) ?_
   refine GL.det trivial (fun Sx hSx => Yields.add64 rfl rfl (by omega) (by omega)) ?_
   refine GL.dp rfl ?_
   refine GL.dp rfl ?_
   refine GL.det trivial (fun Sx hSx => Yields.ld rfl (own_at (j := 0) (c := [.string at_]) (E := 9) (tot := 1) (hSx _ zM2) rfl)) ?_
   refine GL.det trivial (fun Sx hSx => Yields.ldA rfl rfl (lab_at (a := x) (r := r5) (hSx _ zM1))) ?_
   refine GL.det trivial (fun Sx hSx => Yields.build rfl) ?_
   refine GL.lo trivial (OW.mono (OW.bsl rfl) ?_)
   rintro _ _ ⟨r70, rfl, rfl⟩
   refine ⟨(Over.refl _).cons.cons, ?_⟩
   refine GL.lo trivial (OW.mono (OW.call rfl (insert_fc (x := (at_, x)) hsl8 hkle hl)) ?_)
   rintro v71 _ ⟨seg71, rfl, hsl71⟩
   obtain ⟨A71, c71, rfl, hc71, _⟩ := slv_rdL (w0 := w0) hsl71
   refine ⟨(Over.refl _).cons, ?_⟩
   change OL _ _ _ [_, _, _] _ _ _
   refine OL.det trivial (.build rfl) (OL.cons trivial (OW.st (k := 1) (u := tabV (tv + 1) A71 (l.length + 1) c71) rfl rfl rfl rfl (Nat.le_refl 2) rfl) ?_)
   rintro _ _ rfl
   change OL _ _ _ _ _ (seg71 :: [(r6, .cells [.int .i64 (tv + 1), .slice A71 (l.length + 1) c71] 24 2)] :: lseg r5 x :: [(r4, .cells [.string at_] 9 1)] :: tseg r3 tv A l.length c :: S) _
   refine OL.dp rfl (OL.nil (hK6 _ _ (PW.k2 6 7 rfl (PW.ret ?_))))
   change (Exit.ret = Exit.normal ∨ Exit.ret = Exit.ret) /\ ∃ a v x, Go.SL.look _ _ = some (.pointer (some a)) /\ ReadsAs _ _ _ _ _ /\ Go.SL.look _ _ = some x /\ _
   have hres := withT_at (x := x) hp0 hok hch hkz
   rw [dif_neg hnat, if_neg (by omega)] at hres
   rw [hres]
   have hls := insL_len hkle (at_, x)
   refine ⟨.inr rfl, _, tabV (tv + 1) A71 (l.length + 1) c71, .int .i64 0, rfl, tab_read (E := 24) zM1, rfl, _, Sub.cons (Sub.drop (Sub.drop (Sub.drop (Sub.drop (Sub.refl _))))), A71, c71, seg71, by simp only [hls], rfl, ?_⟩
   simp only [hls]
   exact hsl71
  try simp only [decide_eq_true_eq, decide_eq_false_iff_not, beq_iff_eq, bne_iff_ne, beq_eq_false_iff_ne, bne_eq_false_iff_eq, Bool.not_eq_true', Bool.not_eq_false', Bool.not_eq_true, ne_eq, Decidable.not_not] at g39
  have hnat : ¬ (kf < l.length /\ l[kf]!.1 = at_) := fun h => by omega
  refine QK.off rfl rfl (QK.off rfl rfl (QK.off rfl rfl (QK.off rfl rfl (QK.off rfl rfl (QK.off rfl rfl (QK.nil ?_))))))
  change OL _ _ _ [_, _] _ _ _
  refine OL.off rfl rfl (OL.dp rfl (OL.nil (hK4 _ _ (PW.k7 3 4 5 6 8 9 47 rfl (PW.ite (b := false) rfl ?_)))))
  rw [if_neg Bool.false_ne_true]
  refine PW.skip (hK3 _ _ (PW.k6 3 4 5 6 8 9 rfl ?_))
  refine PW.seq fun K7 hK7 => ?_
  refine PW.seqOps (OL.dp rfl (OL.dp rfl (OL.dp rfl (OL.nil (PW.k7 3 4 5 6 8 9 60 rfl ?_)))))
  refine PW.cond rfl (fun c60 => ?_) (fun c60 => ?_)
  ·try simp only [decide_eq_true_eq, decide_eq_false_iff_not, beq_iff_eq, bne_iff_ne, beq_eq_false_iff_ne, bne_eq_false_iff_eq, Bool.not_eq_true', Bool.not_eq_false', Bool.not_eq_true, ne_eq, Decidable.not_not] at c60
   refine PW.seqOps (OL.det trivial (.build rfl) (OL.cons trivial (OW.st (k := 1) (u := tabV 0 none 0 0) rfl rfl rfl rfl (Nat.le_refl 2) rfl) ?_))
   rintro _ _ rfl
   change OL _ _ _ _ _ (seg8 :: [(r6, .cells [.int .i64 0, .slice none 0 0] 24 2)] :: lseg r5 x :: [(r4, .cells [.string at_] 9 1)] :: tseg r3 tv A l.length c :: S) _
   refine OL.dp rfl (OL.nil (PW.k2 6 7 rfl (PW.ret ?_)))
   change (Exit.ret = Exit.normal ∨ Exit.ret = Exit.ret) /\ ∃ a v x, Go.SL.look _ _ = some (.pointer (some a)) /\ ReadsAs _ _ _ _ _ /\ Go.SL.look _ _ = some x /\ _
   have hres := withT_at (x := x) hp0 hok hch hkz
   rw [dif_neg hnat, if_pos (by omega)] at hres
   rw [hres]
   refine ⟨.inr rfl, _, tabV 0 none 0 0, .int .i64 7, rfl, tab_read (E := 24) zM1, rfl, _, Sub.nilL (Sub.drop (Sub.drop (Sub.drop (Sub.drop (Sub.drop (Sub.refl _)))))), none, 0, [], rfl, rfl, SlV.nil 48 3⟩
  try simp only [decide_eq_true_eq, decide_eq_false_iff_not, beq_iff_eq, bne_iff_ne, beq_eq_false_iff_ne, bne_eq_false_iff_eq, Bool.not_eq_true', Bool.not_eq_false', Bool.not_eq_true, ne_eq, Decidable.not_not] at c60
  refine PW.skip (hK7 _ _ (PW.k6 3 4 5 6 8 9 rfl ?_))
  refine PW.seq fun K8 hK8 => ?_
  refine PW.quietG (Ss := Over ([(r6, .cells [.int .i64 0, .slice none 0 0] 24 2)] :: lseg r5 x :: [(r4, .cells [.string at_] 9 1)] :: tseg r3 tv A l.length c :: S)) (fr := false) [(0, 0), (1, 0), (2, 0), (3, 0), (4, 0), (5, 0), (6, 0), (7, 0), (8, 2), (9, 2)] Tryz.mixed (by decide +kernel) (Over.refl _).cons (fun h => by cases h) ?_
  refine GL.dp rfl ?_
  refine GL.det trivial (fun Sx hSx => Yields.ld rfl (own_at (j := 0) (c := [.int .i64 tv, .slice A l.length c]) (E := 24) (tot := 2) (hSx _ zM3) rfl)) ?_
  refine GL.det trivial (fun Sx hSx => Yields.add64 rfl rfl (by omega) (by omega)) ?_
  refine GL.dp rfl ?_
  refine GL.dp rfl ?_
  refine GL.det trivial (fun Sx hSx => Yields.ld rfl (own_at (j := 0) (c := [.string at_]) (E := 9) (tot := 1) (hSx _ zM2) rfl)) ?_
  refine GL.det trivial (fun Sx hSx => Yields.ldA rfl rfl (lab_at (a := x) (r := r5) (hSx _ zM1))) ?_
  refine GL.det trivial (fun Sx hSx => Yields.build rfl) ?_
  refine GL.lo trivial (OW.mono (OW.bsl rfl) ?_)
  rintro _ _ ⟨r70, rfl, rfl⟩
  refine ⟨(Over.refl _).cons.cons, ?_⟩
  refine GL.lo trivial (OW.mono (OW.call rfl (insert_fc (x := (at_, x)) hsl8 hkle hl)) ?_)
  rintro v71 _ ⟨seg71, rfl, hsl71⟩
  obtain ⟨A71, c71, rfl, hc71, _⟩ := slv_rdL (w0 := w0) hsl71
  refine ⟨(Over.refl _).cons, ?_⟩
  change OL _ _ _ [_, _, _] _ _ _
  refine OL.det trivial (.build rfl) (OL.cons trivial (OW.st (k := 1) (u := tabV (tv + 1) A71 (l.length + 1) c71) rfl rfl rfl rfl (Nat.le_refl 2) rfl) ?_)
  rintro _ _ rfl
  change OL _ _ _ _ _ (seg71 :: [(r6, .cells [.int .i64 (tv + 1), .slice A71 (l.length + 1) c71] 24 2)] :: lseg r5 x :: [(r4, .cells [.string at_] 9 1)] :: tseg r3 tv A l.length c :: S) _
  refine OL.dp rfl (OL.nil (hK8 _ _ (PW.k2 6 7 rfl (PW.ret ?_))))
  change (Exit.ret = Exit.normal ∨ Exit.ret = Exit.ret) /\ ∃ a v x, Go.SL.look _ _ = some (.pointer (some a)) /\ ReadsAs _ _ _ _ _ /\ Go.SL.look _ _ = some x /\ _
  have hres := withT_at (x := x) hp0 hok hch hkz
  rw [dif_neg hnat, if_neg (by omega)] at hres
  rw [hres]
  have hls := insL_len hkle (at_, x)
  refine ⟨.inr rfl, _, tabV (tv + 1) A71 (l.length + 1) c71, .int .i64 0, rfl, tab_read (E := 24) zM1, rfl, _, Sub.cons (Sub.drop (Sub.drop (Sub.drop (Sub.drop (Sub.refl _))))), A71, c71, seg71, by simp only [hls], rfl, ?_⟩
  simp only [hls]
  exact hsl71
 try simp only [decide_eq_true_eq, decide_eq_false_iff_not, beq_iff_eq, bne_iff_ne, beq_eq_false_iff_ne, bne_eq_false_iff_eq, Bool.not_eq_true', Bool.not_eq_false', Bool.not_eq_true, ne_eq, Decidable.not_not] at c32
 rw [show idxZ (geL at_) l = (kf : Int) from by rcases hkz with h | h <;> omega]
 refine PW.skip (hK2 _ _ (PW.k6 3 4 5 6 8 9 rfl ?_))
 refine PW.seq fun K9 hK9 => ?_
 refine PW.seq fun K10 hK10 => ?_
 refine PW.quietK Tryz.mixed (QK.dp rfl (QK.dp rfl (QK.dp rfl (QK.dp rfl ?_))))
 refine QK.bool trivial (Yields.pure rfl) (fun g39 => ?_) (fun g39 => ?_)
 ·try simp only [decide_eq_true_eq, decide_eq_false_iff_not, beq_iff_eq, bne_iff_ne, beq_eq_false_iff_ne, bne_eq_false_iff_eq, Bool.not_eq_true', Bool.not_eq_false', Bool.not_eq_true, ne_eq, Decidable.not_not] at g39
  have hkl : kf < l.length := by omega
  obtain ⟨a8, rfl⟩ := ruls_some (hrd8 []) (by omega)
  refine QK.det rfl (.pure rfl) (QK.det rfl (.pure rfl) ?_)
  refine QK.det rfl (.ixN rfl rfl rfl (by omega)) ?_
  refine QK.det rfl (.pure rfl) (QK.det rfl (.ld rfl (rule_at (hrd8 _) hkl 0 _ rfl)) (QK.det rfl (.ld rfl (own_at (j := 0) (c := [.string at_]) (E := 9) (tot := 1) zM3 rfl)) (QK.nil ?_)))
  change OL _ _ _ [_, _] _ _ _
  refine OL.det rfl (.pure rfl) (OL.dp rfl (OL.nil (hK10 _ _ (PW.k7 3 4 5 6 8 9 47 rfl ?_))))
  refine PW.cond rfl (fun c47 => ?_) (fun c47 => ?_)
  ·try simp only [decide_eq_true_eq, decide_eq_false_iff_not, beq_iff_eq, bne_iff_ne, beq_eq_false_iff_ne, bne_eq_false_iff_eq, Bool.not_eq_true', Bool.not_eq_false', Bool.not_eq_true, ne_eq, Decidable.not_not] at c47
   rw [toL_inj] at c47
   obtain ⟨r8, c8n, e8, rfl, hc8, hm8⟩ := slv_nil_len hsl8 (by omega)
   obtain ⟨rfl, rfl⟩ : a8 = ⟨r8, 0, none⟩ /\ c8 = c8n := by cases e8; exact ⟨rfl, rfl⟩
   refine PW.seqOps (OL.dp rfl (OL.dp rfl (OL.det trivial (.ldA rfl rfl (lab_at (a := x) (r := r5) zM2)) ?_)))
   refine OL.det trivial (Yields.ixO rfl rfl rfl (by omega)) ?_
   refine OL.dp rfl ?_
   refine OL.cons trivial (OW.st (k := 0) (c := ruls l) (u := labB x) rfl rfl rfl rfl (by rw [ruls_len]; show kf * 3 + 1 + 2 <= _; omega) rfl) ?_
   rintro _ _ rfl
   change OL _ _ _ _ _ ([(r8, .cells (setAt (ruls l) (kf * 3 + 1) [.int .i64 x.1, .int .u64 (x.2.toNat : Int)]) 48 (c8 * 3))] :: [(r6, .cells [.int .i64 0, .slice none 0 0] 24 2)] :: lseg r5 x :: [(r4, .cells [.string at_] 9 1)] :: tseg r3 tv A l.length c :: S) _
   rw [ruls_setlab hkl, c47]
   have hsl9 : SlV 48 3 (.slice (some ⟨r8, 0, none⟩) l.length c8) l.length (ruls (l.set kf (at_, x))) [(r8, .cells (ruls (l.set kf (at_, x))) 48 (c8 * 3))] := SlV.mk' (by rw [ruls_len]; simp) hc8 hm8
   refine OL.nil (PW.k3 3 6 8 rfl (PW.seqOps (OL.dp rfl (OL.det trivial (.ld rfl (own_at (j := 0) (c := [.int .i64 tv, .slice A l.length c]) (E := 24) (tot := 2) zM4 rfl)) ?_))))
   refine OL.det trivial (.add64 rfl rfl (by omega) (by omega)) ?_
   refine OL.dp rfl (OL.det trivial (.build rfl) (OL.cons trivial (OW.st (k := 1) (u := tabV (tv + 1) (some ⟨r8, 0, none⟩) l.length c8) rfl rfl rfl rfl (Nat.le_refl 2) rfl) ?_))
   rintro _ _ rfl
   change OL _ _ _ _ _ ([(r8, .cells (ruls (l.set kf (at_, x))) 48 (c8 * 3))] :: [(r6, .cells [.int .i64 (tv + 1), .slice (some ⟨r8, 0, none⟩) l.length c8] 24 2)] :: lseg r5 x :: [(r4, .cells [.string at_] 9 1)] :: tseg r3 tv A l.length c :: S) _
   refine OL.dp rfl (OL.nil (PW.k2 6 7 rfl (PW.ret ?_)))
   change (Exit.ret = Exit.normal ∨ Exit.ret = Exit.ret) /\ ∃ a v x, Go.SL.look _ _ = some (.pointer (some a)) /\ ReadsAs _ _ _ _ _ /\ Go.SL.look _ _ = some x /\ _
   have hres := withT_at (x := x) hp0 hok hch hkz
   rw [dif_pos ⟨hkl, by rw [getElem!_pos l kf hkl]; exact c47⟩] at hres
   rw [hres]
   have hls : (l.set kf (at_, x)).length = l.length := by simp
   refine ⟨.inr rfl, _, tabV (tv + 1) (some ⟨r8, 0, none⟩) l.length c8, .int .i64 0, rfl, tab_read (E := 24) zM1, rfl, _, Sub.cons (Sub.drop (Sub.drop (Sub.drop (Sub.drop (Sub.refl _))))), some ⟨r8, 0, none⟩, c8, _, by simp only [hls], rfl, ?_⟩
   simp only [hls]
   exact hsl9
  try simp only [decide_eq_true_eq, decide_eq_false_iff_not, beq_iff_eq, bne_iff_ne, beq_eq_false_iff_ne, bne_eq_false_iff_eq, Bool.not_eq_true', Bool.not_eq_false', Bool.not_eq_true, ne_eq, Decidable.not_not] at c47
  have hnat : ¬ (kf < l.length /\ l[kf]!.1 = at_) := fun h => c47 (toL_inj.2 (by rw [<- getElem!_pos l kf hkl]; exact h.2))
  refine PW.skip (hK9 _ _ (PW.k6 3 4 5 6 8 9 rfl ?_))
  refine PW.seq fun K11 hK11 => ?_
  refine PW.seqOps (OL.dp rfl (OL.dp rfl (OL.dp rfl (OL.nil (PW.k7 3 4 5 6 8 9 60 rfl ?_)))))
  refine PW.cond rfl (fun c60 => ?_) (fun c60 => ?_)
  ·try simp only [decide_eq_true_eq, decide_eq_false_iff_not, beq_iff_eq, bne_iff_ne, beq_eq_false_iff_ne, bne_eq_false_iff_eq, Bool.not_eq_true', Bool.not_eq_false', Bool.not_eq_true, ne_eq, Decidable.not_not] at c60
   refine PW.seqOps (OL.det trivial (.build rfl) (OL.cons trivial (OW.st (k := 1) (u := tabV 0 none 0 0) rfl rfl rfl rfl (Nat.le_refl 2) rfl) ?_))
   rintro _ _ rfl
   change OL _ _ _ _ _ (seg8 :: [(r6, .cells [.int .i64 0, .slice none 0 0] 24 2)] :: lseg r5 x :: [(r4, .cells [.string at_] 9 1)] :: tseg r3 tv A l.length c :: S) _
   refine OL.dp rfl (OL.nil (PW.k2 6 7 rfl (PW.ret ?_)))
   change (Exit.ret = Exit.normal ∨ Exit.ret = Exit.ret) /\ ∃ a v x, Go.SL.look _ _ = some (.pointer (some a)) /\ ReadsAs _ _ _ _ _ /\ Go.SL.look _ _ = some x /\ _
   have hres := withT_at (x := x) hp0 hok hch hkz
   rw [dif_neg hnat, if_pos (by omega)] at hres
   rw [hres]
   refine ⟨.inr rfl, _, tabV 0 none 0 0, .int .i64 7, rfl, tab_read (E := 24) zM1, rfl, _, Sub.nilL (Sub.drop (Sub.drop (Sub.drop (Sub.drop (Sub.drop (Sub.refl _)))))), none, 0, [], rfl, rfl, SlV.nil 48 3⟩
  try simp only [decide_eq_true_eq, decide_eq_false_iff_not, beq_iff_eq, bne_iff_ne, beq_eq_false_iff_ne, bne_eq_false_iff_eq, Bool.not_eq_true', Bool.not_eq_false', Bool.not_eq_true, ne_eq, Decidable.not_not] at c60
  refine PW.skip (hK11 _ _ (PW.k6 3 4 5 6 8 9 rfl ?_))
  refine PW.seq fun K12 hK12 => ?_
  refine PW.quietG (Ss := Over ([(r6, .cells [.int .i64 0, .slice none 0 0] 24 2)] :: lseg r5 x :: [(r4, .cells [.string at_] 9 1)] :: tseg r3 tv A l.length c :: S)) (fr := false) [(0, 0), (1, 0), (2, 0), (3, 0), (4, 0), (5, 0), (6, 0), (7, 0), (8, 2), (9, 2)] Tryz.mixed (by decide +kernel) (Over.refl _).cons (fun h => by cases h) ?_
  refine GL.dp rfl ?_
  refine GL.det trivial (fun Sx hSx => Yields.ld rfl (own_at (j := 0) (c := [.int .i64 tv, .slice A l.length c]) (E := 24) (tot := 2) (hSx _ zM3) rfl)) ?_
  refine GL.det trivial (fun Sx hSx => Yields.add64 rfl rfl (by omega) (by omega)) ?_
  refine GL.dp rfl ?_
  refine GL.dp rfl ?_
  refine GL.det trivial (fun Sx hSx => Yields.ld rfl (own_at (j := 0) (c := [.string at_]) (E := 9) (tot := 1) (hSx _ zM2) rfl)) ?_
  refine GL.det trivial (fun Sx hSx => Yields.ldA rfl rfl (lab_at (a := x) (r := r5) (hSx _ zM1))) ?_
  refine GL.det trivial (fun Sx hSx => Yields.build rfl) ?_
  refine GL.lo trivial (OW.mono (OW.bsl rfl) ?_)
  rintro _ _ ⟨r70, rfl, rfl⟩
  refine ⟨(Over.refl _).cons.cons, ?_⟩
  refine GL.lo trivial (OW.mono (OW.call rfl (insert_fc (x := (at_, x)) hsl8 hkle hl)) ?_)
  rintro v71 _ ⟨seg71, rfl, hsl71⟩
  obtain ⟨A71, c71, rfl, hc71, _⟩ := slv_rdL (w0 := w0) hsl71
  refine ⟨(Over.refl _).cons, ?_⟩
  change OL _ _ _ [_, _, _] _ _ _
  refine OL.det trivial (.build rfl) (OL.cons trivial (OW.st (k := 1) (u := tabV (tv + 1) A71 (l.length + 1) c71) rfl rfl rfl rfl (Nat.le_refl 2) rfl) ?_)
  rintro _ _ rfl
  change OL _ _ _ _ _ (seg71 :: [(r6, .cells [.int .i64 (tv + 1), .slice A71 (l.length + 1) c71] 24 2)] :: lseg r5 x :: [(r4, .cells [.string at_] 9 1)] :: tseg r3 tv A l.length c :: S) _
  refine OL.dp rfl (OL.nil (hK12 _ _ (PW.k2 6 7 rfl (PW.ret ?_))))
  change (Exit.ret = Exit.normal ∨ Exit.ret = Exit.ret) /\ ∃ a v x, Go.SL.look _ _ = some (.pointer (some a)) /\ ReadsAs _ _ _ _ _ /\ Go.SL.look _ _ = some x /\ _
  have hres := withT_at (x := x) hp0 hok hch hkz
  rw [dif_neg hnat, if_neg (by omega)] at hres
  rw [hres]
  have hls := insL_len hkle (at_, x)
  refine ⟨.inr rfl, _, tabV (tv + 1) A71 (l.length + 1) c71, .int .i64 0, rfl, tab_read (E := 24) zM1, rfl, _, Sub.cons (Sub.drop (Sub.drop (Sub.drop (Sub.drop (Sub.refl _))))), A71, c71, seg71, by simp only [hls], rfl, ?_⟩
  simp only [hls]
  exact hsl71
 try simp only [decide_eq_true_eq, decide_eq_false_iff_not, beq_iff_eq, bne_iff_ne, beq_eq_false_iff_ne, bne_eq_false_iff_eq, Bool.not_eq_true', Bool.not_eq_false', Bool.not_eq_true, ne_eq, Decidable.not_not] at g39
 have hnat : ¬ (kf < l.length /\ l[kf]!.1 = at_) := fun h => by omega
 refine QK.off rfl rfl (QK.off rfl rfl (QK.off rfl rfl (QK.off rfl rfl (QK.off rfl rfl (QK.off rfl rfl (QK.nil ?_))))))
 change OL _ _ _ [_, _] _ _ _
 refine OL.off rfl rfl (OL.dp rfl (OL.nil (hK10 _ _ (PW.k7 3 4 5 6 8 9 47 rfl (PW.ite (b := false) rfl ?_)))))
 rw [if_neg Bool.false_ne_true]
 refine PW.skip (hK9 _ _ (PW.k6 3 4 5 6 8 9 rfl ?_))
 refine PW.seq fun K13 hK13 => ?_
 refine PW.seqOps (OL.dp rfl (OL.dp rfl (OL.dp rfl (OL.nil (PW.k7 3 4 5 6 8 9 60 rfl ?_)))))
 refine PW.cond rfl (fun c60 => ?_) (fun c60 => ?_)
 ·try simp only [decide_eq_true_eq, decide_eq_false_iff_not, beq_iff_eq, bne_iff_ne, beq_eq_false_iff_ne, bne_eq_false_iff_eq, Bool.not_eq_true', Bool.not_eq_false', Bool.not_eq_true, ne_eq, Decidable.not_not] at c60
  refine PW.seqOps (OL.det trivial (.build rfl) (OL.cons trivial (OW.st (k := 1) (u := tabV 0 none 0 0) rfl rfl rfl rfl (Nat.le_refl 2) rfl) ?_))
  rintro _ _ rfl
  change OL _ _ _ _ _ (seg8 :: [(r6, .cells [.int .i64 0, .slice none 0 0] 24 2)] :: lseg r5 x :: [(r4, .cells [.string at_] 9 1)] :: tseg r3 tv A l.length c :: S) _
  refine OL.dp rfl (OL.nil (PW.k2 6 7 rfl (PW.ret ?_)))
  change (Exit.ret = Exit.normal ∨ Exit.ret = Exit.ret) /\ ∃ a v x, Go.SL.look _ _ = some (.pointer (some a)) /\ ReadsAs _ _ _ _ _ /\ Go.SL.look _ _ = some x /\ _
  have hres := withT_at (x := x) hp0 hok hch hkz
  rw [dif_neg hnat, if_pos (by omega)] at hres
  rw [hres]
  refine ⟨.inr rfl, _, tabV 0 none 0 0, .int .i64 7, rfl, tab_read (E := 24) zM1, rfl, _, Sub.nilL (Sub.drop (Sub.drop (Sub.drop (Sub.drop (Sub.drop (Sub.refl _)))))), none, 0, [], rfl, rfl, SlV.nil 48 3⟩
 try simp only [decide_eq_true_eq, decide_eq_false_iff_not, beq_iff_eq, bne_iff_ne, beq_eq_false_iff_ne, bne_eq_false_iff_eq, Bool.not_eq_true', Bool.not_eq_false', Bool.not_eq_true, ne_eq, Decidable.not_not] at c60
 refine PW.skip (hK13 _ _ (PW.k6 3 4 5 6 8 9 rfl ?_))
 refine PW.seq fun K14 hK14 => ?_
 refine PW.quietG (Ss := Over ([(r6, .cells [.int .i64 0, .slice none 0 0] 24 2)] :: lseg r5 x :: [(r4, .cells [.string at_] 9 1)] :: tseg r3 tv A l.length c :: S)) (fr := false) [(0, 0), (1, 0), (2, 0), (3, 0), (4, 0), (5, 0), (6, 0), (7, 0), (8, 2), (9, 2)] Tryz.mixed (by decide +kernel) (Over.refl _).cons (fun h => by cases h) ?_
 refine GL.dp rfl ?_
 refine GL.det trivial (fun Sx hSx => Yields.ld rfl (own_at (j := 0) (c := [.int .i64 tv, .slice A l.length c]) (E := 24) (tot := 2) (hSx _ zM3) rfl)) ?_
 refine GL.det trivial (fun Sx hSx => Yields.add64 rfl rfl (by omega) (by omega)) ?_
 refine GL.dp rfl ?_
 refine GL.dp rfl ?_
 refine GL.det trivial (fun Sx hSx => Yields.ld rfl (own_at (j := 0) (c := [.string at_]) (E := 9) (tot := 1) (hSx _ zM2) rfl)) ?_
 refine GL.det trivial (fun Sx hSx => Yields.ldA rfl rfl (lab_at (a := x) (r := r5) (hSx _ zM1))) ?_
 refine GL.det trivial (fun Sx hSx => Yields.build rfl) ?_
 refine GL.lo trivial (OW.mono (OW.bsl rfl) ?_)
 rintro _ _ ⟨r70, rfl, rfl⟩
 refine ⟨(Over.refl _).cons.cons, ?_⟩
 refine GL.lo trivial (OW.mono (OW.call rfl (insert_fc (x := (at_, x)) hsl8 hkle hl)) ?_)
 rintro v71 _ ⟨seg71, rfl, hsl71⟩
 obtain ⟨A71, c71, rfl, hc71, _⟩ := slv_rdL (w0 := w0) hsl71
 refine ⟨(Over.refl _).cons, ?_⟩
 change OL _ _ _ [_, _, _] _ _ _
 refine OL.det trivial (.build rfl) (OL.cons trivial (OW.st (k := 1) (u := tabV (tv + 1) A71 (l.length + 1) c71) rfl rfl rfl rfl (Nat.le_refl 2) rfl) ?_)
 rintro _ _ rfl
 change OL _ _ _ _ _ (seg71 :: [(r6, .cells [.int .i64 (tv + 1), .slice A71 (l.length + 1) c71] 24 2)] :: lseg r5 x :: [(r4, .cells [.string at_] 9 1)] :: tseg r3 tv A l.length c :: S) _
 refine OL.dp rfl (OL.nil (hK14 _ _ (PW.k2 6 7 rfl (PW.ret ?_))))
 change (Exit.ret = Exit.normal ∨ Exit.ret = Exit.ret) /\ ∃ a v x, Go.SL.look _ _ = some (.pointer (some a)) /\ ReadsAs _ _ _ _ _ /\ Go.SL.look _ _ = some x /\ _
 have hres := withT_at (x := x) hp0 hok hch hkz
 rw [dif_neg hnat, if_neg (by omega)] at hres
 rw [hres]
 have hls := insL_len hkle (at_, x)
 refine ⟨.inr rfl, _, tabV (tv + 1) A71 (l.length + 1) c71, .int .i64 0, rfl, tab_read (E := 24) zM1, rfl, _, Sub.cons (Sub.drop (Sub.drop (Sub.drop (Sub.drop (Sub.refl _))))), A71, c71, seg71, by simp only [hls], rfl, ?_⟩
 simp only [hls]
 exact hsl71
end Go.Proofs.Rl




