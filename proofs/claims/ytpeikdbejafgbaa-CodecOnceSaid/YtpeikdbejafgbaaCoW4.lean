/- Walks and plain facts for the laws of this seat: what each function answers, for every input. -/
import Derived.Test.YtpeikdbejafgbaaCoW3
set_option linter.unusedVariables false
set_option linter.unusedSimpArgs false
namespace Go.Proofs
open Go.SL Go.RowKit
set_option maxHeartbeats 1000000

theorem bytes_at {w0 : World} {S : SS} {a : Addr} {l : List UInt8} (h : Rd w0 S (some a) (bytesC l)) {k : Nat} (hk : k < l.length) : Cell w0 S (a.add k) (.int .u8 (l[k].toNat : Int)) := h.at (by simp [bytesC, hk])
/-- the low bytes, the high ones first -/
def beB (c : Nat) : Nat → List UInt8
  | 0 => []
  | k + 1 => UInt8.ofNat (c / 2 ^ (8 * k)) :: beB c k
theorem beB_len (c k : Nat) : (beB c k).length = k := by induction k with | zero => rfl | succ k ih => simp [beB, ih]
theorem mod8 (x : Nat) : UInt8.ofNat (x % 256) = UInt8.ofNat x := by
  apply UInt8.toNat_inj.1
  simp
def uOf (z : Int) : Nat := (z % 18446744073709551616).toNat
theorem u64_of (z : Int) : IntKind.u64.wrap z = ((uOf z : Nat) : Int) := by
  have h : IntKind.u64.wrap z = z % 18446744073709551616 := by simp [IntKind.wrap, IntKind.bits, IntKind.signed]
  rw [h]; unfold uOf; omega
theorem uOf_lt (z : Int) : uOf z < 18446744073709551616 := by unfold uOf; omega
def labelB (lv : Int) (c : Nat) : List UInt8 := numB (uOf lv) ++ beB c 8
def labelC (lv : Int) (c : Nat) : List Value := [.int .i64 lv, .int .u64 (c : Int)]
theorem rhash_fc {w0 : World} {S : SS} {h : List UInt8} (hh : h.length = 32) :
    FC Try.prog w0 28 [.agg (bytesC h).toArray] S (fun v' S' => ∃ seg', S' = seg' :: S ∧ SlV 5 1 v' h.length (bytesC h) seg') := by
  refine FC.ofD Try.known28 (by simp) ?_
  unfold Try.pc28
  simp only [argT]
  refine PW.seqOps ?_
  refine OL.cons trivial (OW.bx rfl) ?_
  rintro _ _ ⟨r1, rfl, rfl⟩
  refine OL.det trivial (Yields.pure rfl) ?_
  refine OL.nil ?_
  refine PW.keep (T' := [(1, _)]) ⟨rfl, trivial⟩ ?_
  refine PW.seqOps ?_
  refine OL.nilseg ?_
  refine OL.det trivial (Yields.pure rfl) ?_
  refine OL.nil ?_
  refine PW.keep (T' := [(1, _), (3, _)]) ⟨rfl, rfl, trivial⟩ ?_
  refine PW.seq fun K1 hK1 => ?_
  refine PW.seqOps ?_
  refine OL.det trivial (Yields.pure rfl) ?_
  refine OL.nil ?_
  refine PW.keep (T' := [(1, _), (3, _), (4, _)]) ⟨rfl, rfl, rfl, trivial⟩ ?_
  refine PW.block ?_
  refine PW.keep (T' := [(1, _), (3, _), (4, _)]) ⟨rfl, rfl, rfl, trivial⟩ ?_
  refine PW.loopK (I := fun m T S' => ∃ (k : Nat) (v : Value) (seg : Seg), (k ≤ 32 ∧ m = 32 - k ∧ SlV 5 1 v k (bytesC (h.take k)) seg) ∧ T = ([(1, .pointer (some ⟨r1, 0, none⟩)), (3, v), (4, .int .i64 k)] : TT) ∧ S' = seg :: [(r1, .cells (bytesC h) 24 (bytesC h).length)] :: S) (m := 32) ⟨0, _, [], ⟨by omega, by omega, SlV.nil 5 1⟩, by rfl, by simp [Value.cells]⟩ ?_
  rintro m _ _ ⟨k, v, seg, ⟨hk, hm, hsl⟩, rfl, rfl⟩
  refine PW.seq fun K2 hK2 => ?_
  refine PW.seqOps ?_
  refine OL.det trivial (Yields.pure rfl) ?_
  refine OL.det trivial (Yields.pure rfl) ?_
  refine OL.nil ?_
  refine PW.keep (T' := [(1, _), (3, _), (4, _), (6, _)]) ⟨rfl, rfl, rfl, rfl, trivial⟩ ?_
  refine PW.cond rfl (fun c6 => ?_) (fun c6 => ?_)
  · try simp only [decide_eq_true_eq, decide_eq_false_iff_not, beq_iff_eq, bne_iff_ne, beq_eq_false_iff_ne, bne_eq_false_iff_eq, Bool.not_eq_true', Bool.not_eq_false', Bool.not_eq_true, ne_eq, Decidable.not_not] at c6
    refine PW.skip ?_
    refine hK2 _ _ ?_
    refine PW.keep (T' := [(1, _), (3, _), (4, _)]) ⟨rfl, rfl, rfl, trivial⟩ ?_
    refine PW.seq fun K3 hK3 => ?_
    refine PW.block ?_
    refine PW.ops ?_
    refine OL.det trivial (Yields.pure rfl) ?_
    refine OL.det trivial (Yields.pure rfl) ?_
    refine OL.det trivial (Yields.ixA1 rfl rfl rfl (by omega)) ?_
    refine OL.det trivial (Yields.ld rfl (bytes_at (l := h) (Rd.own (E := 24) (tot := (bytesC h).length) (by simp)) (k := k) (by omega))) ?_
    apply OL.app1 (k := 0)
    · rfl
    · rfl
    · rfl
    · rfl
    · rfl
    · rfl
    · exact hsl
    · rfl
    · omega
    · unfold maxLen; omega
    intro v14 seg14 hsl14
    refine OL.det trivial (Yields.pure rfl) ?_
    refine OL.nil ?_
    refine hK3 _ _ ?_
    refine PW.keep (T' := [(1, _), (3, _), (4, _)]) ⟨rfl, rfl, rfl, trivial⟩ ?_
    refine PW.ops ?_
    refine OL.det trivial (Yields.pure rfl) ?_
    refine OL.det trivial (Yields.add64 rfl rfl (by omega) (by omega)) ?_
    refine OL.det trivial (Yields.pure rfl) ?_
    refine OL.nil ?_
    repeat rw [inBlk_n]
    rw [thenK_n]
    refine LoopEnd.mk (T'' := [(1, _), (3, _), (4, _)]) ⟨rfl, rfl, rfl, trivial⟩ ?_
    refine ⟨32 - (k + 1), by omega, k + 1, v14, seg14, ⟨by omega, rfl, ?_⟩, rfl, rfl⟩
    rw [List.take_add_one, List.getElem?_eq_getElem (by omega), bytesC_append]
    exact hsl14
  · try simp only [decide_eq_true_eq, decide_eq_false_iff_not, beq_iff_eq, bne_iff_ne, beq_eq_false_iff_ne, bne_eq_false_iff_eq, Bool.not_eq_true', Bool.not_eq_false', Bool.not_eq_true, ne_eq, Decidable.not_not] at c6
    refine PW.exit ?_
    refine hK1 _ _ ?_
    refine PW.keep (T' := [(3, _)]) ⟨rfl, trivial⟩ ?_
    refine PW.seqOps ?_
    refine OL.det trivial (Yields.pure rfl) ?_
    refine OL.det trivial (Yields.pure rfl) ?_
    refine OL.nil ?_
    refine PW.keep (T' := [(2, _)]) ⟨rfl, trivial⟩ ?_
    refine PW.ret ?_
    change (Exit.ret = Exit.normal ∨ Exit.ret = Exit.ret) ∧ ∃ v, resV _ _ = some v ∧ _
    obtain rfl : k = 32 := by omega
    rw [List.take_of_length_le (by omega)] at hsl
    refine ⟨.inr rfl, _, rfl, seg :: S, ?_, seg, rfl, by rw [hh]; exact hsl⟩
    exact Sub.cons (Sub.drop (Sub.refl _))
theorem label_fc {w0 : World} {S : SS} {v : Value} {seg : Seg} {xs : List UInt8} {lv : Int} {c : Nat} (hv : SlV 5 1 v xs.length (bytesC xs) seg) (hc : c < 18446744073709551616) (hb : xs.length ≤ 1000000000000) :
    FC Try.prog w0 11 [v, .agg (labelC lv c).toArray] (seg :: S) (fun v' S' => ∃ seg', S' = seg' :: S ∧ SlV 5 1 v' (xs ++ labelB lv c).length (bytesC (xs ++ labelB lv c)) seg') := by
  refine FC.ofD Try.known11 (by simp) ?_
  unfold Try.pc11
  simp only [argT]
  refine PW.seqOps ?_
  refine OL.cons trivial (OW.bx rfl) ?_
  rintro _ _ ⟨r3, rfl, rfl⟩
  refine OL.det trivial (Yields.pure rfl) ?_
  refine OL.nil ?_
  refine PW.keep (T' := [(0, _), (3, _)]) ⟨rfl, rfl, trivial⟩ ?_
  refine PW.seqOps ?_
  refine OL.det trivial (Yields.pure rfl) ?_
  refine OL.det trivial (Yields.pure rfl) ?_
  refine OL.det trivial (Yields.ld rfl (own_at (c := labelC lv c) (E := 26) (tot := 2) (List.Mem.head _) rfl)) ?_
  refine OL.det trivial (Yields.pure rfl) ?_
  rw [u64_of]
  refine OL.call trivial rfl (FC.sel [1, 0] 2 rfl (num_fc hv (uOf_lt lv) hb)) ?_
  rintro v10 _ ⟨seg10, rfl, hsl10⟩
  refine OL.det trivial (Yields.pure rfl) ?_
  refine OL.nil ?_
  refine PW.keep (T' := [(0, _), (3, _)]) ⟨rfl, rfl, trivial⟩ ?_
  refine PW.seq fun K1 hK1 => ?_
  refine PW.seqOps ?_
  refine OL.det trivial (Yields.pure rfl) ?_
  refine OL.nil ?_
  refine PW.keep (T' := [(0, _), (3, _), (5, _)]) ⟨rfl, rfl, rfl, trivial⟩ ?_
  refine PW.block ?_
  refine PW.keep (T' := [(0, _), (3, _), (5, _)]) ⟨rfl, rfl, rfl, trivial⟩ ?_
  refine PW.loopK (I := fun m T S' => ∃ (k : Nat) (ys : List UInt8) (u : Value) (sg : Seg), (k ≤ 8 ∧ m = k ∧ ys ++ beB c k = xs ++ labelB lv c ∧ ys.length ≤ xs.length + 20 ∧ SlV 5 1 u ys.length (bytesC ys) sg) ∧ T = ([(0, u), (3, .pointer (some ⟨r3, 0, none⟩)), (5, .int .i64 ((k : Int) - 1))] : TT) ∧ S' = sg :: [(r3, .cells (labelC lv c) 26 2)] :: S) (m := 8) ⟨8, xs ++ numB (uOf lv), v10, seg10, ⟨by omega, rfl, by simp [labelB], by have := numB_len (uOf lv); simp; omega, hsl10⟩, by rfl, by rfl⟩ ?_
  rintro m _ _ ⟨k, ys, u, sg, ⟨hk, hm, hcur, hyl, hsl⟩, rfl, rfl⟩
  have hl0 := congrArg List.length hcur
  have hnl := numB_len (uOf lv)
  simp only [List.length_append, beB_len, labelB] at hl0
  refine PW.seq fun K2 hK2 => ?_
  refine PW.seqOps ?_
  refine OL.det trivial (Yields.pure rfl) ?_
  refine OL.det trivial (Yields.pure rfl) ?_
  refine OL.nil ?_
  refine PW.keep (T' := [(0, _), (3, _), (5, _), (12, _)]) ⟨rfl, rfl, rfl, rfl, trivial⟩ ?_
  refine PW.cond rfl (fun c12 => ?_) (fun c12 => ?_)
  · try simp only [decide_eq_true_eq, decide_eq_false_iff_not, beq_iff_eq, bne_iff_ne, beq_eq_false_iff_ne, bne_eq_false_iff_eq, Bool.not_eq_true', Bool.not_eq_false', Bool.not_eq_true, ne_eq, Decidable.not_not] at c12
    obtain ⟨i, rfl⟩ : ∃ i, k = i + 1 := ⟨k - 1, by omega⟩
    have ei : ((i + 1 : Nat) : Int) - 1 = i := by omega
    rw [ei]
    refine PW.skip ?_
    refine hK2 _ _ ?_
    refine PW.keep (T' := [(0, _), (3, _), (5, _)]) ⟨rfl, rfl, rfl, trivial⟩ ?_
    refine PW.seq fun K3 hK3 => ?_
    refine PW.block ?_
    refine PW.ops ?_
    refine OL.det trivial (Yields.pure rfl) ?_
    refine OL.det trivial (Yields.pure rfl) ?_
    refine OL.det trivial (Yields.ld rfl (own_at (c := labelC lv c) (E := 26) (tot := 2) (by simp) rfl)) ?_
    refine OL.det trivial (Yields.pure rfl) ?_
    refine OL.det trivial (Yields.mul64 rfl rfl (by omega) (by omega)) ?_
    refine OL.det trivial (Yields.shrU (j := .i64) (b := 8 * i) rfl rfl (by omega)) ?_
    refine OL.det trivial (Yields.pure rfl) ?_
    apply OL.app1 (k := 0)
    · rfl
    · rfl
    · rfl
    · rfl
    · rfl
    · rfl
    · exact hsl
    · rfl
    · omega
    · unfold maxLen; omega
    intro v23 seg23 hsl23
    refine OL.det trivial (Yields.pure rfl) ?_
    refine OL.nil ?_
    refine hK3 _ _ ?_
    refine PW.keep (T' := [(0, _), (3, _), (5, _)]) ⟨rfl, rfl, rfl, trivial⟩ ?_
    refine PW.ops ?_
    refine OL.det trivial (Yields.pure rfl) ?_
    refine OL.det trivial (Yields.sub64 rfl rfl (by omega) (by omega)) ?_
    refine OL.det trivial (Yields.pure rfl) ?_
    refine OL.nil ?_
    repeat rw [inBlk_n]
    rw [thenK_n]
    refine LoopEnd.mk (T'' := [(0, _), (3, _), (5, _)]) ⟨rfl, rfl, rfl, trivial⟩ ?_
    refine ⟨i, by omega, i, ys ++ [UInt8.ofNat (c / 2 ^ (8 * i))], v23, seg23, ⟨by omega, rfl, ?_, by simp; omega, ?_⟩, rfl, rfl⟩
    · rw [List.append_assoc]; exact hcur
    · rw [List.length_append, bytesC_append]
      have hs2 : SlV 5 1 v23 (ys.length + 1) (bytesC ys ++ [.int .u8 (IntKind.u8.wrap ((c / 2 ^ (8 * i) : Nat) : Int))]) seg23 := hsl23
      rw [low8] at hs2
      exact hs2
  · try simp only [decide_eq_true_eq, decide_eq_false_iff_not, beq_iff_eq, bne_iff_ne, beq_eq_false_iff_ne, bne_eq_false_iff_eq, Bool.not_eq_true', Bool.not_eq_false', Bool.not_eq_true, ne_eq, Decidable.not_not] at c12
    refine PW.exit ?_
    refine hK1 _ _ ?_
    refine PW.keep (T' := [(0, _)]) ⟨rfl, trivial⟩ ?_
    refine PW.seqOps ?_
    refine OL.det trivial (Yields.pure rfl) ?_
    refine OL.det trivial (Yields.pure rfl) ?_
    refine OL.nil ?_
    refine PW.keep (T' := [(4, _)]) ⟨rfl, trivial⟩ ?_
    refine PW.ret ?_
    change (Exit.ret = Exit.normal ∨ Exit.ret = Exit.ret) ∧ ∃ v, resV _ _ = some v ∧ _
    obtain rfl : k = 0 := by omega
    have e : ys = xs ++ labelB lv c := by simpa [beB] using hcur
    refine ⟨.inr rfl, _, rfl, sg :: S, ?_, sg, rfl, by rw [← e]; exact hsl⟩
    exact Sub.cons (Sub.drop (Sub.refl _))
theorem rlabel_fc {w0 : World} {S : SS} {lv : Int} {c : Nat} (hc : c < 18446744073709551616) :
    FC Try.prog w0 29 [.agg (labelC lv c).toArray] S (fun v' S' => ∃ seg', S' = seg' :: S ∧ SlV 5 1 v' (labelB lv c).length (bytesC (labelB lv c)) seg') := by
  refine FC.ofD Try.known29 (by simp) ?_
  unfold Try.pc29
  simp only [argT]
  refine PW.seqOps ?_
  refine OL.cons trivial (OW.bx rfl) ?_
  rintro _ _ ⟨r1, rfl, rfl⟩
  refine OL.det trivial (Yields.pure rfl) ?_
  refine OL.nil ?_
  refine PW.keep (T' := [(1, _)]) ⟨rfl, trivial⟩ ?_
  refine PW.seqOps ?_
  refine OL.nilseg ?_
  refine OL.det trivial (Yields.pure rfl) ?_
  refine OL.nil ?_
  refine PW.keep (T' := [(1, _), (3, _)]) ⟨rfl, rfl, trivial⟩ ?_
  refine PW.seqOps ?_
  refine OL.det trivial (Yields.pure rfl) ?_
  refine OL.det trivial (Yields.ld rfl (own_at (c := labelC lv c) (E := 26) (tot := 2) (List.Mem.head _) rfl)) ?_
  refine OL.det trivial (Yields.pure rfl) ?_
  refine OL.nil ?_
  refine PW.keep (T' := [(1, _), (3, _), (4, _)]) ⟨rfl, rfl, rfl, trivial⟩ ?_
  refine PW.seq fun K1 hK1 => ?_
  refine PW.seqOps ?_
  refine OL.det trivial (Yields.pure rfl) ?_
  refine OL.nil ?_
  refine PW.keep (T' := [(1, _), (3, _), (4, _), (5, _)]) ⟨rfl, rfl, rfl, rfl, trivial⟩ ?_
  refine PW.block ?_
  refine PW.keep (T' := [(1, _), (3, _), (4, _), (5, _)]) ⟨rfl, rfl, rfl, rfl, trivial⟩ ?_
  refine PW.loopK (I := fun m T S' => ∃ (k : Nat) (u : Value) (sg : Seg), (k ≤ 8 ∧ m = 8 - k ∧ SlV 5 1 u k (bytesC (beB c k)) sg) ∧ T = ([(1, .pointer (some ⟨r1, 0, none⟩)), (3, u), (4, .int .u64 ((c / 2 ^ (8 * k) : Nat) : Int)), (5, .int .i64 (k : Int))] : TT) ∧ S' = sg :: [(r1, .cells (labelC lv c) 26 2)] :: S) (m := 8) ⟨0, _, [], ⟨by omega, by omega, SlV.nil 5 1⟩, by simp, by rfl⟩ ?_
  rintro m _ _ ⟨k, u, sg, ⟨hk, hm, hsl⟩, rfl, rfl⟩
  refine PW.seq fun K2 hK2 => ?_
  refine PW.seqOps ?_
  refine OL.det trivial (Yields.pure rfl) ?_
  refine OL.det trivial (Yields.pure rfl) ?_
  refine OL.nil ?_
  refine PW.keep (T' := [(1, _), (3, _), (4, _), (5, _), (10, _)]) ⟨rfl, rfl, rfl, rfl, rfl, trivial⟩ ?_
  refine PW.cond rfl (fun c10 => ?_) (fun c10 => ?_)
  · try simp only [decide_eq_true_eq, decide_eq_false_iff_not, beq_iff_eq, bne_iff_ne, beq_eq_false_iff_ne, bne_eq_false_iff_eq, Bool.not_eq_true', Bool.not_eq_false', Bool.not_eq_true, ne_eq, Decidable.not_not] at c10
    refine PW.skip ?_
    refine hK2 _ _ ?_
    refine PW.keep (T' := [(1, _), (3, _), (4, _), (5, _)]) ⟨rfl, rfl, rfl, rfl, trivial⟩ ?_
    refine PW.seq fun K3 hK3 => ?_
    refine PW.block ?_
    refine PW.seqOps ?_
    refine OL.det trivial (Yields.pure rfl) ?_
    refine OL.nil ?_
    refine PW.keep (T' := [(1, _), (3, _), (4, _), (5, _), (6, _)]) ⟨rfl, rfl, rfl, rfl, rfl, trivial⟩ ?_
    refine PW.seqOps ?_
    refine OL.nilseg ?_
    refine OL.det trivial (Yields.pure rfl) ?_
    refine OL.det trivial (Yields.pure rfl) ?_
    refine OL.det trivial (Yields.remU (b := 256) rfl rfl (by omega)) ?_
    refine OL.det trivial (Yields.pure rfl) ?_
    apply OL.app1 (k := 0)
    · rfl
    · rfl
    · rfl
    · rfl
    · rfl
    · rfl
    · exact SlV.nil 5 1
    · rfl
    · omega
    · unfold maxLen; omega
    intro v18 seg18 hsl18
    refine OL.det trivial (Yields.pure rfl) ?_
    refine OL.nil ?_
    refine PW.keep (T' := [(1, _), (3, _), (4, _), (5, _), (6, _)]) ⟨rfl, rfl, rfl, rfl, rfl, trivial⟩ ?_
    refine PW.seqOps ?_
    refine OL.det trivial (Yields.pure rfl) ?_
    refine OL.det trivial (Yields.pure rfl) ?_
    obtain ⟨Au, cu, rfl, hcu, _, hrdu⟩ := SlV.rd0 (w0 := w0) hsl
    refine OL.cons trivial (OW.appB (k := 0) rfl rfl hsl18 rfl (beB_len c k) ((hrdu _).cons) hcu (by omega)) ?_
    rintro v21 _ ⟨seg21, rfl, hsl21⟩
    refine OL.det trivial (Yields.pure rfl) ?_
    refine OL.nil ?_
    refine PW.keep (T' := [(1, _), (3, _), (4, _), (5, _)]) ⟨rfl, rfl, rfl, rfl, trivial⟩ ?_
    refine PW.ops ?_
    refine OL.det trivial (Yields.pure rfl) ?_
    refine OL.det trivial (Yields.quoU (b := 256) rfl rfl (by omega) (Nat.lt_of_le_of_lt (Nat.div_le_self _ _) hc)) ?_
    refine OL.det trivial (Yields.pure rfl) ?_
    refine OL.nil ?_
    refine hK3 _ _ ?_
    refine PW.keep (T' := [(1, _), (3, _), (4, _), (5, _)]) ⟨rfl, rfl, rfl, rfl, trivial⟩ ?_
    refine PW.ops ?_
    refine OL.det trivial (Yields.pure rfl) ?_
    refine OL.det trivial (Yields.add64 rfl rfl (by omega) (by omega)) ?_
    refine OL.det trivial (Yields.pure rfl) ?_
    refine OL.nil ?_
    repeat rw [inBlk_n]
    rw [thenK_n]
    refine LoopEnd.mkS (Sub.cons (Sub.drop (Sub.refl _))) (T'' := [(1, _), (3, _), (4, _), (5, _)]) ⟨rfl, rfl, rfl, rfl, trivial⟩ ?_
    refine ⟨8 - (k + 1), by omega, k + 1, v21, seg21, ⟨by omega, rfl, ?_⟩, ?_, rfl⟩
    · have hs2 : SlV 5 1 v21 (0 + 1 + k) ([] ++ [.int .u8 (IntKind.u8.wrap ((c / 2 ^ (8 * k) % 256 : Nat) : Int))] ++ bytesC (beB c k)) seg21 := hsl21
      rw [low8, mod8, show 0 + 1 + k = k + 1 by omega] at hs2
      exact hs2
    · have e : c / 2 ^ (8 * k) / 256 = c / 2 ^ (8 * (k + 1)) := by rw [Nat.div_div_eq_div_mul, show (256 : Nat) = 2 ^ 8 from rfl, ← Nat.pow_add]; rfl
      rw [e]; rfl
  · try simp only [decide_eq_true_eq, decide_eq_false_iff_not, beq_iff_eq, bne_iff_ne, beq_eq_false_iff_ne, bne_eq_false_iff_eq, Bool.not_eq_true', Bool.not_eq_false', Bool.not_eq_true, ne_eq, Decidable.not_not] at c10
    refine PW.exit ?_
    refine hK1 _ _ ?_
    refine PW.keep (T' := [(1, _), (3, _)]) ⟨rfl, rfl, trivial⟩ ?_
    refine PW.seqOps ?_
    refine OL.det trivial (Yields.pure rfl) ?_
    refine OL.det trivial (Yields.ld rfl (own_at (c := labelC lv c) (E := 26) (tot := 2) (by simp) rfl)) ?_
    refine OL.det trivial (Yields.pure rfl) ?_
    rw [u64_of]
    refine OL.call trivial rfl (rnum_fc (uOf lv) (uOf_lt lv)) ?_
    rintro v27 _ ⟨seg27, rfl, hsl27⟩
    have hnl := numB_len (uOf lv)
    obtain ⟨Au, cu, rfl, hcu, _, hrdu⟩ := SlV.rd0 (w0 := w0) hsl
    refine OL.det trivial (Yields.pure rfl) ?_
    refine OL.cons trivial (OW.appB (k := 0) rfl rfl hsl27 rfl (beB_len c k) ((hrdu _).cons) hcu (by omega)) ?_
    rintro v29 _ ⟨seg29, rfl, hsl29⟩
    refine OL.det trivial (Yields.pure rfl) ?_
    refine OL.nil ?_
    refine PW.keep (T' := [(2, _)]) ⟨rfl, trivial⟩ ?_
    refine PW.ret ?_
    change (Exit.ret = Exit.normal ∨ Exit.ret = Exit.ret) ∧ ∃ v, resV _ _ = some v ∧ _
    obtain rfl : k = 8 := by omega
    refine ⟨.inr rfl, _, rfl, seg29 :: S, ?_, seg29, rfl, ?_⟩
    · exact Sub.cons (Sub.drop (Sub.drop (Sub.refl _)))
    · have e : (labelB lv c).length = (numB (uOf lv)).length + 8 := by simp [labelB, beB_len]
      rw [e, labelB, bytesC_append]
      exact hsl29

end Go.Proofs
