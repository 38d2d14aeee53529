/- Walks and plain facts for the laws of this seat: what each function answers, for every input. -/
import Derived.Test.YtpeikdbejafgbaaSl16
import Derived.Test.YtpeikdbejafgbaaCoW13
set_option linter.unusedVariables false
set_option linter.unusedSimpArgs false
namespace Go.Proofs
open Go.SL Go.RowKit
set_option maxHeartbeats 1000000

theorem getElem_val {l : List Val} {k : Nat} (h : k < l.length) : l[k] ∈ l := List.getElem_mem h
theorem bytesC_take (l : List UInt8) (k : Nat) : bytesC (l.take k) = (bytesC l).take k := by simp [bytesC, List.map_take]
theorem str_self (b : ByteArray) : (b.toList == b.toList) = true := by simp
theorem writes_fc {w0 : World} {S : SS} {A B : Option Addr} {ca cb : Nat} {a : List UInt8} {l : List Val} (ha : Rd w0 S A (bytesC a)) (hac : a.length ≤ ca) (han : A = none → ca = 0) (hx : Rd w0 S B (valsC l)) (hh : ∀ x ∈ l, x.h.length = 32 ∧ x.nu < 18446744073709551616 ∧ x.c < 18446744073709551616) (hb : l.length ≤ 1000000000000000) :
    FC Try.prog w0 4 [.slice A a.length ca, .slice B l.length cb] S (fun v S' => v = .bool true) := by
  refine FC.ofD Try.known4 (by simp) ?_
  unfold Try.pc4
  simp only [argT]
  refine PW.seqOps ?_
  refine OL.det trivial (Yields.pure rfl) ?_
  refine OL.nil ?_
  refine PW.keep (T' := [(0, _), (1, _)]) ⟨rfl, rfl, trivial⟩ ?_
  refine PW.seq fun K1 hK1 => ?_
  refine PW.seqOps ?_
  refine OL.det trivial (Yields.pure rfl) ?_
  refine OL.call trivial rfl (few_fc hx (fun x h => (hh x h).1) hb) ?_
  rintro _ Sx ⟨b9, rfl, hSx, hb9⟩
  rw [hSx]
  clear hSx
  refine OL.det trivial (Yields.pure rfl) ?_
  refine OL.nil ?_
  refine PW.keep (T' := [(0, _), (1, _), (10, _)]) ⟨rfl, rfl, rfl, trivial⟩ ?_
  refine PW.cond rfl (fun c10 => ?_) (fun c10 => ?_)
  · try simp only [decide_eq_true_eq, decide_eq_false_iff_not, beq_iff_eq, bne_iff_ne, beq_eq_false_iff_ne, bne_eq_false_iff_eq, Bool.not_eq_true', Bool.not_eq_false', Bool.not_eq_true, ne_eq, Decidable.not_not] at c10
    obtain rfl : b9 = false := by simpa using c10
    refine PW.seqOps ?_
    refine OL.call trivial rfl (works_fc) ?_
    rintro _ _ ⟨rfl, rfl⟩
    refine OL.det trivial (Yields.pure rfl) ?_
    refine OL.nil ?_
    refine PW.keep (T' := [(4, _)]) ⟨rfl, trivial⟩ ?_
    refine PW.ret ?_
    change (Exit.ret = Exit.normal ∨ Exit.ret = Exit.ret) ∧ ∃ v, resV _ _ = some v ∧ _
    exact ⟨.inr rfl, _, rfl, _, Sub.refl _, rfl⟩
  · try simp only [decide_eq_true_eq, decide_eq_false_iff_not, beq_iff_eq, bne_iff_ne, beq_eq_false_iff_ne, bne_eq_false_iff_eq, Bool.not_eq_true', Bool.not_eq_false', Bool.not_eq_true, ne_eq, Decidable.not_not] at c10
    obtain rfl : b9 = true := by simpa using c10
    obtain ⟨hl20, ht⟩ := hb9 rfl
    refine PW.skip ?_
    refine hK1 _ _ ?_
    refine PW.keep (T' := [(0, _), (1, _)]) ⟨rfl, rfl, trivial⟩ ?_
    refine PW.seqOps ?_
    refine OL.det trivial (Yields.pure rfl) ?_
    refine OL.det trivial (Yields.pure rfl) ?_
    refine OL.det trivial (Yields.pure rfl) ?_
    refine OL.det trivial (Yields.pure rfl) ?_
    refine OL.det trivial (Yields.slS (l := 0) (h := min a.length 100) rfl rfl rfl (.inr ⟨rfl, rfl⟩) (.inl (congrArg some (by simp only [Bool.false_eq_true, if_false]; split <;> omega))) (by omega) (by omega)) ?_
    rw [cutV0]
    refine OL.det trivial (Yields.pure rfl) ?_
    refine OL.nil ?_
    refine PW.keep (T' := [(0, _), (1, _)]) ⟨rfl, rfl, trivial⟩ ?_
    refine PW.seqOps ?_
    refine OL.cons trivial OW.bsl0 ?_
    rintro _ _ ⟨r17, rfl, rfl⟩
    refine OL.det trivial (Yields.pure rfl) ?_
    refine OL.cons trivial (OW.appB (k := 0) rfl rfl (SlV.mk' rfl (by omega) (by decide)) rfl (l := a.take (min a.length 100)) (by simp) ((ha.pre (by rw [bytesC_take]; exact List.take_prefix _ _)).cons) han (by omega)) ?_
    rintro v19 _ ⟨seg19, rfl, hsl19⟩
    refine OL.det trivial (Yields.pure rfl) ?_
    refine OL.nil ?_
    refine PW.keep (T' := [(0, _), (1, _), (5, _)]) ⟨rfl, rfl, rfl, trivial⟩ ?_
    refine PW.seqOps ?_
    refine OL.cons trivial OW.bsl0 ?_
    rintro _ _ ⟨r20, rfl, rfl⟩
    refine OL.det trivial (Yields.pure rfl) ?_
    refine OL.cons trivial (OW.appB (k := 0) rfl rfl (SlV.mk' rfl (by omega) (by decide)) rfl (l := a.take (min a.length 100)) (by simp) ((ha.pre (by rw [bytesC_take]; exact List.take_prefix _ _)).cons.cons) han (by omega)) ?_
    rintro v22 _ ⟨seg22, rfl, hsl22⟩
    refine OL.det trivial (Yields.pure rfl) ?_
    refine OL.nil ?_
    refine PW.keep (T' := [(1, _), (5, _), (6, _)]) ⟨rfl, rfl, rfl, trivial⟩ ?_
    refine PW.seq fun K2 hK2 => ?_
    refine PW.seqOps ?_
    refine OL.sel [1, 0] 2 rfl ?_
    refine OL.det trivial (Yields.pure rfl) ?_
    refine OL.nil ?_
    refine PW.keep (T' := [(1, _), (5, _), (6, _), (7, _)]) ⟨rfl, rfl, rfl, rfl, trivial⟩ ?_
    refine PW.block ?_
    refine PW.keep (T' := [(1, _), (5, _), (6, _), (7, _)]) ⟨rfl, rfl, rfl, rfl, trivial⟩ ?_
    refine PW.loopK (I := fun m T S' => ∃ (k : Nat) (ys : List UInt8) (u w : Value) (sb sc : Seg), (k ≤ l.length ∧ m = l.length - k ∧ ys.length ≤ 100 + k * 400 ∧ SlV 5 1 u ys.length (bytesC ys) sb ∧ SlV 5 1 w ys.length (bytesC ys) sc) ∧ T = ([(1, .slice B l.length cb), (5, u), (6, w), (7, .int .i64 k)] : TT) ∧ S' = sb :: sc :: S) (m := l.length) ⟨0, a.take (min a.length 100), v19, v22, seg19, seg22, ⟨by omega, by omega, by simp; omega, by simpa using hsl19, by simpa using hsl22⟩, rfl, rfl⟩ ?_
    rintro m _ _ ⟨k, ys, u, w, sb, sc, ⟨hk, hm, hyl, hsb, hsc⟩, rfl, rfl⟩
    refine PW.seq fun K3 hK3 => ?_
    refine PW.seqOps ?_
    refine OL.det trivial (Yields.pure rfl) ?_
    refine OL.det trivial (Yields.pure rfl) ?_
    refine OL.det trivial (Yields.pure rfl) ?_
    refine OL.det trivial (Yields.pure rfl) ?_
    refine OL.nil ?_
    refine PW.keep (T' := [(1, _), (5, _), (6, _), (7, _), (26, _)]) ⟨rfl, rfl, rfl, rfl, rfl, trivial⟩ ?_
    refine PW.cond rfl (fun c26 => ?_) (fun c26 => ?_)
    · try simp only [decide_eq_true_eq, decide_eq_false_iff_not, beq_iff_eq, bne_iff_ne, beq_eq_false_iff_ne, bne_eq_false_iff_eq, Bool.not_eq_true', Bool.not_eq_false', Bool.not_eq_true, ne_eq, Decidable.not_not] at c26
      refine PW.skip ?_
      refine hK3 _ _ ?_
      refine PW.keep (T' := [(1, _), (5, _), (6, _), (7, _)]) ⟨rfl, rfl, rfl, rfl, trivial⟩ ?_
      refine PW.seq fun K4 hK4 => ?_
      refine PW.block ?_
      refine PW.ops ?_
      refine OL.det trivial (Yields.pure rfl) ?_
      refine OL.det trivial (Yields.pure rfl) ?_
      refine OL.det trivial (Yields.pure rfl) ?_
      refine OL.det trivial (Yields.pure rfl) ?_
      obtain ⟨b0, rfl⟩ := hx.some (valsC_ne (by omega))
      have hkl : k < l.length := by omega
      have hxk := hh l[k] (List.getElem_mem hkl)
      have htk := ht l[k] (List.getElem_mem hkl)
      refine OL.det trivial (Yields.ixN rfl rfl rfl (by omega)) ?_
      refine OL.det trivial (Yields.ldA rfl (cs := valC l[k]) (valC_len hxk.1) (fun j v hj => val_at hx.cons.cons (fun x h => (hh x h).1) hkl j (by have := (List.getElem?_eq_some_iff.1 hj).1; rw [valC_len hxk.1] at this; exact this) hj)) ?_
      refine OL.call trivial rfl (written_fc hxk.1 hxk.2.1 hxk.2.2 htk hsb hsc (by omega) (by omega)) ?_
      rintro _ _ ⟨v37, v38, sb', sc', rfl, rfl, hs1, hs2⟩
      refine OL.det trivial (Yields.pure rfl) ?_
      refine OL.det trivial (Yields.pure rfl) ?_
      refine OL.det trivial (Yields.pure rfl) ?_
      refine OL.det trivial (Yields.pure rfl) ?_
      refine OL.det trivial (Yields.pure rfl) ?_
      refine OL.nil ?_
      refine hK4 _ _ ?_
      refine PW.keep (T' := [(1, _), (5, _), (6, _), (7, _)]) ⟨rfl, rfl, rfl, rfl, trivial⟩ ?_
      refine PW.ops ?_
      refine OL.det trivial (Yields.pure rfl) ?_
      refine OL.det trivial (Yields.add64 rfl rfl (by omega) (by omega)) ?_
      refine OL.det trivial (Yields.pure rfl) ?_
      refine OL.nil ?_
      repeat rw [inBlk_n]
      rw [thenK_n]
      refine LoopEnd.mk (T'' := [(1, _), (5, _), (6, _), (7, _)]) ⟨rfl, rfl, rfl, rfl, trivial⟩ ?_
      refine ⟨l.length - (k + 1), by omega, k + 1, ys ++ wB l[k], v37, v38, sb', sc', ⟨by omega, rfl, by have := wB_len hxk.1 htk; simp only [List.length_append]; omega, hs1, hs2⟩, by simp, rfl⟩
    · try simp only [decide_eq_true_eq, decide_eq_false_iff_not, beq_iff_eq, bne_iff_ne, beq_eq_false_iff_ne, bne_eq_false_iff_eq, Bool.not_eq_true', Bool.not_eq_false', Bool.not_eq_true, ne_eq, Decidable.not_not] at c26
      refine PW.exit ?_
      refine hK2 _ _ ?_
      refine PW.keep (T' := [(5, _), (6, _)]) ⟨rfl, rfl, trivial⟩ ?_
      refine PW.seqOps ?_
      obtain ⟨Ab, cab, rfl, _, _, qb⟩ := SlV.rd0 (w0 := w0) hsb
      obtain ⟨Ac, cac, rfl, _, _, qc⟩ := SlV.rd0 (w0 := w0) hsc
      refine OL.det trivial (Yields.pure rfl) ?_
      refine OL.det trivial (Yields.strOf rfl rfl (qb _)) ?_
      refine OL.det trivial (Yields.pure rfl) ?_
      refine OL.det trivial (Yields.strOf rfl rfl (qc _).cons) ?_
      refine OL.det trivial (Yields.to (v' := .bool true) (Yields.pure rfl) (congrArg Value.bool (str_self _))) ?_
      refine OL.det trivial (Yields.pure rfl) ?_
      refine OL.call rfl rfl (works_fc) ?_
      rintro _ _ ⟨rfl, rfl⟩
      refine OL.det trivial (Yields.pure rfl) ?_
      refine OL.det trivial (Yields.pure rfl) ?_
      refine OL.nil ?_
      refine PW.keep (T' := [(4, _)]) ⟨rfl, trivial⟩ ?_
      refine PW.ret ?_
      change (Exit.ret = Exit.normal ∨ Exit.ret = Exit.ret) ∧ ∃ v, resV _ _ = some v ∧ _
      exact ⟨.inr rfl, _, rfl, _, Sub.refl _, rfl⟩

end Go.Proofs
