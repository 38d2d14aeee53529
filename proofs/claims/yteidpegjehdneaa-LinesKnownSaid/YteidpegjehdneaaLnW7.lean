/- Walks and plain facts for the laws of this seat: what each function answers, for every input. -/
import Derived.Test.YteidpegjehdneaaLnW6
set_option linter.unusedVariables false
set_option linter.unusedSimpArgs false
namespace Go.Proofs
open Go.SL Go.RowKit
set_option maxHeartbeats 1000000

def mA : ByteArray := ⟨#[62, 62, 62, 62, 62, 62, 62]⟩
def mB : ByteArray := ⟨#[61, 61, 61, 61, 61, 61, 61]⟩
def mC : ByteArray := ⟨#[60, 60, 60, 60, 60, 60, 60]⟩
def markP (s : ByteArray) : Bool := s.toList == mA.toList || s.toList == mB.toList || s.toList == mC.toList
theorem mark_iff (s : ByteArray) : markP s = true ↔ s.data.toList = List.replicate 7 62 ∨ s.data.toList = List.replicate 7 61 ∨ s.data.toList = List.replicate 7 60 := by
  unfold markP
  rw [toL, toL, toL, toL, show mA.data.toList = List.replicate 7 62 from rfl, show mB.data.toList = List.replicate 7 61 from rfl, show mC.data.toList = List.replicate 7 60 from rfl]
  simp only [Bool.or_eq_true, beq_iff_eq, or_assoc]
theorem mark_bool {s : ByteArray} {b : Bool} (h : markP s = true ↔ b = true) : b = markP s := by
  cases b <;> cases hm : markP s <;> simp_all
theorem mark_of {s : ByteArray} {b : UInt8} (hs : s.data.toList.length = 7) (h0 : s.data.toList[0]? = some b) (hb : b.toNat = 62 ∨ b.toNat = 61 ∨ b.toNat = 60) (h : ∀ j, j < 7 → s.data.toList[j]? = some b) : markP s = true := by
  rw [mark_iff]
  have e : s.data.toList = List.replicate 7 b := by
    apply List.ext_getElem?
    intro i
    by_cases hi : i < 7
    · rw [h i hi, List.getElem?_replicate, if_pos hi]
    · rw [List.getElem?_eq_none (by omega), List.getElem?_eq_none (by simp; omega)]
  rw [e]
  rcases hb with hb | hb | hb
  · left; rw [show b = 62 from UInt8.toNat_inj.1 hb]
  · right; left; rw [show b = 61 from UInt8.toNat_inj.1 hb]
  · right; right; rw [show b = 60 from UInt8.toNat_inj.1 hb]
theorem mark_no {s : ByteArray} (h : markP s = true) : ∃ b : UInt8, (b.toNat = 62 ∨ b.toNat = 61 ∨ b.toNat = 60) ∧ s.size = 7 ∧ ∀ (j : Nat) (c : UInt8), s.data.toList[j]? = some c → c = b := by
  rw [mark_iff] at h
  have key : ∀ b : UInt8, s.data.toList = List.replicate 7 b → s.size = 7 ∧ ∀ (j : Nat) (c : UInt8), s.data.toList[j]? = some c → c = b := by
    intro b e
    refine ⟨by have := congrArg List.length e; simpa using this, fun j c hc => ?_⟩
    rw [e] at hc
    exact List.eq_of_mem_replicate (List.mem_of_getElem? hc)
  rcases h with h | h | h
  · exact ⟨62, .inl rfl, key _ h⟩
  · exact ⟨61, .inr (.inl rfl), key _ h⟩
  · exact ⟨60, .inr (.inr rfl), key _ h⟩
theorem mark_false {s : ByteArray} (h : markP s = true → False) : markP s = false := by
  cases e : markP s with
  | false => rfl
  | true => exact (h e).elim
theorem mark_fc {w0 : World} {S : SS} {s : ByteArray} : FC Try.prog w0 16 [.string s] S (fun v S' => v = .bool (markP s) ∧ S' = S) := by
  refine FC.of Try.known16 (by simp) ?_
  unfold Try.pc16
  simp only [argT]
  refine PW.seqOps ?_
  refine OL.det trivial (Yields.pure rfl) ?_
  refine OL.nil ?_
  refine PW.keep (T' := [(0, _)]) ⟨rfl, trivial⟩ ?_
  refine PW.seqOps ?_
  refine OL.det trivial (Yields.pure rfl) ?_
  refine OL.det trivial (Yields.pure rfl) ?_
  refine OL.bool trivial (Yields.pure rfl) (fun g5 => ?_) (fun g5 => ?_)
  · try simp only [decide_eq_true_eq, decide_eq_false_iff_not, beq_iff_eq, bne_iff_ne, beq_eq_false_iff_ne, bne_eq_false_iff_eq, Bool.not_eq_true', Bool.not_eq_false', Bool.not_eq_true, ne_eq, Decidable.not_not] at g5
    have h1 : (s.toList == mA.toList) = true := by simpa [mA] using g5
    refine OL.off rfl rfl ?_
    refine OL.off rfl rfl ?_
    refine OL.det trivial (Yields.pure rfl) ?_
    refine OL.det trivial (Yields.pure rfl) ?_
    refine OL.off rfl rfl ?_
    refine OL.off rfl rfl ?_
    refine OL.det trivial (Yields.pure rfl) ?_
    refine OL.det trivial (Yields.pure rfl) ?_
    refine OL.nil ?_
    refine PW.keep (T' := [(2, _)]) ⟨rfl, trivial⟩ ?_
    refine PW.ret ?_
    change (Exit.ret = Exit.normal ∨ Exit.ret = Exit.ret) ∧ ∃ v, resV _ _ = some v ∧ _
    exact ⟨.inr rfl, _, rfl, by first | (unfold markP; rw [h1, h2]; rfl) | (unfold markP; rw [h1]; rfl), rfl⟩
  · try simp only [decide_eq_true_eq, decide_eq_false_iff_not, beq_iff_eq, bne_iff_ne, beq_eq_false_iff_ne, bne_eq_false_iff_eq, Bool.not_eq_true', Bool.not_eq_false', Bool.not_eq_true, ne_eq, Decidable.not_not] at g5
    have h1 : (s.toList == mA.toList) = false := by simpa [mA] using g5
    refine OL.det rfl (Yields.pure rfl) ?_
    refine OL.det rfl (Yields.pure rfl) ?_
    refine OL.det trivial (Yields.pure rfl) ?_
    refine OL.bool trivial (Yields.pure rfl) (fun g9 => ?_) (fun g9 => ?_)
    · try simp only [decide_eq_true_eq, decide_eq_false_iff_not, beq_iff_eq, bne_iff_ne, beq_eq_false_iff_ne, bne_eq_false_iff_eq, Bool.not_eq_true', Bool.not_eq_false', Bool.not_eq_true, ne_eq, Decidable.not_not] at g9
      have h2 : (s.toList == mB.toList) = true := by simpa [mB] using g9
      refine OL.off rfl rfl ?_
      refine OL.off rfl rfl ?_
      refine OL.det trivial (Yields.pure rfl) ?_
      refine OL.det trivial (Yields.pure rfl) ?_
      refine OL.nil ?_
      refine PW.keep (T' := [(2, _)]) ⟨rfl, trivial⟩ ?_
      refine PW.ret ?_
      change (Exit.ret = Exit.normal ∨ Exit.ret = Exit.ret) ∧ ∃ v, resV _ _ = some v ∧ _
      exact ⟨.inr rfl, _, rfl, by first | (unfold markP; rw [h1, h2]; rfl) | (unfold markP; rw [h1]; rfl), rfl⟩
    · try simp only [decide_eq_true_eq, decide_eq_false_iff_not, beq_iff_eq, bne_iff_ne, beq_eq_false_iff_ne, bne_eq_false_iff_eq, Bool.not_eq_true', Bool.not_eq_false', Bool.not_eq_true, ne_eq, Decidable.not_not] at g9
      have h2 : (s.toList == mB.toList) = false := by simpa [mB] using g9
      refine OL.det rfl (Yields.pure rfl) ?_
      refine OL.det rfl (Yields.pure rfl) ?_
      refine OL.det trivial (Yields.pure rfl) ?_
      refine OL.det trivial (Yields.pure rfl) ?_
      refine OL.nil ?_
      refine PW.keep (T' := [(2, _)]) ⟨rfl, trivial⟩ ?_
      refine PW.ret ?_
      change (Exit.ret = Exit.normal ∨ Exit.ret = Exit.ret) ∧ ∃ v, resV _ _ = some v ∧ _
      exact ⟨.inr rfl, _, rfl, by first | (unfold markP; rw [h1, h2]; rfl) | (unfold markP; rw [h1]; rfl), rfl⟩
theorem rmark_fc {w0 : World} {S : SS} {s : ByteArray} (hs : s.size ≤ 1000000000) : FC Try.prog w0 17 [.string s] S (fun v S' => v = .bool (markP s) ∧ S' = S) := by
  refine FC.of Try.known17 (by simp) ?_
  unfold Try.pc17
  simp only [argT]
  refine PW.seqOps ?_
  refine OL.det trivial (Yields.pure rfl) ?_
  refine OL.nil ?_
  refine PW.keep (T' := [(0, _)]) ⟨rfl, trivial⟩ ?_
  refine PW.seq fun K1 hK1 => ?_
  refine PW.seqOps ?_
  refine OL.det trivial (Yields.pure rfl) ?_
  refine OL.det trivial (Yields.pure rfl) ?_
  refine OL.det trivial (Yields.pure rfl) ?_
  refine OL.bool trivial (Yields.pure rfl) (fun g7 => ?_) (fun g7 => ?_)
  · try simp only [decide_eq_true_eq, decide_eq_false_iff_not, beq_iff_eq, bne_iff_ne, beq_eq_false_iff_ne, bne_eq_false_iff_eq, Bool.not_eq_true', Bool.not_eq_false', Bool.not_eq_true, ne_eq, Decidable.not_not] at g7
    refine OL.off rfl rfl ?_
    refine OL.off rfl rfl ?_
    refine OL.off rfl rfl ?_
    refine OL.off rfl rfl ?_
    refine OL.off rfl rfl ?_
    refine OL.off rfl rfl ?_
    refine OL.off rfl rfl ?_
    refine OL.off rfl rfl ?_
    refine OL.off rfl rfl ?_
    refine OL.off rfl rfl ?_
    refine OL.off rfl rfl ?_
    refine OL.off rfl rfl ?_
    refine OL.off rfl rfl ?_
    refine OL.det trivial (Yields.pure rfl) ?_
    refine OL.nil ?_
    refine PW.keep (T' := [(0, _), (21, _)]) ⟨rfl, rfl, trivial⟩ ?_
    refine PW.ite (b := true) rfl ?_
    rw [if_pos rfl]
    refine PW.seqOps ?_
    refine OL.det trivial (Yields.pure rfl) ?_
    refine OL.nil ?_
    refine PW.keep (T' := [(2, _)]) ⟨rfl, trivial⟩ ?_
    refine PW.ret ?_
    change (Exit.ret = Exit.normal ∨ Exit.ret = Exit.ret) ∧ ∃ v, resV _ _ = some v ∧ _
    have hf : markP s = false := mark_false fun h => by
      obtain ⟨c, hc, h7, hall⟩ := mark_no h
      first
        | omega
        | (have := hall 0 b hb2; subst this; omega)
    exact ⟨.inr rfl, _, rfl, by rw [hf], rfl⟩
  · try simp only [decide_eq_true_eq, decide_eq_false_iff_not, beq_iff_eq, bne_iff_ne, beq_eq_false_iff_ne, bne_eq_false_iff_eq, Bool.not_eq_true', Bool.not_eq_false', Bool.not_eq_true, ne_eq, Decidable.not_not] at g7
    have h7 : s.size = 7 := by omega
    obtain ⟨b, hb, hb2, _, _⟩ := ba_get (s := s) (k := 0) (by omega)
    refine OL.det rfl (Yields.pure rfl) ?_
    refine OL.det rfl (Yields.ixStr (j := 0) rfl rfl hb) ?_
    refine OL.det rfl (Yields.pure rfl) ?_
    refine OL.bool rfl (Yields.pure rfl) (fun g11 => ?_) (fun g11 => ?_)
    · try simp only [decide_eq_true_eq, decide_eq_false_iff_not, beq_iff_eq, bne_iff_ne, beq_eq_false_iff_ne, bne_eq_false_iff_eq, Bool.not_eq_true', Bool.not_eq_false', Bool.not_eq_true, ne_eq, Decidable.not_not] at g11
      refine OL.det rfl (Yields.pure rfl) ?_
      refine OL.det rfl (Yields.ixStr (j := 0) rfl rfl hb) ?_
      refine OL.det rfl (Yields.pure rfl) ?_
      refine OL.det rfl (Yields.pure rfl) ?_
      refine OL.bool rfl (Yields.pure rfl) (fun g16 => ?_) (fun g16 => ?_)
      · try simp only [decide_eq_true_eq, decide_eq_false_iff_not, beq_iff_eq, bne_iff_ne, beq_eq_false_iff_ne, bne_eq_false_iff_eq, Bool.not_eq_true', Bool.not_eq_false', Bool.not_eq_true, ne_eq, Decidable.not_not] at g16
        refine OL.det rfl (Yields.pure rfl) ?_
        refine OL.det rfl (Yields.ixStr (j := 0) rfl rfl hb) ?_
        refine OL.det rfl (Yields.pure rfl) ?_
        refine OL.det rfl (Yields.pure rfl) ?_
        refine OL.det trivial (Yields.pure rfl) ?_
        refine OL.nil ?_
        refine PW.keep (T' := [(0, _), (21, _)]) ⟨rfl, rfl, trivial⟩ ?_
        refine PW.cond rfl (fun c21 => ?_) (fun c21 => ?_)
        · try simp only [decide_eq_true_eq, decide_eq_false_iff_not, beq_iff_eq, bne_iff_ne, beq_eq_false_iff_ne, bne_eq_false_iff_eq, Bool.not_eq_true', Bool.not_eq_false', Bool.not_eq_true, ne_eq, Decidable.not_not] at c21
          refine PW.seqOps ?_
          refine OL.det trivial (Yields.pure rfl) ?_
          refine OL.nil ?_
          refine PW.keep (T' := [(2, _)]) ⟨rfl, trivial⟩ ?_
          refine PW.ret ?_
          change (Exit.ret = Exit.normal ∨ Exit.ret = Exit.ret) ∧ ∃ v, resV _ _ = some v ∧ _
          have hf : markP s = false := mark_false fun h => by
            obtain ⟨c, hc, h7, hall⟩ := mark_no h
            first
              | omega
              | (have := hall 0 b hb2; subst this; omega)
          exact ⟨.inr rfl, _, rfl, by rw [hf], rfl⟩
        · try simp only [decide_eq_true_eq, decide_eq_false_iff_not, beq_iff_eq, bne_iff_ne, beq_eq_false_iff_ne, bne_eq_false_iff_eq, Bool.not_eq_true', Bool.not_eq_false', Bool.not_eq_true, ne_eq, Decidable.not_not] at c21
          refine PW.skip ?_
          refine hK1 _ _ ?_
          refine PW.keep (T' := [(0, _)]) ⟨rfl, trivial⟩ ?_
          refine PW.seq fun K2 hK2 => ?_
          refine PW.seqOps ?_
          refine OL.det trivial (Yields.pure rfl) ?_
          refine OL.nil ?_
          refine PW.keep (T' := [(0, _), (3, _)]) ⟨rfl, rfl, trivial⟩ ?_
          refine PW.block ?_
          refine PW.keep (T' := [(0, _), (3, _)]) ⟨rfl, rfl, trivial⟩ ?_
          refine PW.loopK (I := fun m T S' => ∃ (k : Nat), (1 ≤ k ∧ k ≤ 7 ∧ m = 7 - k ∧ ∀ j, j < k → s.data.toList[j]? = some b) ∧ T = ([(0, .string s), (3, .int .i64 k)] : TT) ∧ S' = S) (m := 6) ⟨1, ⟨by omega, by omega, by omega, fun j hj => (show 0 = j by omega) ▸ hb2⟩, rfl, rfl⟩ ?_
          rintro m _ _ ⟨k, ⟨hk1, hk, hm, heq⟩, rfl, rfl⟩
          refine PW.seq fun K3 hK3 => ?_
          refine PW.seqOps ?_
          refine OL.det trivial (Yields.pure rfl) ?_
          refine OL.det trivial (Yields.pure rfl) ?_
          refine OL.nil ?_
          refine PW.keep (T' := [(0, _), (3, _), (23, _)]) ⟨rfl, rfl, rfl, trivial⟩ ?_
          refine PW.cond rfl (fun c23 => ?_) (fun c23 => ?_)
          · try simp only [decide_eq_true_eq, decide_eq_false_iff_not, beq_iff_eq, bne_iff_ne, beq_eq_false_iff_ne, bne_eq_false_iff_eq, Bool.not_eq_true', Bool.not_eq_false', Bool.not_eq_true, ne_eq, Decidable.not_not] at c23
            obtain ⟨bk, hbk, hbk2, _, _⟩ := ba_get (s := s) (k := k) (by omega)
            refine PW.skip ?_
            refine hK3 _ _ ?_
            refine PW.keep (T' := [(0, _), (3, _)]) ⟨rfl, rfl, trivial⟩ ?_
            refine PW.seq fun K4 hK4 => ?_
            refine PW.block ?_
            refine PW.seq fun K5 hK5 => ?_
            refine PW.quietK Try.mixed ?_
            refine QK.det trivial (Yields.pure rfl) ?_
            refine QK.det trivial (Yields.pure rfl) ?_
            refine QK.det trivial (Yields.ixStr rfl rfl hbk) ?_
            refine QK.det trivial (Yields.pure rfl) ?_
            refine QK.det trivial (Yields.ixStr (j := 0) rfl rfl hb) ?_
            refine QK.nil ?_
            change OL _ _ _ [_] _ _ _
            refine OL.det trivial (Yields.pure rfl) ?_
            refine OL.nil ?_
            refine hK5 _ _ ?_
            refine PW.keep (T' := [(0, _), (3, _), (31, _)]) ⟨rfl, rfl, rfl, trivial⟩ ?_
            refine PW.cond rfl (fun c31 => ?_) (fun c31 => ?_)
            · try simp only [decide_eq_true_eq, decide_eq_false_iff_not, beq_iff_eq, bne_iff_ne, beq_eq_false_iff_ne, bne_eq_false_iff_eq, Bool.not_eq_true', Bool.not_eq_false', Bool.not_eq_true, ne_eq, Decidable.not_not] at c31
              refine PW.seqOps ?_
              refine OL.det trivial (Yields.pure rfl) ?_
              refine OL.nil ?_
              refine PW.keep (T' := [(2, _)]) ⟨rfl, trivial⟩ ?_
              refine PW.ret ?_
              change (Exit.ret = Exit.normal ∨ Exit.ret = Exit.ret) ∧ ∃ v, resV _ _ = some v ∧ _
              have hf : markP s = false := mark_false fun h => by
                obtain ⟨c, hc, h7, hall⟩ := mark_no h
                have e1 := hall 0 b hb2
                have e2 := hall k bk hbk2
                subst e1; subst e2
                exact c31 rfl
              exact ⟨.inr rfl, _, rfl, by rw [hf], rfl⟩
            · try simp only [decide_eq_true_eq, decide_eq_false_iff_not, beq_iff_eq, bne_iff_ne, beq_eq_false_iff_ne, bne_eq_false_iff_eq, Bool.not_eq_true', Bool.not_eq_false', Bool.not_eq_true, ne_eq, Decidable.not_not] at c31
              refine PW.skip ?_
              refine hK4 _ _ ?_
              refine PW.keep (T' := [(0, _), (3, _)]) ⟨rfl, rfl, trivial⟩ ?_
              refine PW.ops ?_
              refine OL.det trivial (Yields.pure rfl) ?_
              refine OL.det trivial (Yields.add64 rfl rfl (by omega) (by omega)) ?_
              refine OL.det trivial (Yields.pure rfl) ?_
              refine OL.nil ?_
              repeat rw [inBlk_n]
              rw [thenK_n]
              refine LoopEnd.mk (T'' := [(0, _), (3, _)]) ⟨rfl, rfl, trivial⟩ ?_
              refine ⟨7 - (k + 1), by omega, k + 1, ⟨by omega, by omega, rfl, fun j hj => ?_⟩, by simp, rfl⟩
              by_cases hj' : j < k
              · exact heq j hj'
              · obtain rfl : j = k := by omega
                rw [hbk2]; congr 1; apply UInt8.toNat_inj.1; omega
          · try simp only [decide_eq_true_eq, decide_eq_false_iff_not, beq_iff_eq, bne_iff_ne, beq_eq_false_iff_ne, bne_eq_false_iff_eq, Bool.not_eq_true', Bool.not_eq_false', Bool.not_eq_true, ne_eq, Decidable.not_not] at c23
            refine PW.exit ?_
            refine hK2 _ _ ?_
            refine PW.keep (T' := []) trivial ?_
            refine PW.seqOps ?_
            refine OL.det trivial (Yields.pure rfl) ?_
            refine OL.nil ?_
            refine PW.keep (T' := [(2, _)]) ⟨rfl, trivial⟩ ?_
            refine PW.ret ?_
            change (Exit.ret = Exit.normal ∨ Exit.ret = Exit.ret) ∧ ∃ v, resV _ _ = some v ∧ _
            have ht : markP s = true := mark_of (b := b) (by simp; omega) hb2 (by omega) fun j hj => heq j (by omega)
            exact ⟨.inr rfl, _, rfl, by rw [ht], rfl⟩
      · try simp only [decide_eq_true_eq, decide_eq_false_iff_not, beq_iff_eq, bne_iff_ne, beq_eq_false_iff_ne, bne_eq_false_iff_eq, Bool.not_eq_true', Bool.not_eq_false', Bool.not_eq_true, ne_eq, Decidable.not_not] at g16
        refine OL.off rfl rfl ?_
        refine OL.off rfl rfl ?_
        refine OL.off rfl rfl ?_
        refine OL.det rfl (Yields.pure rfl) ?_
        refine OL.det trivial (Yields.pure rfl) ?_
        refine OL.nil ?_
        refine PW.keep (T' := [(0, _), (21, _)]) ⟨rfl, rfl, trivial⟩ ?_
        refine PW.ite (b := false) rfl ?_
        rw [if_neg Bool.false_ne_true]
        refine PW.skip ?_
        refine hK1 _ _ ?_
        refine PW.keep (T' := [(0, _)]) ⟨rfl, trivial⟩ ?_
        refine PW.seq fun K6 hK6 => ?_
        refine PW.seqOps ?_
        refine OL.det trivial (Yields.pure rfl) ?_
        refine OL.nil ?_
        refine PW.keep (T' := [(0, _), (3, _)]) ⟨rfl, rfl, trivial⟩ ?_
        refine PW.block ?_
        refine PW.keep (T' := [(0, _), (3, _)]) ⟨rfl, rfl, trivial⟩ ?_
        refine PW.loopK (I := fun m T S' => ∃ (k : Nat), (1 ≤ k ∧ k ≤ 7 ∧ m = 7 - k ∧ ∀ j, j < k → s.data.toList[j]? = some b) ∧ T = ([(0, .string s), (3, .int .i64 k)] : TT) ∧ S' = S) (m := 6) ⟨1, ⟨by omega, by omega, by omega, fun j hj => (show 0 = j by omega) ▸ hb2⟩, rfl, rfl⟩ ?_
        rintro m _ _ ⟨k, ⟨hk1, hk, hm, heq⟩, rfl, rfl⟩
        refine PW.seq fun K7 hK7 => ?_
        refine PW.seqOps ?_
        refine OL.det trivial (Yields.pure rfl) ?_
        refine OL.det trivial (Yields.pure rfl) ?_
        refine OL.nil ?_
        refine PW.keep (T' := [(0, _), (3, _), (23, _)]) ⟨rfl, rfl, rfl, trivial⟩ ?_
        refine PW.cond rfl (fun c23 => ?_) (fun c23 => ?_)
        · try simp only [decide_eq_true_eq, decide_eq_false_iff_not, beq_iff_eq, bne_iff_ne, beq_eq_false_iff_ne, bne_eq_false_iff_eq, Bool.not_eq_true', Bool.not_eq_false', Bool.not_eq_true, ne_eq, Decidable.not_not] at c23
          obtain ⟨bk, hbk, hbk2, _, _⟩ := ba_get (s := s) (k := k) (by omega)
          refine PW.skip ?_
          refine hK7 _ _ ?_
          refine PW.keep (T' := [(0, _), (3, _)]) ⟨rfl, rfl, trivial⟩ ?_
          refine PW.seq fun K8 hK8 => ?_
          refine PW.block ?_
          refine PW.seq fun K9 hK9 => ?_
          refine PW.quietK Try.mixed ?_
          refine QK.det trivial (Yields.pure rfl) ?_
          refine QK.det trivial (Yields.pure rfl) ?_
          refine QK.det trivial (Yields.ixStr rfl rfl hbk) ?_
          refine QK.det trivial (Yields.pure rfl) ?_
          refine QK.det trivial (Yields.ixStr (j := 0) rfl rfl hb) ?_
          refine QK.nil ?_
          change OL _ _ _ [_] _ _ _
          refine OL.det trivial (Yields.pure rfl) ?_
          refine OL.nil ?_
          refine hK9 _ _ ?_
          refine PW.keep (T' := [(0, _), (3, _), (31, _)]) ⟨rfl, rfl, rfl, trivial⟩ ?_
          refine PW.cond rfl (fun c31 => ?_) (fun c31 => ?_)
          · try simp only [decide_eq_true_eq, decide_eq_false_iff_not, beq_iff_eq, bne_iff_ne, beq_eq_false_iff_ne, bne_eq_false_iff_eq, Bool.not_eq_true', Bool.not_eq_false', Bool.not_eq_true, ne_eq, Decidable.not_not] at c31
            refine PW.seqOps ?_
            refine OL.det trivial (Yields.pure rfl) ?_
            refine OL.nil ?_
            refine PW.keep (T' := [(2, _)]) ⟨rfl, trivial⟩ ?_
            refine PW.ret ?_
            change (Exit.ret = Exit.normal ∨ Exit.ret = Exit.ret) ∧ ∃ v, resV _ _ = some v ∧ _
            have hf : markP s = false := mark_false fun h => by
              obtain ⟨c, hc, h7, hall⟩ := mark_no h
              have e1 := hall 0 b hb2
              have e2 := hall k bk hbk2
              subst e1; subst e2
              exact c31 rfl
            exact ⟨.inr rfl, _, rfl, by rw [hf], rfl⟩
          · try simp only [decide_eq_true_eq, decide_eq_false_iff_not, beq_iff_eq, bne_iff_ne, beq_eq_false_iff_ne, bne_eq_false_iff_eq, Bool.not_eq_true', Bool.not_eq_false', Bool.not_eq_true, ne_eq, Decidable.not_not] at c31
            refine PW.skip ?_
            refine hK8 _ _ ?_
            refine PW.keep (T' := [(0, _), (3, _)]) ⟨rfl, rfl, trivial⟩ ?_
            refine PW.ops ?_
            refine OL.det trivial (Yields.pure rfl) ?_
            refine OL.det trivial (Yields.add64 rfl rfl (by omega) (by omega)) ?_
            refine OL.det trivial (Yields.pure rfl) ?_
            refine OL.nil ?_
            repeat rw [inBlk_n]
            rw [thenK_n]
            refine LoopEnd.mk (T'' := [(0, _), (3, _)]) ⟨rfl, rfl, trivial⟩ ?_
            refine ⟨7 - (k + 1), by omega, k + 1, ⟨by omega, by omega, rfl, fun j hj => ?_⟩, by simp, rfl⟩
            by_cases hj' : j < k
            · exact heq j hj'
            · obtain rfl : j = k := by omega
              rw [hbk2]; congr 1; apply UInt8.toNat_inj.1; omega
        · try simp only [decide_eq_true_eq, decide_eq_false_iff_not, beq_iff_eq, bne_iff_ne, beq_eq_false_iff_ne, bne_eq_false_iff_eq, Bool.not_eq_true', Bool.not_eq_false', Bool.not_eq_true, ne_eq, Decidable.not_not] at c23
          refine PW.exit ?_
          refine hK6 _ _ ?_
          refine PW.keep (T' := []) trivial ?_
          refine PW.seqOps ?_
          refine OL.det trivial (Yields.pure rfl) ?_
          refine OL.nil ?_
          refine PW.keep (T' := [(2, _)]) ⟨rfl, trivial⟩ ?_
          refine PW.ret ?_
          change (Exit.ret = Exit.normal ∨ Exit.ret = Exit.ret) ∧ ∃ v, resV _ _ = some v ∧ _
          have ht : markP s = true := mark_of (b := b) (by simp; omega) hb2 (by omega) fun j hj => heq j (by omega)
          exact ⟨.inr rfl, _, rfl, by rw [ht], rfl⟩
    · try simp only [decide_eq_true_eq, decide_eq_false_iff_not, beq_iff_eq, bne_iff_ne, beq_eq_false_iff_ne, bne_eq_false_iff_eq, Bool.not_eq_true', Bool.not_eq_false', Bool.not_eq_true, ne_eq, Decidable.not_not] at g11
      refine OL.off rfl rfl ?_
      refine OL.off rfl rfl ?_
      refine OL.off rfl rfl ?_
      refine OL.det rfl (Yields.pure rfl) ?_
      refine OL.det rfl (Yields.pure rfl) ?_
      refine OL.off rfl rfl ?_
      refine OL.off rfl rfl ?_
      refine OL.off rfl rfl ?_
      refine OL.det rfl (Yields.pure rfl) ?_
      refine OL.det trivial (Yields.pure rfl) ?_
      refine OL.nil ?_
      refine PW.keep (T' := [(0, _), (21, _)]) ⟨rfl, rfl, trivial⟩ ?_
      refine PW.ite (b := false) rfl ?_
      rw [if_neg Bool.false_ne_true]
      refine PW.skip ?_
      refine hK1 _ _ ?_
      refine PW.keep (T' := [(0, _)]) ⟨rfl, trivial⟩ ?_
      refine PW.seq fun K10 hK10 => ?_
      refine PW.seqOps ?_
      refine OL.det trivial (Yields.pure rfl) ?_
      refine OL.nil ?_
      refine PW.keep (T' := [(0, _), (3, _)]) ⟨rfl, rfl, trivial⟩ ?_
      refine PW.block ?_
      refine PW.keep (T' := [(0, _), (3, _)]) ⟨rfl, rfl, trivial⟩ ?_
      refine PW.loopK (I := fun m T S' => ∃ (k : Nat), (1 ≤ k ∧ k ≤ 7 ∧ m = 7 - k ∧ ∀ j, j < k → s.data.toList[j]? = some b) ∧ T = ([(0, .string s), (3, .int .i64 k)] : TT) ∧ S' = S) (m := 6) ⟨1, ⟨by omega, by omega, by omega, fun j hj => (show 0 = j by omega) ▸ hb2⟩, rfl, rfl⟩ ?_
      rintro m _ _ ⟨k, ⟨hk1, hk, hm, heq⟩, rfl, rfl⟩
      refine PW.seq fun K11 hK11 => ?_
      refine PW.seqOps ?_
      refine OL.det trivial (Yields.pure rfl) ?_
      refine OL.det trivial (Yields.pure rfl) ?_
      refine OL.nil ?_
      refine PW.keep (T' := [(0, _), (3, _), (23, _)]) ⟨rfl, rfl, rfl, trivial⟩ ?_
      refine PW.cond rfl (fun c23 => ?_) (fun c23 => ?_)
      · try simp only [decide_eq_true_eq, decide_eq_false_iff_not, beq_iff_eq, bne_iff_ne, beq_eq_false_iff_ne, bne_eq_false_iff_eq, Bool.not_eq_true', Bool.not_eq_false', Bool.not_eq_true, ne_eq, Decidable.not_not] at c23
        obtain ⟨bk, hbk, hbk2, _, _⟩ := ba_get (s := s) (k := k) (by omega)
        refine PW.skip ?_
        refine hK11 _ _ ?_
        refine PW.keep (T' := [(0, _), (3, _)]) ⟨rfl, rfl, trivial⟩ ?_
        refine PW.seq fun K12 hK12 => ?_
        refine PW.block ?_
        refine PW.seq fun K13 hK13 => ?_
        refine PW.quietK Try.mixed ?_
        refine QK.det trivial (Yields.pure rfl) ?_
        refine QK.det trivial (Yields.pure rfl) ?_
        refine QK.det trivial (Yields.ixStr rfl rfl hbk) ?_
        refine QK.det trivial (Yields.pure rfl) ?_
        refine QK.det trivial (Yields.ixStr (j := 0) rfl rfl hb) ?_
        refine QK.nil ?_
        change OL _ _ _ [_] _ _ _
        refine OL.det trivial (Yields.pure rfl) ?_
        refine OL.nil ?_
        refine hK13 _ _ ?_
        refine PW.keep (T' := [(0, _), (3, _), (31, _)]) ⟨rfl, rfl, rfl, trivial⟩ ?_
        refine PW.cond rfl (fun c31 => ?_) (fun c31 => ?_)
        · try simp only [decide_eq_true_eq, decide_eq_false_iff_not, beq_iff_eq, bne_iff_ne, beq_eq_false_iff_ne, bne_eq_false_iff_eq, Bool.not_eq_true', Bool.not_eq_false', Bool.not_eq_true, ne_eq, Decidable.not_not] at c31
          refine PW.seqOps ?_
          refine OL.det trivial (Yields.pure rfl) ?_
          refine OL.nil ?_
          refine PW.keep (T' := [(2, _)]) ⟨rfl, trivial⟩ ?_
          refine PW.ret ?_
          change (Exit.ret = Exit.normal ∨ Exit.ret = Exit.ret) ∧ ∃ v, resV _ _ = some v ∧ _
          have hf : markP s = false := mark_false fun h => by
            obtain ⟨c, hc, h7, hall⟩ := mark_no h
            have e1 := hall 0 b hb2
            have e2 := hall k bk hbk2
            subst e1; subst e2
            exact c31 rfl
          exact ⟨.inr rfl, _, rfl, by rw [hf], rfl⟩
        · try simp only [decide_eq_true_eq, decide_eq_false_iff_not, beq_iff_eq, bne_iff_ne, beq_eq_false_iff_ne, bne_eq_false_iff_eq, Bool.not_eq_true', Bool.not_eq_false', Bool.not_eq_true, ne_eq, Decidable.not_not] at c31
          refine PW.skip ?_
          refine hK12 _ _ ?_
          refine PW.keep (T' := [(0, _), (3, _)]) ⟨rfl, rfl, trivial⟩ ?_
          refine PW.ops ?_
          refine OL.det trivial (Yields.pure rfl) ?_
          refine OL.det trivial (Yields.add64 rfl rfl (by omega) (by omega)) ?_
          refine OL.det trivial (Yields.pure rfl) ?_
          refine OL.nil ?_
          repeat rw [inBlk_n]
          rw [thenK_n]
          refine LoopEnd.mk (T'' := [(0, _), (3, _)]) ⟨rfl, rfl, trivial⟩ ?_
          refine ⟨7 - (k + 1), by omega, k + 1, ⟨by omega, by omega, rfl, fun j hj => ?_⟩, by simp, rfl⟩
          by_cases hj' : j < k
          · exact heq j hj'
          · obtain rfl : j = k := by omega
            rw [hbk2]; congr 1; apply UInt8.toNat_inj.1; omega
      · try simp only [decide_eq_true_eq, decide_eq_false_iff_not, beq_iff_eq, bne_iff_ne, beq_eq_false_iff_ne, bne_eq_false_iff_eq, Bool.not_eq_true', Bool.not_eq_false', Bool.not_eq_true, ne_eq, Decidable.not_not] at c23
        refine PW.exit ?_
        refine hK10 _ _ ?_
        refine PW.keep (T' := []) trivial ?_
        refine PW.seqOps ?_
        refine OL.det trivial (Yields.pure rfl) ?_
        refine OL.nil ?_
        refine PW.keep (T' := [(2, _)]) ⟨rfl, trivial⟩ ?_
        refine PW.ret ?_
        change (Exit.ret = Exit.normal ∨ Exit.ret = Exit.ret) ∧ ∃ v, resV _ _ = some v ∧ _
        have ht : markP s = true := mark_of (b := b) (by simp; omega) hb2 (by omega) fun j hj => heq j (by omega)
        exact ⟨.inr rfl, _, rfl, by rw [ht], rfl⟩

end Go.Proofs
