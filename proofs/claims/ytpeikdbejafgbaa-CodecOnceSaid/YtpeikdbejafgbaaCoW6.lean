/- Walks and plain facts for the laws of this seat: what each function answers, for every input. -/
import Derived.Test.YtpeikdbejafgbaaSl14
import Derived.Test.YtpeikdbejafgbaaCoW5
set_option linter.unusedVariables false
set_option linter.unusedSimpArgs false
namespace Go.Proofs
open Go.SL Go.RowKit
set_option maxHeartbeats 1000000

/-- the number that stands at the front, from digit i on, n being reckoned of those ahead: it, how many bytes, the failure -/
def numR : Nat → Nat → List UInt8 → Nat × Nat × Int
  | _, _, [] => (0, 0, 4)
  | i, n, b :: r => if 10 ≤ i ∨ (i = 9 ∧ 1 < b.toNat) then (0, 0, 4)
    else if b.toNat < 128 then (if b.toNat % 128 = 0 ∧ 0 < i then (0, 0, 4) else (n + b.toNat % 128 * 2 ^ (7 * i), i + 1, 0))
    else numR (i + 1) (n + b.toNat % 128 * 2 ^ (7 * i)) r
theorem bytesC_ne {l : List UInt8} (h : 0 < l.length) : bytesC l ≠ [] := by intro e; have := congrArg List.length e; rw [bytesC_length, List.length_nil] at this; omega
theorem numR_stop {i n : Nat} {l : List UInt8} (h : ¬ (0 < l.length ∧ i < 10)) : numR i n l = (0, 0, 4) := by
  cases l with
  | nil => rfl
  | cons b r => simp only [numR]; rw [if_pos]; simp at h; omega
theorem andNot128 (b : UInt8) : IntKind.u64.wrap (IntKind.u8.wrap ((BitVec.ofInt 8 (b.toNat : Int) &&& ~~~BitVec.ofInt 8 128).toNat : Int)) = ((b.toNat % 128 : Nat) : Int) := by
  have key : ∀ m : Nat, m < 256 → IntKind.u64.wrap (IntKind.u8.wrap ((BitVec.ofInt 8 (m : Int) &&& ~~~BitVec.ofInt 8 128).toNat : Int)) = ((m % 128 : Nat) : Int) := by decide +kernel
  exact key _ b.toNat_lt
theorem or_add {n e i : Nat} (hn : n < 2 ^ i) : n ||| e * 2 ^ i = n + e * 2 ^ i := by
  rw [Nat.or_comm, Nat.mul_comm, Nat.add_comm, ← Nat.two_pow_add_eq_or_of_lt hn]
theorem or_u64 {n e i : Nat} (hn : n < 2 ^ i) (ht : n + e * 2 ^ i < 18446744073709551616) : IntKind.u64.wrap ((BitVec.ofInt 64 (n : Int) ||| BitVec.ofInt 64 ((e * 2 ^ i : Nat) : Int)).toNat : Int) = ((n + e * 2 ^ i : Nat) : Int) := by
  have h1 : n < 2 ^ 64 := by have : (2 : Nat) ^ 64 = 18446744073709551616 := rfl; omega
  have h2 : e * 2 ^ i < 2 ^ 64 := by have : (2 : Nat) ^ 64 = 18446744073709551616 := rfl; omega
  have e1 : ∀ m : Nat, BitVec.ofInt 64 (m : Int) = BitVec.ofNat 64 m := fun m => by simp
  rw [e1, e1, BitVec.toNat_or, BitVec.toNat_ofNat, BitVec.toNat_ofNat, Nat.mod_eq_of_lt h1, Nat.mod_eq_of_lt h2, or_add hn, u64_wrap ht]
theorem shl_u64 {e i : Nat} (h : e * 2 ^ (7 * i) < 18446744073709551616) (hi : i < 10) : IntKind.u64.wrap ((e : Int) * 2 ^ (min ((7 * i : Nat) : Int).toNat IntKind.u64.bits)) = ((e * 2 ^ (7 * i) : Nat) : Int) := by
  have e1 : min ((7 * i : Nat) : Int).toNat IntKind.u64.bits = 7 * i := by
    rw [Int.toNat_natCast]; exact Nat.min_eq_left (by show 7 * i ≤ 64; omega)
  have e2 : (e : Int) * 2 ^ (7 * i) = ((e * 2 ^ (7 * i) : Nat) : Int) := by simp
  rw [e1, e2, u64_wrap h]
theorem digit_lt {n e i : Nat} (hn : n < 2 ^ (7 * i)) (he : e < 128) (hi : i < 10) (h9 : i = 9 → e ≤ 1) : n + e * 2 ^ (7 * i) < 18446744073709551616 ∧ e * 2 ^ (7 * i) < 18446744073709551616 ∧ n + e * 2 ^ (7 * i) < 2 ^ (7 * (i + 1)) := by
  have h1 : e * 2 ^ (7 * i) ≤ 127 * 2 ^ (7 * i) := Nat.mul_le_mul_right _ (by omega)
  have h2 : (2 : Nat) ^ (7 * (i + 1)) = 128 * 2 ^ (7 * i) := by rw [show 7 * (i + 1) = 7 * i + 7 by omega, Nat.pow_add, Nat.mul_comm]
  refine ⟨?_, ?_, by omega⟩
  · by_cases h : i = 9
    · subst h
      have := Nat.mul_le_mul_right (2 ^ (7 * 9)) (h9 rfl)
      have e3 : (2 : Nat) ^ (7 * 9) = 9223372036854775808 := rfl
      rw [e3] at *; omega
    · have h3 : (2 : Nat) ^ (7 * (i + 1)) ≤ 2 ^ 63 := Nat.pow_le_pow_right (by omega) (by omega)
      have e3 : (2 : Nat) ^ 63 = 9223372036854775808 := rfl
      rw [e3] at h3; omega
  · by_cases h : i = 9
    · subst h
      have := Nat.mul_le_mul_right (2 ^ (7 * 9)) (h9 rfl)
      have e3 : (2 : Nat) ^ (7 * 9) = 9223372036854775808 := rfl
      rw [e3] at *; omega
    · have h3 : (2 : Nat) ^ (7 * (i + 1)) ≤ 2 ^ 63 := Nat.pow_le_pow_right (by omega) (by omega)
      have e3 : (2 : Nat) ^ 63 = 9223372036854775808 := rfl
      rw [e3] at h3; omega
theorem numR_bad {i n : Nat} {b : UInt8} {r : List UInt8} (h : 10 ≤ i ∨ (i = 9 ∧ 1 < b.toNat)) : numR i n (b :: r) = (0, 0, 4) := by simp only [numR]; rw [if_pos h]
theorem numR_end {i n : Nat} {b : UInt8} {r : List UInt8} (h : ¬ (10 ≤ i ∨ (i = 9 ∧ 1 < b.toNat))) (hb : b.toNat < 128) (h0 : ¬ (b.toNat % 128 = 0 ∧ 0 < i)) : numR i n (b :: r) = (n + b.toNat % 128 * 2 ^ (7 * i), i + 1, 0) := by simp only [numR]; rw [if_neg h, if_pos hb, if_neg h0]
theorem numR_nil {i n : Nat} {b : UInt8} {r : List UInt8} (h : ¬ (10 ≤ i ∨ (i = 9 ∧ 1 < b.toNat))) (hb : b.toNat < 128) (h0 : b.toNat % 128 = 0 ∧ 0 < i) : numR i n (b :: r) = (0, 0, 4) := by simp only [numR]; rw [if_neg h, if_pos hb, if_pos h0]
theorem numR_on {i n : Nat} {b : UInt8} {r : List UInt8} (h : ¬ (10 ≤ i ∨ (i = 9 ∧ 1 < b.toNat))) (hb : ¬ b.toNat < 128) : numR i n (b :: r) = numR (i + 1) (n + b.toNat % 128 * 2 ^ (7 * i)) r := by simp only [numR]; rw [if_neg h, if_neg hb]
def numV (t : Nat × Nat × Int) : Value := .tuple #[.int .u64 (t.1 : Int), .int .i64 (t.2.1 : Int), .int .i64 t.2.2]
theorem number_fc {w0 : World} {S : SS} {A : Option Addr} {ca : Nat} {l : List UInt8} (hx : Rd w0 S A (bytesC l)) (hb : l.length ≤ 1000000000000) :
    FC Try.prog w0 33 [.slice A l.length ca] S (fun v S' => v = numV (numR 0 0 l) ∧ S' = S) := by
  refine FC.of Try.known33 (by simp) ?_
  unfold Try.pc33
  simp only [argT]
  refine PW.seqOps ?_
  refine OL.det trivial (Yields.pure rfl) ?_
  refine OL.det trivial (Yields.pure rfl) ?_
  refine OL.det trivial (Yields.pure rfl) ?_
  refine OL.nil ?_
  refine PW.keep (T' := [(0, _), (2, _)]) ⟨rfl, rfl, trivial⟩ ?_
  refine PW.seq fun K1 hK1 => ?_
  refine PW.seqOps ?_
  refine OL.det trivial (Yields.pure rfl) ?_
  refine OL.nil ?_
  refine PW.keep (T' := [(0, _), (2, _), (5, _)]) ⟨rfl, rfl, rfl, trivial⟩ ?_
  refine PW.block ?_
  refine PW.keep (T' := [(0, _), (2, _), (5, _)]) ⟨rfl, rfl, rfl, trivial⟩ ?_
  refine PW.loopK (I := fun m T S' => ∃ (k n : Nat), (k ≤ l.length ∧ k ≤ 10 ∧ m = l.length - k ∧ n < 2 ^ (7 * k) ∧ numR k n (l.drop k) = numR 0 0 l) ∧ T = ([(0, .slice A l.length ca), (2, .int .u64 (n : Int)), (5, .int .i64 (k : Int))] : TT) ∧ S' = S) (m := l.length) ⟨0, 0, ⟨by omega, by omega, by omega, by simp, rfl⟩, rfl, rfl⟩ ?_
  rintro m _ _ ⟨k, n, ⟨hk, hk10, hm, hn, hcur⟩, rfl, rfl⟩
  refine PW.seq fun K2 hK2 => ?_
  refine PW.seqOps ?_
  refine OL.det trivial (Yields.pure rfl) ?_
  refine OL.det trivial (Yields.pure rfl) ?_
  refine OL.det trivial (Yields.pure rfl) ?_
  refine OL.det trivial (Yields.pure rfl) ?_
  refine OL.bool trivial (Yields.pure rfl) (fun g11 => ?_) (fun g11 => ?_)
  · try simp only [decide_eq_true_eq, decide_eq_false_iff_not, beq_iff_eq, bne_iff_ne, beq_eq_false_iff_ne, bne_eq_false_iff_eq, Bool.not_eq_true', Bool.not_eq_false', Bool.not_eq_true, ne_eq, Decidable.not_not] at g11
    have hlt : k < l.length := by omega
    obtain ⟨a, rfl⟩ := hx.some (bytesC_ne (by omega))
    have hcons : l.drop k = l[k] :: l.drop (k + 1) := List.drop_eq_getElem_cons hlt
    refine OL.det rfl (Yields.pure rfl) ?_
    refine OL.det rfl (Yields.pure rfl) ?_
    refine OL.det trivial (Yields.pure rfl) ?_
    refine OL.nil ?_
    refine PW.keep (T' := [(0, _), (2, _), (5, _), (14, _)]) ⟨rfl, rfl, rfl, rfl, trivial⟩ ?_
    refine PW.cond rfl (fun c14 => ?_) (fun c14 => ?_)
    · try simp only [decide_eq_true_eq, decide_eq_false_iff_not, beq_iff_eq, bne_iff_ne, beq_eq_false_iff_ne, bne_eq_false_iff_eq, Bool.not_eq_true', Bool.not_eq_false', Bool.not_eq_true, ne_eq, Decidable.not_not] at c14
      refine PW.skip ?_
      refine hK2 _ _ ?_
      refine PW.keep (T' := [(0, _), (2, _), (5, _)]) ⟨rfl, rfl, rfl, trivial⟩ ?_
      refine PW.seq fun K3 hK3 => ?_
      refine PW.block ?_
      refine PW.seqOps ?_
      refine OL.det trivial (Yields.pure rfl) ?_
      refine OL.det trivial (Yields.pure rfl) ?_
      refine OL.det trivial (Yields.ixN1 rfl rfl rfl (by omega)) ?_
      refine OL.det trivial (Yields.ld rfl (bytes_at hx hlt)) ?_
      refine OL.det trivial (Yields.pure rfl) ?_
      refine OL.det trivial (Yields.pure rfl) ?_
      rw [show IntKind.u64.wrap (IntKind.u8.wrap ((BitVec.ofInt IntKind.u8.bits (l[k].toNat : Int) &&& ~~~BitVec.ofInt IntKind.u8.bits 128).toNat : Int)) = ((l[k].toNat % 128 : Nat) : Int) from andNot128 l[k]]
      refine OL.det trivial (Yields.pure rfl) ?_
      refine OL.nil ?_
      refine PW.keep (T' := [(0, _), (2, _), (5, _), (6, _)]) ⟨rfl, rfl, rfl, rfl, trivial⟩ ?_
      refine PW.seq fun K4 hK4 => ?_
      refine PW.seqOps ?_
      refine OL.det trivial (Yields.pure rfl) ?_
      refine OL.det trivial (Yields.pure rfl) ?_
      refine OL.bool trivial (Yields.pure rfl) (fun g25 => ?_) (fun g25 => ?_)
      · try simp only [decide_eq_true_eq, decide_eq_false_iff_not, beq_iff_eq, bne_iff_ne, beq_eq_false_iff_ne, bne_eq_false_iff_eq, Bool.not_eq_true', Bool.not_eq_false', Bool.not_eq_true, ne_eq, Decidable.not_not] at g25
        refine OL.det rfl (Yields.pure rfl) ?_
        refine OL.det rfl (Yields.pure rfl) ?_
        refine OL.det rfl (Yields.ixN1 rfl rfl rfl (by omega)) ?_
        refine OL.det rfl (Yields.ld rfl (bytes_at hx hlt)) ?_
        refine OL.det rfl (Yields.pure rfl) ?_
        refine OL.det trivial (Yields.pure rfl) ?_
        refine OL.nil ?_
        refine PW.keep (T' := [(0, _), (2, _), (5, _), (6, _), (31, _)]) ⟨rfl, rfl, rfl, rfl, rfl, trivial⟩ ?_
        refine PW.cond rfl (fun c31 => ?_) (fun c31 => ?_)
        · try simp only [decide_eq_true_eq, decide_eq_false_iff_not, beq_iff_eq, bne_iff_ne, beq_eq_false_iff_ne, bne_eq_false_iff_eq, Bool.not_eq_true', Bool.not_eq_false', Bool.not_eq_true, ne_eq, Decidable.not_not] at c31
          refine PW.exit ?_
          refine hK1 _ _ ?_
          refine PW.keep (T' := []) trivial ?_
          refine PW.seqOps ?_
          refine OL.det trivial (Yields.pure rfl) ?_
          refine OL.det trivial (Yields.pure rfl) ?_
          refine OL.det trivial (Yields.pure rfl) ?_
          refine OL.nil ?_
          refine PW.keep (T' := [(2, _), (3, _), (4, _)]) ⟨rfl, rfl, rfl, trivial⟩ ?_
          refine PW.ret ?_
          change (Exit.ret = Exit.normal ∨ Exit.ret = Exit.ret) ∧ ∃ v, resV _ _ = some v ∧ _
          refine ⟨.inr rfl, _, rfl, ?_, rfl⟩
          rw [← hcur]
          first
            | (rw [numR_stop (by simp; omega)]; rfl)
            | (rw [hcons, numR_bad (by omega)]; rfl)
            | (rw [hcons, numR_nil (by omega) (by omega) (by omega)]; rfl)
        · try simp only [decide_eq_true_eq, decide_eq_false_iff_not, beq_iff_eq, bne_iff_ne, beq_eq_false_iff_ne, bne_eq_false_iff_eq, Bool.not_eq_true', Bool.not_eq_false', Bool.not_eq_true, ne_eq, Decidable.not_not] at c31
          refine PW.skip ?_
          refine hK4 _ _ ?_
          refine PW.keep (T' := [(0, _), (2, _), (5, _), (6, _)]) ⟨rfl, rfl, rfl, rfl, trivial⟩ ?_
          refine PW.seqOps ?_
          refine OL.det trivial (Yields.pure rfl) ?_
          refine OL.det trivial (Yields.pure rfl) ?_
          refine OL.det trivial (Yields.pure rfl) ?_
          refine OL.det trivial (Yields.mul64 rfl rfl (by omega) (by omega)) ?_
          refine OL.det trivial (Yields.shl rfl rfl (by omega)) ?_
          have hdl := digit_lt (e := l[k].toNat % 128) hn (Nat.mod_lt _ (by omega)) (by omega) (by omega)
          rw [show IntKind.u64.wrap (((l[k].toNat % 128 : Nat) : Int) * 2 ^ (min (7 * (k : Int)).toNat IntKind.u64.bits)) = ((l[k].toNat % 128 * 2 ^ (7 * k) : Nat) : Int) from shl_u64 hdl.2.1 (by omega)]
          refine OL.det trivial (Yields.pure rfl) ?_
          rw [show IntKind.u64.wrap ((BitVec.ofInt IntKind.u64.bits (n : Int) ||| BitVec.ofInt IntKind.u64.bits ((l[k].toNat % 128 * 2 ^ (7 * k) : Nat) : Int)).toNat : Int) = ((n + l[k].toNat % 128 * 2 ^ (7 * k) : Nat) : Int) from or_u64 hn hdl.1]
          refine OL.det trivial (Yields.pure rfl) ?_
          refine OL.nil ?_
          refine PW.keep (T' := [(0, _), (2, _), (5, _), (6, _)]) ⟨rfl, rfl, rfl, rfl, trivial⟩ ?_
          refine PW.seqOps ?_
          refine OL.det trivial (Yields.pure rfl) ?_
          refine OL.det trivial (Yields.pure rfl) ?_
          refine OL.det trivial (Yields.ixN1 rfl rfl rfl (by omega)) ?_
          refine OL.det trivial (Yields.ld rfl (bytes_at hx hlt)) ?_
          refine OL.det trivial (Yields.pure rfl) ?_
          refine OL.nil ?_
          refine PW.keep (T' := [(0, _), (2, _), (5, _), (6, _), (42, _)]) ⟨rfl, rfl, rfl, rfl, rfl, trivial⟩ ?_
          refine PW.cond rfl (fun c42 => ?_) (fun c42 => ?_)
          · try simp only [decide_eq_true_eq, decide_eq_false_iff_not, beq_iff_eq, bne_iff_ne, beq_eq_false_iff_ne, bne_eq_false_iff_eq, Bool.not_eq_true', Bool.not_eq_false', Bool.not_eq_true, ne_eq, Decidable.not_not] at c42
            refine PW.seq fun K5 hK5 => ?_
            refine PW.seqOps ?_
            refine OL.det trivial (Yields.pure rfl) ?_
            refine OL.det trivial (Yields.pure rfl) ?_
            refine OL.bool trivial (Yields.pure rfl) (fun g45 => ?_) (fun g45 => ?_)
            · try simp only [decide_eq_true_eq, decide_eq_false_iff_not, beq_iff_eq, bne_iff_ne, beq_eq_false_iff_ne, bne_eq_false_iff_eq, Bool.not_eq_true', Bool.not_eq_false', Bool.not_eq_true, ne_eq, Decidable.not_not] at g45
              refine OL.det rfl (Yields.pure rfl) ?_
              refine OL.det rfl (Yields.pure rfl) ?_
              refine OL.det trivial (Yields.pure rfl) ?_
              refine OL.nil ?_
              refine PW.keep (T' := [(2, _), (5, _), (48, _)]) ⟨rfl, rfl, rfl, trivial⟩ ?_
              refine PW.cond rfl (fun c48 => ?_) (fun c48 => ?_)
              · try simp only [decide_eq_true_eq, decide_eq_false_iff_not, beq_iff_eq, bne_iff_ne, beq_eq_false_iff_ne, bne_eq_false_iff_eq, Bool.not_eq_true', Bool.not_eq_false', Bool.not_eq_true, ne_eq, Decidable.not_not] at c48
                refine PW.exit ?_
                refine hK1 _ _ ?_
                refine PW.keep (T' := []) trivial ?_
                refine PW.seqOps ?_
                refine OL.det trivial (Yields.pure rfl) ?_
                refine OL.det trivial (Yields.pure rfl) ?_
                refine OL.det trivial (Yields.pure rfl) ?_
                refine OL.nil ?_
                refine PW.keep (T' := [(2, _), (3, _), (4, _)]) ⟨rfl, rfl, rfl, trivial⟩ ?_
                refine PW.ret ?_
                change (Exit.ret = Exit.normal ∨ Exit.ret = Exit.ret) ∧ ∃ v, resV _ _ = some v ∧ _
                refine ⟨.inr rfl, _, rfl, ?_, rfl⟩
                rw [← hcur]
                first
                  | (rw [numR_stop (by simp; omega)]; rfl)
                  | (rw [hcons, numR_bad (by omega)]; rfl)
                  | (rw [hcons, numR_nil (by omega) (by omega) (by omega)]; rfl)
              · try simp only [decide_eq_true_eq, decide_eq_false_iff_not, beq_iff_eq, bne_iff_ne, beq_eq_false_iff_ne, bne_eq_false_iff_eq, Bool.not_eq_true', Bool.not_eq_false', Bool.not_eq_true, ne_eq, Decidable.not_not] at c48
                refine PW.skip ?_
                refine hK5 _ _ ?_
                refine PW.keep (T' := [(2, _), (5, _)]) ⟨rfl, rfl, trivial⟩ ?_
                refine PW.seqOps ?_
                refine OL.det trivial (Yields.pure rfl) ?_
                refine OL.det trivial (Yields.pure rfl) ?_
                refine OL.det trivial (Yields.add64 rfl rfl (by omega) (by omega)) ?_
                refine OL.det trivial (Yields.pure rfl) ?_
                refine OL.det trivial (Yields.pure rfl) ?_
                refine OL.det trivial (Yields.pure rfl) ?_
                refine OL.nil ?_
                refine PW.keep (T' := [(2, _), (3, _), (4, _)]) ⟨rfl, rfl, rfl, trivial⟩ ?_
                refine PW.ret ?_
                change (Exit.ret = Exit.normal ∨ Exit.ret = Exit.ret) ∧ ∃ v, resV _ _ = some v ∧ _
                refine ⟨.inr rfl, _, rfl, ?_, rfl⟩
                rw [← hcur, hcons, numR_end (by omega) (by omega) (by omega)]
                rfl
            · try simp only [decide_eq_true_eq, decide_eq_false_iff_not, beq_iff_eq, bne_iff_ne, beq_eq_false_iff_ne, bne_eq_false_iff_eq, Bool.not_eq_true', Bool.not_eq_false', Bool.not_eq_true, ne_eq, Decidable.not_not] at g45
              refine OL.off rfl rfl ?_
              refine OL.off rfl rfl ?_
              refine OL.det trivial (Yields.pure rfl) ?_
              refine OL.nil ?_
              refine PW.keep (T' := [(2, _), (5, _), (48, _)]) ⟨rfl, rfl, rfl, trivial⟩ ?_
              refine PW.ite (b := false) rfl ?_
              rw [if_neg Bool.false_ne_true]
              refine PW.skip ?_
              refine hK5 _ _ ?_
              refine PW.keep (T' := [(2, _), (5, _)]) ⟨rfl, rfl, trivial⟩ ?_
              refine PW.seqOps ?_
              refine OL.det trivial (Yields.pure rfl) ?_
              refine OL.det trivial (Yields.pure rfl) ?_
              refine OL.det trivial (Yields.add64 rfl rfl (by omega) (by omega)) ?_
              refine OL.det trivial (Yields.pure rfl) ?_
              refine OL.det trivial (Yields.pure rfl) ?_
              refine OL.det trivial (Yields.pure rfl) ?_
              refine OL.nil ?_
              refine PW.keep (T' := [(2, _), (3, _), (4, _)]) ⟨rfl, rfl, rfl, trivial⟩ ?_
              refine PW.ret ?_
              change (Exit.ret = Exit.normal ∨ Exit.ret = Exit.ret) ∧ ∃ v, resV _ _ = some v ∧ _
              refine ⟨.inr rfl, _, rfl, ?_, rfl⟩
              rw [← hcur, hcons, numR_end (by omega) (by omega) (by omega)]
              rfl
          · try simp only [decide_eq_true_eq, decide_eq_false_iff_not, beq_iff_eq, bne_iff_ne, beq_eq_false_iff_ne, bne_eq_false_iff_eq, Bool.not_eq_true', Bool.not_eq_false', Bool.not_eq_true, ne_eq, Decidable.not_not] at c42
            refine PW.skip ?_
            refine hK3 _ _ ?_
            refine PW.keep (T' := [(0, _), (2, _), (5, _)]) ⟨rfl, rfl, rfl, trivial⟩ ?_
            refine PW.ops ?_
            refine OL.det trivial (Yields.pure rfl) ?_
            refine OL.det trivial (Yields.add64 rfl rfl (by omega) (by omega)) ?_
            refine OL.det trivial (Yields.pure rfl) ?_
            refine OL.nil ?_
            repeat rw [inBlk_n]
            rw [thenK_n]
            refine LoopEnd.mk (T'' := [(0, _), (2, _), (5, _)]) ⟨rfl, rfl, rfl, trivial⟩ ?_
            refine ⟨l.length - (k + 1), by omega, k + 1, n + l[k].toNat % 128 * 2 ^ (7 * k), ⟨by omega, by omega, rfl, hdl.2.2, ?_⟩, rfl, rfl⟩
            rw [← hcur, hcons, numR_on (by omega) (by omega)]
      · try simp only [decide_eq_true_eq, decide_eq_false_iff_not, beq_iff_eq, bne_iff_ne, beq_eq_false_iff_ne, bne_eq_false_iff_eq, Bool.not_eq_true', Bool.not_eq_false', Bool.not_eq_true, ne_eq, Decidable.not_not] at g25
        refine OL.off rfl rfl ?_
        refine OL.off rfl rfl ?_
        refine OL.off rfl rfl ?_
        refine OL.off rfl rfl ?_
        refine OL.off rfl rfl ?_
        refine OL.det trivial (Yields.pure rfl) ?_
        refine OL.nil ?_
        refine PW.keep (T' := [(0, _), (2, _), (5, _), (6, _), (31, _)]) ⟨rfl, rfl, rfl, rfl, rfl, trivial⟩ ?_
        refine PW.ite (b := false) rfl ?_
        rw [if_neg Bool.false_ne_true]
        refine PW.skip ?_
        refine hK4 _ _ ?_
        refine PW.keep (T' := [(0, _), (2, _), (5, _), (6, _)]) ⟨rfl, rfl, rfl, rfl, trivial⟩ ?_
        refine PW.seqOps ?_
        refine OL.det trivial (Yields.pure rfl) ?_
        refine OL.det trivial (Yields.pure rfl) ?_
        refine OL.det trivial (Yields.pure rfl) ?_
        refine OL.det trivial (Yields.mul64 rfl rfl (by omega) (by omega)) ?_
        refine OL.det trivial (Yields.shl rfl rfl (by omega)) ?_
        have hdl := digit_lt (e := l[k].toNat % 128) hn (Nat.mod_lt _ (by omega)) (by omega) (by omega)
        rw [show IntKind.u64.wrap (((l[k].toNat % 128 : Nat) : Int) * 2 ^ (min (7 * (k : Int)).toNat IntKind.u64.bits)) = ((l[k].toNat % 128 * 2 ^ (7 * k) : Nat) : Int) from shl_u64 hdl.2.1 (by omega)]
        refine OL.det trivial (Yields.pure rfl) ?_
        rw [show IntKind.u64.wrap ((BitVec.ofInt IntKind.u64.bits (n : Int) ||| BitVec.ofInt IntKind.u64.bits ((l[k].toNat % 128 * 2 ^ (7 * k) : Nat) : Int)).toNat : Int) = ((n + l[k].toNat % 128 * 2 ^ (7 * k) : Nat) : Int) from or_u64 hn hdl.1]
        refine OL.det trivial (Yields.pure rfl) ?_
        refine OL.nil ?_
        refine PW.keep (T' := [(0, _), (2, _), (5, _), (6, _)]) ⟨rfl, rfl, rfl, rfl, trivial⟩ ?_
        refine PW.seqOps ?_
        refine OL.det trivial (Yields.pure rfl) ?_
        refine OL.det trivial (Yields.pure rfl) ?_
        refine OL.det trivial (Yields.ixN1 rfl rfl rfl (by omega)) ?_
        refine OL.det trivial (Yields.ld rfl (bytes_at hx hlt)) ?_
        refine OL.det trivial (Yields.pure rfl) ?_
        refine OL.nil ?_
        refine PW.keep (T' := [(0, _), (2, _), (5, _), (6, _), (42, _)]) ⟨rfl, rfl, rfl, rfl, rfl, trivial⟩ ?_
        refine PW.cond rfl (fun c42 => ?_) (fun c42 => ?_)
        · try simp only [decide_eq_true_eq, decide_eq_false_iff_not, beq_iff_eq, bne_iff_ne, beq_eq_false_iff_ne, bne_eq_false_iff_eq, Bool.not_eq_true', Bool.not_eq_false', Bool.not_eq_true, ne_eq, Decidable.not_not] at c42
          refine PW.seq fun K6 hK6 => ?_
          refine PW.seqOps ?_
          refine OL.det trivial (Yields.pure rfl) ?_
          refine OL.det trivial (Yields.pure rfl) ?_
          refine OL.bool trivial (Yields.pure rfl) (fun g45 => ?_) (fun g45 => ?_)
          · try simp only [decide_eq_true_eq, decide_eq_false_iff_not, beq_iff_eq, bne_iff_ne, beq_eq_false_iff_ne, bne_eq_false_iff_eq, Bool.not_eq_true', Bool.not_eq_false', Bool.not_eq_true, ne_eq, Decidable.not_not] at g45
            refine OL.det rfl (Yields.pure rfl) ?_
            refine OL.det rfl (Yields.pure rfl) ?_
            refine OL.det trivial (Yields.pure rfl) ?_
            refine OL.nil ?_
            refine PW.keep (T' := [(2, _), (5, _), (48, _)]) ⟨rfl, rfl, rfl, trivial⟩ ?_
            refine PW.cond rfl (fun c48 => ?_) (fun c48 => ?_)
            · try simp only [decide_eq_true_eq, decide_eq_false_iff_not, beq_iff_eq, bne_iff_ne, beq_eq_false_iff_ne, bne_eq_false_iff_eq, Bool.not_eq_true', Bool.not_eq_false', Bool.not_eq_true, ne_eq, Decidable.not_not] at c48
              refine PW.exit ?_
              refine hK1 _ _ ?_
              refine PW.keep (T' := []) trivial ?_
              refine PW.seqOps ?_
              refine OL.det trivial (Yields.pure rfl) ?_
              refine OL.det trivial (Yields.pure rfl) ?_
              refine OL.det trivial (Yields.pure rfl) ?_
              refine OL.nil ?_
              refine PW.keep (T' := [(2, _), (3, _), (4, _)]) ⟨rfl, rfl, rfl, trivial⟩ ?_
              refine PW.ret ?_
              change (Exit.ret = Exit.normal ∨ Exit.ret = Exit.ret) ∧ ∃ v, resV _ _ = some v ∧ _
              refine ⟨.inr rfl, _, rfl, ?_, rfl⟩
              rw [← hcur]
              first
                | (rw [numR_stop (by simp; omega)]; rfl)
                | (rw [hcons, numR_bad (by omega)]; rfl)
                | (rw [hcons, numR_nil (by omega) (by omega) (by omega)]; rfl)
            · try simp only [decide_eq_true_eq, decide_eq_false_iff_not, beq_iff_eq, bne_iff_ne, beq_eq_false_iff_ne, bne_eq_false_iff_eq, Bool.not_eq_true', Bool.not_eq_false', Bool.not_eq_true, ne_eq, Decidable.not_not] at c48
              refine PW.skip ?_
              refine hK6 _ _ ?_
              refine PW.keep (T' := [(2, _), (5, _)]) ⟨rfl, rfl, trivial⟩ ?_
              refine PW.seqOps ?_
              refine OL.det trivial (Yields.pure rfl) ?_
              refine OL.det trivial (Yields.pure rfl) ?_
              refine OL.det trivial (Yields.add64 rfl rfl (by omega) (by omega)) ?_
              refine OL.det trivial (Yields.pure rfl) ?_
              refine OL.det trivial (Yields.pure rfl) ?_
              refine OL.det trivial (Yields.pure rfl) ?_
              refine OL.nil ?_
              refine PW.keep (T' := [(2, _), (3, _), (4, _)]) ⟨rfl, rfl, rfl, trivial⟩ ?_
              refine PW.ret ?_
              change (Exit.ret = Exit.normal ∨ Exit.ret = Exit.ret) ∧ ∃ v, resV _ _ = some v ∧ _
              refine ⟨.inr rfl, _, rfl, ?_, rfl⟩
              rw [← hcur, hcons, numR_end (by omega) (by omega) (by omega)]
              rfl
          · try simp only [decide_eq_true_eq, decide_eq_false_iff_not, beq_iff_eq, bne_iff_ne, beq_eq_false_iff_ne, bne_eq_false_iff_eq, Bool.not_eq_true', Bool.not_eq_false', Bool.not_eq_true, ne_eq, Decidable.not_not] at g45
            refine OL.off rfl rfl ?_
            refine OL.off rfl rfl ?_
            refine OL.det trivial (Yields.pure rfl) ?_
            refine OL.nil ?_
            refine PW.keep (T' := [(2, _), (5, _), (48, _)]) ⟨rfl, rfl, rfl, trivial⟩ ?_
            refine PW.ite (b := false) rfl ?_
            rw [if_neg Bool.false_ne_true]
            refine PW.skip ?_
            refine hK6 _ _ ?_
            refine PW.keep (T' := [(2, _), (5, _)]) ⟨rfl, rfl, trivial⟩ ?_
            refine PW.seqOps ?_
            refine OL.det trivial (Yields.pure rfl) ?_
            refine OL.det trivial (Yields.pure rfl) ?_
            refine OL.det trivial (Yields.add64 rfl rfl (by omega) (by omega)) ?_
            refine OL.det trivial (Yields.pure rfl) ?_
            refine OL.det trivial (Yields.pure rfl) ?_
            refine OL.det trivial (Yields.pure rfl) ?_
            refine OL.nil ?_
            refine PW.keep (T' := [(2, _), (3, _), (4, _)]) ⟨rfl, rfl, rfl, trivial⟩ ?_
            refine PW.ret ?_
            change (Exit.ret = Exit.normal ∨ Exit.ret = Exit.ret) ∧ ∃ v, resV _ _ = some v ∧ _
            refine ⟨.inr rfl, _, rfl, ?_, rfl⟩
            rw [← hcur, hcons, numR_end (by omega) (by omega) (by omega)]
            rfl
        · try simp only [decide_eq_true_eq, decide_eq_false_iff_not, beq_iff_eq, bne_iff_ne, beq_eq_false_iff_ne, bne_eq_false_iff_eq, Bool.not_eq_true', Bool.not_eq_false', Bool.not_eq_true, ne_eq, Decidable.not_not] at c42
          refine PW.skip ?_
          refine hK3 _ _ ?_
          refine PW.keep (T' := [(0, _), (2, _), (5, _)]) ⟨rfl, rfl, rfl, trivial⟩ ?_
          refine PW.ops ?_
          refine OL.det trivial (Yields.pure rfl) ?_
          refine OL.det trivial (Yields.add64 rfl rfl (by omega) (by omega)) ?_
          refine OL.det trivial (Yields.pure rfl) ?_
          refine OL.nil ?_
          repeat rw [inBlk_n]
          rw [thenK_n]
          refine LoopEnd.mk (T'' := [(0, _), (2, _), (5, _)]) ⟨rfl, rfl, rfl, trivial⟩ ?_
          refine ⟨l.length - (k + 1), by omega, k + 1, n + l[k].toNat % 128 * 2 ^ (7 * k), ⟨by omega, by omega, rfl, hdl.2.2, ?_⟩, rfl, rfl⟩
          rw [← hcur, hcons, numR_on (by omega) (by omega)]
    · try simp only [decide_eq_true_eq, decide_eq_false_iff_not, beq_iff_eq, bne_iff_ne, beq_eq_false_iff_ne, bne_eq_false_iff_eq, Bool.not_eq_true', Bool.not_eq_false', Bool.not_eq_true, ne_eq, Decidable.not_not] at c14
      refine PW.exit ?_
      refine hK1 _ _ ?_
      refine PW.keep (T' := []) trivial ?_
      refine PW.seqOps ?_
      refine OL.det trivial (Yields.pure rfl) ?_
      refine OL.det trivial (Yields.pure rfl) ?_
      refine OL.det trivial (Yields.pure rfl) ?_
      refine OL.nil ?_
      refine PW.keep (T' := [(2, _), (3, _), (4, _)]) ⟨rfl, rfl, rfl, trivial⟩ ?_
      refine PW.ret ?_
      change (Exit.ret = Exit.normal ∨ Exit.ret = Exit.ret) ∧ ∃ v, resV _ _ = some v ∧ _
      refine ⟨.inr rfl, _, rfl, ?_, rfl⟩
      rw [← hcur]
      first
        | (rw [numR_stop (by simp; omega)]; rfl)
        | (rw [hcons, numR_bad (by omega)]; rfl)
        | (rw [hcons, numR_nil (by omega) (by omega) (by omega)]; rfl)
  · try simp only [decide_eq_true_eq, decide_eq_false_iff_not, beq_iff_eq, bne_iff_ne, beq_eq_false_iff_ne, bne_eq_false_iff_eq, Bool.not_eq_true', Bool.not_eq_false', Bool.not_eq_true, ne_eq, Decidable.not_not] at g11
    refine OL.off rfl rfl ?_
    refine OL.off rfl rfl ?_
    refine OL.det trivial (Yields.pure rfl) ?_
    refine OL.nil ?_
    refine PW.keep (T' := [(0, _), (2, _), (5, _), (14, _)]) ⟨rfl, rfl, rfl, rfl, trivial⟩ ?_
    refine PW.ite (b := false) rfl ?_
    rw [if_neg Bool.false_ne_true]
    refine PW.exit ?_
    refine hK1 _ _ ?_
    refine PW.keep (T' := []) trivial ?_
    refine PW.seqOps ?_
    refine OL.det trivial (Yields.pure rfl) ?_
    refine OL.det trivial (Yields.pure rfl) ?_
    refine OL.det trivial (Yields.pure rfl) ?_
    refine OL.nil ?_
    refine PW.keep (T' := [(2, _), (3, _), (4, _)]) ⟨rfl, rfl, rfl, trivial⟩ ?_
    refine PW.ret ?_
    change (Exit.ret = Exit.normal ∨ Exit.ret = Exit.ret) ∧ ∃ v, resV _ _ = some v ∧ _
    refine ⟨.inr rfl, _, rfl, ?_, rfl⟩
    rw [← hcur]
    first
      | (rw [numR_stop (by simp; omega)]; rfl)
      | (rw [hcons, numR_bad (by omega)]; rfl)
      | (rw [hcons, numR_nil (by omega) (by omega) (by omega)]; rfl)

end Go.Proofs
