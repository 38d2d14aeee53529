/- Walks and plain facts for the laws of this seat: what each function answers, for every input. -/
import Derived.Test.YtpeikdbejafgbaaSl11
import Derived.Test.YtpeikdbejafgbaaCoPc
set_option linter.unusedVariables false
set_option linter.unusedSimpArgs false
namespace Go.Proofs
open Go.SL Go.RowKit
set_option maxHeartbeats 1000000

/-- a number's bytes: seven bits each, the low ones first -/
def numF : Nat → Nat → List UInt8
  | 0, _ => []
  | f + 1, n => if n < 128 then [UInt8.ofNat n] else UInt8.ofNat (n % 128 + 128) :: numF f (n / 128)
def numB (n : Nat) : List UInt8 := numF 10 n
theorem numF_fuel (f g n : Nat) (hf : n < 128 ^ f) (hg : n < 128 ^ g) (h1 : 0 < f) (h2 : 0 < g) : numF f n = numF g n := by
  induction f generalizing g n with
  | zero => omega
  | succ f ih =>
    cases g with
    | zero => omega
    | succ g =>
      simp only [numF]
      split
      · rfl
      · rename_i h
        have hf' : n / 128 < 128 ^ f := Nat.div_lt_of_lt_mul (by rw [Nat.pow_succ, Nat.mul_comm] at hf; exact hf)
        have hg' : n / 128 < 128 ^ g := Nat.div_lt_of_lt_mul (by rw [Nat.pow_succ, Nat.mul_comm] at hg; exact hg)
        have hpos : 0 < n / 128 := Nat.div_pos (by omega) (by omega)
        have f1 : 0 < f := Nat.pos_of_ne_zero fun e => by subst e; simp at hf'; omega
        have g1 : 0 < g := Nat.pos_of_ne_zero fun e => by subst e; simp at hg'; omega
        rw [ih g (n / 128) hf' hg' f1 g1]
theorem numB_small {n : Nat} (h : n < 128) : numB n = [UInt8.ofNat n] := by simp [numB, numF, h]
theorem numB_big {n : Nat} (h : ¬ n < 128) (hn : n < 18446744073709551616) : numB n = UInt8.ofNat (n % 128 + 128) :: numB (n / 128) := by
  have e : numB n = UInt8.ofNat (n % 128 + 128) :: numF 9 (n / 128) := by unfold numB; rw [numF]; simp [h]
  rw [e, numB, numF_fuel 9 10 (n / 128) (Nat.div_lt_of_lt_mul (Nat.lt_of_lt_of_le hn (by decide))) (Nat.lt_of_le_of_lt (Nat.div_le_self _ _) (Nat.lt_of_lt_of_le hn (by decide))) (by omega) (by omega)]
theorem numF_len (f n : Nat) : (numF f n).length ≤ f := by
  induction f generalizing n with
  | zero => simp [numF]
  | succ f ih => simp only [numF]; split <;> simp; exact ih _
theorem numB_len (n : Nat) : (numB n).length ≤ 10 := numF_len 10 n
theorem or128 (n : Nat) : IntKind.u8.wrap ((BitVec.ofInt 8 (IntKind.u8.wrap (n : Int)) ||| BitVec.ofInt 8 128).toNat : Int) = ((UInt8.ofNat (n % 128 + 128)).toNat : Int) := by
  rw [cvt_u8 n]
  have key : ∀ m : Nat, m < 256 → IntKind.u8.wrap ((BitVec.ofInt 8 (m : Int) ||| BitVec.ofInt 8 128).toNat : Int) = ((UInt8.ofNat (m % 128 + 128)).toNat : Int) := by decide +kernel
  rw [key (n % 256) (Nat.mod_lt _ (by omega)), Nat.mod_mod_of_dvd n (by decide : 128 ∣ 256)]
theorem low8 (n : Nat) : IntKind.u8.wrap (n : Int) = ((UInt8.ofNat n).toNat : Int) := by
  rw [cvt_u8]; simp
theorem num_fc {w0 : World} {S : SS} {v : Value} {seg : Seg} {xs : List UInt8} {n : Nat} (hv : SlV 5 1 v xs.length (bytesC xs) seg) (hn : n < 18446744073709551616) (hb : xs.length ≤ 1000000000000) :
    FC Try.prog w0 9 [v, .int .u64 (n : Int)] (seg :: S) (fun v' S' => ∃ seg', S' = seg' :: S ∧ SlV 5 1 v' (xs ++ numB n).length (bytesC (xs ++ numB n)) seg') := by
  refine FC.of Try.known9 (by simp) ?_
  unfold Try.pc9
  simp only [argT]
  refine PW.seqOps ?_
  refine OL.det trivial (Yields.pure rfl) ?_
  refine OL.nil ?_
  refine PW.keep (T' := [(0, _), (1, _)]) ⟨rfl, rfl, trivial⟩ ?_
  refine PW.seq fun K1 hK1 => ?_
  refine PW.block ?_
  refine PW.keep (T' := [(0, _), (1, _)]) ⟨rfl, rfl, trivial⟩ ?_
  refine PW.loopK (I := fun m T S' => ∃ (k : Nat) (ys : List UInt8) (u : Value) (sg : Seg), (m = k ∧ k ≤ n ∧ ys ++ numB k = xs ++ numB n ∧ ys.length ≤ xs.length + 10 ∧ SlV 5 1 u ys.length (bytesC ys) sg) ∧ T = ([(0, u), (1, .int .u64 (k : Int))] : TT) ∧ S' = sg :: S) (m := n) ⟨n, xs, _, seg, ⟨rfl, by omega, rfl, by omega, hv⟩, rfl, rfl⟩ ?_
  rintro m _ _ ⟨k, ys, u, sg, ⟨hm, hkn, hcur, hyl, hsl⟩, rfl, rfl⟩
  have hlen := congrArg List.length hcur
  simp only [List.length_append] at hlen
  have hnl := numB_len n
  have hnl2 := numB_len k
  refine PW.seq fun K2 hK2 => ?_
  refine PW.seqOps ?_
  refine OL.det trivial (Yields.pure rfl) ?_
  refine OL.det trivial (Yields.pure rfl) ?_
  refine OL.nil ?_
  refine PW.keep (T' := [(0, _), (1, _), (6, _)]) ⟨rfl, rfl, rfl, trivial⟩ ?_
  refine PW.cond rfl (fun c6 => ?_) (fun c6 => ?_)
  · try simp only [decide_eq_true_eq, decide_eq_false_iff_not, beq_iff_eq, bne_iff_ne, beq_eq_false_iff_ne, bne_eq_false_iff_eq, Bool.not_eq_true', Bool.not_eq_false', Bool.not_eq_true, ne_eq, Decidable.not_not] at c6
    refine PW.skip ?_
    refine hK2 _ _ ?_
    refine PW.keep (T' := [(0, _), (1, _)]) ⟨rfl, rfl, trivial⟩ ?_
    refine PW.block ?_
    refine PW.seqOps ?_
    refine OL.det trivial (Yields.pure rfl) ?_
    refine OL.det trivial (Yields.pure rfl) ?_
    refine OL.det trivial (Yields.pure rfl) ?_
    refine OL.det trivial (Yields.pure rfl) ?_
    apply OL.app1 (k := 0)
    · rfl
    · rfl
    · rfl
    · rfl
    · rfl
    · rfl
    · exact hsl
    · rfl
    · omega
    · unfold maxLen; omega
    intro v12 seg12 hsl12
    refine OL.det trivial (Yields.pure rfl) ?_
    refine OL.nil ?_
    refine PW.keep (T' := [(0, _), (1, _)]) ⟨rfl, rfl, trivial⟩ ?_
    refine PW.ops ?_
    refine OL.det trivial (Yields.pure rfl) ?_
    refine OL.det trivial (Yields.shrU (b := 7) rfl rfl (by omega)) ?_
    refine OL.det trivial (Yields.pure rfl) ?_
    refine OL.nil ?_
    repeat rw [inBlk_n]
    rw [thenK_n]
    refine LoopEnd.mk (T'' := [(0, _), (1, _)]) ⟨rfl, rfl, trivial⟩ ?_
    have hbig := numB_big (n := k) (by omega) (by omega)
    rw [hbig] at hcur hlen
    simp only [List.length_cons] at hlen
    refine ⟨k / 128, by omega, k / 128, ys ++ [UInt8.ofNat (k % 128 + 128)], v12, seg12, ⟨rfl, by omega, by rw [List.append_assoc]; exact hcur, by simp; omega, ?_⟩, rfl, rfl⟩
    rw [List.length_append, bytesC_append]
    have e := or128 k
    have hs2 : SlV 5 1 v12 (ys.length + 1) (bytesC ys ++ [.int .u8 (IntKind.u8.wrap ((BitVec.ofInt 8 (IntKind.u8.wrap (k : Int)) ||| BitVec.ofInt 8 128).toNat : Int))]) seg12 := hsl12
    rw [e] at hs2
    exact hs2
  · try simp only [decide_eq_true_eq, decide_eq_false_iff_not, beq_iff_eq, bne_iff_ne, beq_eq_false_iff_ne, bne_eq_false_iff_eq, Bool.not_eq_true', Bool.not_eq_false', Bool.not_eq_true, ne_eq, Decidable.not_not] at c6
    refine PW.exit ?_
    refine hK1 _ _ ?_
    refine PW.keep (T' := [(0, _), (1, _)]) ⟨rfl, rfl, trivial⟩ ?_
    refine PW.seqOps ?_
    refine OL.det trivial (Yields.pure rfl) ?_
    refine OL.det trivial (Yields.pure rfl) ?_
    refine OL.det trivial (Yields.pure rfl) ?_
    apply OL.app1 (k := 0)
    · rfl
    · rfl
    · rfl
    · rfl
    · rfl
    · rfl
    · exact hsl
    · rfl
    · omega
    · unfold maxLen; omega
    intro v19 seg19 hsl19
    refine OL.det trivial (Yields.pure rfl) ?_
    refine OL.nil ?_
    refine PW.keep (T' := [(4, _)]) ⟨rfl, trivial⟩ ?_
    refine PW.ret ?_
    change (Exit.ret = Exit.normal ∨ Exit.ret = Exit.ret) ∧ ∃ v, resV _ _ = some v ∧ _
    have hk : numB k = [UInt8.ofNat k] := numB_small (by omega)
    refine ⟨.inr rfl, _, rfl, seg19, rfl, ?_⟩
    rw [← hcur, hk, List.length_append, bytesC_append]
    simpa [bytesC, low8, Value.cells] using hsl19

end Go.Proofs
