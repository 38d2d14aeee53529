/- Walks and plain facts for the laws of this seat: what each function answers, for every input. -/
import Derived.Test.YtpeikdbejafgbaaCoW1
set_option linter.unusedVariables false
set_option linter.unusedSimpArgs false
namespace Go.Proofs
open Go.SL Go.RowKit
set_option maxHeartbeats 1000000

theorem SlV.rd0 {w0 : World} {E sz m : Nat} {v : Value} {xs : List Value} {seg : Seg} (hv : SlV E sz v m xs seg) : ∃ A cap, v = .slice A m cap ∧ (A = none → cap = 0) ∧ m ≤ cap ∧ ∀ S, Rd w0 (seg :: S) A xs := by
  have h0 := hv
  obtain ⟨hl, ⟨rfl, rfl, rfl⟩ | ⟨r, cap, rfl, rfl, h1, h2⟩⟩ := hv
  · exact ⟨none, 0, rfl, fun _ => rfl, by omega, fun S => by
      have : xs = [] := List.eq_nil_of_length_eq_zero (by simpa using hl)
      subst this; exact Rd.nil⟩
  · exact ⟨_, cap, rfl, (fun e => nomatch e), h1, fun S => Rd.own (E := E) (tot := cap * sz) (by simp)⟩
theorem hi8 (n : Nat) : IntKind.u8.wrap (IntKind.u64.wrap (128 + ((n % 128 : Nat) : Int))) = ((UInt8.ofNat (n % 128 + 128)).toNat : Int) := by
  have h : n % 128 < 128 := Nat.mod_lt _ (by omega)
  have e : (128 + ((n % 128 : Nat) : Int)) = ((n % 128 + 128 : Nat) : Int) := by omega
  rw [e, u64_wrap (by omega), low8]
theorem rnum_fc {w0 : World} (n : Nat) : ∀ {S : SS}, n < 18446744073709551616 → FC Try.prog w0 26 [.int .u64 (n : Int)] S (fun v' S' => ∃ seg', S' = seg' :: S ∧ SlV 5 1 v' (numB n).length (bytesC (numB n)) seg') := by
  induction n using Nat.strongRecOn with
  | _ n ih =>
  intro S hn
  refine FC.ofD Try.known26 (by simp) ?_
  unfold Try.pc26
  simp only [argT]
  refine PW.seqOps ?_
  refine OL.det trivial (Yields.pure rfl) ?_
  refine OL.nil ?_
  refine PW.keep (T' := [(0, _)]) ⟨rfl, trivial⟩ ?_
  refine PW.seq fun K1 hK1 => ?_
  refine PW.seqOps ?_
  refine OL.det trivial (Yields.pure rfl) ?_
  refine OL.det trivial (Yields.pure rfl) ?_
  refine OL.nil ?_
  refine PW.keep (T' := [(0, _), (5, _)]) ⟨rfl, rfl, trivial⟩ ?_
  refine PW.cond rfl (fun c5 => ?_) (fun c5 => ?_)
  · try simp only [decide_eq_true_eq, decide_eq_false_iff_not, beq_iff_eq, bne_iff_ne, beq_eq_false_iff_ne, bne_eq_false_iff_eq, Bool.not_eq_true', Bool.not_eq_false', Bool.not_eq_true, ne_eq, Decidable.not_not] at c5
    refine PW.seqOps ?_
    refine OL.det trivial (Yields.pure rfl) ?_
    refine OL.det trivial (Yields.pure rfl) ?_
    refine OL.cons trivial (OW.bsl rfl) ?_
    rintro _ _ ⟨r8, rfl, rfl⟩
    refine OL.det trivial (Yields.pure rfl) ?_
    refine OL.nil ?_
    refine PW.keep (T' := [(2, _)]) ⟨rfl, trivial⟩ ?_
    refine PW.ret ?_
    change (Exit.ret = Exit.normal ∨ Exit.ret = Exit.ret) ∧ ∃ v, resV _ _ = some v ∧ _
    have hk : numB n = [UInt8.ofNat n] := numB_small (by omega)
    refine ⟨.inr rfl, _, rfl, _, Sub.refl _, _, rfl, ?_⟩
    rw [hk]
    have h := SlV.mk' (E := 5) (sz := 1) (m := 1) (cap := 1) (r := r8) (xs := [.int .u8 (IntKind.u8.wrap (n : Int))]) rfl (by omega) (by decide)
    rw [low8] at h
    exact h
  · try simp only [decide_eq_true_eq, decide_eq_false_iff_not, beq_iff_eq, bne_iff_ne, beq_eq_false_iff_ne, bne_eq_false_iff_eq, Bool.not_eq_true', Bool.not_eq_false', Bool.not_eq_true, ne_eq, Decidable.not_not] at c5
    refine PW.skip ?_
    refine hK1 _ _ ?_
    refine PW.keep (T' := [(0, _)]) ⟨rfl, trivial⟩ ?_
    refine PW.seqOps ?_
    refine OL.det trivial (Yields.pure rfl) ?_
    refine OL.nil ?_
    refine PW.keep (T' := [(0, _), (3, _)]) ⟨rfl, rfl, trivial⟩ ?_
    refine PW.seqOps ?_
    refine OL.nilseg ?_
    refine OL.det trivial (Yields.pure rfl) ?_
    refine OL.det trivial (Yields.pure rfl) ?_
    refine OL.det trivial (Yields.remU (b := 128) rfl rfl (by omega)) ?_
    refine OL.det trivial (Yields.pure rfl) ?_
    refine OL.det trivial (Yields.pure rfl) ?_
    apply OL.app1 (k := 0)
    · rfl
    · rfl
    · rfl
    · rfl
    · rfl
    · rfl
    · exact SlV.nil 5 1
    · rfl
    · omega
    · unfold maxLen; omega
    intro v15 seg15 hsl15
    refine OL.det trivial (Yields.pure rfl) ?_
    refine OL.nil ?_
    refine PW.keep (T' := [(0, _), (3, _)]) ⟨rfl, rfl, trivial⟩ ?_
    refine PW.seqOps ?_
    refine OL.det trivial (Yields.pure rfl) ?_
    refine OL.det trivial (Yields.pure rfl) ?_
    refine OL.det trivial (Yields.quoU (b := 128) rfl rfl (by omega) hn) ?_
    refine OL.call trivial rfl (ih (n / 128) (by omega) (by omega)) ?_
    rintro v19 _ ⟨seg19, rfl, hsl19⟩
    have hnl := numB_len (n / 128)
    obtain ⟨A19, cap19, rfl, hc19, _, hrd19⟩ := SlV.rd0 (w0 := w0) hsl19
    refine OL.cons trivial (OW.appB (k := 1) rfl rfl hsl15 rfl rfl (hrd19 _) hc19 (by omega)) ?_
    rintro v20 _ ⟨seg20, rfl, hsl20⟩
    refine OL.det trivial (Yields.pure rfl) ?_
    refine OL.nil ?_
    refine PW.keep (T' := [(2, _)]) ⟨rfl, trivial⟩ ?_
    refine PW.ret ?_
    change (Exit.ret = Exit.normal ∨ Exit.ret = Exit.ret) ∧ ∃ v, resV _ _ = some v ∧ _
    have hk := numB_big (n := n) (by omega) hn
    refine ⟨.inr rfl, _, rfl, seg20 :: S, Sub.drop (Sub.refl _), seg20, rfl, ?_⟩
    rw [hk]
    have e := hi8 n
    have hs2 : SlV 5 1 v20 (0 + 1 + (numB (n / 128)).length) ([] ++ [.int .u8 (IntKind.u8.wrap (IntKind.u64.wrap (128 + ((n % 128 : Nat) : Int))))] ++ bytesC (numB (n / 128))) seg20 := hsl20
    rw [e] at hs2
    have e2 : 0 + 1 + (numB (n / 128)).length = (UInt8.ofNat (n % 128 + 128) :: numB (n / 128)).length := by simp; omega
    rw [e2] at hs2
    exact hs2

end Go.Proofs
