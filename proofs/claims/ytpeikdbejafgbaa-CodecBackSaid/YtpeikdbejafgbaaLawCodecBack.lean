/- The law CodecBack returns true whatever its arguments are, and they read behind the call as they read before it. No condition. -/
import Derived.Test.YtpeikdbejafgbaaRows
import Derived.Test.YtpeikdbejafgbaaSl18
import Derived.Test.YtpeikdbejafgbaaCoW20
set_option linter.unusedVariables false
set_option linter.unusedSimpArgs false
namespace Go.Proofs.Ytpeikdbejafgbaa.codecBack
open Go.ChangeShapes Go.WideShapes Go.ChangeAt Go.RowKit Go.SL Go.Proofs
open Go.ChangeMaps (open_string shut_string)
theorem own : ownKnob Try.prog.godebug = none := by kernel_rfl
theorem laidOut : laidOutB Try.prog = true := by kernel_rfl
theorem fits_int {k : IntKind} {v : Value} (h : Fits (.int k) v) : ∃ n, v = .int k n ∧ (Lit.int k n).wf = true := h
theorem bytes_of : ∀ (n : Nat) (cs rest : List Value) (sh : List CK), FitsAll (List.replicate n (.int .u8) ++ sh) cs → ∃ (h : List UInt8) (r : List Value), h.length = n ∧ cs = bytesC h ++ r ∧ FitsAll sh r
  | 0, cs, rest, sh, h => ⟨[], cs, rfl, by simp [bytesC], by simpa using h⟩
  | n + 1, cs, rest, sh, h => by
    match cs, h with
    | v :: vs, h =>
      obtain ⟨z, rfl, hw⟩ := h.1
      obtain ⟨h', r, h1, h2, h3⟩ := bytes_of n vs rest sh h.2
      have hz : 0 ≤ z ∧ z ≤ 255 := by
        simp only [Lit.wf, Bool.and_eq_true, decide_eq_true_eq] at hw
        exact hw
      refine ⟨UInt8.ofNat z.toNat :: h', r, by simp [h1], ?_, h3⟩
      rw [h2]
      have : ((UInt8.ofNat z.toNat).toNat : Int) = z := by simp; omega
      rw [show bytesC (UInt8.ofNat z.toNat :: h') = .int .u8 z :: bytesC h' from by unfold bytesC; rw [List.map_cons, this]]
      rfl
theorem val_read {H : Type} {enc : TypeId × Value → H} {W : World} {n : Nat} {cs : List Value} {y : DataW H × List MemPlace} (h : DataW.trod enc Try.prog W 0 (fun _ => true) true n 28 cs = some y) (hl : cs.length = 39) :
    ∃ x : Val, cs = valC x ∧ x.h.length = 32 ∧ x.nu < 18446744073709551616 ∧ x.c < 18446744073709551616 ∧ x.t.size ≤ maxLen := by
  obtain ⟨R, hR⟩ : ∃ R : List CK, R = List.replicate 32 (.int .u8) ++ [.int .i64, .int .u64, .int .i64, .int .i64] := ⟨_, rfl⟩
  have hRl : R.length = 36 := by rw [hR]; rfl
  have hf : FitsAll (.int .u8 :: .int .u64 :: .str :: R) cs := deep_fits 6 n 28 (.int .u8 :: .int .u64 :: .str :: R) cs y (by rw [hR]; kernel_rfl) h (by simp [hRl, hl])
  match cs, hf with
  | v0 :: v1 :: v2 :: vs, hf =>
    obtain ⟨k, rfl, _⟩ := hf.1
    obtain ⟨nu, rfl, hnu⟩ := hf.2.1
    obtain ⟨t, rfl, ht⟩ := hf.2.2.1
    have hr := hf.2.2.2
    rw [hR] at hr
    obtain ⟨hh, r, h1, rfl, h3⟩ := bytes_of 32 vs [] _ hr
    have hl4 : 4 = r.length := h3.len
    obtain ⟨u0, u1, u2, u3, rfl⟩ : ∃ u0 u1 u2 u3, r = [u0, u1, u2, u3] := by
      match r, hl4 with
      | [u0, u1, u2, u3], _ => exact ⟨u0, u1, u2, u3, rfl⟩
    · clear hr hR hRl h hl hl4
      obtain ⟨lv, rfl, _⟩ := h3.1
      obtain ⟨c, rfl, hc⟩ := h3.2.1
      obtain ⟨z, rfl, _⟩ := h3.2.2.1
      obtain ⟨mo, rfl, _⟩ := h3.2.2.2.1
      simp only [Lit.wf, Bool.and_eq_true, decide_eq_true_eq] at hnu hc
      have hnu' : 0 ≤ nu ∧ nu ≤ 18446744073709551615 := hnu
      have hc' : 0 ≤ c ∧ c ≤ 18446744073709551615 := hc
      refine ⟨⟨k, nu.toNat, t, hh, lv, c.toNat, z, mo⟩, ?_, h1, by show nu.toNat < _; omega, by show c.toNat < _; omega, ht⟩
      have e1 : ((nu.toNat : Nat) : Int) = nu := by omega
      have e2 : ((c.toNat : Nat) : Int) = c := by omega
      simp [valC, Val.head, e1, e2]
theorem vals_read {H : Type} {enc : TypeId × Value → H} {W : World} {n : Nat} {cs : List Value} {y : DataW H × List MemPlace} (h : DataW.trod enc Try.prog W 0 (fun _ => true) true n 28 cs = some y) (hl : cs.length = Try.prog.cellsOf 28) :
    ∃ x : Val, cs = valC x ∧ x.h.length = 32 ∧ x.nu < 18446744073709551616 ∧ x.c < 18446744073709551616 := by
  have h39 : Try.prog.cellsOf 28 = 39 := by kernel_rfl
  rw [h39] at hl
  obtain ⟨x, h1, h2, h3, h4, _⟩ := val_read h hl
  exact ⟨x, h1, h2, h3, h4⟩

set_option maxRecDepth 100000 in
theorem lifted (os : Os) (started : os.Started) (H : Type) (enc : TypeId × Value → H) :
    ReturnsInHanded {} Try.checked os 6 .any (Rows.codecBackSpec.pre6 enc Try.prog Try.f6 Rows.codecBackRow.domain false) (Rows.codecBackSpec.post enc Try.prog Try.f6 false true false false) := by
  refine returnsInHanded_of_change_sized (C := Try.checked) own started (by kernel_rfl) Try.func6
    (ChangeSpec.witness6 (enc := enc) (C := Try.checked) false ⟨#[], #[.slice none 0 0, .slice none 0 0], []⟩ 8 (by kernel_rfl) (by kernel_rfl) (by kernel_rfl) (by kernel_rfl)) ?_
  intro W base args ds gs before hval0 hW hcnd hsz0 _
  have hsz : (DataW.weightsEach Try.prog (Try.f6.params.toList ++ Rows.codecBackSpec.plain.varTypes Try.prog) (ds ++ gs)).all (· ≤ reachBytes) = true := hsz0
  have hval : ∀ (j : Nat) t v, Try.f6.params[j]? = some t → args[j]? = some v → Value.okWide Try.prog W .any base t v := hval0
  have hW' := hW
  obtain ⟨p, q, hA0, hV, rfl, hfz, hnd⟩ := hW
  have hA : DataW.TrodAll enc Try.prog W 0 (fun _ => true) true Try.f6.params.toList args.toList ds p := hA0
  rw [Try.params6] at hA hval hsz
  have hAll := hA
  obtain ⟨v0, vs0, d0, ds0, p0, q0, hargs, rfl, rfl, h0, r0⟩ := trodAll_cons hA
  obtain ⟨v1, vs1, d1, ds1, p1, q1, rfl, rfl, rfl, h1, r1⟩ := trodAll_cons r0
  obtain ⟨rfl, rfl, rfl⟩ := trodAll_nil r1
  obtain rfl : args = #[v0, v1] := by cases args; simp_all
  obtain ⟨rfl, rfl⟩ := trodVars_none hV
  obtain ⟨a0, len0, cap0, rfl⟩ := okWide_slice Try.underlying36 (hval 0 36 v0 rfl rfl)
  obtain ⟨l0, hl0, hr0, hw0, hy0, hc0⟩ := arg_list (j := 0) (f := valC) (R := fun x => x.h.length = 32 ∧ x.nu < 18446744073709551616 ∧ x.c < 18446744073709551616) Try.underlying36 (fun n cs y hh hl => vals_read hh hl) h0 hsz rfl rfl
  have hb0 : Try.prog.bytesOf 28 = 96 := by kernel_rfl
  rw [hb0] at hy0
  simp only [reachBytes] at hy0
  subst hl0
  obtain ⟨a1, len1, cap1, rfl⟩ := okWide_slice Try.underlying30 (hval 1 30 v1 rfl rfl)
  obtain ⟨l1, hl1, hr1, hw1, hy1, hc1⟩ := arg_int_list (j := 1) Try.underlying30 Try.underlying5 h1 hsz rfl rfl
  have hb1 : Try.prog.bytesOf 5 = 1 := by kernel_rfl
  rw [hb1] at hy1
  simp only [reachBytes] at hy1
  subst hl1
  clear hA0 hval0 hsz0 hsz hval
  have bound : (9223372036854775807 : Nat) = maxLen := by decide
  have n1 := nil_cap Try.underlying30 h1
  obtain ⟨b1, hb1l, hb1e⟩ := bytes_ints hw1
  rw [hb1e] at hr1
  rw [← hb1l] at hc1
  have hfc : FC Try.prog W 6 [.slice a0 l0.length cap0, .slice a1 l1.length cap1] [] (fun u _ => u = .bool true) := by rw [← hb1l]; exact back_fc (a := b1) hr1 hc1 n1 hr0 hw0 (by omega)
  refine (FC.below (hfc)).mono fun e W' ⟨he, bel⟩ => ?_
  subst he
  exact ⟨_, rfl, _, _, _, [], _, [], hW', trodAll_mk1 (shut_bool Try.underlying4 _), trodAll_below laidOut bel (by kernel_rfl) hAll, rfl, bel.frame _, fun h => by cases h⟩
theorem over : Rows.codecBackRow.holds Try.pinned (OpenSpec.ofChange Rows.codecBackSpec) :=
  OpenClaim.holds_of_wide 6 Try.f6 rfl rfl rfl rfl rfl rfl rfl ⟨rfl, rfl, rfl, rfl, rfl⟩ rfl rfl rfl rfl rfl (by kernel_rfl) Try.func6 (by kernel_rfl)
    (of_decide_eq_true (by kernel_rfl)) (by unfold Func.isWrapper; first | (rw [if_pos (by decide +kernel)]; kernel_rfl) | (rw [if_neg (by decide +kernel)]; exact ⟨rfl, rfl⟩))
    (fun os started H enc _ => lifted os started H enc)
end Go.Proofs.Ytpeikdbejafgbaa.codecBack
namespace Go.Proofs.Ytpeikdbejafgbaa
/-- The row, under a short name, for the claim. -/
theorem codecBack_holds : Rows.CodecBackSaid := codecBack.over
end Go.Proofs.Ytpeikdbejafgbaa
