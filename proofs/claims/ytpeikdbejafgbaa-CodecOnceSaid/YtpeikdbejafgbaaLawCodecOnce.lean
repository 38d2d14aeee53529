/- The law CodecOnce returns true whatever its arguments are, and they read behind the call as they read before it. No condition. -/
import Derived.Test.YtpeikdbejafgbaaRows
import Derived.Test.YtpeikdbejafgbaaSl19
import Derived.Test.YtpeikdbejafgbaaCoW23
set_option linter.unusedVariables false
set_option linter.unusedSimpArgs false
namespace Go.Proofs.Ytpeikdbejafgbaa.codecOnce
open Go.ChangeShapes Go.WideShapes Go.ChangeAt Go.RowKit Go.SL Go.Proofs
open Go.ChangeMaps (open_string shut_string)
theorem own : ownKnob Try.prog.godebug = none := by kernel_rfl
theorem laidOut : laidOutB Try.prog = true := by kernel_rfl
set_option maxRecDepth 100000 in
theorem lifted (os : Os) (started : os.Started) (H : Type) (enc : TypeId × Value → H) :
    ReturnsInHanded {} Try.checked os 7 .any (Rows.codecOnceSpec.pre6 enc Try.prog Try.f7 Rows.codecOnceRow.domain false) (Rows.codecOnceSpec.post enc Try.prog Try.f7 false true false false) := by
  refine returnsInHanded_of_change_sized (C := Try.checked) own started (by kernel_rfl) Try.func7
    (ChangeSpec.witness6 (enc := enc) (C := Try.checked) false ⟨#[], #[.slice none 0 0, .slice none 0 0], []⟩ 8 (by kernel_rfl) (by kernel_rfl) (by kernel_rfl) (by kernel_rfl)) ?_
  intro W base args ds gs before hval0 hW hcnd hsz0 _
  have hsz : (DataW.weightsEach Try.prog (Try.f7.params.toList ++ Rows.codecOnceSpec.plain.varTypes Try.prog) (ds ++ gs)).all (· ≤ reachBytes) = true := hsz0
  have hval : ∀ (j : Nat) t v, Try.f7.params[j]? = some t → args[j]? = some v → Value.okWide Try.prog W .any base t v := hval0
  have hW' := hW
  obtain ⟨p, q, hA0, hV, rfl, hfz, hnd⟩ := hW
  have hA : DataW.TrodAll enc Try.prog W 0 (fun _ => true) true Try.f7.params.toList args.toList ds p := hA0
  rw [Try.params7] at hA hval hsz
  have hAll := hA
  obtain ⟨v0, vs0, d0, ds0, p0, q0, hargs, rfl, rfl, h0, r0⟩ := trodAll_cons hA
  obtain ⟨v1, vs1, d1, ds1, p1, q1, rfl, rfl, rfl, h1, r1⟩ := trodAll_cons r0
  obtain ⟨rfl, rfl, rfl⟩ := trodAll_nil r1
  obtain rfl : args = #[v0, v1] := by cases args; simp_all
  obtain ⟨rfl, rfl⟩ := trodVars_none hV
  obtain ⟨a0, len0, cap0, rfl⟩ := okWide_slice Try.underlying30 (hval 0 30 v0 rfl rfl)
  obtain ⟨l0, hl0, hr0, hw0, hy0, hc0⟩ := arg_int_list (j := 0) Try.underlying30 Try.underlying5 h0 hsz rfl rfl
  have hb0 : Try.prog.bytesOf 5 = 1 := by kernel_rfl
  rw [hb0] at hy0
  simp only [reachBytes] at hy0
  subst hl0
  obtain ⟨a1, len1, cap1, rfl⟩ := okWide_slice Try.underlying30 (hval 1 30 v1 rfl rfl)
  obtain ⟨l1, hl1, hr1, hw1, hy1, hc1⟩ := arg_int_list (j := 1) Try.underlying30 Try.underlying5 h1 hsz rfl rfl
  have hb1 : Try.prog.bytesOf 5 = 1 := by kernel_rfl
  rw [hb1] at hy1
  simp only [reachBytes] at hy1
  subst hl1
  clear hA0 hval0 hsz0 hsz hval
  have bound : (9223372036854775807 : Nat) = maxLen := by decide
  obtain ⟨b0, hb0l, hb0e⟩ := bytes_ints hw0
  obtain ⟨b1, hb1l, hb1e⟩ := bytes_ints hw1
  rw [hb0e] at hr0
  rw [hb1e] at hr1
  rw [← hb0l] at hc0
  have hfc : FC Try.prog W 7 [.slice a0 l0.length cap0, .slice a1 l1.length cap1] [] (fun u _ => u = .bool true) := by rw [← hb0l, ← hb1l]; exact once_fc (a := b0) (kk := b1) hr0 hc0 hr1 (by omega)
  refine (FC.below (hfc)).mono fun e W' ⟨he, bel⟩ => ?_
  subst he
  exact ⟨_, rfl, _, _, _, [], _, [], hW', trodAll_mk1 (shut_bool Try.underlying4 _), trodAll_below laidOut bel (by kernel_rfl) hAll, rfl, bel.frame _, fun h => by cases h⟩
theorem over : Rows.codecOnceRow.holds Try.pinned (OpenSpec.ofChange Rows.codecOnceSpec) :=
  OpenClaim.holds_of_wide 7 Try.f7 rfl rfl rfl rfl rfl rfl rfl ⟨rfl, rfl, rfl, rfl, rfl⟩ rfl rfl rfl rfl rfl (by kernel_rfl) Try.func7 (by kernel_rfl)
    (of_decide_eq_true (by kernel_rfl)) (by unfold Func.isWrapper; first | (rw [if_pos (by decide +kernel)]; kernel_rfl) | (rw [if_neg (by decide +kernel)]; exact ⟨rfl, rfl⟩))
    (fun os started H enc _ => lifted os started H enc)
end Go.Proofs.Ytpeikdbejafgbaa.codecOnce
namespace Go.Proofs.Ytpeikdbejafgbaa
/-- The row, under a short name, for the claim. -/
theorem codecOnce_holds : Rows.CodecOnceSaid := codecOnce.over
end Go.Proofs.Ytpeikdbejafgbaa
