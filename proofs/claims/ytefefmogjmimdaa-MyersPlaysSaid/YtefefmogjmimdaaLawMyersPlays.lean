/- The law MyersPlays returns true whatever its arguments are, and they read behind the call as they read before it. No condition. -/
import Derived.Test.YtefefmogjmimdaaRows
import Derived.Test.YtefefmogjmimdaaSl9
import Derived.Test.YtefefmogjmimdaaMyW11
set_option linter.unusedVariables false
set_option linter.unusedSimpArgs false
namespace Go.Proofs.Ytefefmogjmimdaa.myersPlays
open Go.ChangeShapes Go.WideShapes Go.ChangeAt Go.RowKit Go.SL Go.Proofs
open Go.ChangeMaps (open_string shut_string)
theorem own : ownKnob Try.prog.godebug = none := by kernel_rfl
theorem laidOut : laidOutB Try.prog = true := by kernel_rfl
theorem step_read {H : Type} {enc : TypeId × Value → H} {W : World} {n : Nat} {cs : List Value} {y : DataW H × List MemPlace} (h : DataW.trod enc Try.prog W 0 (fun _ => true) true n 36 cs = some y) : ∃ x, cs = stC x ∧ True := by
  obtain ⟨hl, hf⟩ := trod_flat (sh := [.int .i64, .int .i64, .int .i64]) (by kernel_rfl) (by kernel_rfl) h
  obtain ⟨_, h0, a, rfl, _⟩ := hf 0 _ rfl
  obtain ⟨_, h1, b, rfl, _⟩ := hf 1 _ rfl
  obtain ⟨_, h2, c, rfl, _⟩ := hf 2 _ rfl
  match cs, hl with
  | [x, y, z], _ =>
    simp at h0 h1 h2
    subst h0; subst h1; subst h2
    exact ⟨(a, b, c), rfl, trivial⟩
set_option maxRecDepth 100000 in
theorem lifted (os : Os) (started : os.Started) (H : Type) (enc : TypeId × Value → H) :
    ReturnsInHanded {} Try.checked os 5 .any (Rows.myersPlaysSpec.pre6 enc Try.prog Try.f5 Rows.myersPlaysRow.domain false) (Rows.myersPlaysSpec.post enc Try.prog Try.f5 false true false false) := by
  refine returnsInHanded_of_change_sized (C := Try.checked) own started (by kernel_rfl) Try.func5
    (ChangeSpec.witness6 (enc := enc) (C := Try.checked) false ⟨#[], #[.slice none 0 0, .slice none 0 0, .slice none 0 0], []⟩ 8 (by kernel_rfl) (by kernel_rfl) (by kernel_rfl) (by kernel_rfl)) ?_
  intro W base args ds gs before hval0 hW hcnd hsz0 _
  have hsz : (DataW.weightsEach Try.prog (Try.f5.params.toList ++ Rows.myersPlaysSpec.plain.varTypes Try.prog) (ds ++ gs)).all (· ≤ reachBytes) = true := hsz0
  have hval : ∀ (j : Nat) t v, Try.f5.params[j]? = some t → args[j]? = some v → Value.okWide Try.prog W .any base t v := hval0
  have hW' := hW
  obtain ⟨p, q, hA0, hV, rfl, hfz, hnd⟩ := hW
  have hA : DataW.TrodAll enc Try.prog W 0 (fun _ => true) true Try.f5.params.toList args.toList ds p := hA0
  rw [Try.params5] at hA hval hsz
  have hAll := hA
  obtain ⟨v0, vs0, d0, ds0, p0, q0, hargs, rfl, rfl, h0, r0⟩ := trodAll_cons hA
  obtain ⟨v1, vs1, d1, ds1, p1, q1, rfl, rfl, rfl, h1, r1⟩ := trodAll_cons r0
  obtain ⟨v2, vs2, d2, ds2, p2, q2, rfl, rfl, rfl, h2, r2⟩ := trodAll_cons r1
  obtain ⟨rfl, rfl, rfl⟩ := trodAll_nil r2
  obtain rfl : args = #[v0, v1, v2] := by cases args; simp_all
  obtain ⟨rfl, rfl⟩ := trodVars_none hV
  obtain ⟨a0, len0, cap0, rfl⟩ := okWide_slice Try.underlying22 (hval 0 22 v0 rfl rfl)
  obtain ⟨l0, hl0, hr0, hw0, hy0, hc0⟩ := arg_string_list (j := 0) Try.underlying22 Try.underlying9 h0 hsz rfl rfl
  have hb0 : Try.prog.bytesOf 9 = 16 := by kernel_rfl
  rw [hb0] at hy0
  simp only [reachBytes] at hy0
  subst hl0
  obtain ⟨a1, len1, cap1, rfl⟩ := okWide_slice Try.underlying22 (hval 1 22 v1 rfl rfl)
  obtain ⟨l1, hl1, hr1, hw1, hy1, hc1⟩ := arg_string_list (j := 1) Try.underlying22 Try.underlying9 h1 hsz rfl rfl
  have hb1 : Try.prog.bytesOf 9 = 16 := by kernel_rfl
  rw [hb1] at hy1
  simp only [reachBytes] at hy1
  subst hl1
  obtain ⟨a2, len2, cap2, rfl⟩ := okWide_slice Try.underlying24 (hval 2 24 v2 rfl rfl)
  obtain ⟨l2, hl2, hr2, hw2, hy2, hc2⟩ := arg_list (j := 2) (f := stC) (R := fun _ => True) Try.underlying24 (fun n cs y hh hl => step_read hh) h2 hsz rfl rfl
  have hb2 : Try.prog.bytesOf 36 = 24 := by kernel_rfl
  rw [hb2] at hy2
  simp only [reachBytes] at hy2
  subst hl2
  clear hA0 hval0 hsz0 hsz hval
  have bound : (9223372036854775807 : Nat) = maxLen := by decide
  refine (FC.below (plays_fc hr0 hr1 hr2 (by omega) (by omega) (fun s hs => by have := hw0 s hs; omega) (fun s hs => by have := hw1 s hs; omega) hc2)).mono fun e W' ⟨he, bel⟩ => ?_
  subst he
  exact ⟨_, rfl, _, _, _, [], _, [], hW', trodAll_mk1 (shut_bool Try.underlying4 _), trodAll_below laidOut bel (by kernel_rfl) hAll, rfl, bel.frame _, fun h => by cases h⟩
theorem over : Rows.myersPlaysRow.holds Try.pinned (OpenSpec.ofChange Rows.myersPlaysSpec) :=
  OpenClaim.holds_of_wide 5 Try.f5 rfl rfl rfl rfl rfl rfl rfl ⟨rfl, rfl, rfl, rfl, rfl⟩ rfl rfl rfl rfl rfl (by kernel_rfl) Try.func5 (by kernel_rfl)
    (of_decide_eq_true (by kernel_rfl)) (by unfold Func.isWrapper; first | (rw [if_pos (by decide +kernel)]; kernel_rfl) | (rw [if_neg (by decide +kernel)]; exact ⟨rfl, rfl⟩))
    (fun os started H enc _ => lifted os started H enc)
end Go.Proofs.Ytefefmogjmimdaa.myersPlays
namespace Go.Proofs.Ytefefmogjmimdaa
/-- The row, under a short name, for the claim. -/
theorem myersPlays_holds : Rows.MyersPlaysSaid := myersPlays.over
end Go.Proofs.Ytefefmogjmimdaa
