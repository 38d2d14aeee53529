/- The law LabelSorts returns true whatever its arguments are, and they read behind the call as they read before it. No condition. -/
import Derived.Test.YtbidjnjbiibdeaaDoorRows
import Derived.LaidLaws
import Derived.Lay
import Derived.MakeChecks
import Derived.Lib.LaidU8
import Derived.SevenTiedAt
import Derived.Test.YtbidjnjbiibdeaaDoorTie
import Derived.Test.YtbidjnjbiibdeaaDoorCards
import Derived.Test.YtbidjnjbiibdeaaDoorSl22
import Derived.Test.YtbidjnjbiibdeaaDoorLbW11
set_option linter.unusedVariables false
set_option linter.unusedSimpArgs false
namespace Go.Proofs.YtbidjnjbiibdeaaDoor.labelSorts
open Go.ChangeShapes Go.WideShapes Go.ChangeAt Go.RowKit Go.SL Go.Proofs
open Go.ChangeMaps (open_string shut_string)
theorem own : ownKnob Tryd.prog.godebug = none := by kernel_rfl
theorem laidOut : laidOutB Tryd.prog = true := by kernel_rfl
theorem fits_nil {l : List Value} (h : FitsAll [] l) : l = [] := by cases l with | nil => rfl | cons v l => exact h.elim
theorem fits_cons {c : CK} {sh : List CK} {l : List Value} (h : FitsAll (c :: sh) l) : ∃ v vs, l = v :: vs ∧ Fits c v ∧ FitsAll sh vs := by cases l with | nil => exact h.elim | cons v l => exact ⟨v, l, rfl, h.1, h.2⟩
theorem lab_of {l : List Value} (h : FitsAll [.int .i64, .int .u64] l) : ∃ x : LabB, l = [.int .i64 x.1, .int .u64 (x.2.toNat : Int)] := by
  obtain ⟨v0, l, rfl, h0, h⟩ := fits_cons h
  obtain ⟨v1, l, rfl, h1, h⟩ := fits_cons h
  obtain rfl := fits_nil h
  obtain ⟨a, rfl, _⟩ := h0
  obtain ⟨c, rfl, hc⟩ := h1
  have hc' : 0 ≤ c ∧ c ≤ 18446744073709551615 := by
    simp only [Lit.wf, Bool.and_eq_true, decide_eq_true_eq] at hc
    exact hc
  refine ⟨(a, BitVec.ofNat 64 c.toNat), ?_⟩
  have e : (((BitVec.ofNat 64 c.toNat).toNat : Nat) : Int) = c := by
    rw [BitVec.toNat_ofNat, Nat.mod_eq_of_lt (by omega)]
    omega
  show [Value.int .i64 a, Value.int .u64 c] = [Value.int .i64 a, Value.int .u64 _]
  rw [e]
set_option maxRecDepth 100000 in
theorem val_arg {H : Type} {enc : TypeId × Value → H} {W : World} {r : Reach} {base : Nat} {v : Value} {d : DataW H} {ps : List MemPlace} (hv : Value.okWide Tryd.prog W r base 24 v) (h : DataW.Trod enc Tryd.prog W 0 (fun _ => true) true 24 v d ps) :
    ∃ x : LabB, v = labB x ∧ True := by
  obtain ⟨cs, rfl, hsz⟩ := okWide_struct Tryd.underlying24 hv
  obtain ⟨fuel, hf⟩ := h
  have h2 : Tryd.prog.cellsOf 24 = 2 := by kernel_rfl
  rw [h2] at hsz
  obtain ⟨x, hx⟩ := lab_of (deep_fits 6 fuel 24 [.int .i64, .int .u64] cs.toList _ (by kernel_rfl) hf (by simpa using hsz))
  refine ⟨x, ?_, trivial⟩
  obtain ⟨l⟩ := cs
  have hx' : l = _ := hx
  rw [hx']
  rfl
theorem noHandles : (Rows.labelSortsRow.laid.all fun x => x.2.handleName?.isNone) = true := by kernel_rfl
set_option maxRecDepth 100000 in
theorem lifted (os : Os) (started : os.Started) (H : Type) (enc : TypeId × Value → H) :
    ReturnsInHanded {} Tryd.checked os 12 .any (fun w args => (Rows.labelSortsSpec.pre enc Tryd.prog Tryd.f12 Rows.labelSortsRow.domain false w args ∧ laidMetH Tryd.prog Rows.labelSortsRow.laid w) ∧ sizedMet enc Tryd.prog Tryd.f12 (OpenSpec.ofChange Rows.labelSortsSpec) false w args) (Rows.labelSortsSpec.post enc Tryd.prog Tryd.f12 false true false false) := by
  refine returnsInHanded_of_change_and (C := Tryd.checked) (X := fun w _ => laidMetH Tryd.prog Rows.labelSortsRow.laid w) (fun _ _ _ hh h => h.of_heap hh) own started (by kernel_rfl) Tryd.func12
    (ChangeSpec.witness_shaped (enc := enc) (C := Tryd.checked) (os := os) (X := fun w _ => laidMetH Tryd.prog Rows.labelSortsRow.laid w) false (World.laidAll Tryd.prog os Rows.labelSortsRow.laid) #[.slice none 0 0] 8 (World.laidAll_os _ _ _)
      (World.shaped_of_ZipB (by kernel_rfl) (by kernel_rfl)) (by kernel_rfl) (by kernel_rfl) (by kernel_rfl)
      (by rw [MakeChecks.laidMetH_plain _ _ _ noHandles]; exact laidMet_laidAll _ (by kernel_rfl) (by kernel_rfl))) ?_
  intro W base args ds gs before hval0 hW hcnd hsz0 hL _
  rw [MakeChecks.laidMetH_plain _ _ _ noHandles] at hL
  have hsz : (DataW.weightsEach Tryd.prog (Tryd.f12.params.toList ++ Rows.labelSortsSpec.plain.varTypes Tryd.prog) (ds ++ gs)).all (· ≤ reachBytes) = true := hsz0
  have hval : ∀ (j : Nat) t v, Tryd.f12.params[j]? = some t → args[j]? = some v → Value.okWide Tryd.prog W .any base t v := hval0
  have hW' := hW
  obtain ⟨p, q, hA0, hV, rfl, hfz, hnd⟩ := hW
  have hA : DataW.TrodAll enc Tryd.prog W 0 (fun _ => true) true Tryd.f12.params.toList args.toList ds p := hA0
  rw [Tryd.params12] at hA hval hsz
  have hAll := hA
  obtain ⟨v0, vs0, d0, ds0, p0, q0, hargs, rfl, rfl, h0, r0⟩ := trodAll_cons hA
  obtain ⟨rfl, rfl, rfl⟩ := trodAll_nil r0
  obtain rfl : args = #[v0] := by cases args; simp_all
  obtain ⟨rfl, rfl⟩ := trodVars_none hV
  obtain ⟨a0, len0, cap0, rfl⟩ := okWide_slice Tryd.underlying61 (hval 0 61 v0 rfl rfl)
  obtain ⟨l0, hl0, hr0, hw0, hy0, hc0⟩ := arg_list (j := 0) (f := labC) (R := (fun _ => True)) Tryd.underlying61 (fun n cs y hh hl => by
    have h2 : Tryd.prog.cellsOf 24 = 2 := by kernel_rfl
    rw [h2] at hl
    obtain ⟨x, hx⟩ := lab_of (deep_fits 6 n 24 [.int .i64, .int .u64] cs y (by kernel_rfl) hh (by simpa using hl))
    exact ⟨x, hx, trivial⟩) h0 hsz rfl rfl
  have hb0 : Tryd.prog.bytesOf 24 = 16 := by kernel_rfl
  rw [hb0] at hy0
  simp only [reachBytes] at hy0
  subst hl0
  clear hA0 hval0 hsz0 hsz hval
  have bound : (9223372036854775807 : Nat) = maxLen := by decide
  have n0 := nil_cap Tryd.underlying61 h0
  refine (FC.below (sorts_fc (l := l0) (labG_ok (l := Rows.labelSortsRow.laid) hL (.tail _ (.head _)) (.head _) (.tail _ (.tail _ (.head _)))) hr0 n0)).mono fun e W' ⟨he, bel⟩ => ?_
  subst he
  exact ⟨_, rfl, _, _, _, [], _, [], hW', trodAll_mk1 (shut_bool Tryd.underlying4 _), trodAll_below laidOut bel (by kernel_rfl) hAll, rfl, bel.frame _, fun h => by cases h⟩
theorem over : Rows.labelSortsRow.holds Tryd.pinned (OpenSpec.ofChange Rows.labelSortsSpec) :=
  OpenClaim.holds_of_wide 12 Tryd.f12 rfl rfl rfl rfl rfl rfl rfl ⟨rfl, rfl, rfl, rfl, rfl⟩ rfl rfl rfl rfl rfl (by kernel_rfl) Tryd.func12 (by kernel_rfl)
    (of_decide_eq_true (by kernel_rfl)) (by unfold Func.isWrapper; first | (rw [if_pos (by decide +kernel)]; kernel_rfl) | (rw [if_neg (by decide +kernel)]; exact ⟨rfl, rfl⟩))
    (fun os started H enc _ => lifted os started H enc)
end Go.Proofs.YtbidjnjbiibdeaaDoor.labelSorts
namespace Go.Proofs.YtbidjnjbiibdeaaDoor
/-- The tied card. -/
theorem labelSorts_holds : Rows.LabelSortsCardSaid :=
  Claim7.holds_tied_plain_at .later [] [.data, .data, .data] true (true, "fa3fb9a35d080f509120c60b94cfc74bd3b14c4020010f466a5ec551516fbe61") true
    labelSorts.over (fun _ h => by cases h) (by kernel_rfl) (fun _ h => by cases h) labelSorts_row_tie rfl ⟨rfl, rfl⟩ (by kernel_rfl) rfl
    (fun f fn hf hfn => by
      obtain rfl : f = 12 := Option.some.inj ((show Tryd.prog.funcNamed "redwax/redwaxlaw05.LabelSorts" = some 12 by kernel_rfl).symm.trans hf) |>.symm
      obtain rfl : fn = Tryd.f12 := (Option.some.inj (Tryd.func12.symm.trans hfn)).symm
      exact ⟨by kernel_rfl, fun j t ht => by
        rw [Tryd.params12] at ht
        have hm := Array.mem_of_getElem? ht
        simp only [List.mem_toArray, List.mem_cons, List.not_mem_nil, or_false] at hm
        rcases hm with rfl
        · exact (show Tryd.prog.wantsStandIn 61 = false by kernel_rfl)
        ⟩)
    (by kernel_rfl)
end Go.Proofs.YtbidjnjbiibdeaaDoor
