/- The law LabelLattice returns true whatever its arguments are, and they read behind the call as they read before it. No condition. -/
import Derived.Test.YtbidjnjbiibdeaaDoorRows
import Derived.LaidLaws
import Derived.Lay
import Derived.MakeChecks
import Derived.Lib.LaidU8
import Derived.SevenTiedAt
import Derived.Test.YtbidjnjbiibdeaaDoorTie
import Derived.Test.YtbidjnjbiibdeaaDoorCards
import Derived.Test.YtbidjnjbiibdeaaDoorSl22
import Derived.Test.YtbidjnjbiibdeaaDoorLbW5
set_option linter.unusedVariables false
set_option linter.unusedSimpArgs false
namespace Go.Proofs.YtbidjnjbiibdeaaDoor.labelLattice
open Go.ChangeShapes Go.WideShapes Go.ChangeAt Go.RowKit Go.SL Go.Proofs
open Go.ChangeMaps (open_string shut_string)
theorem own : ownKnob Tryd.prog.godebug = none := by kernel_rfl
theorem laidOut : laidOutB Tryd.prog = true := by kernel_rfl
theorem fits_nil {l : List Value} (h : FitsAll [] l) : l = [] := by cases l with | nil => rfl | cons v l => exact h.elim
theorem fits_cons {c : CK} {sh : List CK} {l : List Value} (h : FitsAll (c :: sh) l) : ∃ v vs, l = v :: vs ∧ Fits c v ∧ FitsAll sh vs := by cases l with | nil => exact h.elim | cons v l => exact ⟨v, l, rfl, h.1, h.2⟩
theorem lab_of {l : List Value} (h : FitsAll [.int .i64, .int .u64] l) : ∃ x : LabB, l = [.int .i64 x.1, .int .u64 (x.2.toNat : Int)] := by
  obtain ⟨v0, l, rfl, h0, h⟩ := fits_cons h
  obtain ⟨v1, l, rfl, h1, h⟩ := fits_cons h
  obtain rfl := fits_nil h
  obtain ⟨a, rfl, _⟩ := h0
  obtain ⟨c, rfl, hc⟩ := h1
  have hc' : 0 ≤ c ∧ c ≤ 18446744073709551615 := by
    simp only [Lit.wf, Bool.and_eq_true, decide_eq_true_eq] at hc
    exact hc
  refine ⟨(a, BitVec.ofNat 64 c.toNat), ?_⟩
  have e : (((BitVec.ofNat 64 c.toNat).toNat : Nat) : Int) = c := by
    rw [BitVec.toNat_ofNat, Nat.mod_eq_of_lt (by omega)]
    omega
  show [Value.int .i64 a, Value.int .u64 c] = [Value.int .i64 a, Value.int .u64 _]
  rw [e]
set_option maxRecDepth 100000 in
theorem val_arg {H : Type} {enc : TypeId × Value → H} {W : World} {r : Reach} {base : Nat} {v : Value} {d : DataW H} {ps : List MemPlace} (hv : Value.okWide Tryd.prog W r base 24 v) (h : DataW.Trod enc Tryd.prog W 0 (fun _ => true) true 24 v d ps) :
    ∃ x : LabB, v = labB x ∧ True := by
  obtain ⟨cs, rfl, hsz⟩ := okWide_struct Tryd.underlying24 hv
  obtain ⟨fuel, hf⟩ := h
  have h2 : Tryd.prog.cellsOf 24 = 2 := by kernel_rfl
  rw [h2] at hsz
  obtain ⟨x, hx⟩ := lab_of (deep_fits 6 fuel 24 [.int .i64, .int .u64] cs.toList _ (by kernel_rfl) hf (by simpa using hsz))
  refine ⟨x, ?_, trivial⟩
  obtain ⟨l⟩ := cs
  have hx' : l = _ := hx
  rw [hx']
  rfl
theorem noHandles : (Rows.labelLatticeRow.laid.all fun x => x.2.handleName?.isNone) = true := by kernel_rfl
set_option maxRecDepth 100000 in
theorem lifted (os : Os) (started : os.Started) (H : Type) (enc : TypeId × Value → H) :
    ReturnsInHanded {} Tryd.checked os 3 .any (fun w args => (Rows.labelLatticeSpec.pre enc Tryd.prog Tryd.f3 Rows.labelLatticeRow.domain false w args ∧ laidMetH Tryd.prog Rows.labelLatticeRow.laid w) ∧ sizedMet enc Tryd.prog Tryd.f3 (OpenSpec.ofChange Rows.labelLatticeSpec) false w args) (Rows.labelLatticeSpec.post enc Tryd.prog Tryd.f3 false true false false) := by
  refine returnsInHanded_of_change_and (C := Tryd.checked) (X := fun w _ => laidMetH Tryd.prog Rows.labelLatticeRow.laid w) (fun _ _ _ hh h => h.of_heap hh) own started (by kernel_rfl) Tryd.func3
    (ChangeSpec.witness_shaped (enc := enc) (C := Tryd.checked) (os := os) (X := fun w _ => laidMetH Tryd.prog Rows.labelLatticeRow.laid w) false (World.laidAll Tryd.prog os Rows.labelLatticeRow.laid) #[.agg #[.int .i64 0, .int .u64 0], .agg #[.int .i64 0, .int .u64 0], .agg #[.int .i64 0, .int .u64 0]] 8 (World.laidAll_os _ _ _)
      (World.shaped_of_ZipB (by kernel_rfl) (by kernel_rfl)) (by kernel_rfl) (by kernel_rfl) (by kernel_rfl)
      (by rw [MakeChecks.laidMetH_plain _ _ _ noHandles]; exact laidMet_laidAll _ (by kernel_rfl) (by kernel_rfl))) ?_
  intro W base args ds gs before hval0 hW hcnd hsz0 hL _
  rw [MakeChecks.laidMetH_plain _ _ _ noHandles] at hL
  have hsz : (DataW.weightsEach Tryd.prog (Tryd.f3.params.toList ++ Rows.labelLatticeSpec.plain.varTypes Tryd.prog) (ds ++ gs)).all (· ≤ reachBytes) = true := hsz0
  have hval : ∀ (j : Nat) t v, Tryd.f3.params[j]? = some t → args[j]? = some v → Value.okWide Tryd.prog W .any base t v := hval0
  have hW' := hW
  obtain ⟨p, q, hA0, hV, rfl, hfz, hnd⟩ := hW
  have hA : DataW.TrodAll enc Tryd.prog W 0 (fun _ => true) true Tryd.f3.params.toList args.toList ds p := hA0
  rw [Tryd.params3] at hA hval hsz
  have hAll := hA
  obtain ⟨v0, vs0, d0, ds0, p0, q0, hargs, rfl, rfl, h0, r0⟩ := trodAll_cons hA
  obtain ⟨v1, vs1, d1, ds1, p1, q1, rfl, rfl, rfl, h1, r1⟩ := trodAll_cons r0
  obtain ⟨v2, vs2, d2, ds2, p2, q2, rfl, rfl, rfl, h2, r2⟩ := trodAll_cons r1
  obtain ⟨rfl, rfl, rfl⟩ := trodAll_nil r2
  obtain rfl : args = #[v0, v1, v2] := by cases args; simp_all
  obtain ⟨rfl, rfl⟩ := trodVars_none hV
  obtain ⟨x0, rfl, hx0⟩ := val_arg (hval 0 24 v0 rfl rfl) h0
  obtain ⟨x1, rfl, hx1⟩ := val_arg (hval 1 24 v1 rfl rfl) h1
  obtain ⟨x2, rfl, hx2⟩ := val_arg (hval 2 24 v2 rfl rfl) h2
  clear hA0 hval0 hsz0 hsz hval
  have bound : (9223372036854775807 : Nat) = maxLen := by decide
  refine (FC.below ((lattice_fc (a := x0) (b := x1) (c := x2) (labG_ok (l := Rows.labelLatticeRow.laid) hL (.tail _ (.head _)) (.head _) (.tail _ (.tail _ (.head _))))))).mono fun e W' ⟨he, bel⟩ => ?_
  subst he
  exact ⟨_, rfl, _, _, _, [], _, [], hW', trodAll_mk1 (shut_bool Tryd.underlying4 _), trodAll_below laidOut bel (by kernel_rfl) hAll, rfl, bel.frame _, fun h => by cases h⟩
theorem over : Rows.labelLatticeRow.holds Tryd.pinned (OpenSpec.ofChange Rows.labelLatticeSpec) :=
  OpenClaim.holds_of_wide 3 Tryd.f3 rfl rfl rfl rfl rfl rfl rfl ⟨rfl, rfl, rfl, rfl, rfl⟩ rfl rfl rfl rfl rfl (by kernel_rfl) Tryd.func3 (by kernel_rfl)
    (of_decide_eq_true (by kernel_rfl)) (by unfold Func.isWrapper; first | (rw [if_pos (by decide +kernel)]; kernel_rfl) | (rw [if_neg (by decide +kernel)]; exact ⟨rfl, rfl⟩))
    (fun os started H enc _ => lifted os started H enc)
end Go.Proofs.YtbidjnjbiibdeaaDoor.labelLattice
namespace Go.Proofs.YtbidjnjbiibdeaaDoor
/-- The tied card. -/
theorem labelLattice_holds : Rows.LabelLatticeCardSaid :=
  Claim7.holds_tied_plain_at .later [] [.data, .data, .data] true (true, "fa3fb9a35d080f509120c60b94cfc74bd3b14c4020010f466a5ec551516fbe61") true
    labelLattice.over (fun _ h => by cases h) (by kernel_rfl) (fun _ h => by cases h) labelLattice_row_tie rfl ⟨rfl, rfl⟩ (by kernel_rfl) rfl
    (fun f fn hf hfn => by
      obtain rfl : f = 3 := Option.some.inj ((show Tryd.prog.funcNamed "redwax/redwaxlaw05.LabelLattice" = some 3 by kernel_rfl).symm.trans hf) |>.symm
      obtain rfl : fn = Tryd.f3 := (Option.some.inj (Tryd.func3.symm.trans hfn)).symm
      exact ⟨by kernel_rfl, fun j t ht => by
        rw [Tryd.params3] at ht
        have hm := Array.mem_of_getElem? ht
        simp only [List.mem_toArray, List.mem_cons, List.not_mem_nil, or_false] at hm
        rcases hm with rfl | rfl | rfl
        · exact (show Tryd.prog.wantsStandIn 24 = false by kernel_rfl)
        · exact (show Tryd.prog.wantsStandIn 24 = false by kernel_rfl)
        · exact (show Tryd.prog.wantsStandIn 24 = false by kernel_rfl)
        ⟩)
    (by kernel_rfl)
end Go.Proofs.YtbidjnjbiibdeaaDoor
