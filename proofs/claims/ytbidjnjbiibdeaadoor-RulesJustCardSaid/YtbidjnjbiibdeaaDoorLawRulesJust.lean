/- The law RulesJust returns true whatever its arguments are, and they read behind the call as they read before it. No condition. -/
import Derived.Test.YtbidjnjbiibdeaaDoorRows
import Derived.LaidLaws
import Derived.Lay
import Derived.MakeChecks
import Derived.Lib.LaidU8
import Derived.SevenTiedAt
import Derived.Test.YtbidjnjbiibdeaaDoorTie
import Derived.Test.YtbidjnjbiibdeaaDoorCards
import Derived.Test.YtbidjnjbiibdeaaDoorPart7
set_option linter.unusedVariables false
set_option linter.unusedSimpArgs false
namespace Go.Proofs.YtbidjnjbiibdeaaDoor.rulesJust
open Go.ChangeShapes Go.WideShapes Go.ChangeAt Go.RowKit Go.SL Go.Proofs Go.Proofs.Lb Go.Proofs.Rl
open Go.ChangeMaps (open_string shut_string)
theorem own : ownKnob Tryd.prog.godebug = none := by kernel_rfl
theorem laidOut : laidOutB Tryd.prog = true := by kernel_rfl
theorem fits_nil {l : List Value} (h : FitsAll [] l) : l = [] := by cases l with | nil => rfl | cons v l => exact h.elim
theorem fits_cons {c : CK} {sh : List CK} {l : List Value} (h : FitsAll (c :: sh) l) : ∃ v vs, l = v :: vs ∧ Fits c v ∧ FitsAll sh vs := by cases l with | nil => exact h.elim | cons v l => exact ⟨v, l, rfl, h.1, h.2⟩
theorem lab_of {l : List Value} (h : FitsAll [.int .i64, .int .u64] l) : ∃ x : LabB, l = [.int .i64 x.1, .int .u64 (x.2.toNat : Int)] := by
  obtain ⟨v0, l, rfl, h0, h⟩ := fits_cons h
  obtain ⟨v1, l, rfl, h1, h⟩ := fits_cons h
  obtain rfl := fits_nil h
  obtain ⟨a, rfl, _⟩ := h0
  obtain ⟨c, rfl, hc⟩ := h1
  have hc' : 0 ≤ c ∧ c ≤ 18446744073709551615 := by
    simp only [Lit.wf, Bool.and_eq_true, decide_eq_true_eq] at hc
    exact hc
  refine ⟨(a, BitVec.ofNat 64 c.toNat), ?_⟩
  have e : (((BitVec.ofNat 64 c.toNat).toNat : Nat) : Int) = c := by
    rw [BitVec.toNat_ofNat, Nat.mod_eq_of_lt (by omega)]
    omega
  show [Value.int .i64 a, Value.int .u64 c] = [Value.int .i64 a, Value.int .u64 _]
  rw [e]
theorem rule_of {l : List Value} (h : FitsAll [.str, .int .i64, .int .u64] l) : ∃ x : RuleB, l = ruleC x ∧ x.1.size ≤ maxLen := by
  obtain ⟨v0, l, rfl, h0, h1⟩ := fits_cons h
  obtain ⟨t, rfl, ht⟩ := h0
  obtain ⟨x, rfl⟩ := lab_of h1
  exact ⟨(t, x), rfl, ht⟩
set_option maxRecDepth 100000 in
theorem tab_arg {H : Type} {enc : TypeId × Value → H} {W : World} {r : Reach} {base j : Nat} {v : Value} {d : DataW H} {ps : List MemPlace} {ts : List TypeId} {ds : List (DataW H)} (hv : Value.okWide Tryd.prog W r base 45 v)
    (h : DataW.Trod enc Tryd.prog W 0 (fun _ => true) true 45 v d ps) (hsz : (DataW.weightsEach Tryd.prog ts ds).all (· ≤ reachBytes) = true) (ht : ts[j]? = some 45) (hd : ds[j]? = some d) :
    ∃ (tv : Int) (A : Option Addr) (l : List RuleB) (c : Nat), v = tabV tv A l.length c ∧ Rd W [] A (ruls l) ∧ (∀ x ∈ l, x.1.size ≤ maxLen) ∧ l.length * 32 ≤ reachBytes ∧ (A = none → c = 0) := by
  obtain ⟨cs, n, xs, rfl, hs, hw, hf⟩ := arg_struct Tryd.underlying45 hv h hsz ht hd
  have h2 : Tryd.prog.cellsOf 45 = 2 := by kernel_rfl
  have h31 : Tryd.prog.cellsOf 3 = 1 := by kernel_rfl
  have h41 : Tryd.prog.cellsOf 43 = 1 := by kernel_rfl
  have h3 : Tryd.prog.cellsOf 56 = 3 := by kernel_rfl
  have hb : Tryd.prog.bytesOf 56 = 32 := by kernel_rfl
  rw [h2] at hs
  obtain ⟨y0, _, t0⟩ := hf 0 _ rfl
  obtain ⟨y1, e1, t1⟩ := hf 1 _ rfl
  obtain ⟨l⟩ := cs
  match l, hs with
  | [u0, u1], _ =>
    have t0' : DataW.trod enc Tryd.prog W 0 (fun _ => true) true n 3 ([u0, u1].take (Tryd.prog.cellsOf 3)) = some y0 := t0
    have t1' : DataW.trod enc Tryd.prog W 0 (fun _ => true) true n 43 ([u1].take (Tryd.prog.cellsOf 43)) = some y1 := t1
    rw [h31] at t0'
    rw [h41] at t1'
    obtain ⟨tv, e0, _⟩ := DataW.trod_int Tryd.underlying3 t0'
    obtain ⟨A, len, cap, e2, ht1⟩ := trod_slice1 Tryd.underlying43 t1'
    obtain rfl : u0 = .int .i64 tv := by simpa using e0
    obtain rfl : u1 = .slice A len cap := by simpa using e2
    obtain ⟨l, rfl, hr, hR, hy, _⟩ := arg_list (j := 1) (f := ruleC) (R := fun x : RuleB => x.1.size ≤ maxLen) Tryd.underlying43 (fun n cs y hh hl => by
      rw [h3] at hl
      exact rule_of (deep_fits 6 n 56 [.str, .int .i64, .int .u64] cs y (by kernel_rfl) hh (by simpa using hl))) ht1 hw rfl (by rw [List.getElem?_map, e1]; rfl)
    rw [hb] at hy
    exact ⟨tv, A, l, cap, rfl, hr, hR, hy, nil_cap Tryd.underlying43 ht1⟩
set_option maxRecDepth 100000 in
theorem rule_arg {H : Type} {enc : TypeId × Value → H} {W : World} {r : Reach} {base : Nat} {v : Value} {d : DataW H} {ps : List MemPlace} (hv : Value.okWide Tryd.prog W r base 56 v) (h : DataW.Trod enc Tryd.prog W 0 (fun _ => true) true 56 v d ps) :
    ∃ x : RuleB, v = .agg #[.string x.1, .int .i64 x.2.1, .int .u64 (x.2.2.toNat : Int)] ∧ x.1.size ≤ maxLen := by
  obtain ⟨cs, rfl, hsz⟩ := okWide_struct Tryd.underlying56 hv
  obtain ⟨fuel, hf⟩ := h
  have h2 : Tryd.prog.cellsOf 56 = 3 := by kernel_rfl
  rw [h2] at hsz
  obtain ⟨x, hx, hl⟩ := rule_of (deep_fits 6 fuel 56 [.str, .int .i64, .int .u64] cs.toList _ (by kernel_rfl) hf (by simpa using hsz))
  refine ⟨x, ?_, hl⟩
  obtain ⟨l⟩ := cs
  have hx' : l = _ := hx
  rw [hx']
  rfl
theorem noHandles : (Rows.rulesJustRow.laid.all fun x => x.2.handleName?.isNone) = true := by kernel_rfl
set_option maxRecDepth 100000 in
theorem lifted (os : Os) (started : os.Started) (H : Type) (enc : TypeId × Value → H) :
    ReturnsInHanded {} Tryd.checked os 11 .any (fun w args => (Rows.rulesJustSpec.pre enc Tryd.prog Tryd.f11 Rows.rulesJustRow.domain false w args ∧ laidMetH Tryd.prog Rows.rulesJustRow.laid w) ∧ sizedMet enc Tryd.prog Tryd.f11 (OpenSpec.ofChange Rows.rulesJustSpec) false w args) (Rows.rulesJustSpec.post enc Tryd.prog Tryd.f11 false true false false) := by
  refine returnsInHanded_of_change_and (C := Tryd.checked) (X := fun w _ => laidMetH Tryd.prog Rows.rulesJustRow.laid w) (fun _ _ _ hh h => h.of_heap hh) own started (by kernel_rfl) Tryd.func11
    (ChangeSpec.witness_shaped (enc := enc) (C := Tryd.checked) (os := os) (X := fun w _ => laidMetH Tryd.prog Rows.rulesJustRow.laid w) false (World.laidAll Tryd.prog os Rows.rulesJustRow.laid) #[.agg #[.int .i64 0, .slice none 0 0], .agg #[.string ByteArray.empty, .int .i64 0, .int .u64 0], .string ByteArray.empty] 8 (World.laidAll_os _ _ _)
      (World.shaped_of_ZipB (by kernel_rfl) (by kernel_rfl)) (by kernel_rfl) (by kernel_rfl) (by kernel_rfl)
      (by rw [MakeChecks.laidMetH_plain _ _ _ noHandles]; exact laidMet_laidAll _ (by kernel_rfl) (by kernel_rfl))) ?_
  intro W base args ds gs before hval0 hW hcnd hsz0 hL _
  rw [MakeChecks.laidMetH_plain _ _ _ noHandles] at hL
  have hsz : (DataW.weightsEach Tryd.prog (Tryd.f11.params.toList ++ Rows.rulesJustSpec.plain.varTypes Tryd.prog) (ds ++ gs)).all (· ≤ reachBytes) = true := hsz0
  have hval : ∀ (j : Nat) t v, Tryd.f11.params[j]? = some t → args[j]? = some v → Value.okWide Tryd.prog W .any base t v := hval0
  have hW' := hW
  obtain ⟨p, q, hA0, hV, rfl, hfz, hnd⟩ := hW
  have hA : DataW.TrodAll enc Tryd.prog W 0 (fun _ => true) true Tryd.f11.params.toList args.toList ds p := hA0
  rw [Tryd.params11] at hA hval hsz
  have hAll := hA
  obtain ⟨v0, vs0, d0, ds0, p0, q0, hargs, rfl, rfl, h0, r0⟩ := trodAll_cons hA
  obtain ⟨v1, vs1, d1, ds1, p1, q1, rfl, rfl, rfl, h1, r1⟩ := trodAll_cons r0
  obtain ⟨v2, vs2, d2, ds2, p2, q2, rfl, rfl, rfl, h2, r2⟩ := trodAll_cons r1
  obtain ⟨rfl, rfl, rfl⟩ := trodAll_nil r2
  obtain rfl : args = #[v0, v1, v2] := by cases args; simp_all
  obtain ⟨rfl, rfl⟩ := trodVars_none hV
  obtain ⟨tv0, A0, l0, c0, rfl, hr0, hR0, hy0, n0⟩ := tab_arg (j := 0) (hval 0 45 v0 rfl rfl) h0 hsz rfl rfl
  simp only [reachBytes] at hy0
  obtain ⟨y1, rfl, hy1⟩ := rule_arg (hval 1 56 v1 rfl rfl) h1
  obtain ⟨a2, rfl, rfl, rfl, y2⟩ := open_string Tryd.underlying9 (hval 2 9 v2 rfl rfl) h2
  have w2 : a2.size ≤ 140737488351232 := by
    have z := sized_string hsz (j := 2) (t := 9) rfl rfl
    rw [Array.length_toList] at z
    exact z
  clear hA0 hval0 hsz0 hsz hval
  have bound : (9223372036854775807 : Nat) = maxLen := by decide
  refine (FC.below (rulesJust_fc hr0 hR0 (by omega) (by omega))).mono fun e W' ⟨he, bel⟩ => ?_
  subst he
  exact ⟨_, rfl, _, _, _, [], _, [], hW', trodAll_mk1 (shut_bool Tryd.underlying4 _), trodAll_below laidOut bel (by kernel_rfl) hAll, rfl, bel.frame _, fun h => by cases h⟩
theorem over : Rows.rulesJustRow.holds Tryd.pinned (OpenSpec.ofChange Rows.rulesJustSpec) :=
  OpenClaim.holds_of_wide 11 Tryd.f11 rfl rfl rfl rfl rfl rfl rfl ⟨rfl, rfl, rfl, rfl, rfl⟩ rfl rfl rfl rfl rfl (by kernel_rfl) Tryd.func11 (by kernel_rfl)
    (of_decide_eq_true (by kernel_rfl)) (by unfold Func.isWrapper; first | (rw [if_pos (by decide +kernel)]; kernel_rfl) | (rw [if_neg (by decide +kernel)]; exact ⟨rfl, rfl⟩))
    (fun os started H enc _ => lifted os started H enc)
end Go.Proofs.YtbidjnjbiibdeaaDoor.rulesJust
namespace Go.Proofs.YtbidjnjbiibdeaaDoor
/-- The tied card. -/
theorem rulesJust_holds : Rows.RulesJustCardSaid :=
  Claim7.holds_tied_plain_at .later [] [.data, .pinned] true (true, "fa3fb9a35d080f509120c60b94cfc74bd3b14c4020010f466a5ec551516fbe61") true
    rulesJust.over (fun _ h => by cases h) (by kernel_rfl) (fun _ h => by cases h) rulesJust_row_tie rfl ⟨rfl, rfl⟩ (by kernel_rfl) rfl
    (fun f fn hf hfn => by
      obtain rfl : f = 11 := Option.some.inj ((show Tryd.prog.funcNamed "redwax/redwaxlaw07.RulesJust" = some 11 by kernel_rfl).symm.trans hf) |>.symm
      obtain rfl : fn = Tryd.f11 := (Option.some.inj (Tryd.func11.symm.trans hfn)).symm
      exact ⟨by kernel_rfl, fun j t ht => by
        rw [Tryd.params11] at ht
        have hm := Array.mem_of_getElem? ht
        simp only [List.mem_toArray, List.mem_cons, List.not_mem_nil, or_false] at hm
        rcases hm with rfl | rfl | rfl
        · exact (show Tryd.prog.wantsStandIn 45 = false by kernel_rfl)
        · exact (show Tryd.prog.wantsStandIn 56 = false by kernel_rfl)
        · exact (show Tryd.prog.wantsStandIn 9 = false by kernel_rfl)
        ⟩)
    (by kernel_rfl)
end Go.Proofs.YtbidjnjbiibdeaaDoor
