/- The law RulesFind returns true whatever its arguments are, and they read behind the call as they read before it. No condition. -/
import Derived.Test.YtbidjnjbiibdeaaGreatDoorRows
import Derived.LaidLaws
import Derived.Lay
import Derived.MakeChecks
import Derived.Lib.LaidU8
import Derived.SevenTiedAt
import Derived.Test.YtbidjnjbiibdeaaGreatDoorTie
import Derived.Test.YtbidjnjbiibdeaaGreatDoorCards
import Derived.Test.YtbidjnjbiibdeaaGreatDoorPart5
set_option linter.unusedVariables false
set_option linter.unusedSimpArgs false
namespace Go.Proofs.YtbidjnjbiibdeaaGreatDoor.rulesFind
open Go.ChangeShapes Go.WideShapes Go.ChangeAt Go.RowKit Go.SL Go.Proofs Go.Proofs.Lb Go.Proofs.Rl
open Go.ChangeMaps (open_string shut_string)
theorem own : ownKnob Tryz.prog.godebug = none := by kernel_rfl
theorem laidOut : laidOutB Tryz.prog = true := by kernel_rfl
theorem fits_nil {l : List Value} (h : FitsAll [] l) : l = [] := by cases l with | nil => rfl | cons v l => exact h.elim
theorem fits_cons {c : CK} {sh : List CK} {l : List Value} (h : FitsAll (c :: sh) l) : ∃ v vs, l = v :: vs ∧ Fits c v ∧ FitsAll sh vs := by cases l with | nil => exact h.elim | cons v l => exact ⟨v, l, rfl, h.1, h.2⟩
theorem lab_of {l : List Value} (h : FitsAll [.int .i64, .int .u64] l) : ∃ x : LabB, l = [.int .i64 x.1, .int .u64 (x.2.toNat : Int)] := by
  obtain ⟨v0, l, rfl, h0, h⟩ := fits_cons h
  obtain ⟨v1, l, rfl, h1, h⟩ := fits_cons h
  obtain rfl := fits_nil h
  obtain ⟨a, rfl, _⟩ := h0
  obtain ⟨c, rfl, hc⟩ := h1
  have hc' : 0 ≤ c ∧ c ≤ 18446744073709551615 := by
    simp only [Lit.wf, Bool.and_eq_true, decide_eq_true_eq] at hc
    exact hc
  refine ⟨(a, BitVec.ofNat 64 c.toNat), ?_⟩
  have e : (((BitVec.ofNat 64 c.toNat).toNat : Nat) : Int) = c := by
    rw [BitVec.toNat_ofNat, Nat.mod_eq_of_lt (by omega)]
    omega
  show [Value.int .i64 a, Value.int .u64 c] = [Value.int .i64 a, Value.int .u64 _]
  rw [e]
theorem rule_of {l : List Value} (h : FitsAll [.str, .int .i64, .int .u64] l) : ∃ x : RuleB, l = ruleC x ∧ x.1.size ≤ maxLen := by
  obtain ⟨v0, l, rfl, h0, h1⟩ := fits_cons h
  obtain ⟨t, rfl, ht⟩ := h0
  obtain ⟨x, rfl⟩ := lab_of h1
  exact ⟨(t, x), rfl, ht⟩
set_option maxRecDepth 100000 in
theorem tab_arg {H : Type} {enc : TypeId × Value → H} {W : World} {r : Reach} {base j : Nat} {v : Value} {d : DataW H} {ps : List MemPlace} {ts : List TypeId} {ds : List (DataW H)} (hv : Value.okWide Tryz.prog W r base 24 v)
    (h : DataW.Trod enc Tryz.prog W 0 (fun _ => true) true 24 v d ps) (hsz : (DataW.weightsEach Tryz.prog ts ds).all (· ≤ reachBytes) = true) (ht : ts[j]? = some 24) (hd : ds[j]? = some d) :
    ∃ (tv : Int) (A : Option Addr) (l : List RuleB) (c : Nat), v = tabV tv A l.length c ∧ Rd W [] A (ruls l) ∧ (∀ x ∈ l, x.1.size ≤ maxLen) ∧ l.length * 32 ≤ reachBytes ∧ (A = none → c = 0) := by
  obtain ⟨cs, n, xs, rfl, hs, hw, hf⟩ := arg_struct Tryz.underlying24 hv h hsz ht hd
  have h2 : Tryz.prog.cellsOf 24 = 2 := by kernel_rfl
  have h31 : Tryz.prog.cellsOf 3 = 1 := by kernel_rfl
  have h41 : Tryz.prog.cellsOf 22 = 1 := by kernel_rfl
  have h3 : Tryz.prog.cellsOf 48 = 3 := by kernel_rfl
  have hb : Tryz.prog.bytesOf 48 = 32 := by kernel_rfl
  rw [h2] at hs
  obtain ⟨y0, _, t0⟩ := hf 0 _ rfl
  obtain ⟨y1, e1, t1⟩ := hf 1 _ rfl
  obtain ⟨l⟩ := cs
  match l, hs with
  | [u0, u1], _ =>
    have t0' : DataW.trod enc Tryz.prog W 0 (fun _ => true) true n 3 ([u0, u1].take (Tryz.prog.cellsOf 3)) = some y0 := t0
    have t1' : DataW.trod enc Tryz.prog W 0 (fun _ => true) true n 22 ([u1].take (Tryz.prog.cellsOf 22)) = some y1 := t1
    rw [h31] at t0'
    rw [h41] at t1'
    obtain ⟨tv, e0, _⟩ := DataW.trod_int Tryz.underlying3 t0'
    obtain ⟨A, len, cap, e2, ht1⟩ := trod_slice1 Tryz.underlying22 t1'
    obtain rfl : u0 = .int .i64 tv := by simpa using e0
    obtain rfl : u1 = .slice A len cap := by simpa using e2
    obtain ⟨l, rfl, hr, hR, hy, _⟩ := arg_list (j := 1) (f := ruleC) (R := fun x : RuleB => x.1.size ≤ maxLen) Tryz.underlying22 (fun n cs y hh hl => by
      rw [h3] at hl
      exact rule_of (deep_fits 6 n 48 [.str, .int .i64, .int .u64] cs y (by kernel_rfl) hh (by simpa using hl))) ht1 hw rfl (by rw [List.getElem?_map, e1]; rfl)
    rw [hb] at hy
    exact ⟨tv, A, l, cap, rfl, hr, hR, hy, nil_cap Tryz.underlying22 ht1⟩
theorem tab_is {P : Program} {W : World} {l : List (String × DataW Unit)} {nm : String} {k : IntKind} {zs : List Int} {g : Nat} {t e : TypeId} {n : Nat}
    (hg : P.globalNamed nm = some g) (hty : (P.globals[g]?).map (·.type) = some t) (ht : P.underlying t = some (.array n e)) (he : P.underlying e = some (.int k)) (hce : P.cellsOf e = 1) (hct : P.cellsOf t = n)
    (h : laidMet P l W) (hm : (nm, (Lib.tabData k zs : DataW Unit)) ∈ l) : Lib.TabIs P W nm k zs := by
  obtain ⟨g', t', cs, fuel, p, h1, h2, h3, h4⟩ := Lib.laidMet.reads h hm
  obtain rfl := Option.some.inj (hg.symm.trans h1)
  obtain rfl := Option.some.inj (hty.symm.trans h2)
  have hc := Lib.cells_of_tab ht he hce hct h4
  unfold Lib.TabIs
  rw [h3]
  congr 1
  exact Array.toList_inj.1 hc
def t64 : List Int := [0, 1, 56, 2, 57, 49, 28, 3, 61, 58, 42, 50, 38, 29, 17, 4, 62, 47, 59, 36, 45, 43, 51, 22, 53, 39, 33, 30, 24, 18, 12, 5, 63, 55, 48, 27, 60, 41, 37, 16, 46, 35, 44, 21, 52, 32, 23, 11, 54, 26, 40, 15, 34, 20, 31, 10, 25, 14, 19, 9, 13, 8, 7, 6]
set_option maxRecDepth 100000 in
theorem tabs_ok {W : World} {l : List (String × DataW Unit)} (hL : laidMet Tryz.prog l W) (hP : ("internal/strconv.uint64pow10", (Lib.tabData .u64 Lib.pow10Tab : DataW Unit)) ∈ l) (h64 : ("math/bits.deBruijn64tab", (Lib.tabData .u8 t64 : DataW Unit)) ∈ l) : Tabs W where
  pow := tab_is (g := 0) (t := 126) (e := 32) (n := 20) (by kernel_rfl) (by kernel_rfl) (by kernel_rfl) (by kernel_rfl) (by kernel_rfl) (by kernel_rfl) hL hP
  tz := (tab_is (g := 3) (t := 137) (e := 5) (n := 64) (by kernel_rfl) (by kernel_rfl) (by kernel_rfl) (by kernel_rfl) (by kernel_rfl) (by kernel_rfl) hL h64).cell (by kernel_rfl) 15 (by decide)

theorem noHandles : (Rows.rulesFindRow.laid.all fun x => x.2.handleName?.isNone) = true := by kernel_rfl
set_option maxRecDepth 100000 in
theorem lifted (os : Os) (started : os.Started) (H : Type) (enc : TypeId × Value → H) :
    ReturnsInHanded {} Tryz.checked os 3 .any (fun w args => (Rows.rulesFindSpec.pre enc Tryz.prog Tryz.f3 Rows.rulesFindRow.domain false w args ∧ laidMetH Tryz.prog Rows.rulesFindRow.laid w) ∧ sizedMet enc Tryz.prog Tryz.f3 (OpenSpec.ofChange Rows.rulesFindSpec) false w args) (Rows.rulesFindSpec.post enc Tryz.prog Tryz.f3 false true false false) := by
  refine returnsInHanded_of_change_and (C := Tryz.checked) (X := fun w _ => laidMetH Tryz.prog Rows.rulesFindRow.laid w) (fun _ _ _ hh h => h.of_heap hh) own started (by kernel_rfl) Tryz.func3
    (ChangeSpec.witness_shaped (enc := enc) (C := Tryz.checked) (os := os) (X := fun w _ => laidMetH Tryz.prog Rows.rulesFindRow.laid w) false (World.laidAll Tryz.prog os Rows.rulesFindRow.laid) #[.agg #[.int .i64 0, .slice none 0 0], .string ByteArray.empty] 8 (World.laidAll_os _ _ _)
      (World.shaped_of_ZipB (by kernel_rfl) (by kernel_rfl)) (by kernel_rfl) (by kernel_rfl) (by kernel_rfl)
      (by rw [MakeChecks.laidMetH_plain _ _ _ noHandles]; exact laidMet_laidAll _ (by kernel_rfl) (by kernel_rfl))) ?_
  intro W base args ds gs before hval0 hW hcnd hsz0 hL _
  rw [MakeChecks.laidMetH_plain _ _ _ noHandles] at hL
  have hsz : (DataW.weightsEach Tryz.prog (Tryz.f3.params.toList ++ Rows.rulesFindSpec.plain.varTypes Tryz.prog) (ds ++ gs)).all (· ≤ reachBytes) = true := hsz0
  have hval : ∀ (j : Nat) t v, Tryz.f3.params[j]? = some t → args[j]? = some v → Value.okWide Tryz.prog W .any base t v := hval0
  have hW' := hW
  obtain ⟨p, q, hA0, hV, rfl, hfz, hnd⟩ := hW
  have hA : DataW.TrodAll enc Tryz.prog W 0 (fun _ => true) true Tryz.f3.params.toList args.toList ds p := hA0
  rw [Tryz.params3] at hA hval hsz
  have hAll := hA
  obtain ⟨v0, vs0, d0, ds0, p0, q0, hargs, rfl, rfl, h0, r0⟩ := trodAll_cons hA
  obtain ⟨v1, vs1, d1, ds1, p1, q1, rfl, rfl, rfl, h1, r1⟩ := trodAll_cons r0
  obtain ⟨rfl, rfl, rfl⟩ := trodAll_nil r1
  obtain rfl : args = #[v0, v1] := by cases args; simp_all
  obtain ⟨rfl, rfl⟩ := trodVars_none hV
  obtain ⟨tv0, A0, l0, c0, rfl, hr0, hR0, hy0, n0⟩ := tab_arg (j := 0) (hval 0 24 v0 rfl rfl) h0 hsz rfl rfl
  simp only [reachBytes] at hy0
  obtain ⟨a1, rfl, rfl, rfl, y1⟩ := open_string Tryz.underlying9 (hval 1 9 v1 rfl rfl) h1
  have w1 : a1.size ≤ 140737488351232 := by
    have z := sized_string hsz (j := 1) (t := 9) rfl rfl
    rw [Array.length_toList] at z
    exact z
  clear hA0 hval0 hsz0 hsz hval
  have bound : (9223372036854775807 : Nat) = maxLen := by decide
  refine (FC.below (rulesFind_fc (tabs_ok hL (by simp [Rows.rulesFindRow]; rfl) (by simp [Rows.rulesFindRow]; rfl)) hr0 hR0 (by omega) (by omega))).mono fun e W' ⟨he, bel⟩ => ?_
  subst he
  exact ⟨_, rfl, _, _, _, [], _, [], hW', trodAll_mk1 (shut_bool Tryz.underlying4 _), trodAll_below laidOut bel (by kernel_rfl) hAll, rfl, bel.frame _, fun h => by cases h⟩
theorem over : Rows.rulesFindRow.holds Tryz.pinned (OpenSpec.ofChange Rows.rulesFindSpec) :=
  OpenClaim.holds_of_wide 3 Tryz.f3 rfl rfl rfl rfl rfl rfl rfl ⟨rfl, rfl, rfl, rfl, rfl⟩ rfl rfl rfl rfl rfl (by kernel_rfl) Tryz.func3 (by kernel_rfl)
    (of_decide_eq_true (by kernel_rfl)) (by unfold Func.isWrapper; first | (rw [if_pos (by decide +kernel)]; kernel_rfl) | (rw [if_neg (by decide +kernel)]; exact ⟨rfl, rfl⟩))
    (fun os started H enc _ => lifted os started H enc)
end Go.Proofs.YtbidjnjbiibdeaaGreatDoor.rulesFind
namespace Go.Proofs.YtbidjnjbiibdeaaGreatDoor
/-- The tied card. -/
theorem rulesFind_holds : Rows.RulesFindCardSaid :=
  Claim7.holds_tied_plain_at .later [] [.data, .data, .data, .data, .pinned] true (true, "248e6b223a7263122f827a1e17032f63253117c18b5b9eac6511dcf141aaacad") false
    rulesFind.over (fun _ h => by cases h) (by kernel_rfl) (fun _ h => by cases h) rulesFind_row_tie rfl ⟨rfl, rfl⟩ (by kernel_rfl) rfl
    (fun f fn hf hfn => by
      obtain rfl : f = 3 := Option.some.inj ((show Tryz.prog.funcNamed "redwax/redwaxlaw07.RulesFind" = some 3 by kernel_rfl).symm.trans hf) |>.symm
      obtain rfl : fn = Tryz.f3 := (Option.some.inj (Tryz.func3.symm.trans hfn)).symm
      exact ⟨by kernel_rfl, fun j t ht => by
        rw [Tryz.params3] at ht
        have hm := Array.mem_of_getElem? ht
        simp only [List.mem_toArray, List.mem_cons, List.not_mem_nil, or_false] at hm
        rcases hm with rfl | rfl
        · exact (show Tryz.prog.wantsStandIn 24 = false by kernel_rfl)
        · exact (show Tryz.prog.wantsStandIn 9 = false by kernel_rfl)
        ⟩)
    (by kernel_rfl)
end Go.Proofs.YtbidjnjbiibdeaaGreatDoor
