/- Walks. -/
import Derived.Test.YtbejcoeajlhmcaaPart6
set_option linter.unusedVariables false
set_option linter.unusedSimpArgs false
set_option linter.unusedSectionVars false

namespace Go.Proofs.Gr
open Go.SL Go.RowKit Go.Proofs Go.GP
set_option maxHeartbeats 1000000
open Go.MyPlain
def mid : ByteArray := ⟨#[61, 61, 61, 61, 61, 61, 61]⟩
def wAC : List ByteArray := [str1 97, str1 99]
def wX : List ByteArray := [str1 120]
def wAM : List ByteArray := [str1 97, mid]
def wE : List ByteArray := List.replicate 257 ⟨#[]⟩
theorem errAC : errH I17 wAC = 0 := by decide +kernel
theorem errX : errH I17 wX = 0 := by decide +kernel
theorem errAM : errH I17 wAM = 4 := by decide +kernel
theorem errE : errH I17 wE = 3 := by decide +kernel
theorem errN : errH [] wX = 0 := by decide +kernel
theorem runsAC : runsH I17 wAC = [⟨1, 2, []⟩] := by kernel_rfl
theorem keptAC : keptH I17 wAC = [true, false, true] := by decide +kernel
theorem runsX : runsH I17 wX = [⟨0, 3, [str1 120]⟩] := by kernel_rfl
theorem keptX : keptH I17 wX = [false, false, false] := by decide +kernel
theorem runsN : (runsH [] wX).length = 1 := by decide +kernel
def yAC : HunkP := ⟨v17 1, v17 3, [], [v17 2]⟩
def yX : HunkP := ⟨rootV, endV, [str1 120], sortL [v17 1, v17 2, v17 3]⟩
theorem sort1 (v : Vtx) : sortL [v] = [v] := by simp [sortL]
theorem hunksAC : hunksP I17 wAC = [yAC] := by
 unfold hunksP
 rw [if_pos errAC, runsAC, keptAC]
 show [hunkP I17 [true, false, true] ⟨1, 2, []⟩] = _
 unfold hunkP yAC
 have h1 : upK I17 [true, false, true] 1 = v17 1 := by decide +kernel
 have h2 : downK I17 [true, false, true] 2 = v17 3 := by decide +kernel
 have h3 : goneK I17 ⟨1, 2, []⟩ = [v17 2] := rfl
 simp only [h1, h2, h3, sort1]
theorem hunksX : hunksP I17 wX = [yX] := by
 unfold hunksP
 rw [if_pos errX, runsX, keptX]
 show [hunkP I17 [false, false, false] ⟨0, 3, [str1 120]⟩] = _
 unfold hunkP yX
 have h1 : upK I17 [false, false, false] 0 = rootV := by decide +kernel
 have h2 : downK I17 [false, false, false] 3 = endV := by decide +kernel
 have h3 : goneK I17 ⟨0, 3, [str1 120]⟩ = [v17 1, v17 2, v17 3] := rfl
 simp only [h1, h2, h3]
theorem hunksN : (hunksP [] wX).length = 1 := by
 unfold hunksP
 rw [if_pos errN, List.length_map]; exact runsN
theorem goneX : yX.gone.length = 3 := by show (sortL _).length = 3; rw [sortL_len]; rfl
theorem strsE : strs wE = List.replicate 257 (.string ⟨#[]⟩) := by unfold strs wE; rw [List.map_replicate]
section
variable {n : Nat} {T : TT} {w0 : World} {S F : SS}
theorem given_frame : OW Try.prog w0 n (.call 45 []) T (F ++ S) (fun v S' => ∃ S1, (F ++ S1).Perm S' /\ ∃ m sg, v = m.ptr /\ S1 = GS m ++ (sg :: S) /\ GG w0 [] m [k17]) :=
 (OW.call rfl given_fc).mono (by
  rintro v S' ⟨m, sg, rfl, rfl, hg⟩
  refine ⟨GS m ++ (sg :: S), ?_, m, sg, rfl, rfl, hg⟩
  have := List.perm_append_comm_assoc F (GS m ++ [sg]) S
  simpa only [List.append_assoc, List.singleton_append] using this)
theorem hunks_frame {m : GrM} {s : Seg} {R : SS} {cw : Nat} {w : List ByteArray} {W : Option Addr} {x y z : PV} (hx : x.val T = some (vtxV v0)) (hy : y.val T = some m.ptr) (hz : z.val T = some (.slice W w.length cw)) (hg : GG w0 [] m [k17]) (hw : ∀ R, Rd w0 (s :: R) W (strs w)) (hwc : w.length <= cw) (hwl : w.length <= 1000) (hz2 : ∀ t ∈ w, t.size <= 1000000) :
  OW Try.prog w0 n (.call 44 [x, y, z]) T (F ++ (s :: (GS m ++ R))) (fun v S' => ∃ S1, (F ++ S1).Perm S' /\ ∃ va hs sg jk, v = .tuple #[va, .int .i64 (errH I17 w)] /\ S1 = sg :: jk :: s :: (GS m ++ R) /\ SlV 89 105 va hs.length (chgS hs) sg /\ hs.map ChgM.pl = hunksP I17 w) := by
 have hp : (F ++ (s :: (GS m ++ R))).Perm (GS m ++ (s :: (F ++ R))) := by
  have h1 := List.perm_append_comm_assoc F (s :: GS m) R
  have h2 : (s :: (GS m ++ (F ++ R))).Perm (GS m ++ (s :: (F ++ R))) := List.perm_middle.symm
  exact (by simpa only [List.cons_append] using h1 : (F ++ (s :: (GS m ++ R))).Perm (s :: (GS m ++ (F ++ R)))).trans h2
 refine (OW.call (by simp only [valsP, hx, hy, hz]) (FC.perm hp (hunks_fc (S := GS m ++ (s :: (F ++ R))) (file := v0) (items17_fc hg) (by decide) sol17 ((hw (F ++ R)).mono (Over.appR (fun q h => h))) hwc (by omega) (fun t ht => by have := hz2 t ht; omega)))).mono ?_
 rintro _ _ ⟨va, hs, sg, jk, rfl, rfl, hsh, -, hpl⟩
 refine ⟨sg :: jk :: s :: (GS m ++ R), ?_, va, hs, sg, jk, rfl, rfl, hsh, hpl⟩
 have h3 := List.perm_append_comm_assoc F [sg, jk] (s :: (GS m ++ R))
 exact (by simpa only [List.cons_append, List.nil_append] using h3 : (F ++ (sg :: jk :: s :: (GS m ++ R))).Perm (sg :: jk :: (F ++ (s :: (GS m ++ R))))).trans ((hp.cons jk).cons sg)
end
section
variable {P : Program} {w0 : World} {n : Nat} {ez : PI -> FZ} {Ss : SS -> Prop} {K : TT -> SS -> Prop} {T : TT} {S : SS}
theorem GL.freshM {t E bytes m : Nat} {z : Value} {l c : PV} {k k' : IntKind} {d : Option Nat} {g : Option (Nat × Bool)} {r : List (Nat × PI)} (hg : gOk T g) (hl : l.val T = some (.int k (m : Int))) (hc : c.val T = some (.int k' (m : Int))) (hb : bytes * m <= 281474976710656) (h63 : m <= maxLen) (hz : z.cells = #[z])
  (he : ez ⟨d, g, .mkS t E 1 bytes z l c⟩ = (E, List.replicate m z, fun r => .slice (some ⟨r, 0, none⟩) m m)) (k : ∀ q, GL P w0 n ez Ss true K r (put d (.slice (some ⟨q, 0, none⟩) m m) T) ([(q, .cells (List.replicate m z) E m)] :: S)) : GL P w0 n ez Ss true K ((3, ⟨d, g, .mkS t E 1 bytes z l c⟩) :: r) T S := by
 refine .inr ⟨hg, .inr (.inr (.inr ⟨rfl, rfl, fun S' => ?_, ?_⟩))⟩
 ·simp only
  rw [he]
  refine (OW.mkS_full hl hc hb h63).mono ?_
  rintro v _ ⟨r, rfl, rfl⟩
  refine ⟨r, rfl, ?_⟩
  rw [made1 z hz, Nat.mul_one]
  show _ = [(r, AO.cells (List.replicate m z) E (List.replicate m z).length)] :: S'
  rw [List.length_replicate]
 simp only
 rw [he]
 intro q
 show GL P w0 n ez Ss true K r (put d (.slice (some ⟨q, 0, none⟩) m m) T) ([(q, .cells (List.replicate m z) E (List.replicate m z).length)] :: S)
 rw [List.length_replicate]
 exact k q
end
theorem changeKnown_fc {w0 : World} {S : SS} : FC Try.prog w0 11 [] S (fun v S' => v = .bool true /\ S' = S) := by
 refine FC.ofD Try.known11 (by simp) ?_
 unfold Try.pc11
 simp only [argT]
 refine PW.seqOps (OL.dp rfl (OL.nil (PW.keep (T' := []) trivial (PW.seqOps (OL.cons trivial (OW.bsl (cs := strs wAC) rfl) ?_)))))
 rintro _ _ ⟨r9, rfl, rfl⟩
 change OL _ _ _ _ _ ([(r9, .cells (strs wAC) 9 2)] :: S) _
 refine OL.call trivial rfl (one_fc (w := wAC) (y := yAC) (Rd.own (E := 9) (tot := 2) zM0) (show 2 <= 2 by decide) (show 2 <= 1000 by decide) (by decide +kernel) errAC hunksAC) ?_
 rintro _ _ ⟨Ga, cga, Aa, ca, ja, rfl, rfl, -, hga⟩
 obtain ⟨ga, rfl⟩ := vtxs_some hga (show 0 < 1 by decide)
 refine OL.cons trivial (OW.bsl (cs := strs wX) rfl) ?_
 rintro _ _ ⟨r11, rfl, rfl⟩
 change OL _ _ _ _ _ ([(r11, .cells (strs wX) 9 1)] :: _) _
 refine OL.call trivial rfl (one_fc (w := wX) (y := yX) (Rd.own (E := 9) (tot := 1) zM0) (show 1 <= 1 by decide) (show 1 <= 1000 by decide) (by decide +kernel) errX hunksX) ?_
 rintro _ _ ⟨Gx, cgx, Ax, cx, jx, rfl, rfl, -, -⟩
 rw [goneX]
 refine OL.cons trivial OW.al ?_
 rintro _ _ ⟨r1, rfl, rfl⟩
 change OL _ _ _ _ _ ([(r1, .cells zChg 89 105)] :: _) _
 refine OL.cons trivial OW.al ?_
 rintro _ _ ⟨r2, rfl, rfl⟩
 change OL _ _ _ _ _ ([(r2, .cells zChg 89 105)] :: _) _
 refine OL.cons trivial (chg_stk (k := 1) (z := zChg) (f := v0) (u := v17 1) (d := v17 3) (A := some ga) (a := 1) (c := cga) (B := Aa) (b := 0) (e := ca) rfl rfl rfl zChg_len) ?_
 rintro _ _ rfl
 refine OL.cons trivial (chg_stk (k := 0) (z := zChg) (f := v0) (u := rootV) (d := endV) (A := Gx) (a := 3) (c := cgx) (B := Ax) (b := 1) (e := cx) rfl rfl rfl zChg_len) ?_
 rintro _ _ rfl
 change OL _ _ _ _ _ ([(r2, .cells (chgC v0 rootV endV (.slice Gx 3 cgx) (.slice Ax 1 cx)) 89 105)] :: [(r1, .cells (chgC v0 (v17 1) (v17 3) (.slice (some ga) 1 cga) (.slice Aa 0 ca)) 89 105)] :: jx :: [(r11, .cells (strs wX) 9 1)] :: ja :: [(r9, .cells (strs wAC) 9 2)] :: S) _
 refine OL.nil (PW.k2 1 2 rfl (PW.seqOps (OL.det trivial (.build (cs := vtxL v0) rfl) (OL.call trivial rfl (given_fc) ?_))))
 rintro _ _ ⟨m, sgl, rfl, rfl, hg⟩
 refine OL.cons trivial (OW.bsl (cs := strs wAM) rfl) ?_
 rintro _ _ ⟨r16, rfl, rfl⟩
 refine OL.call trivial rfl (FC.subS gs_a (hunks_fc (W := some ⟨r16, 0, none⟩) (cw := 2) (w := wAM) (file := v0) (S := GS m ++ ([(r16, .cells (strs wAM) 9 2)] :: sgl :: [(r2, .cells (chgC v0 rootV endV (.slice Gx 3 cgx) (.slice Ax 1 cx)) 89 105)] :: [(r1, .cells (chgC v0 (v17 1) (v17 3) (.slice (some ga) 1 cga) (.slice Aa 0 ca)) 89 105)] :: jx :: [(r11, .cells (strs wX) 9 1)] :: ja :: [(r9, .cells (strs wAC) 9 2)] :: S)) (items17_fc hg) (by decide) sol17 (Rd.own (E := 9) (tot := 2) (by simp)) (show 2 <= 2 by decide) (show 2 <= 100000 by decide) (by decide +kernel))) ?_
 rintro v17 _ ⟨va, hs, s1, j1, rfl, rfl, -, -, -⟩
 rw [errAM]
 refine OL.dp rfl (OL.dp rfl (OL.dp rfl (OL.dp rfl ?_)))
 refine OL.subS (S' := [(r2, .cells (chgC v0 rootV endV (.slice Gx 3 cgx) (.slice Ax 1 cx)) 89 105)] :: [(r1, .cells (chgC v0 (v17 1) (v17 3) (.slice (some ga) 1 cga) (.slice Aa 0 ca)) 89 105)] :: jx :: [(r11, .cells (strs wX) 9 1)] :: ja :: [(r9, .cells (strs wAC) 9 2)] :: S) (Sub.sel [] 8 (by decide) (s1 :: j1 :: (GS m ++ ([(r16, .cells (strs wAM) 9 2)] :: sgl :: [(r2, .cells (chgC v0 rootV endV (.slice Gx 3 cgx) (.slice Ax 1 cx)) 89 105)] :: [(r1, .cells (chgC v0 (v17 1) (v17 3) (.slice (some ga) 1 cga) (.slice Aa 0 ca)) 89 105)] :: jx :: [(r11, .cells (strs wX) 9 1)] :: ja :: [(r9, .cells (strs wAC) 9 2)] :: S)))) ?_
 refine OL.dp rfl (OL.nil (PW.k3 1 2 4 rfl ?_))
 refine PW.seq fun K1 hK1 => ?_
 refine PW.quietGz (fun c => if c.d = some 23 then (9, List.replicate 257 (.string ⟨#[]⟩), fun r => .slice (some ⟨r, 0, none⟩) 257 257) else ezOf c) (Ss := Over ([(r2, .cells (chgC v0 rootV endV (.slice Gx 3 cgx) (.slice Ax 1 cx)) 89 105)] :: [(r1, .cells (chgC v0 (v17 1) (v17 3) (.slice (some ga) 1 cga) (.slice Aa 0 ca)) 89 105)] :: jx :: [(r11, .cells (strs wX) 9 1)] :: ja :: [(r9, .cells (strs wAC) 9 2)] :: S)) (fr := true) [(0, 0), (1, 2), (2, 3), (3, 2), (4, 0), (5, 0), (6, 0), (7, 0)] Try.mixed (by decide +kernel) (Over.refl _) (fun _ _ _ h => h.cons) ?_
 refine GL.det trivial (fun Sx hSx => Yields.build (cs := vtxL v0) rfl) ?_
 refine GL.loF trivial fun F => OW.mono (given_frame) ?_
 rintro v22 S22 ⟨S1, hperm, m3, sg3, rfl, rfl, hg3⟩
 refine ⟨_, hperm, Over.appR (Over.refl _).cons, ?_⟩
 refine GL.freshM trivial (m := 257) (z := .string ⟨#[]⟩) rfl rfl (by decide) (by decide) rfl rfl fun r23 => ?_
 refine GL.loF trivial fun F => OW.mono (hunks_frame (m := m3) (R := sg3 :: [(r2, .cells (chgC v0 rootV endV (.slice Gx 3 cgx) (.slice Ax 1 cx)) 89 105)] :: [(r1, .cells (chgC v0 (v17 1) (v17 3) (.slice (some ga) 1 cga) (.slice Aa 0 ca)) 89 105)] :: jx :: [(r11, .cells (strs wX) 9 1)] :: ja :: [(r9, .cells (strs wAC) 9 2)] :: S) (w := wE) (cw := 257) (W := some ⟨r23, 0, none⟩) rfl rfl (by rw [show wE.length = 257 from List.length_replicate]; rfl) hg3 (fun R => by rw [strsE]; exact Rd.own (E := 9) (tot := 257) zM0) (by rw [show wE.length = 257 from List.length_replicate]; exact Nat.le_refl _) (by rw [show wE.length = 257 from List.length_replicate]; decide) (fun t ht => by rw [(List.mem_replicate.1 ht).2]; decide)) ?_
 rintro v24 S24 ⟨S1, hperm, va3, hs3, sh3, jh3, rfl, rfl, -, -⟩
 rw [errE]
 refine ⟨_, hperm, (Over.appR (Over.refl _).cons).cons.cons.cons, ?_⟩
 refine GL.dp rfl ?_
 refine GL.dp rfl ?_
 refine GL.dp rfl ?_
 refine GL.dp rfl ?_
 change OL _ _ _ [_] _ _ _
 refine OL.subS (S' := [(r2, .cells (chgC v0 rootV endV (.slice Gx 3 cgx) (.slice Ax 1 cx)) 89 105)] :: [(r1, .cells (chgC v0 (v17 1) (v17 3) (.slice (some ga) 1 cga) (.slice Aa 0 ca)) 89 105)] :: jx :: [(r11, .cells (strs wX) 9 1)] :: ja :: [(r9, .cells (strs wAC) 9 2)] :: S) (Sub.sel [] 8 (by decide) (sh3 :: jh3 :: _ :: (GS m3 ++ (sg3 :: [(r2, .cells (chgC v0 rootV endV (.slice Gx 3 cgx) (.slice Ax 1 cx)) 89 105)] :: [(r1, .cells (chgC v0 (v17 1) (v17 3) (.slice (some ga) 1 cga) (.slice Aa 0 ca)) 89 105)] :: jx :: [(r11, .cells (strs wX) 9 1)] :: ja :: [(r9, .cells (strs wAC) 9 2)] :: S)))) ?_
 refine OL.dp rfl (OL.nil ?_)
 refine hK1 _ _ ?_
 refine PW.k4 1 2 4 6 rfl (PW.seqOps (OL.det trivial (.build (cs := vtxL v0) rfl) (OL.cons trivial (OW.bsl (cs := strs wX) rfl) ?_)))
 rintro _ _ ⟨r29, rfl, rfl⟩
 refine OL.call trivial rfl (hunks_fc (W := some ⟨r29, 0, none⟩) (cw := 1) (w := wX) (file := v0) (I := []) itemsFC_nil (by decide) (fun x hx => by cases hx) (Rd.own (E := 9) (tot := 1) zM0) (show 1 <= 1 by decide) (show 1 <= 100000 by decide) (by decide +kernel)) ?_
 rintro v30 _ ⟨va4, hs4, s4, j4, rfl, rfl, hsh4, -, hpl4⟩
 rw [errN]
 have hl4 : hs4.length = 1 := by have := congrArg List.length hpl4; rwa [List.length_map, hunksN] at this
 obtain ⟨A4, c4, rfl, -, -, -⟩ := slv_rdL (w0 := w0) hsh4
 rw [hl4]
 refine OL.dp rfl (OL.dp rfl (OL.dp rfl (OL.dp rfl ?_)))
 refine OL.subS (S' := [(r2, .cells (chgC v0 rootV endV (.slice Gx 3 cgx) (.slice Ax 1 cx)) 89 105)] :: [(r1, .cells (chgC v0 (v17 1) (v17 3) (.slice (some ga) 1 cga) (.slice Aa 0 ca)) 89 105)] :: jx :: [(r11, .cells (strs wX) 9 1)] :: ja :: [(r9, .cells (strs wAC) 9 2)] :: S) (Sub.sel [] 3 (by decide) (s4 :: j4 :: _ :: [(r2, .cells (chgC v0 rootV endV (.slice Gx 3 cgx) (.slice Ax 1 cx)) 89 105)] :: [(r1, .cells (chgC v0 (v17 1) (v17 3) (.slice (some ga) 1 cga) (.slice Aa 0 ca)) 89 105)] :: jx :: [(r11, .cells (strs wX) 9 1)] :: ja :: [(r9, .cells (strs wAC) 9 2)] :: S)) ?_
 refine OL.dp rfl (OL.nil (PW.k6 1 2 4 6 7 8 rfl ?_))
 refine PW.seq fun K2 hK2 => ?_
 refine PW.quietK Try.mixed (QK.call trivial rfl (awake_fc) (QK.dp rfl (QK.det rfl (.pure rfl) (QK.det rfl (.ldA rfl (vtxL_len _) (cell_up (f := v0) (d := v17 3) (G := .slice (some ga) 1 cga) (L := .slice Aa 0 ca) (E := 89) (tot := 105) zM1)) (QK.call rfl rfl (line17_fc) ?_)))))
 refine QK.det rfl (.to (v' := .bool true) (Yields.eqD (neg := false) rfl rfl (eqL_vtx _ _)) (congrArg Value.bool (by decide +kernel))) ?_
 refine QK.dp rfl (QK.dp rfl (QK.det rfl (.pure rfl) (QK.det rfl (.ldA rfl (vtxL_len _) (cell_down (f := v0) (u := v17 1) (G := .slice (some ga) 1 cga) (L := .slice Aa 0 ca) (E := 89) (tot := 105) zM1)) (QK.call rfl rfl (line17_fc) ?_))))
 refine QK.det rfl (.to (v' := .bool true) (Yields.eqD (neg := false) rfl rfl (eqL_vtx _ _)) (congrArg Value.bool (by decide +kernel))) ?_
 refine QK.dp rfl (QK.dp rfl (QK.det rfl (.pure rfl) (QK.det rfl (.ld rfl (own_at (j := 103) (c := chgC v0 (v17 1) (v17 3) (.slice (some ga) 1 cga) (.slice Aa 0 ca)) (E := 89) (tot := 105) zM1 (chgC_gone ..).1)) (QK.det rfl (.pure rfl) (QK.det rfl (.to (v' := .bool true) (Yields.pure rfl) rfl) (QK.dp rfl (QK.dp rfl (QK.det rfl (.pure rfl) (QK.det rfl (.ld rfl (own_at (j := 103) (c := chgC v0 (v17 1) (v17 3) (.slice (some ga) 1 cga) (.slice Aa 0 ca)) (E := 89) (tot := 105) zM1 (chgC_gone ..).1)) (QK.det rfl (.ixN (j := 0) rfl rfl rfl Nat.zero_lt_one) ?_))))))))))
 refine QK.det rfl (.ldA rfl (vtxL_len _) (vtx_at (l := yAC.gone) (k := 0) (rd_mem hga (by simp)) (show 0 < 1 by decide))) ?_
 refine QK.call rfl rfl (line17_fc) (QK.nil ?_)
 change OL _ _ _ [_, _, _, _, _, _, _, _, _, _, _, _, _, _, _, _, _, _, _, _, _, _, _, _, _, _, _, _, _, _, _, _, _, _, _, _, _, _, _, _, _, _, _, _, _, _, _, _, _, _] _ _ _
 refine OL.det rfl (.to (v' := .bool true) (Yields.eqD (neg := false) rfl rfl (eqL_vtx _ _)) (congrArg Value.bool (by decide +kernel))) ?_
 refine OL.dp rfl (OL.dp rfl (OL.det rfl (.pure rfl) (OL.det rfl (.ld rfl (own_at (j := 104) (c := chgC v0 (v17 1) (v17 3) (.slice (some ga) 1 cga) (.slice Aa 0 ca)) (E := 89) (tot := 105) zM1 (chgC_gone ..).2)) (OL.det rfl (.pure rfl) (OL.det rfl (.to (v' := .bool true) (Yields.pure rfl) rfl) (OL.dp rfl (OL.dp rfl (OL.det rfl (.pure rfl) (OL.det rfl (.pure rfl) (OL.det rfl (.ld rfl (cell_up (f := v0) (d := endV) (G := .slice Gx 3 cgx) (L := .slice Ax 1 cx) (E := 89) (tot := 105) zM0 32 _ rfl)) (OL.det rfl (.to (v' := .bool true) (Yields.pure rfl) rfl) ?_)))))))))))
 refine OL.dp rfl (OL.dp rfl (OL.det rfl (.pure rfl) (OL.det rfl (.pure rfl) (OL.det rfl (.ld rfl (cell_down (f := v0) (u := rootV) (G := .slice Gx 3 cgx) (L := .slice Ax 1 cx) (E := 89) (tot := 105) zM0 32 _ rfl)) (OL.det rfl (.to (v' := .bool true) (Yields.pure rfl) rfl) (OL.dp rfl (OL.dp rfl (OL.det rfl (.pure rfl) (OL.det rfl (.ld rfl (own_at (j := 103) (c := chgC v0 rootV endV (.slice Gx 3 cgx) (.slice Ax 1 cx)) (E := 89) (tot := 105) zM0 (chgC_gone ..).1)) (OL.det rfl (.pure rfl) (OL.det rfl (.to (v' := .bool true) (Yields.pure rfl) rfl) ?_)))))))))))
 refine OL.dp rfl (OL.dp rfl (OL.det rfl (.pure rfl) (OL.det rfl (.ld rfl (own_at (j := 104) (c := chgC v0 rootV endV (.slice Gx 3 cgx) (.slice Ax 1 cx)) (E := 89) (tot := 105) zM0 (chgC_gone ..).2)) (OL.det rfl (.pure rfl) (OL.det rfl (.to (v' := .bool true) (Yields.pure rfl) rfl) (OL.dp rfl (OL.dp rfl (OL.det rfl (.pure rfl) (OL.det rfl (.to (v' := .bool true) (Yields.pure rfl) rfl) (OL.dp rfl (OL.dp rfl ?_)))))))))))
 refine OL.det rfl (.pure rfl) (OL.det rfl (.to (v' := .bool true) (Yields.pure rfl) rfl) (OL.dp rfl (OL.dp rfl (OL.det rfl (.pure rfl) (OL.det rfl (.to (v' := .bool true) (Yields.pure rfl) rfl) (OL.dp rfl (OL.dp rfl (OL.det rfl (.pure rfl) (OL.det rfl (.pure rfl) (OL.det rfl (.to (v' := .bool true) (Yields.pure rfl) rfl) (OL.dp rfl ?_)))))))))))
 refine OL.dp rfl (OL.nil ?_)
 refine hK2 _ _ ?_
 refine PW.k1 0 rfl (PW.ret ?_)
 change (Exit.ret = Exit.normal ∨ Exit.ret = Exit.ret) /\ ∃ v, resV _ _ = some v /\ _
 exact ⟨.inr rfl, _, rfl, _, Sub.sel [] 6 (by decide) _, rfl, rfl⟩
theorem changeKnownB_fc {w0 : World} {S : SS} : FC Try.prog w0 11 [] S (fun v _ => v = .bool true) := FC.mono changeKnown_fc fun _ _ h => h.1
end Go.Proofs.Gr
