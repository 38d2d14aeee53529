/- Walks. -/
import Derived.Test.YtbejcoeajlhmcaaGreatPart7
set_option linter.unusedVariables false
set_option linter.unusedSimpArgs false
set_option linter.unusedSectionVars false

namespace Go.Proofs.Gr
open Go.SL Go.RowKit Go.Proofs Go.GP
set_option maxHeartbeats 1000000
open Go.MyPlain
def secP (x : RunM) : Sec := ⟨x.fr, x.to, x.lines⟩
theorem secsT_free {n fr : Nat} {I : List ItemP} {s : ByteArray} {w cur : List ByteArray} (h : recAt I fr (s :: w) = none) : secsT n (toks I fr (s :: w)) fr cur = secsT n (toks I fr w) fr (cur ++ [s]) := by
 rw [toks_free h]; rfl
theorem secsT_blk {n fr k : Nat} {I : List ItemP} {w cur : List ByteArray} (hw : 0 < w.length) (h : recAt I fr w = some k) : secsT n (toks I fr w) fr cur = ⟨fr, k, cur⟩ :: secsT n (toks I (k + 1) (w.drop (oneT I[k]!).length)) (k + 1) [] := by
 rw [toks_blk hw h]; rfl
theorem keepT_free {fr : Nat} {K : List Bool} {I : List ItemP} {s : ByteArray} {w : List ByteArray} (h : recAt I fr (s :: w) = none) : keepT K (toks I fr (s :: w)) = keepT K (toks I fr w) := by
 rw [toks_free h]; rfl
theorem keepT_blk {fr k : Nat} {K : List Bool} {I : List ItemP} {w : List ByteArray} (hw : 0 < w.length) (h : recAt I fr w = some k) : keepT K (toks I fr w) = keepT (K.set k true) (toks I (k + 1) (w.drop (oneT I[k]!).length)) := by
 rw [toks_blk hw h]; rfl
theorem strs_drop (l : List ByteArray) (i : Nat) : strs (l.drop i) = (strs l).drop i := by unfold strs; rw [List.map_drop]
theorem cutW {A : Option Addr} {cap i : Nat} {l : List ByteArray} (hi : i <= l.length) (hl : l.length <= cap) :
  ∃ A' c', cutV A cap 1 i l.length = .slice A' (l.drop i).length c' /\ (l.drop i).length <= c' /\ ∀ (w0 : World) (S : SS), Rd w0 S A (strs l) -> Rd w0 S A' (strs (l.drop i)) := by
 have hlen : (l.drop i).length = l.length - i := List.length_drop
 unfold cutV
 rw [<- hlen]
 refine ⟨_, _, rfl, by omega, fun w0 S h => ?_⟩
 split
 ·have : l.drop i = [] := List.eq_nil_of_length_eq_zero (by omega)
  rw [this]
  exact Rd.nil
 intro q v hq
 rw [strs_drop, List.getElem?_drop] at hq
 obtain ⟨a, rfl, hc⟩ := h _ _ hq
 exact ⟨a.add (i * 1), rfl, by rw [addr_add_add, Nat.mul_one]; exact hc⟩
theorem sec_st {w0 : World} {S : SS} {P : Program} {n r : Nat} {T : TT} {x v : PV} {s : Sec} {A : Option Addr} {c : Nat} {z : List Value} (hx : x.val T = some (.pointer (some ⟨r, 0, none⟩))) (hv : v.val T = some (secV s A c)) (hz : z.length = 3) :
  OW P w0 n (.st 3 x v) T ([(r, .cells z 81 3)] :: S) (fun _ S' => S' = sseg r s A c :: S) := by
 refine (OW.st (k := 0) (c := z) (u := secV s A c) hx hv rfl (show (secV s A c).cells.size = 3 from rfl) (by omega) rfl).mono ?_
 rintro _ _ rfl
 rw [show (secV s A c).cells.toList = secC s A c from rfl, setAll (by rw [hz]; rfl)]
 rfl
theorem optI_neg {o : Option Nat} (h : optI o < 0) : o = none := by
 cases o with
 | none => rfl
 | some k => exact absurd h (show ¬ ((k : Int) < 0) by omega)
theorem optI_pos {o : Option Nat} (h : ¬ optI o < 0) : ∃ k, o = some k := by
 cases o with
 | none => exact absurd (show (-1 : Int) < 0 by decide) h
 | some k => exact ⟨k, rfl⟩
theorem cons_of_pos {α : Type} : ∀ {l : List α} (h : 0 < l.length), l = l[0] :: l.drop 1
 | [], h => by cases h
 | _ :: _, _ => rfl
theorem sections_fc {w0 : World} {S : SS} {c : ChM} {K : List Bool} {W : Option Addr} {cw : Nat} {w : List ByteArray} (h : ChOK w0 S c) (hC : Over [cseg c] S) (hk : K.length = c.its.length) (hw : Rd w0 S W (strs w)) (hwc : w.length <= cw) (hwl : w.length <= 100000) :
  FC Tryz.prog w0 27 [c.ptr, .slice W w.length cw] (kseg c K :: S) (fun v S' => ∃ l sg junk, S' = sg :: junk :: kseg c (keepT K (toks c.I 0 w)) :: S /\ SlV 81 3 v l.length (runsS l) sg /\ (∀ x ∈ l, RunOk w0 junk x) /\ l.map secP = secs c.I w /\ l.length <= 100001) := by
 have hn := h.n
 have hIl := c.I_len
 have htn := h.tlen
 refine FC.ofD Tryz.known27 (by simp) ?_
 unfold Tryz.pc27
 simp only [argT]
 refine PW.seqOps (OL.dp rfl (OL.nil (PW.k3 0 1 4 rfl (PW.seqOps (OL.subS (S' := [] :: [] :: [] :: kseg c K :: S) (Sub.nilL (Sub.nilL (Sub.nilL (Sub.refl _)))) (OL.det trivial (.build (cs := secC ⟨0, 0, []⟩ none 0) rfl) (OL.cons trivial OW.al ?_)))))))
 rintro _ _ ⟨r5, rfl, rfl⟩
 refine OL.cons trivial (sec_st (s := ⟨0, 0, []⟩) (A := none) (c := 0) rfl rfl rfl) ?_
 rintro _ _ rfl
 refine OL.nil (PW.k4 0 1 4 5 rfl ?_)
 refine PW.seq fun K1 hK1 => ?_
 refine PW.block (PW.k4 0 1 4 5 rfl ?_)
 refine PW.loopK (I := fun m T S' => ∃ (w1 : List ByteArray) (W1 : Option Addr) (cw1 fr : Nat) (cur : List ByteArray) (A : Option Addr) (cc : Nat) (l : List RunM) (v : Value) (sl sg junk : Seg) (K1 : List Bool), (m = w1.length /\ Rd w0 S W1 (strs w1) /\ w1.length <= cw1 /\ fr <= c.its.length /\ SlV 9 1 (.slice A cur.length cc) cur.length (strs cur) sl /\ SlV 81 3 v l.length (runsS l) sg /\ (∀ x ∈ l, RunOk w0 junk x) /\ secs c.I w = l.map secP ++ secsT c.I.length (toks c.I fr w1) fr cur /\ keepT K (toks c.I 0 w) = keepT K1 (toks c.I fr w1) /\ K1.length = c.its.length /\ l.length + w1.length <= 100000 /\ cur.length + w1.length <= 100000) /\ T = ([(0, c.ptr), (1, .slice W1 w1.length cw1), (4, v), (5, .pointer (some ⟨r5, 0, none⟩))] : TT) /\ S' = sseg r5 ⟨fr, 0, cur⟩ A cc :: sl :: sg :: junk :: kseg c K1 :: S) (m := w.length) ⟨w, W, cw, 0, [], none, 0, [], _, [], [], [], K, ⟨rfl, hw, hwc, by omega, SlV.nil 9 1, SlV.nil 81 3, (by simp), rfl, rfl, hk, by simp; omega, by simp; omega⟩, rfl, rfl⟩ ?_
 rintro m _ _ ⟨w1, W1, cw1, fr, cur, A, cc, l, v, sl, sg, junk, K1, ⟨hm, hw1, hwc1, hfr, hsl, hsg, hrows, hsec, hkp, hKn, hll, hcl⟩, rfl, rfl⟩
 refine PW.seq fun K2 hK2 => ?_
 refine PW.seqOps (OL.dp rfl (OL.dp rfl (OL.dp rfl (OL.nil (PW.k5 0 1 4 5 10 rfl ?_)))))
 refine PW.cond rfl (fun c10 => ?_) (fun c10 => ?_)
 ·try simp only [cvS] at c10
  have hpos : 0 < w1.length := by omega
  obtain ⟨aW, rfl⟩ := strs_some hw1 hpos
  refine PW.skip ?_
  refine hK2 _ _ ?_
  refine PW.k4 0 1 4 5 rfl (PW.block (PW.seqOps (OL.dp rfl (OL.dp rfl (OL.det trivial (.ld rfl (own_at (j := 0) (c := secC ⟨fr, 0, cur⟩ A cc) (E := 81) (tot := 3) zM0 rfl)) (OL.dp rfl ?_))))))
  refine OL.call trivial rfl (block_fc2 (h.mono (Over.refl _).cons.cons.cons.cons.cons) (fun q hq => (hC.cons.cons.cons.cons.cons) q hq) (hw1.mono (Over.refl _).cons.cons.cons.cons.cons) hwc1 (by omega) hfr) ?_
  rintro _ Sx ⟨rfl, hSx⟩
  rw [hSx]
  clear hSx
  refine OL.dp rfl (OL.nil (PW.k5 0 1 4 5 6 rfl ?_))
  refine PW.seq fun K3 hK3 => ?_
  refine PW.seqOps (OL.dp rfl (OL.dp rfl (OL.nil (PW.k6 0 1 4 5 6 17 rfl ?_))))
  refine PW.cond rfl (fun c17 => ?_) (fun c17 => ?_)
  ·try simp only [cvS] at c17
   have hrec := optI_neg c17
   refine PW.seq fun K4 hK4 => ?_
   refine PW.quietG (Ss := Over (sseg r5 ⟨fr, 0, cur⟩ A cc :: sl :: sg :: junk :: kseg c K1 :: S)) (fr := false) [(0, 0), (1, 0), (2, 0), (3, 0), (4, 0), (5, 2)] Tryz.mixed (by decide +kernel) (Over.refl _) (fun h => by cases h) ?_
   refine GL.dp rfl ?_
   refine GL.det trivial (fun Sx hSx => Yields.ld rfl (own_at (j := 2) (c := secC ⟨fr, 0, cur⟩ A cc) (E := 81) (tot := 3) (hSx _ zM0) rfl)) ?_
   refine GL.dp rfl ?_
   refine GL.det trivial (fun Sx hSx => Yields.ixN1 (j := 0) rfl rfl rfl hpos) ?_
   refine GL.det trivial (fun Sx hSx => Yields.ld rfl (str_at (hw1.mono fun q hq => hSx q ((Over.refl S).cons.cons.cons.cons.cons q hq)) hpos)) ?_
   refine GL.lo trivial (OW.mono (K := fun u S' => ∃ r, u = .slice (some ⟨r, 0, none⟩) 1 1 /\ S' = [(r, .cells [.string w1[0]] 9 1)] :: sseg r5 ⟨fr, 0, cur⟩ A cc :: sl :: sg :: junk :: kseg c K1 :: S) (OW.bsl rfl) fun v S2 hk => ⟨(fun u S' ⟨r, _, h⟩ => by rw [h]; exact (Over.refl _).cons) v S2 hk, ?_⟩)
   revert v S2
   rintro _ _ ⟨r23, rfl, rfl⟩
   change OL _ _ _ [_, _, _] _ _ _
   refine OL.cons trivial (OW.app (k := 2) rfl rfl hsl rfl (news := [.string w1[0]]) rfl (fun j u hj => (Rd.own (xs := [.string w1[0]]) (E := 9) (tot := 1) zM0).at hj) rfl (by omega) (by unfold maxLen; omega)) ?_
   rintro v24 _ ⟨seg24, rfl, hsl24⟩
   have h24 : SlV 9 1 v24 (cur ++ [w1[0]]).length (strs (cur ++ [w1[0]])) seg24 := by simpa [strs] using hsl24
   obtain ⟨A3, c3, rfl, -, -, -⟩ := slv_rdL (w0 := w0) h24
   refine OL.dp rfl (OL.cons trivial (OW.st (k := 1) rfl rfl rfl rfl (Nat.le_refl 3) rfl) ?_)
   rintro _ _ rfl
   refine OL.nil ?_
   refine hK4 _ _ ?_
   refine PW.k4 0 1 4 5 rfl (PW.seqOps (OL.dp rfl ?_))
   obtain ⟨W2, cw2, hcut, hc2, hr2⟩ := cutW (A := some aW) (i := 1) (l := w1) hpos hwc1
   refine OL.det trivial (.to (v' := .slice W2 (w1.drop 1).length cw2) (Yields.slS (l := 1) (h := w1.length) rfl rfl rfl (.inl rfl) (.inr ⟨rfl, rfl⟩) hpos hwc1) hcut) (OL.dp rfl (OL.nil (PW.k4 0 1 4 5 rfl (PW.exit ?_))))
   repeat rw [inBlk_n]
   try rw [thenK_n]
   refine LoopEnd.mkS (Sub.drop (Sub.refl _)) (T'' := [(0, _), (1, _), (4, _), (5, _)]) (wi rfl) ?_
   have hc0 := cons_of_pos hpos
   have e1 := secsT_free (n := c.I.length) (cur := cur) (by rw [<- hc0]; exact hrec)
   have e2 := keepT_free (K := K1) (by rw [<- hc0]; exact hrec)
   rw [<- hc0] at e1 e2
   have hdl : (w1.drop 1).length = w1.length - 1 := List.length_drop
   exact ⟨(w1.drop 1).length, by omega, w1.drop 1, W2, cw2, fr, cur ++ [w1[0]], A3, c3, l, v, seg24, sg, junk, K1, ⟨rfl, hr2 w0 S hw1, hc2, hfr, h24, hsg, hrows, by rw [hsec, e1], by rw [hkp, e2], hKn, by omega, by rw [List.length_append, List.length_singleton]; omega⟩, rfl, rfl⟩
  try simp only [cvS] at c17
  obtain ⟨kb, hrec⟩ := optI_pos c17
  rw [hrec]
  obtain ⟨hk1, hk2, hk3, hk4⟩ := recAt_some hrec
  have hkn : kb < c.its.length := by omega
  have hkt : kb < c.tm.length := by omega
  have htg : (c.tm[kb]'hkt).l = oneT c.I[kb]! := by rw [h.tget hkn, getElem!_pos c.I kb hk2]
  have hle : (c.tm[kb]'hkt).l.length <= w1.length := by
   rw [htg]; unfold begT at hk4; simp only [Bool.and_eq_true, decide_eq_true_eq] at hk4; exact hk4.1
  obtain ⟨b0, hb0⟩ := tolds_some h.told (show 0 < c.tm.length by omega)
  have ht2 := h.told
  rw [hb0] at ht2
  refine PW.skip ?_
  refine hK3 _ _ ?_
  refine PW.k5 0 1 4 5 6 rfl (PW.seqOps (OL.dp rfl (OL.dp rfl (OL.cons trivial (OW.st (k := 0) rfl rfl rfl rfl (Nat.le_succ 2) rfl) ?_))))
  rintro _ _ rfl
  refine OL.nil (PW.k5 0 1 4 5 6 rfl (PW.seqOps ?_))
  change OL _ _ _ _ _ (sseg r5 ⟨fr, kb, cur⟩ A cc :: sl :: sg :: junk :: kseg c K1 :: S) _
  refine OL.dp rfl (OL.det trivial (.ldA rfl rfl (all_at (c := secC ⟨fr, kb, cur⟩ A cc) (E := 81) (tot := 3) zM0)) ?_)
  apply OL.app1 (k := 2)
  ·rfl
  ·rfl
  ·rfl
  ·rfl
  ·rfl
  ·rfl
  ·exact hsg
  ·rfl
  ·omega
  ·unfold maxLen; omega
  intro v33 sg2 hsg20
  have hsg2 : SlV 81 3 v33 (l ++ [(⟨fr, kb, A, cc, cur⟩ : RunM)]).length (runsS (l ++ [(⟨fr, kb, A, cc, cur⟩ : RunM)])) sg2 := by rw [runsS_app, List.length_append]; exact hsg20
  refine OL.dp rfl (OL.nil (PW.k5 0 1 4 5 6 rfl (PW.seqOps (OL.dp rfl (OL.det trivial (Yields.nilc rfl) (OL.dp rfl (OL.det trivial (.ld rfl (own_at (j := 2) (c := c.cells) (E := 71) (tot := 3) (hC.cons.cons.cons.cons.cons _ (List.mem_flatten.2 ⟨_, List.mem_singleton.2 rfl, List.mem_singleton.2 rfl⟩)) rfl)) (OL.dp rfl ?_))))))))
  refine OL.det trivial (.to (v' := .pointer (some ⟨c.rk, kb, none⟩)) (Yields.ixN1 rfl rfl rfl hkn) (by simp [Addr.add, eq_comm])) ?_
  refine OL.cons trivial (OW.st (k := 4) rfl rfl rfl rfl (by rw [List.length_map]; omega) rfl) ?_
  rintro _ _ rfl
  refine OL.nil (PW.k5 0 1 4 5 6 rfl (PW.seqOps (OL.dp rfl (OL.dp rfl (OL.det trivial (Yields.nilc rfl) (OL.dp rfl (OL.det trivial (.ld rfl (own_at (j := 1) (c := c.cells) (E := 71) (tot := 3) (hC.cons.cons.cons.cons.cons _ (List.mem_flatten.2 ⟨_, List.mem_singleton.2 rfl, List.mem_singleton.2 rfl⟩)) rfl)) (OL.dp rfl ?_))))))))
  rw [hb0]
  refine OL.det trivial (.ixN1 rfl rfl rfl hkt) (OL.det trivial (.ld rfl (told_at (ht2.cons.cons.cons.cons.cons) hkt)) (OL.dp rfl ?_))
  obtain ⟨W2, cw2, hcut, hc2, hr2⟩ := cutW (A := some aW) (i := (c.tm[kb]'hkt).l.length) (l := w1) (by omega) hwc1
  refine OL.det trivial (.to (v' := .slice W2 (w1.drop (c.tm[kb]'hkt).l.length).length cw2) (Yields.slS (l := (c.tm[kb]'hkt).l.length) (h := w1.length) rfl rfl rfl (.inl rfl) (.inr ⟨rfl, rfl⟩) (by omega) hwc1) hcut) ?_
  refine OL.dp rfl (OL.nil (PW.k5 0 1 4 5 6 rfl (PW.ops (OL.dp rfl ?_))))
  refine OL.det trivial (.to (v' := .int .i64 ((kb + 1 : Nat) : Int)) (Yields.add64 rfl rfl (show -9223372036854775808 <= (kb : Int) + 1 by omega) (show (kb : Int) + 1 <= 9223372036854775807 by omega)) (congrArg (Value.int .i64) (show (kb : Int) + 1 = _ by omega))) ?_
  refine OL.det trivial (.build (cs := secC ⟨kb + 1, 0, []⟩ none 0) rfl) (OL.cons trivial (sec_st (s := ⟨kb + 1, 0, []⟩) (A := none) (c := 0) rfl rfl rfl) ?_)
  rintro _ _ rfl
  refine OL.nil ?_
  repeat rw [inBlk_n]
  try rw [thenK_n]
  refine LoopEnd.mkS ((Sub.cons (Sub.nilL (Sub.cons Sub.join))).trans (Sub.sel [0, 2, 1, 3, 4] 5 (by decide) _)) (T'' := [(0, _), (1, _), (4, _), (5, _)]) (wi rfl) ?_
  have e1 := secsT_blk (n := c.I.length) (cur := cur) hpos hrec
  have e2 := keepT_blk (K := K1) hpos hrec
  rw [<- htg] at e1 e2
  have hob := oneT_pos hk3
  rw [<- htg] at hob
  have hdl : (w1.drop (c.tm[kb]'hkt).l.length).length = w1.length - (c.tm[kb]'hkt).l.length := List.length_drop
  have hks := kseg_set c K1 kb (by omega)
  refine ⟨(w1.drop (c.tm[kb]'hkt).l.length).length, by omega, w1.drop (c.tm[kb]'hkt).l.length, W2, cw2, kb + 1, [], none, 0, (l ++ [(⟨fr, kb, A, cc, cur⟩ : RunM)]), _, [], sg2, sl ++ junk, K1.set kb true, ⟨rfl, hr2 w0 S hw1, hc2, by omega, SlV.nil 9 1, hsg2, ?_, by rw [hsec, e1, List.map_append, List.append_assoc]; rfl, by rw [hkp, e2], by rw [List.length_set]; exact hKn, by rw [List.length_append, List.length_singleton]; omega, (by rw [hdl]; show 0 + _ <= _; omega)⟩, rfl, ?_⟩
  ·intro x hx
   rcases List.mem_append.1 hx with h1 | h1
   ·exact (hrows x h1).more fun p hp => List.mem_append_right _ hp
   rw [List.mem_singleton.1 h1]
   exact (run_ok (x := ⟨fr, kb, A, cc, cur⟩) hsl).more fun p hp => List.mem_append_left _ hp
  refine List.cons_eq_cons.2 ⟨rfl, List.cons_eq_cons.2 ⟨rfl, List.cons_eq_cons.2 ⟨rfl, List.cons_eq_cons.2 ⟨rfl, List.cons_eq_cons.2 ⟨?_, rfl⟩⟩⟩⟩⟩
  exact congrArg (fun z => [(c.rk, AO.cells z 4 (c.its.length * 1))]) hks
 try simp only [cvS] at c10
 refine PW.exit ?_
 refine hK1 _ _ ?_
 refine PW.k3 0 4 5 rfl (PW.seqOps (OL.dp rfl (OL.det trivial (Yields.nilc rfl) (OL.dp rfl (OL.det trivial (.ld rfl (own_at (j := 0) (c := c.cells) (E := 71) (tot := 3) (hC.cons.cons.cons.cons.cons _ (List.mem_flatten.2 ⟨_, List.mem_singleton.2 rfl, List.mem_singleton.2 rfl⟩)) rfl)) (OL.dp rfl (OL.dp rfl (OL.cons trivial (OW.st (k := 0) rfl rfl rfl rfl (Nat.le_succ 2) rfl) ?_))))))))
 rintro _ _ rfl
 refine OL.nil (PW.k2 4 5 rfl (PW.seqOps ?_))
 change OL _ _ _ _ _ (sseg r5 ⟨fr, c.its.length, cur⟩ A cc :: sl :: sg :: junk :: kseg c K1 :: S) _
 refine OL.dp rfl (OL.det trivial (.ldA rfl rfl (all_at (c := secC ⟨fr, c.its.length, cur⟩ A cc) (E := 81) (tot := 3) zM0)) ?_)
 apply OL.app1 (k := 2)
 ·rfl
 ·rfl
 ·rfl
 ·rfl
 ·rfl
 ·rfl
 ·exact hsg
 ·rfl
 ·omega
 ·unfold maxLen; omega
 intro v62 sg2 hsg20
 refine OL.dp rfl (OL.nil (PW.k1 4 rfl (PW.ret ?_)))
 change (Exit.ret = Exit.normal ∨ Exit.ret = Exit.ret) /\ ∃ v, resV _ _ = some v /\ _
 have hw0 : w1 = [] := List.eq_nil_of_length_eq_zero (by omega)
 subst hw0
 rw [toks_nil] at hsec hkp
 have hsg2 : SlV 81 3 v62 (l ++ [(⟨fr, c.its.length, A, cc, cur⟩ : RunM)]).length (runsS (l ++ [(⟨fr, c.its.length, A, cc, cur⟩ : RunM)])) sg2 := by rw [runsS_app, List.length_append]; exact hsg20
 refine ⟨.inr rfl, _, rfl, _, (Sub.cons (Sub.join (b := junk))).trans (Sub.sel [2, 1, 3, 4] 5 (by decide) (sseg r5 ⟨fr, c.its.length, cur⟩ A cc :: sl :: sg2 :: junk :: kseg c K1 :: S)), l ++ [(⟨fr, c.its.length, A, cc, cur⟩ : RunM)], sg2, sl ++ junk, by rw [hkp]; rfl, hsg2, ?_, by rw [hsec, List.map_append, c.I_len]; rfl, by rw [List.length_append, List.length_singleton]; omega⟩
 intro x hx
 rcases List.mem_append.1 hx with h1 | h1
 ·exact (hrows x h1).more fun p hp => List.mem_append_right _ hp
 rw [List.mem_singleton.1 h1]
 exact (run_ok (x := ⟨fr, c.its.length, A, cc, cur⟩) hsl).more fun p hp => List.mem_append_left _ hp
end Go.Proofs.Gr

namespace Go.Proofs.Gr
open Go.SL Go.RowKit Go.Proofs Go.GP
set_option maxHeartbeats 1000000
theorem runsS_get {l : List RunM} {k j : Nat} (hk : k < l.length) (hj : j < 3) : (runsS l)[k * 3 + j]? = (runC l[k])[j]? := by
 have e : runsS l = runsS (l.take k) ++ (runC l[k] ++ runsS (l.drop (k + 1))) := by
  conv => lhs; rw [<- List.take_append_drop k l, runsS_app, List.drop_eq_getElem_cons hk]
  rfl
 rw [e, List.getElem?_append_right (by rw [runsS_len, List.length_take]; omega), runsS_len, List.length_take, List.getElem?_append_left (by show _ < 3; omega)]
 congr 1
 omega
theorem run_at {w0 : World} {S : SS} {a : Addr} {l : List RunM} (h : Rd w0 S (some a) (runsS l)) {k : Nat} (hk : k < l.length) : ∀ (j : Nat) (v : Value), (runC l[k])[j]? = some v -> Cell w0 S ((a.add (k * 3)).add j) v := by
 intro j v hj
 have hj2 : j < 3 := (List.getElem?_eq_some_iff.1 hj).1
 rw [addr_add_add]
 exact h.at (by rw [runsS_get hk hj2]; exact hj)
theorem runsS_some {w0 : World} {S : SS} {A : Option Addr} {l : List RunM} (h : Rd w0 S A (runsS l)) (hk : 0 < l.length) : ∃ a, A = some a :=
 h.some (fun e => by have := runsS_len l; rw [e] at this; simp at this; omega)
def manyS (l : List Sec) : Nat := (l.map fun s => s.lines.length).sum
def badS (l : List Sec) : Bool := l.any fun s => s.lines.any fun x => !Ln.isP x
def checkP (l : List Sec) : Int := if 256 < manyS l then 3 else if badS l then 4 else 0
theorem manyS_snoc (l : List Sec) (x : Sec) : manyS (l ++ [x]) = manyS l + x.lines.length := by
 unfold manyS; rw [List.map_append, List.sum_append]; simp
theorem badS_snoc (l : List Sec) (x : Sec) : badS (l ++ [x]) = (badS l || x.lines.any fun y => !Ln.isP y) := by
 unfold badS; rw [List.any_append]; simp
theorem manyS_le {l : List Sec} {b : Nat} (h : ∀ s ∈ l, s.lines.length <= b) : manyS l <= b * l.length := by
 induction l with
 | nil => simp [manyS]
 | cons s l ih =>
  have h1 := h s (by simp)
  have h2 := ih (fun x hx => h x (List.mem_cons_of_mem _ hx))
  unfold manyS at h2 ⊢
  rw [List.map_cons, List.sum_cons, List.length_cons, Nat.mul_succ]
  omega
theorem check1_fc {w0 : World} {S : SS} {s : ByteArray} (hs : s.size <= 1000000000000000) : FC Tryz.prog w0 66 [.string s] S (fun v S' => v = .bool (!Ln.isP s) /\ S' = S) := by
 refine FC.of Tryz.known66 (by simp) ?_
 unfold Tryz.pc66
 simp only [argT]
 refine PW.seqOps (OL.dp rfl (OL.nil (PW.k1 0 rfl (PW.seqOps (OL.dp rfl (OL.call trivial rfl (Ln.is_fc hs) ?_))))))
 rintro _ Sx ⟨rfl, hSx⟩
 rw [hSx]
 clear hSx
 refine OL.dp rfl (OL.dp rfl (OL.nil (PW.k1 2 rfl (PW.ret ?_))))
 change (Exit.ret = Exit.normal ∨ Exit.ret = Exit.ret) /\ ∃ v, resV _ _ = some v /\ _
 exact ⟨.inr rfl, _, rfl, rfl, rfl⟩
theorem check_fc {w0 : World} {S : SS} {A : Option Addr} {cap : Nat} {l : List RunM} (h : Rd w0 S A (runsS l)) (hr : ∀ x ∈ l, Rd w0 S x.A (strs x.lines)) (hz : ∀ x ∈ l, ∀ s ∈ x.lines, s.size <= 1000000000000000) (hll : ∀ x ∈ l, x.lines.length <= 1000000) (hl : l.length <= 1000000) :
  FC Tryz.prog w0 28 [.slice A l.length cap] S (fun v S' => v = .int .i64 (checkP (l.map secP)) /\ S' = S) := by
 have hmn : ∀ k, k <= l.length -> manyS ((l.take k).map secP) <= 1000000 * k := fun k hk => by
  have := manyS_le (l := (l.take k).map secP) (b := 1000000) (fun s hs => by obtain ⟨x, hx, rfl⟩ := List.mem_map.1 hs; exact hll x (List.mem_of_mem_take hx))
  rw [List.length_map, List.length_take, Nat.min_eq_left hk] at this
  exact this
 have hmk : ∀ k (hk : k < l.length), manyS ((l.take (k + 1)).map secP) = manyS ((l.take k).map secP) + l[k].lines.length := fun k hk => by
  rw [ltake_snoc hk, List.map_append]; exact manyS_snoc _ _
 have hbk : ∀ k (hk : k < l.length), badS ((l.take (k + 1)).map secP) = (badS ((l.take k).map secP) || l[k].lines.any fun y => !Ln.isP y) := fun k hk => by
  rw [ltake_snoc hk, List.map_append]; exact badS_snoc _ _
 refine FC.ofD Tryz.known28 (by simp) ?_
 unfold Tryz.pc28
 simp only [argT]
 refine PW.seqOps (OL.dp rfl (OL.nil (PW.k1 0 rfl (PW.seqOps (OL.dp rfl (OL.dp rfl (OL.nil (PW.k3 0 3 4 rfl ?_))))))))
 refine PW.seq fun K1 hK1 => ?_
 refine PW.seqOps (OL.dp rfl (OL.dp rfl (OL.dp rfl (OL.nil (PW.k5 3 4 7 8 9 rfl (PW.block (PW.k5 3 4 7 8 9 rfl ?_)))))))
 refine PW.loopK (I := fun mm T S' => ∃ (k : Nat), (k <= l.length /\ mm = l.length - k) /\ T = ([(3, .int .i64 (manyS ((l.take k).map secP) : Int)), (4, .int .i64 (if badS ((l.take k).map secP) then 4 else 0)), (7, .slice A l.length cap), (8, .int .i64 (l.length : Int)), (9, .int .i64 k)] : TT) /\ S' = S) (m := l.length) ⟨0, ⟨by omega, by omega⟩, rfl, rfl⟩ ?_
 rintro mm _ _ ⟨k, ⟨hk, hmm⟩, rfl, rfl⟩
 refine PW.seqOps (OL.dp rfl (OL.nil (PW.k6 3 4 7 8 9 10 rfl ?_)))
 refine PW.seq fun K2 hK2 => ?_
 refine PW.cond rfl (fun c10 => ?_) (fun c10 => ?_)
 ·try simp only [cvS] at c10
  have hkl : k < l.length := by omega
  obtain ⟨a0, rfl⟩ := runsS_some h (by omega)
  have h2 := h
  refine PW.skip ?_
  refine hK2 _ _ ?_
  refine PW.k5 3 4 7 8 9 rfl ?_
  refine PW.seq fun K3 hK3 => ?_
  refine PW.block (PW.seqOps (OL.det trivial (.ixN rfl rfl rfl hkl) (OL.det trivial (.ldA rfl rfl (run_at h2 hkl)) (OL.cons trivial OW.al ?_))))
  rintro _ _ ⟨r6, rfl, rfl⟩
  refine OL.cons trivial (sec_st (s := secP l[k]) (A := l[k].A) (c := l[k].c) rfl rfl rfl) ?_
  rintro _ _ rfl
  refine OL.nil (PW.k6 3 4 6 7 8 9 rfl (PW.seqOps (OL.dp rfl (OL.dp rfl (OL.det trivial (.ld rfl (own_at (j := 2) (c := secC (secP l[k]) l[k].A l[k].c) (E := 81) (tot := 3) zM0 rfl)) (OL.dp rfl ?_))))))
  have hm1 := hmn k hk
  have hm2 := hll _ (List.getElem_mem hkl)
  have hm3 := hmk k hkl
  refine OL.det trivial (.to (v' := .int .i64 (manyS ((l.take (k + 1)).map secP) : Int)) (Yields.add64 rfl rfl (show -9223372036854775808 <= (manyS ((l.take k).map secP) : Int) + (l[k].lines.length : Int) by omega) (show (manyS ((l.take k).map secP) : Int) + (l[k].lines.length : Int) <= 9223372036854775807 by omega)) (congrArg (Value.int .i64) (show (manyS ((l.take k).map secP) : Int) + (l[k].lines.length : Int) = _ by omega))) ?_
  refine OL.dp rfl (OL.nil (PW.k6 3 4 6 7 8 9 rfl (PW.seqOps (OL.dp rfl (OL.det trivial (.ld rfl (own_at (j := 2) (c := secC (secP l[k]) l[k].A l[k].c) (E := 81) (tot := 3) zM0 rfl)) ?_)))))
  refine OL.call trivial rfl (Ln.contains_fc (g := 66) (q := fun x => !Ln.isP x) ((hr _ (List.getElem_mem hkl)).cons) (show l[k].lines.length <= 1000000000 by have := hll _ (List.getElem_mem hkl); omega) (by kernel_rfl) (fun s hs => check1_fc (hz _ (List.getElem_mem hkl) s hs))) ?_
  rintro _ Sx ⟨rfl, hSx⟩
  rw [hSx]
  clear hSx
  refine OL.nil (PW.k6 3 4 7 8 9 20 rfl ?_)
  refine PW.cond rfl (fun c20 => ?_) (fun c20 => ?_)
  ·skip
   refine PW.ops (OL.dp rfl (OL.nil ?_))
   refine hK3 _ _ ?_
   refine PW.k5 3 4 7 8 9 rfl (PW.ops ?_)
   refine OL.det trivial (.add64 rfl rfl (by omega) (by omega)) ?_
   refine OL.dp rfl (OL.nil ?_)
   repeat rw [inBlk_n]
   try rw [thenK_n]
   refine LoopEnd.mkS (Sub.drop (Sub.refl _)) (T'' := [(3, _), (4, _), (7, _), (8, _), (9, _)]) (wi rfl) ?_
   have hb2 : badS ((l.take (k + 1)).map secP) = true := by rw [hbk k hkl, show (l[k].lines.any fun y => !Ln.isP y) = true from c20, Bool.or_true]
   exact ⟨l.length - (k + 1), by omega, k + 1, ⟨by omega, rfl⟩, by rw [hb2]; rfl, rfl⟩
  skip
  refine PW.skip ?_
  refine hK3 _ _ ?_
  refine PW.k5 3 4 7 8 9 rfl (PW.ops ?_)
  refine OL.det trivial (.add64 rfl rfl (by omega) (by omega)) ?_
  refine OL.dp rfl (OL.nil ?_)
  repeat rw [inBlk_n]
  try rw [thenK_n]
  refine LoopEnd.mkS (Sub.drop (Sub.refl _)) (T'' := [(3, _), (4, _), (7, _), (8, _), (9, _)]) (wi rfl) ?_
  have hb2 : badS ((l.take (k + 1)).map secP) = badS ((l.take k).map secP) := by rw [hbk k hkl, show (l[k].lines.any fun y => !Ln.isP y) = false from c20, Bool.or_false]
  exact ⟨l.length - (k + 1), by omega, k + 1, ⟨by omega, rfl⟩, by rw [hb2]; rfl, rfl⟩
 try simp only [cvS] at c10
 refine PW.exit ?_
 refine hK1 _ _ ?_
 refine PW.k2 3 4 rfl ?_
 refine PW.seq fun K4 hK4 => ?_
 refine PW.seqOps (OL.dp rfl (OL.dp rfl (OL.nil (PW.k2 4 23 rfl ?_))))
 refine PW.cond rfl (fun c23 => ?_) (fun c23 => ?_)
 ·try simp only [cvS] at c23
  refine PW.seqOps (OL.dp rfl (OL.nil (PW.k1 2 rfl (PW.ret ?_))))
  change (Exit.ret = Exit.normal ∨ Exit.ret = Exit.ret) /\ ∃ v, resV _ _ = some v /\ _
  have hke : k = l.length := by omega
  rw [hke, List.take_length] at c23
  exact ⟨.inr rfl, _, rfl, _, Sub.refl _, congrArg (Value.int .i64) (by unfold checkP; rw [if_pos (by omega)]), rfl⟩
 try simp only [cvS] at c23
 refine PW.skip ?_
 refine hK4 _ _ ?_
 refine PW.k1 4 rfl (PW.seqOps (OL.dp rfl (OL.dp rfl (OL.nil (PW.k1 2 rfl (PW.ret ?_))))))
 change (Exit.ret = Exit.normal ∨ Exit.ret = Exit.ret) /\ ∃ v, resV _ _ = some v /\ _
 have hke : k = l.length := by omega
 rw [hke, List.take_length] at c23
 exact ⟨.inr rfl, _, rfl, _, Sub.refl _, congrArg (Value.int .i64) (by unfold checkP; rw [if_neg (show ¬ 256 < manyS (l.map secP) by omega), hke, List.take_length]), rfl⟩
def chgC (f u d : Vtx) (G L : Value) : List Value := [.int .i64 5] ++ (vtxL f ++ ([.string ⟨#[]⟩, .int .i64 0, .int .u64 0] ++ (vtxL u ++ (vtxL d ++ [G, L]))))
def chgV (f u d : Vtx) (G L : Value) : Value := .agg (chgC f u d G L).toArray
def zChg : List Value := [.int .i64 0] ++ (z33 ++ ([.string ⟨#[]⟩, .int .i64 0, .int .u64 0] ++ (z33 ++ (z33 ++ [.slice none 0 0, .slice none 0 0]))))
theorem z33_len : z33.length = 33 := by simp [z33]
theorem chgC_len (f u d : Vtx) (G L : Value) : (chgC f u d G L).length = 105 := by unfold chgC; simp only [List.length_append, vtxL_len]; rfl
theorem zChg_len : zChg.length = 105 := by unfold zChg; simp only [List.length_append, z33_len]; rfl
theorem chg_up (f u d v : Vtx) (G L : Value) : setAt (chgC f u d G L) 37 (vtxL v) = chgC f v d G L := by
 have := setMid (a := [.int .i64 5] ++ (vtxL f ++ [Value.string ⟨#[]⟩, Value.int .i64 0, Value.int .u64 0])) (b := vtxL u) (c := chgC f u d G L) (d := vtxL d ++ [G, L]) (e := vtxL v) (n := 37) (by unfold chgC; simp only [List.append_assoc]) (by simp only [List.length_append, vtxL_len]; rfl) (by rw [vtxL_len, vtxL_len])
 rw [this]; unfold chgC; simp only [List.append_assoc]
theorem chg_down (f u d v : Vtx) (G L : Value) : setAt (chgC f u d G L) 70 (vtxL v) = chgC f u v G L := by
 have := setMid (a := [.int .i64 5] ++ (vtxL f ++ ([.string ⟨#[]⟩, .int .i64 0, .int .u64 0] ++ vtxL u))) (b := vtxL d) (c := chgC f u d G L) (d := [G, L]) (e := vtxL v) (n := 70) (by unfold chgC; simp only [List.append_assoc]) (by simp only [List.length_append, vtxL_len]; rfl) (by rw [vtxL_len, vtxL_len])
 rw [this]; unfold chgC; simp only [List.append_assoc]
theorem chg_gone (f u d : Vtx) (G L G' : Value) : setAt (chgC f u d G L) 103 [G'] = chgC f u d G' L := by
 have := setMid (a := [.int .i64 5] ++ (vtxL f ++ ([.string ⟨#[]⟩, .int .i64 0, .int .u64 0] ++ (vtxL u ++ vtxL d)))) (b := [G]) (c := chgC f u d G L) (d := [L]) (e := [G']) (n := 103) (by unfold chgC; simp only [List.append_assoc]; rfl) (by simp only [List.length_append, vtxL_len]; rfl) rfl
 rw [this]; unfold chgC; simp only [List.append_assoc]; rfl
theorem chgC_gone (f u d : Vtx) (G L : Value) : (chgC f u d G L)[103]? = some G /\ (chgC f u d G L)[104]? = some L := by
 have e : chgC f u d G L = ([.int .i64 5] ++ (vtxL f ++ ([.string ⟨#[]⟩, .int .i64 0, .int .u64 0] ++ (vtxL u ++ vtxL d)))) ++ [G, L] := by unfold chgC; simp only [List.append_assoc]
 have hl : ([Value.int .i64 5] ++ (vtxL f ++ ([Value.string ⟨#[]⟩, Value.int .i64 0, Value.int .u64 0] ++ (vtxL u ++ vtxL d)))).length = 103 := by simp only [List.length_append, vtxL_len]; rfl
 rw [e]
 constructor
 ·rw [List.getElem?_append_right (by omega), hl]; rfl
 rw [List.getElem?_append_right (by omega), hl]; rfl
theorem chgC_one (f u d : Vtx) (A B : Option Addr) (n m c e : Nat) : (chgC f u d (.slice A n c) (.slice B m e)).all (·.oneCell') = true := by
 unfold chgC
 simp only [List.all_append, vtxL_one]; rfl
theorem chg_box (f u d : Vtx) (G L : Value) : (chgV f u d G L).cells.toList = chgC f u d G L := rfl
theorem chg_read {w0 : World} {S : SS} {r E tot : Nat} {f u d : Vtx} {G L : Value} (hm : (r, AO.cells (chgC f u d G L) E tot) ∈ S.flatten) : ReadsAs w0 S (some 105) ⟨r, 0, none⟩ (chgV f u d G L) := ⟨chgC f u d G L, rfl, chgC_len .., all_at hm⟩
theorem fill_chg {T : TT} {f u d : Vtx} {A : Option Addr} {n c : Nat} {x y z w e : PV} (h0 : x.val T = some (.int .i64 5)) (h1 : y.val T = some (vtxV f)) (h2 : z.val T = some (vtxV u)) (h3 : w.val T = some (vtxV d)) (h4 : e.val T = some (.slice A n c)) :
  fillP T zChg [(0, 1, x), (1, 33, y), (37, 33, z), (70, 33, w), (104, 1, e)] = some (chgC f u d (.slice none 0 0) (.slice A n c)) := by
 have hf := vtxL_len f
 have hu := vtxL_len u
 have hd := vtxL_len d
 have hz := z33_len
 obtain ⟨I0, hI0⟩ : ∃ N : List Value, N = [.int .i64 0] := ⟨_, rfl⟩
 obtain ⟨I5, hI5⟩ : ∃ N : List Value, N = [.int .i64 5] := ⟨_, rfl⟩
 obtain ⟨M, hM⟩ : ∃ N : List Value, N = [.string ⟨#[]⟩, .int .i64 0, .int .u64 0] := ⟨_, rfl⟩
 obtain ⟨N1, hN1⟩ : ∃ N : List Value, N = [.slice none 0 0] := ⟨_, rfl⟩
 obtain ⟨L1, hL1⟩ : ∃ N : List Value, N = [.slice A n c] := ⟨_, rfl⟩
 have hI0l : I0.length = 1 := by rw [hI0]; rfl
 have hI5l : I5.length = 1 := by rw [hI5]; rfl
 have hMl : M.length = 3 := by rw [hM]; rfl
 have hN1l : N1.length = 1 := by rw [hN1]; rfl
 have hL1l : L1.length = 1 := by rw [hL1]; rfl
 have e0 : zChg = I0 ++ (z33 ++ (M ++ (z33 ++ (z33 ++ (N1 ++ N1))))) := by rw [hI0, hM, hN1]; rfl
 have s1 : setAt zChg 0 I5 = I5 ++ (z33 ++ (M ++ (z33 ++ (z33 ++ (N1 ++ N1))))) := by
  have := setMid (a := []) (c := zChg) (n := 0) (e := I5) (by rw [List.nil_append]; exact e0) rfl (by omega)
  simpa only [List.nil_append] using this
 have s2 : setAt (I5 ++ (z33 ++ (M ++ (z33 ++ (z33 ++ (N1 ++ N1)))))) 1 (vtxL f) = I5 ++ (vtxL f ++ (M ++ (z33 ++ (z33 ++ (N1 ++ N1))))) := setMid (e := vtxL f) rfl (by omega) (by omega)
 have s3 : setAt (I5 ++ (vtxL f ++ (M ++ (z33 ++ (z33 ++ (N1 ++ N1)))))) 37 (vtxL u) = I5 ++ (vtxL f ++ (M ++ (vtxL u ++ (z33 ++ (N1 ++ N1))))) := by
  have := setMid (a := I5 ++ (vtxL f ++ M)) (b := z33) (c := I5 ++ (vtxL f ++ (M ++ (z33 ++ (z33 ++ (N1 ++ N1)))))) (d := z33 ++ (N1 ++ N1)) (e := vtxL u) (n := 37) (by simp only [List.append_assoc]) (by simp only [List.length_append]; omega) (by omega)
  simpa only [List.append_assoc] using this
 have s4 : setAt (I5 ++ (vtxL f ++ (M ++ (vtxL u ++ (z33 ++ (N1 ++ N1)))))) 70 (vtxL d) = I5 ++ (vtxL f ++ (M ++ (vtxL u ++ (vtxL d ++ (N1 ++ N1))))) := by
  have := setMid (a := I5 ++ (vtxL f ++ (M ++ vtxL u))) (b := z33) (c := I5 ++ (vtxL f ++ (M ++ (vtxL u ++ (z33 ++ (N1 ++ N1)))))) (d := N1 ++ N1) (e := vtxL d) (n := 70) (by simp only [List.append_assoc]) (by simp only [List.length_append]; omega) (by omega)
  simpa only [List.append_assoc] using this
 have s5 : setAt (I5 ++ (vtxL f ++ (M ++ (vtxL u ++ (vtxL d ++ (N1 ++ N1)))))) 104 L1 = I5 ++ (vtxL f ++ (M ++ (vtxL u ++ (vtxL d ++ (N1 ++ L1))))) := by
  have := setMid (a := I5 ++ (vtxL f ++ (M ++ (vtxL u ++ (vtxL d ++ N1))))) (b := N1) (c := I5 ++ (vtxL f ++ (M ++ (vtxL u ++ (vtxL d ++ (N1 ++ N1)))))) (d := []) (e := L1) (n := 104) (by simp only [List.append_assoc, List.append_nil]) (by simp only [List.length_append]; omega) (by omega)
  simpa only [List.append_assoc, List.append_nil] using this
 have hzl := zChg_len
 have l1 : (I5 ++ (z33 ++ (M ++ (z33 ++ (z33 ++ (N1 ++ N1)))))).length = 105 := by simp only [List.length_append]; omega
 have l2 : (I5 ++ (vtxL f ++ (M ++ (z33 ++ (z33 ++ (N1 ++ N1)))))).length = 105 := by simp only [List.length_append]; omega
 have l3 : (I5 ++ (vtxL f ++ (M ++ (vtxL u ++ (z33 ++ (N1 ++ N1)))))).length = 105 := by simp only [List.length_append]; omega
 have l4 : (I5 ++ (vtxL f ++ (M ++ (vtxL u ++ (vtxL d ++ (N1 ++ N1)))))).length = 105 := by simp only [List.length_append]; omega
 simp only [fillP, h0, h1, h2, h3, h4]
 rw [if_pos ⟨rfl, by omega⟩]
 rw [show (Value.int .i64 5).cells.toList = I5 from hI5.symm, s1, if_pos ⟨(List.size_toArray).trans hf, by omega⟩]
 rw [show (vtxV f).cells.toList = vtxL f from rfl, s2, if_pos ⟨(List.size_toArray).trans hu, by omega⟩]
 rw [show (vtxV u).cells.toList = vtxL u from rfl, s3, if_pos ⟨(List.size_toArray).trans hd, by omega⟩]
 rw [show (vtxV d).cells.toList = vtxL d from rfl, s4, if_pos ⟨rfl, by omega⟩]
 rw [show (Value.slice A n c).cells.toList = L1 from hL1.symm, s5, hI5, hM, hN1, hL1]
 rfl
section
variable {w0 : World} {S : SS} {P : Program} {n r : Nat} {T : TT} {x y : PV} {f u d : Vtx} {G L : Value}
theorem chg_stU {v : Vtx} (hx : x.val T = some (.pointer (some ⟨r, 37, none⟩))) (hv : y.val T = some (vtxV v)) :
  OW P w0 n (.st 33 x y) T ([(r, .cells (chgC f u d G L) 46 105)] :: S) (fun _ S' => S' = [(r, .cells (chgC f v d G L) 46 105)] :: S) := by
 refine (OW.st (k := 0) (c := chgC f u d G L) (u := vtxV v) hx hv rfl ((List.size_toArray).trans (vtxL_len v)) (by rw [chgC_len]; decide) (vtxL_one v)).mono ?_
 rintro _ _ rfl
 rw [vtx_box, chg_up]; rfl
theorem chg_stD {v : Vtx} (hx : x.val T = some (.pointer (some ⟨r, 70, none⟩))) (hv : y.val T = some (vtxV v)) :
  OW P w0 n (.st 33 x y) T ([(r, .cells (chgC f u d G L) 46 105)] :: S) (fun _ S' => S' = [(r, .cells (chgC f u v G L) 46 105)] :: S) := by
 refine (OW.st (k := 0) (c := chgC f u d G L) (u := vtxV v) hx hv rfl ((List.size_toArray).trans (vtxL_len v)) (by rw [chgC_len]; decide) (vtxL_one v)).mono ?_
 rintro _ _ rfl
 rw [vtx_box, chg_down]; rfl
theorem chg_stG {A : Option Addr} {a c k : Nat} (hk : S[k]? = some [(r, .cells (chgC f u d G L) 46 105)]) (hx : x.val T = some (.pointer (some ⟨r, 103, none⟩))) (hv : y.val T = some (.slice A a c)) :
  OW P w0 n (.st 1 x y) T S (fun _ S' => S' = S.set k [(r, .cells (chgC f u d (.slice A a c) L) 46 105)]) := by
 refine (OW.st (k := k) (c := chgC f u d G L) (u := .slice A a c) hx hv hk rfl (by rw [chgC_len]; exact (by decide : 103 + 1 <= 105)) rfl).mono ?_
 rintro _ _ rfl
 rw [show (Value.slice A a c).cells.toList = [.slice A a c] from rfl, chg_gone]
theorem chg_stk {k : Nat} {z : List Value} {A B : Option Addr} {a b c e : Nat} (hk : S[k]? = some [(r, .cells z 46 105)]) (hx : x.val T = some (.pointer (some ⟨r, 0, none⟩))) (hv : y.val T = some (chgV f u d (.slice A a c) (.slice B b e))) (hz : z.length = 105) :
  OW P w0 n (.st 105 x y) T S (fun _ S' => S' = S.set k [(r, .cells (chgC f u d (.slice A a c) (.slice B b e)) 46 105)]) := by
 refine (OW.st (k := k) (c := z) (u := chgV f u d (.slice A a c) (.slice B b e)) hx hv hk ((List.size_toArray).trans (chgC_len ..)) (by omega) (chgC_one ..)).mono ?_
 rintro _ _ rfl
 rw [chg_box, setAll (by rw [chgC_len, hz])]
end
def upF (I : List ItemP) (K : List Bool) (fr k : Nat) : Vtx := ((((List.range k).filter fun i => decide (i < fr) && solidK I K i).getLast?).map fun i => headV I[i]!).getD rootV
theorem upF_yes {I : List ItemP} {K : List Bool} {fr k : Nat} (h1 : k < fr) (h2 : solidK I K k = true) : upF I K fr (k + 1) = headV I[k]! := by
 unfold upF
 rw [List.range_succ, List.filter_append, List.filter_cons, if_pos (by rw [decide_eq_true h1, h2]; rfl), List.filter_nil, List.getLast?_append]
 rfl
theorem upF_no {I : List ItemP} {K : List Bool} {fr k : Nat} (h : ¬ (k < fr /\ solidK I K k = true)) : upF I K fr (k + 1) = upF I K fr k := by
 unfold upF
 rw [List.range_succ, List.filter_append, List.filter_cons, if_neg (by simpa using h), List.filter_nil, List.append_nil]
theorem upF_end {I : List ItemP} {K : List Bool} {fr k : Nat} (h : fr <= k) : upF I K fr k = upK I K fr := by
 unfold upF upK
 have e : (List.range k).filter (fun i => decide (i < fr) && solidK I K i) = (List.range fr).filter (solidK I K) := by
  obtain ⟨m, rfl⟩ : ∃ m, k = fr + m := ⟨k - fr, by omega⟩
  rw [List.range_add, List.filter_append]
  have e1 : (List.range fr).filter (fun i => decide (i < fr) && solidK I K i) = (List.range fr).filter (solidK I K) := by
   refine List.filter_congr fun i hi => ?_
   rw [decide_eq_true (List.mem_range.1 hi), Bool.true_and]
  have e2 : ((List.range m).map (fr + ·)).filter (fun i => decide (i < fr) && solidK I K i) = [] := by
   rw [List.filter_eq_nil_iff]
   intro i hi
   obtain ⟨j, _, rfl⟩ := List.mem_map.1 hi
   rw [decide_eq_false (by omega), Bool.false_and]; simp
  rw [e1, e2, List.append_nil]
 rw [e]
theorem downK_at {I : List ItemP} {K : List Bool} {to k : Nat} (hk : k < I.length) (h1 : to <= k) (h2 : solidK I K k = true) (h3 : ∀ i, i < k -> ¬ (to <= i /\ solidK I K i = true)) : downK I K to = headV I[k]! := by
 unfold downK
 have e : (List.range I.length).find? (fun i => decide (to <= i) && solidK I K i) = some k := by
  rw [List.find?_range_eq_some]
  refine ⟨by rw [decide_eq_true h1, h2]; rfl, List.mem_range.2 hk, fun j hj => ?_⟩
  have := h3 j hj
  by_cases h : to <= j
  ·have h4 : solidK I K j = false := by cases e : solidK I K j with
    | false => rfl
    | true => exact absurd ⟨h, e⟩ this
   rw [h4, Bool.and_false]; rfl
  rw [decide_eq_false h, Bool.false_and]; rfl
 rw [List.head?_filter, e]
 rfl
theorem downK_end {I : List ItemP} {K : List Bool} {to : Nat} (h3 : ∀ i, i < I.length -> ¬ (to <= i /\ solidK I K i = true)) : downK I K to = endV := by
 unfold downK
 have e : (List.range I.length).filter (fun i => decide (to <= i) && solidK I K i) = [] := by
  rw [List.filter_eq_nil_iff]
  intro i hi h
  rw [Bool.and_eq_true, decide_eq_true_eq] at h
  exact h3 i (List.mem_range.1 hi) h
 rw [e]
 rfl
def goneM (L : List ItemM) : List Vtx := L.flatMap fun x => x.lines.map LineP.v
theorem goneM_snoc {L : List ItemM} {k : Nat} (hk : k < L.length) : goneM (L.take (k + 1)) = goneM (L.take k) ++ L[k].lines.map LineP.v := by
 rw [ltake_snoc hk]; unfold goneM; rw [List.flatMap_append]; simp
theorem goneK_M (c : ChM) (r : Run) : goneK c.I r = goneM ((c.its.take r.to).drop r.fr) := by
 unfold goneK ChM.I goneM
 rw [<- List.map_take, <- List.map_drop, List.flatMap_map]
 rfl
theorem goneM_len {L : List ItemM} {N : Nat} (h : ∀ x ∈ L, x.lines.length <= N) : (goneM L).length <= N * L.length := by
 induction L with
 | nil => simp [goneM]
 | cons x L ih =>
  have h1 := h x (by simp)
  have h2 := ih (fun y hy => h y (List.mem_cons_of_mem _ hy))
  unfold goneM at h2 ⊢
  rw [List.flatMap_cons, List.length_append, List.length_map, List.length_cons, Nat.mul_succ]
  omega
theorem vtxs_snoc27 {v : Value} {l : List Vtx} {x : Vtx} {seg : Seg} (h : SlV 27 33 v (l.length + 1) (vtxs l ++ vtxL x) seg) : SlV 27 33 v (l ++ [x]).length (vtxs (l ++ [x])) seg := by
 rw [List.length_append, vtxs_app, vtxs_one1]; exact h
theorem hunk_fc {w0 : World} {S : SS} {c : ChM} {K : List Bool} {file : Vtx} {x : RunM} (h : ChOK w0 S c) (hC : cseg c ∈ S) (hK : kseg c K ∈ S) (hk : K.length = c.its.length) (hf : x.fr <= x.to) (ht : x.to <= c.its.length) :
  FC Tryz.prog w0 30 [c.ptr, vtxV file, runV x] S (fun u S' => ∃ G n cg sg, u = chgV file (upK c.I K x.fr) (downK c.I K x.to) (.slice G n cg) (.slice x.A x.lines.length x.c) /\ S' = sg :: S /\ n = (goneK c.I x.pl).length /\ SlV 27 33 (.slice G n cg) (goneK c.I x.pl).length (vtxs (sortL (goneK c.I x.pl))) sg) := by
 have hn := h.n
 have hIl := c.I_len
 obtain ⟨A', c', hcut, hrd0⟩ := cutI (A := c.Ai) hf ht h.icap
 have hgk := goneK_M c x.pl
 rw [show ((c.its.take x.pl.to).drop x.pl.fr) = ((c.its.take x.to).drop x.fr) from rfl] at hgk
 rw [hgk]
 obtain ⟨L, hL⟩ : ∃ z, z = (c.its.take x.to).drop x.fr := ⟨_, rfl⟩
 have hLl : L.length <= 1000 := by rw [hL, List.length_drop, List.length_take]; omega
 have hLm : ∀ y ∈ L, y ∈ c.its := fun y hy => by rw [hL] at hy; exact List.mem_of_mem_take (List.mem_of_mem_drop hy)
 rw [<- hL] at hcut hrd0 ⊢
 have hgl := goneM_len (L := L) (N := 60000) (fun y hy => (h.rows _ (hLm y hy)).nL)
 refine FC.ofC Tryz.known30 (by simp) ?_
 unfold Tryz.pc30
 simp only [argT]
 refine PW.seqOps (OL.cons trivial (OW.bx rfl) ?_)
 rintro _ _ ⟨r4, rfl, rfl⟩
 rw [vtx_box, vtxL_len]
 refine OL.cons trivial (OW.bx rfl) ?_
 rintro _ _ ⟨r5, rfl, rfl⟩
 refine OL.cons trivial OW.al ?_
 rintro _ _ ⟨r6, rfl, rfl⟩
 change OL _ _ _ _ _ ([(r6, .cells zChg 46 105)] :: [(r5, .cells (runC x) 84 3)] :: [(r4, .cells (vtxL file) 27 33)] :: S) _
 refine OL.nil (PW.k4 0 4 5 6 rfl (PW.seqOps (OL.det trivial (.ldA rfl (vtxL_len _) (all_at zM2)) (OL.det trivial (.build (cs := vtxL rootV) rfl) (OL.det trivial (.build (cs := vtxL endV) rfl) (OL.dp rfl (OL.det trivial (.ld rfl (own_at (j := 2) (c := runC x) (E := 84) (tot := 3) zM1 rfl)) (OL.det trivial (.build (cs := chgC file rootV endV (.slice none 0 0) (.slice x.A x.lines.length x.c)) (fill_chg rfl rfl rfl rfl rfl)) (OL.cons trivial OW.al ?_)))))))))
 rintro _ _ ⟨r7, rfl, rfl⟩
 refine OL.cons trivial (chg_stk (k := 0) rfl rfl rfl zChg_len) ?_
 rintro _ _ rfl
 change OL _ _ _ _ _ ([(r7, .cells (chgC file rootV endV (.slice none 0 0) (.slice x.A x.lines.length x.c)) 46 105)] :: [(r6, .cells zChg 46 105)] :: [(r5, .cells (runC x) 84 3)] :: [(r4, .cells (vtxL file) 27 33)] :: S) _
 refine OL.nil (PW.k4 0 5 6 7 rfl ?_)
 refine PW.seqS [(0, c.ptr), (5, .pointer (some ⟨r5, 0, none⟩)), (6, .pointer (some ⟨r6, 0, none⟩)), (7, .pointer (some ⟨r7, 0, none⟩))] ([(r7, .cells (chgC file (upK c.I K x.fr) (downK c.I K x.to) (.slice none 0 0) (.slice x.A x.lines.length x.c)) 46 105)] :: [] :: [(r6, .cells zChg 46 105)] :: [(r5, .cells (runC x) 84 3)] :: [(r4, .cells (vtxL file) 27 33)] :: S) ?_ fun K1 hK1 => ?_
 ·skip
  refine PW.seq fun K2 hK2 => ?_
  refine PW.seq fun K3 hK3 => ?_
  refine PW.quietK Tryz.mixed ?_
  obtain ⟨U, hU⟩ : ∃ z, z = upK c.I K x.fr := ⟨_, rfl⟩
  obtain ⟨D, hD⟩ : ∃ z, z = downK c.I K x.to := ⟨_, rfl⟩
  rw [<- hU, <- hD]
  refine QK.dp rfl (QK.det trivial (Yields.nilc rfl) (QK.dp rfl (QK.det trivial (.ld rfl (own_at (j := 0) (c := c.cells) (E := 71) (tot := 3) (List.mem_flatten.2 ⟨_, .tail _ (.tail _ (.tail _ (.tail _ (.tail _ (hC))))), List.mem_singleton.2 rfl⟩) rfl)) (QK.dp rfl (QK.det trivial (.ld rfl (own_at (j := 0) (c := runC x) (E := 84) (tot := 3) zM3 rfl)) (QK.dp rfl (QK.det trivial (.ld rfl (own_at (j := 1) (c := runC x) (E := 84) (tot := 3) zM3 rfl)) ?_)))))))
  refine QK.det trivial (.to (v' := .slice A' L.length c') (Yields.slS (l := x.fr) (h := x.to) rfl rfl rfl (.inl rfl) (.inl rfl) hf (by have := h.icap; omega)) hcut) ?_
  refine QK.dp rfl (QK.dp rfl (QK.nil ?_))
  change OL _ _ _ [] _ _ _
  refine OL.nil ?_
  refine hK3 _ _ ?_
  refine PW.k5 6 7 78 79 80 rfl (PW.block (PW.k5 6 7 78 79 80 rfl ?_))
  refine PW.loopK (I := fun mm T S' => ∃ (k : Nat) (v : Value) (sg : Seg), (k <= L.length /\ mm = L.length - k /\ SlV 27 33 v (goneM (L.take k)).length (vtxs (goneM (L.take k))) sg) /\ T = ([(6, .pointer (some ⟨r6, 0, none⟩)), (7, .pointer (some ⟨r7, 0, none⟩)), (78, .slice A' L.length c'), (79, .int .i64 (L.length : Int)), (80, .int .i64 (k : Int))] : TT) /\ S' = [(r7, .cells (chgC file U D v (.slice x.A x.lines.length x.c)) 46 105)] :: sg :: [(r6, .cells zChg 46 105)] :: [(r5, .cells (runC x) 84 3)] :: [(r4, .cells (vtxL file) 27 33)] :: S) (m := L.length) ⟨0, _, [], ⟨by omega, by omega, SlV.nil 27 33⟩, rfl, rfl⟩ ?_
  rintro mm _ _ ⟨k, v, sg, ⟨hkL, hmm, hsg⟩, rfl, rfl⟩
  refine PW.seqOps (OL.dp rfl (OL.nil (PW.k6 6 7 78 79 80 81 rfl ?_)))
  refine PW.seq fun K4 hK4 => ?_
  refine PW.cond rfl (fun c81 => ?_) (fun c81 => ?_)
  ·try simp only [cvS] at c81
   have hkl : k < L.length := by omega
   obtain ⟨a0, rfl⟩ := itemS_some (hrd0 w0 S h.items) (by omega)
   have hr2 : Rd w0 ([(r7, .cells (chgC file U D v (.slice x.A x.lines.length x.c)) 46 105)] :: sg :: [(r6, .cells zChg 46 105)] :: [(r5, .cells (runC x) 84 3)] :: [(r4, .cells (vtxL file) 27 33)] :: S) (some a0) (itemS L) := (hrd0 w0 S h.items).cons.cons.cons.cons.cons
   refine PW.skip ?_
   refine hK4 _ _ ?_
   refine PW.k5 6 7 78 79 80 rfl ?_
   refine PW.seq fun K5 hK5 => ?_
   refine PW.block (PW.seqOps (OL.det trivial (.ixN rfl rfl rfl hkl) (OL.det trivial (.ldA rfl (itemC_len _) (item_at hr2 hkl)) (OL.cons trivial OW.al ?_))))
   rintro _ _ ⟨r10, rfl, rfl⟩
   refine OL.cons trivial (item_st rfl rfl rfl) ?_
   rintro _ _ rfl
   change OL _ _ _ _ _ ([(r10, .cells (itemC L[k]) 75 3)] :: [(r7, .cells (chgC file U D v (.slice x.A x.lines.length x.c)) 46 105)] :: sg :: [(r6, .cells zChg 46 105)] :: [(r5, .cells (runC x) 84 3)] :: [(r4, .cells (vtxL file) 27 33)] :: S) _
   refine OL.nil (PW.k6 6 7 10 78 79 80 rfl (PW.seqOps (OL.dp rfl (OL.det trivial (.ld rfl (own_at (j := 0) (c := itemC L[k]) (E := 75) (tot := 3) zM0 rfl)) (OL.dp rfl (OL.dp rfl (OL.nil (PW.k8 6 7 78 79 80 85 86 87 rfl (PW.block (PW.k8 6 7 78 79 80 85 86 87 rfl ?_))))))))))
   refine PW.loopK (I := fun mj T S' => ∃ (j : Nat) (v : Value) (sg : Seg), (j <= L[k].lines.length /\ mj = L[k].lines.length - j /\ SlV 27 33 v (goneM (L.take k) ++ (L[k].lines.take j).map LineP.v).length (vtxs (goneM (L.take k) ++ (L[k].lines.take j).map LineP.v)) sg) /\ T = ([(6, .pointer (some ⟨r6, 0, none⟩)), (7, .pointer (some ⟨r7, 0, none⟩)), (78, .slice (some a0) L.length c'), (79, .int .i64 (L.length : Int)), (80, .int .i64 (k : Int)), (85, .slice L[k].LA L[k].lines.length L[k].lc), (86, .int .i64 (L[k].lines.length : Int)), (87, .int .i64 (j : Int))] : TT) /\ S' = [(r10, .cells (itemC L[k]) 75 3)] :: [(r7, .cells (chgC file U D v (.slice x.A x.lines.length x.c)) 46 105)] :: sg :: [(r6, .cells zChg 46 105)] :: [(r5, .cells (runC x) 84 3)] :: [(r4, .cells (vtxL file) 27 33)] :: S) (m := L[k].lines.length) ⟨0, v, sg, ⟨by omega, by omega, by rw [List.take_zero, List.map_nil, List.append_nil]; exact hsg⟩, rfl, rfl⟩ ?_
   rintro mj _ _ ⟨j, v, sg, ⟨hjL, hmj, hsg⟩, rfl, rfl⟩
   refine PW.seqOps (OL.dp rfl (OL.nil (PW.k9 6 7 78 79 80 85 86 87 88 rfl ?_)))
   refine PW.seq fun K6 hK6 => ?_
   refine PW.cond rfl (fun c88 => ?_) (fun c88 => ?_)
   ·try simp only [cvS] at c88
    have hjl : j < L[k].lines.length := by omega
    have hjB : L[k].lines.length <= 60000 := (h.rows _ (hLm _ (List.getElem_mem hkl))).nL
    have hGt := goneM_len (L := L.take k) (N := 60000) (fun y hy => (h.rows _ (hLm y (List.mem_of_mem_take hy))).nL)
    rw [List.length_take] at hGt
    have hGl : (goneM (L.take k) ++ (L[k].lines.take j).map LineP.v).length <= 60000 * 1001 := by
     rw [List.length_append, List.length_map, List.length_take]; omega
    have hrl := (h.rows _ (hLm _ (List.getElem_mem hkl))).rdL
    obtain ⟨b0, hb0⟩ := lines_some hrl (by omega)
    rw [hb0] at hrl
    have hrl2 : Rd w0 ([(r10, .cells (itemC L[k]) 75 3)] :: [(r7, .cells (chgC file U D v (.slice x.A x.lines.length x.c)) 46 105)] :: sg :: [(r6, .cells zChg 46 105)] :: [(r5, .cells (runC x) 84 3)] :: [(r4, .cells (vtxL file) 27 33)] :: S) (some b0) (lines L[k].lines) := hrl.cons.cons.cons.cons.cons.cons
    refine PW.skip ?_
    refine hK6 _ _ ?_
    refine PW.k8 6 7 78 79 80 85 86 87 rfl ?_
    refine PW.seq fun K7 hK7 => ?_
    refine PW.block (PW.seqOps ?_)
    rw [hb0]
    refine OL.det trivial (.ixN rfl rfl rfl hjl) (OL.det trivial (.ldA rfl (lineC_len _) (line_at hrl2 hjl)) (OL.cons trivial OW.al ?_))
    rintro _ _ ⟨r12, rfl, rfl⟩
    refine OL.cons trivial (line_st (u := L[k].lines[j]) rfl rfl rfl) ?_
    rintro _ _ rfl
    change OL _ _ _ _ _ (lseg r12 L[k].lines[j] :: [(r10, .cells (itemC L[k]) 75 3)] :: [(r7, .cells (chgC file U D v (.slice x.A x.lines.length x.c)) 46 105)] :: sg :: [(r6, .cells zChg 46 105)] :: [(r5, .cells (runC x) 84 3)] :: [(r4, .cells (vtxL file) 27 33)] :: S) _
    refine OL.nil (PW.k9 6 7 12 78 79 80 85 86 87 rfl (PW.ops (OL.dp rfl (OL.det trivial (.ld rfl (own_at (j := 103) (c := chgC file U D v (.slice x.A x.lines.length x.c)) (E := 46) (tot := 105) zM2 (chgC_gone ..).1)) (OL.dp rfl (OL.det trivial (.ldA rfl (vtxL_len _) (lcell_vtx (x := L[k].lines[j]) (E := 99) (tot := 35) zM0)) ?_))))))
    apply OL.app1 (k := 3)
    ·rfl
    ·rfl
    ·exact (List.size_toArray).trans (vtxL_len _)
    ·rfl
    ·rfl
    ·rfl
    ·exact hsg
    ·exact vtxL_one _
    ·omega
    ·unfold maxLen; omega
    intro v96 sg2 hsg2
    obtain ⟨A9, c9, rfl, -, -, -⟩ := slv_rdL (w0 := w0) hsg2
    refine OL.dp rfl (OL.cons trivial (chg_stG (k := 2) rfl rfl rfl) ?_)
    rintro _ _ rfl
    change OL _ _ _ _ _ (lseg r12 L[k].lines[j] :: [(r10, .cells (itemC L[k]) 75 3)] :: [(r7, .cells (chgC file U D (.slice A9 ((goneM (L.take k) ++ (L[k].lines.take j).map LineP.v).length + 1) c9) (.slice x.A x.lines.length x.c)) 46 105)] :: sg2 :: [(r6, .cells zChg 46 105)] :: [(r5, .cells (runC x) 84 3)] :: [(r4, .cells (vtxL file) 27 33)] :: S) _
    refine OL.nil ?_
    refine hK7 _ _ ?_
    refine PW.k8 6 7 78 79 80 85 86 87 rfl (PW.ops ?_)
    refine OL.det trivial (.add64 rfl rfl (by omega) (by omega)) ?_
    refine OL.dp rfl (OL.nil ?_)
    repeat rw [inBlk_n]
    try rw [thenK_n]
    refine LoopEnd.mkS (Sub.drop (Sub.refl _)) (T'' := [(6, _), (7, _), (78, _), (79, _), (80, _), (85, _), (86, _), (87, _)]) (wi rfl) ?_
    have hsg3 := vtxs_snoc27 hsg2
    have e3 : (goneM (L.take k) ++ (L[k].lines.take j).map LineP.v) ++ [L[k].lines[j].v] = goneM (L.take k) ++ (L[k].lines.take (j + 1)).map LineP.v := by rw [ltake_snoc hjl, List.map_append, List.append_assoc]; rfl
    rw [e3] at hsg3
    exact ⟨L[k].lines.length - (j + 1), by omega, j + 1, _, sg2, ⟨by omega, rfl, hsg3⟩, (by rw [hb0]; rfl), rfl⟩
   try simp only [cvS] at c88
   refine PW.exit ?_
   refine hK5 _ _ ?_
   refine PW.k5 6 7 78 79 80 rfl (PW.ops ?_)
   refine OL.det trivial (.add64 rfl rfl (by omega) (by omega)) ?_
   refine OL.dp rfl (OL.nil ?_)
   repeat rw [inBlk_n]
   try rw [thenK_n]
   refine LoopEnd.mkS (Sub.drop (Sub.refl _)) (T'' := [(6, _), (7, _), (78, _), (79, _), (80, _)]) (wi rfl) ?_
   have hje : j = L[k].lines.length := by omega
   rw [hje, List.take_length, <- goneM_snoc hkl] at hsg
   exact ⟨L.length - (k + 1), by omega, k + 1, _, sg, ⟨by omega, rfl, hsg⟩, rfl, rfl⟩
  try simp only [cvS] at c81
  refine PW.exit ?_
  refine hK2 _ _ ?_
  refine PW.k2 6 7 rfl (PW.seqOps ?_)
  have hke : k = L.length := by omega
  rw [hke, List.take_length] at hsg
  obtain ⟨Ag, cg, rfl, -, -, -⟩ := slv_rdL (w0 := w0) hsg
  refine OL.dp rfl (OL.det trivial (.ld rfl (own_at (j := 103) (c := chgC file U D (.slice Ag (goneM L).length cg) (.slice x.A x.lines.length x.c)) (E := 46) (tot := 105) zM0 (chgC_gone ..).1)) ?_)
  refine OL.call trivial rfl (sort_fc (k := 1) rfl hsg (by omega)) ?_
  rintro _ _ ⟨rfl, sgs, hsgs, rfl⟩
  refine OL.nil (PW.k2 6 7 rfl (PW.seqOps (OL.det trivial (.ldA rfl (chgC_len ..) (all_at (c := chgC file U D (.slice Ag (goneM L).length cg) (.slice x.A x.lines.length x.c)) (E := 46) (tot := 105) zM0)) (OL.cons trivial (chg_stk (k := 2) (z := zChg) (u := U) (d := D) rfl rfl rfl zChg_len) ?_))))
  rintro _ _ rfl
  refine OL.nil (PW.k1 6 rfl (PW.ret ?_))
  exact ⟨.inr rfl, _, _, rfl, chg_read (E := 46) (tot := 105) zM2, _, Sub.drop (Sub.cons (Sub.drop (Sub.drop (Sub.drop (Sub.refl _))))), Ag, (goneM L).length, cg, sgs, by rw [hU, hD], rfl, rfl, hsgs⟩
 skip
 refine PW.seqOps (OL.dp rfl (OL.det trivial (Yields.nilc rfl) (OL.dp rfl (OL.det trivial (.ld rfl (own_at (j := 0) (c := c.cells) (E := 71) (tot := 3) (List.mem_flatten.2 ⟨_, .tail _ (.tail _ (.tail _ (.tail _ (hC)))), List.mem_singleton.2 rfl⟩) rfl)) (OL.dp rfl (OL.dp rfl (OL.nil (PW.k6 0 5 6 7 23 24 rfl (PW.block (PW.k6 0 5 6 7 23 24 rfl ?_))))))))))
 refine PW.loopK (I := fun mm T S' => ∃ (k : Nat), (k <= c.its.length /\ mm = c.its.length - k /\ ∀ i, i < k -> ¬ (x.to <= i /\ solidK c.I K i = true)) /\ T = ([(0, c.ptr), (5, .pointer (some ⟨r5, 0, none⟩)), (6, .pointer (some ⟨r6, 0, none⟩)), (7, .pointer (some ⟨r7, 0, none⟩)), (23, .int .i64 (c.its.length : Int)), (24, .int .i64 (k : Int))] : TT) /\ S' = [(r7, .cells (chgC file (upF c.I K x.fr k) endV (.slice none 0 0) (.slice x.A x.lines.length x.c)) 46 105)] :: [(r6, .cells zChg 46 105)] :: [(r5, .cells (runC x) 84 3)] :: [(r4, .cells (vtxL file) 27 33)] :: S) (m := c.its.length) ⟨0, ⟨by omega, by omega, fun i hi => by omega⟩, rfl, rfl⟩ ?_
 rintro mm _ _ ⟨k, ⟨hkL, hmm, hno⟩, rfl, rfl⟩
 refine PW.seqOps (OL.dp rfl (OL.nil (PW.k7 0 5 6 7 23 24 25 rfl ?_)))
 refine PW.seq fun K8 hK8 => ?_
 refine PW.cond rfl (fun c25 => ?_) (fun c25 => ?_)
 ·try simp only [cvS] at c25
  have hkl : k < c.its.length := by omega
  obtain ⟨a0, ha0⟩ := itemS_some h.items (by omega)
  have hr2 := h.items
  rw [ha0] at hr2
  have hig := c.I_get hkl
  have hi! : c.I[k]! = c.its[k].pl := by rw [getElem!_pos c.I k (by rw [c.I_len]; exact hkl), hig]
  refine PW.skip ?_
  refine hK8 _ _ ?_
  refine PW.k6 0 5 6 7 23 24 rfl ?_
  refine PW.seq fun K9 hK9 => ?_
  refine PW.block (PW.seqOps (OL.dp rfl (OL.dp rfl (OL.nil (PW.k7 0 5 6 7 8 23 24 rfl ?_)))))
  refine PW.seqS [(0, c.ptr), (5, .pointer (some ⟨r5, 0, none⟩)), (6, .pointer (some ⟨r6, 0, none⟩)), (7, .pointer (some ⟨r7, 0, none⟩)), (8, .int .i64 (k : Int)), (23, .int .i64 (c.its.length : Int)), (24, .int .i64 (k : Int))] ([(r7, .cells (chgC file (upF c.I K x.fr (k + 1)) endV (.slice none 0 0) (.slice x.A x.lines.length x.c)) 46 105)] :: [(r6, .cells zChg 46 105)] :: [(r5, .cells (runC x) 84 3)] :: [(r4, .cells (vtxL file) 27 33)] :: S) ?_ fun K10 hK10 => ?_
  ·skip
   refine PW.seqOps (OL.dp rfl (OL.dp rfl (OL.det trivial (.ld rfl (own_at (j := 1) (c := runC x) (E := 84) (tot := 3) zM2 rfl)) (OL.dp rfl ?_))))
   refine OL.bool trivial (Yields.pure rfl) (fun g52 => ?_) (fun g52 => ?_)
   ·try simp only [cvS] at g52
    refine OL.det rfl (.pure rfl) (OL.det rfl (.pure rfl) (OL.call rfl rfl (csolid_fc (h.mono (Over.refl _).cons.cons.cons.cons) (.tail _ (.tail _ (.tail _ (.tail _ (hC))))) (.tail _ (.tail _ (.tail _ (.tail _ (hK))))) hk hkl) ?_))
    rintro _ Sx ⟨rfl, hSx⟩
    rw [hSx]
    clear hSx
    refine OL.dp rfl (OL.nil (PW.k8 0 5 6 7 8 23 24 56 rfl ?_))
    refine PW.cond rfl (fun c56 => ?_) (fun c56 => ?_)
    ·skip
     have hnb : c.its[k].block = false := by
      have := c56
      unfold solidK at this
      rw [hi!, Bool.and_eq_true] at this
      simpa [ItemM.pl] using this.2
     have hpos := h.solid _ (List.getElem_mem hkl) hnb
     have hrl := (h.rows _ (List.getElem_mem hkl)).rdL
     obtain ⟨b0, hb0⟩ := lines_some hrl hpos
     rw [hb0] at hrl
     have hhd : headV c.I[k]! = c.its[k].lines[0].v := by rw [hi!]; unfold headV; show c.its[k].lines[0]!.v = _; rw [getElem!_pos _ 0 hpos]
     refine PW.seqOps (OL.dp rfl (OL.det trivial (Yields.nilc rfl) (OL.dp rfl (OL.det trivial (.ld rfl (own_at (j := 0) (c := c.cells) (E := 71) (tot := 3) (List.mem_flatten.2 ⟨_, .tail _ (.tail _ (.tail _ (.tail _ (hC)))), List.mem_singleton.2 rfl⟩) rfl)) (OL.dp rfl ?_)))))
     rw [ha0]
     refine OL.det trivial (.ixN rfl rfl rfl hkl) (OL.dp rfl (OL.det trivial (.ld rfl (item_at (hr2.cons.cons.cons.cons) hkl _ _ rfl)) ?_))
     rw [hb0]
     refine OL.det trivial (.ixN (j := 0) rfl rfl rfl hpos) (OL.dp rfl (OL.det trivial (.ldA rfl (vtxL_len _) (line_vtx (k := 0) (hrl.cons.cons.cons.cons) hpos)) (OL.dp rfl (OL.cons trivial (chg_stD rfl rfl) ?_))))
     rintro _ _ rfl
     rw [<- hhd, <- downK_at (by omega) (show x.to <= k by omega) c56 hno, upF_end (by omega)]
     refine OL.subS (S' := [(r7, .cells (chgC file (upK c.I K x.fr) (downK c.I K x.to) (.slice none 0 0) (.slice x.A x.lines.length x.c)) 46 105)] :: [] :: [(r6, .cells zChg 46 105)] :: [(r5, .cells (runC x) 84 3)] :: [(r4, .cells (vtxL file) 27 33)] :: S) (Sub.cons (Sub.nilL (Sub.refl _))) (OL.nil (PW.k4 0 5 6 7 rfl (PW.exit ?_)))
     exact hK1 _ _ ⟨rfl, rfl, rfl, rfl, trivial⟩ rfl
    skip
    refine PW.skip ?_
    refine hK9 _ _ ?_
    refine PW.k6 0 5 6 7 23 24 rfl (PW.ops ?_)
    refine OL.det trivial (.add64 rfl rfl (by omega) (by omega)) ?_
    refine OL.dp rfl (OL.nil ?_)
    repeat rw [inBlk_n]
    try rw [thenK_n]
    refine LoopEnd.mk (T'' := [(0, _), (5, _), (6, _), (7, _), (23, _), (24, _)]) (wi rfl) ?_
    have hsf : solidK c.I K k = false := c56
    exact ⟨c.its.length - (k + 1), by omega, k + 1, ⟨by omega, rfl, fun i hi hh => by
     rcases Nat.lt_or_ge i k with h1 | h1
     ·exact hno i h1 hh
     obtain rfl : i = k := by omega
     rw [hsf] at hh; cases hh.2⟩, rfl, rfl⟩
   try simp only [cvS] at g52
   refine OL.off rfl rfl (OL.off rfl rfl (OL.off rfl rfl (OL.dp rfl (OL.nil (PW.k8 0 5 6 7 8 23 24 56 rfl (PW.ite (b := false) rfl ?_))))))
   rw [if_neg Bool.false_ne_true]
   refine PW.skip ?_
   refine hK9 _ _ ?_
   refine PW.k6 0 5 6 7 23 24 rfl (PW.ops ?_)
   refine OL.det trivial (.add64 rfl rfl (by omega) (by omega)) ?_
   refine OL.dp rfl (OL.nil ?_)
   repeat rw [inBlk_n]
   try rw [thenK_n]
   refine LoopEnd.mk (T'' := [(0, _), (5, _), (6, _), (7, _), (23, _), (24, _)]) (wi rfl) ?_
   exact ⟨c.its.length - (k + 1), by omega, k + 1, ⟨by omega, rfl, fun i hi hh => by
    rcases Nat.lt_or_ge i k with h1 | h1
    ·exact hno i h1 hh
    omega⟩, rfl, rfl⟩
  skip
  refine PW.seqOps (OL.dp rfl (OL.dp rfl (OL.det trivial (.ld rfl (own_at (j := 0) (c := runC x) (E := 84) (tot := 3) zM2 rfl)) (OL.dp rfl ?_))))
  refine OL.bool trivial (Yields.pure rfl) (fun g31 => ?_) (fun g31 => ?_)
  ·try simp only [cvS] at g31
   refine OL.det rfl (.pure rfl) (OL.det rfl (.pure rfl) (OL.call rfl rfl (csolid_fc (h.mono (Over.refl _).cons.cons.cons.cons) (.tail _ (.tail _ (.tail _ (.tail _ (hC))))) (.tail _ (.tail _ (.tail _ (.tail _ (hK))))) hk hkl) ?_))
   rintro _ Sx ⟨rfl, hSx⟩
   rw [hSx]
   clear hSx
   refine OL.dp rfl (OL.nil (PW.k8 0 5 6 7 8 23 24 35 rfl ?_))
   refine PW.cond rfl (fun c35 => ?_) (fun c35 => ?_)
   ·skip
    have hnb : c.its[k].block = false := by
     have := c35
     unfold solidK at this
     rw [hi!, Bool.and_eq_true] at this
     simpa [ItemM.pl] using this.2
    have hpos := h.solid _ (List.getElem_mem hkl) hnb
    have hrl := (h.rows _ (List.getElem_mem hkl)).rdL
    obtain ⟨b0, hb0⟩ := lines_some hrl hpos
    rw [hb0] at hrl
    have hhd : headV c.I[k]! = c.its[k].lines[0].v := by rw [hi!]; unfold headV; show c.its[k].lines[0]!.v = _; rw [getElem!_pos _ 0 hpos]
    refine PW.ops (OL.dp rfl (OL.det trivial (Yields.nilc rfl) (OL.dp rfl (OL.det trivial (.ld rfl (own_at (j := 0) (c := c.cells) (E := 71) (tot := 3) (List.mem_flatten.2 ⟨_, .tail _ (.tail _ (.tail _ (.tail _ (hC)))), List.mem_singleton.2 rfl⟩) rfl)) (OL.dp rfl ?_)))))
    rw [ha0]
    refine OL.det trivial (.ixN rfl rfl rfl hkl) (OL.dp rfl (OL.det trivial (.ld rfl (item_at (hr2.cons.cons.cons.cons) hkl _ _ rfl)) ?_))
    rw [hb0]
    refine OL.det trivial (.ixN (j := 0) rfl rfl rfl hpos) (OL.dp rfl (OL.det trivial (.ldA rfl (vtxL_len _) (line_vtx (k := 0) (hrl.cons.cons.cons.cons) hpos)) (OL.dp rfl (OL.cons trivial (chg_stU rfl rfl) ?_))))
    rintro _ _ rfl
    rw [<- hhd, <- upF_yes (show k < x.fr by omega) c35]
    refine OL.nil ?_
    exact hK10 _ _ ⟨rfl, rfl, rfl, rfl, rfl, rfl, rfl, trivial⟩ rfl
   skip
   rw [<- upF_no (I := c.I) (K := K) (fr := x.fr) (k := k) (fun hh => by rw [hh.2] at c35; cases c35)]
   refine PW.skip ?_
   exact hK10 _ _ ⟨rfl, rfl, rfl, rfl, rfl, rfl, rfl, trivial⟩ rfl
  try simp only [cvS] at g31
  rw [<- upF_no (I := c.I) (K := K) (fr := x.fr) (k := k) (fun hh => absurd hh.1 (by omega))]
  refine OL.off rfl rfl (OL.off rfl rfl (OL.off rfl rfl (OL.dp rfl (OL.nil (PW.k8 0 5 6 7 8 23 24 35 rfl (PW.ite (b := false) rfl ?_))))))
  rw [if_neg Bool.false_ne_true]
  refine PW.skip ?_
  exact hK10 _ _ ⟨rfl, rfl, rfl, rfl, rfl, rfl, rfl, trivial⟩ rfl
 try simp only [cvS] at c25
 rw [upF_end (show x.fr <= k by omega), <- downK_end (I := c.I) (K := K) (to := x.to) (fun i hi => hno i (by omega))]
 refine PW.subS (S' := [(r7, .cells (chgC file (upK c.I K x.fr) (downK c.I K x.to) (.slice none 0 0) (.slice x.A x.lines.length x.c)) 46 105)] :: [] :: [(r6, .cells zChg 46 105)] :: [(r5, .cells (runC x) 84 3)] :: [(r4, .cells (vtxL file) 27 33)] :: S) (Sub.cons (Sub.nilL (Sub.refl _))) (PW.exit ?_)
 exact hK1 _ _ ⟨rfl, rfl, rfl, rfl, trivial⟩ rfl
end Go.Proofs.Gr

namespace Go.Proofs.Gr
open Go.SL Go.RowKit Go.Proofs Go.GP Go.MyPlain
theorem secsF_ok {I : List ItemP} : ∀ (f fr : Nat) (w cur : List ByteArray), fr <= I.length -> ∀ s ∈ secsT I.length (toksF I f fr w) fr cur, (s.fr <= s.to /\ s.to <= I.length) /\ s.lines.length <= cur.length + w.length /\ ∀ x ∈ s.lines, x ∈ cur ∨ x ∈ w
 | 0, fr, w, cur, h, s, hs => by
  simp only [toksF, secsT, List.mem_singleton] at hs
  subst hs
  exact ⟨⟨h, Nat.le_refl _⟩, Nat.le_add_right _ _, fun x hx => .inl hx⟩
 | f + 1, fr, [], cur, h, s, hs => by
  simp only [toksF, secsT, List.mem_singleton] at hs
  subst hs
  exact ⟨⟨h, Nat.le_refl _⟩, Nat.le_add_right _ _, fun x hx => .inl hx⟩
 | f + 1, fr, t :: w, cur, h, s, hs => by
  simp only [toksF] at hs
  cases e : recAt I fr (t :: w) with
  | none =>
   rw [e] at hs
   simp only [secsT] at hs
   obtain ⟨h1, h2, h3⟩ := secsF_ok f fr w (cur ++ [t]) h s hs
   refine ⟨h1, by rw [List.length_append, List.length_singleton] at h2; rw [List.length_cons]; omega, fun x hx => ?_⟩
   rcases h3 x hx with h4 | h4
   ·rcases List.mem_append.1 h4 with h5 | h5
    ·exact .inl h5
    rw [List.mem_singleton.1 h5]; exact .inr List.mem_cons_self
   exact .inr (List.mem_cons_of_mem _ h4)
  | some k =>
   rw [e] at hs
   simp only [secsT] at hs
   obtain ⟨k1, k2, k3, k4⟩ := recAt_some e
   rcases List.mem_cons.1 hs with rfl | hs
   ·exact ⟨⟨k1, Nat.le_of_lt k2⟩, Nat.le_add_right _ _, fun x hx => .inl hx⟩
   obtain ⟨h1, h2, h3⟩ := secsF_ok f (k + 1) _ [] k2 s hs
   refine ⟨h1, by rw [List.length_drop] at h2; simp only [List.length_nil, List.length_cons] at h2 ⊢; omega, fun x hx => ?_⟩
   rcases h3 x hx with h4 | h4
   ·cases h4
   exact .inr (List.mem_of_mem_drop h4)
theorem secs_ok {I : List ItemP} {w : List ByteArray} {s : Sec} (hs : s ∈ secs I w) : (s.fr <= s.to /\ s.to <= I.length) /\ s.lines.length <= w.length /\ ∀ x ∈ s.lines, x ∈ w := by
 obtain ⟨h1, h2, h3⟩ := secsF_ok w.length 0 w [] (Nat.zero_le _) s hs
 refine ⟨h1, by simpa using h2, fun x hx => (h3 x hx).resolve_left (by simp)⟩
theorem sec_many : ∀ {l : List Sec} {s : Sec}, s ∈ l -> s.lines.length <= manyS l
 | t :: l, s, h => by
  have e : manyS (t :: l) = t.lines.length + manyS l := by unfold manyS; rw [List.map_cons, List.sum_cons]
  rcases List.mem_cons.1 h with rfl | h
  ·omega
  have := sec_many h; omega
theorem allR_app (I : List ItemP) : ∀ (a b : List Sec) (K : List Bool), allR I (a ++ b) K = ((allR I a K).1 ++ (allR I b (allR I a K).2).1, (allR I b (allR I a K).2).2)
 | [], b, K => rfl
 | s :: a, b, K => by
  simp only [List.cons_append, allR]
  rw [allR_app I a b]
  simp only [List.append_assoc]
theorem allR_snoc (I : List ItemP) (a : List Sec) (s : Sec) (K : List Bool) : allR I (a ++ [s]) K = ((allR I a K).1 ++ (runsR I s (allR I a K).2).runs, (runsR I s (allR I a K).2).K) := by
 rw [allR_app]
 simp only [allR, List.append_nil]
theorem runsR_len {I : List ItemP} {s : Sec} {K : List Bool} : (runsR I s K).K.length = K.length := foldU_len _ _ _
theorem allR_len {I : List ItemP} : ∀ (a : List Sec) (K : List Bool), (allR I a K).2.length = K.length
 | [], _ => rfl
 | s :: a, K => by simp only [allR]; rw [allR_len a, runsR_len]
def RunIn (lo hi : Nat) (r : Run) : Prop := lo <= r.fr /\ r.fr <= r.to /\ r.to <= hi
theorem modLast_all {p : Run -> Prop} {f : Run -> Run} (hf : ∀ r, p r -> p (f r)) : ∀ {l : List Run}, (∀ r ∈ l, p r) -> ∀ r ∈ modLast f l, p r
 | [], h, r, hr => by cases hr
 | [x], h, r, hr => by simp only [modLast, List.mem_singleton] at hr; subst hr; exact hf x (h x (by simp))
 | x :: y :: l, h, r, hr => by
  simp only [modLast] at hr
  rcases List.mem_cons.1 hr with rfl | hr
  ·exact h r (by simp)
  exact modLast_all hf (l := y :: l) (fun r hr => h r (List.mem_cons_of_mem _ hr)) r hr
theorem growR_all {p : Run -> Prop} {st : RS} (h : ∀ r ∈ st.runs, p r) (h1 : p ⟨st.at_, st.at_, []⟩) : ∀ r ∈ growR st, p r := by
 intro r hr
 unfold growR at hr
 split at hr
 ·exact h r hr
 rcases List.mem_append.1 hr with h2 | h2
 ·exact h r h2
 rw [List.mem_singleton.1 h2]; exact h1
theorem stepU_in {ls : List ByteArray} {st : RS} {t : Int × Int × Int} {lo : Nat} (hlo : lo <= st.at_) (h : ∀ r ∈ st.runs, RunIn lo st.at_ r) : st.at_ <= (stepU ls st t).at_ /\ ∀ r ∈ (stepU ls st t).runs, RunIn lo (stepU ls st t).at_ r := by
 unfold stepU
 split
 ·exact ⟨Nat.le_succ _, fun r hr => let ⟨a, b, c⟩ := h r hr; ⟨a, b, Nat.le_succ_of_le c⟩⟩
 split
 ·refine ⟨Nat.le_succ _, modLast_all (fun r hr => ⟨hr.1, ?_, Nat.le_refl _⟩) (growR_all (fun r hr => let ⟨a, b, c⟩ := h r hr; ⟨a, b, Nat.le_succ_of_le c⟩) ⟨hlo, Nat.le_refl _, Nat.le_succ _⟩)⟩
  exact Nat.le_trans hr.2.1 hr.2.2
 exact ⟨Nat.le_refl _, modLast_all (f := fun r => { r with lines := r.lines ++ [ls[t.2.2.toNat]!] }) (fun r hr => hr) (growR_all h ⟨hlo, Nat.le_refl _, Nat.le_refl _⟩)⟩
theorem foldU_in {ls : List ByteArray} {lo : Nat} : ∀ (l : List (Int × Int × Int)) (st : RS), lo <= st.at_ -> (∀ r ∈ st.runs, RunIn lo st.at_ r) -> ∀ r ∈ (l.foldl (stepU ls) st).runs, RunIn lo (l.foldl (stepU ls) st).at_ r
 | [], st, _, h => h
 | t :: l, st, hlo, h => by
  rw [List.foldl_cons]
  obtain ⟨h1, h2⟩ := stepU_in (ls := ls) (t := t) hlo h
  exact foldU_in l _ (Nat.le_trans hlo h1) h2
theorem txts_len {I : List ItemP} {fr to : Nat} (hf : fr <= to) (ht : to <= I.length) : (txts I fr to).length = to - fr := by
 unfold txts; rw [List.length_map, List.length_drop, List.length_take]; omega
theorem runsR_at {I : List ItemP} {s : Sec} {K : List Bool} (hf : s.fr <= s.to) (ht : s.to <= I.length) : (runsR I s K).at_ = s.to := by
 unfold runsR
 rw [foldU_at _ _ _ (fun t h => scr_op h), scr_takes, txts_len hf ht]
 show s.fr + (s.to - s.fr) = s.to
 omega
theorem runsR_in {I : List ItemP} {s : Sec} {K : List Bool} (hf : s.fr <= s.to) (ht : s.to <= I.length) : ∀ r ∈ (runsR I s K).runs, RunIn s.fr s.to r := by
 have := foldU_in (ls := s.lines) (lo := s.fr) (scr (txts I s.fr s.to) s.lines) ⟨s.fr, false, [], K⟩ (Nat.le_refl _) (fun r hr => by cases hr)
 intro r hr
 have h2 := this r hr
 rwa [show ((scr (txts I s.fr s.to) s.lines).foldl (stepU s.lines) ⟨s.fr, false, [], K⟩).at_ = s.to from runsR_at hf ht] at h2
theorem allR_in {I : List ItemP} : ∀ (a : List Sec) (K : List Bool), (∀ s ∈ a, s.fr <= s.to /\ s.to <= I.length) -> ∀ r ∈ (allR I a K).1, r.fr <= r.to /\ r.to <= I.length
 | [], _, _, r, hr => by cases hr
 | s :: a, K, h, r, hr => by
  simp only [allR] at hr
  have hs := h s (by simp)
  rcases List.mem_append.1 hr with h1 | h1
  ·obtain ⟨_, h2, h3⟩ := runsR_in hs.1 hs.2 r h1
   exact ⟨h2, Nat.le_trans h3 hs.2⟩
  exact allR_in a _ (fun s hs => h s (List.mem_cons_of_mem _ hs)) r h1
def errH (I : List ItemP) (w : List ByteArray) : Int := checkP (secs I w)
def keptH (I : List ItemP) (w : List ByteArray) : List Bool := (allR I (secs I w) (keepT (List.replicate I.length false) (toks I 0 w))).2
def runsH (I : List ItemP) (w : List ByteArray) : List Run := (allR I (secs I w) (keepT (List.replicate I.length false) (toks I 0 w))).1
def hunkP (I : List ItemP) (K : List Bool) (r : Run) : HunkP := ⟨upK I K r.fr, downK I K r.to, r.lines, sortL (goneK I r)⟩
def hunksP (I : List ItemP) (w : List ByteArray) : List HunkP := if errH I w = 0 then (runsH I w).map (hunkP I (keptH I w)) else []
theorem sortL_len (l : List Vtx) : (sortL l).length = l.length := List.length_mergeSort _
theorem checkP_zero {l : List Sec} (h : checkP l = 0) : manyS l <= 256 /\ badS l = false := by
 unfold checkP at h
 by_cases h1 : 256 < manyS l
 ·rw [if_pos h1] at h; cases h
 rw [if_neg h1] at h
 refine ⟨by omega, ?_⟩
 cases e : badS l with
 | false => rfl
 | true => rw [e] at h; cases h
end Go.Proofs.Gr

namespace Go.Proofs.Gr
open Go.SL Go.RowKit Go.Proofs Go.GP
set_option maxHeartbeats 1000000
open Go.MyPlain
theorem OW.appW {w0 : World} {P : Program} {n : Nat} {T : TT} {S : SS} {t E sz bytes m q c k : Nat} {z v : Value} {s x : PV} {A : Option Addr} {xs news : List Value} {seg : Seg} (hs' : s.val T = some v) (hk : S[k]? = some seg) (hv : SlV E sz v m xs seg)
  (hx : x.val T = some (.slice A q c)) (hl : news.length = q * sz) (hsz : 0 < sz) (hrd : Rd w0 S A news) (hc : A = none -> c = 0) (h1 : news.all (·.oneCell') = true) (hb : (m + q) * bytes <= 140737488355328) (h63 : m + q <= maxLen) :
  OW P w0 n (.app t E sz bytes z s x) T S (fun v' S' => ∃ seg', S' = S.set k seg' /\ SlV E sz v' (m + q) (xs ++ news) seg') := by
 cases A with
 | none =>
  obtain rfl := hc rfl
  have : news = [] := by
   cases news with
   | nil => rfl
   | cons b l => obtain ⟨_, e, _⟩ := hrd 0 _ rfl; cases e
  subst this
  obtain rfl : q = 0 := by
   rcases Nat.eq_zero_or_pos q with h | h
   ·exact h
   have := Nat.mul_pos h hsz; simp at hl; omega
  have := OW.of_yields (OW.app_none (P := P) (w0 := w0) (n := n) (t := t) (bytes := bytes) (z := z) hs' hk hv hx)
  refine this.mono ?_
  rintro v' S' ⟨rfl, rfl⟩
  refine ⟨seg, ?_, by simpa using hv⟩
  obtain ⟨A, R, rfl, rfl⟩ := split_at hk
  exact (set_at rfl).symm
 | some a => exact OW.app hs' hk hv hx hl (fun j u hj => hrd.at hj) h1 hb h63
theorem run_st {w0 : World} {S : SS} {P : Program} {n r : Nat} {T : TT} {x v : PV} {u : RunM} {z : List Value} (hx : x.val T = some (.pointer (some ⟨r, 0, none⟩))) (hv : v.val T = some (runV u)) (hz : z.length = 3) :
  OW P w0 n (.st 3 x v) T ([(r, .cells z 84 3)] :: S) (fun _ S' => S' = [(r, .cells (runC u) 84 3)] :: S) := by
 refine (OW.st (k := 0) (c := z) (u := runV u) hx hv rfl (show (runV u).cells.size = 3 from rfl) (by omega) rfl).mono ?_
 rintro _ _ rfl
 rw [show (runV u).cells.toList = runC u from rfl, setAll (by rw [hz]; rfl)]
 rfl
theorem textI_one (x : ItemM) : textI (pli [x]) = oneT x.pl := by simp [textI, pli]
structure ChgM where
 file : Vtx
 up : Vtx
 down : Vtx
 G : Option Addr
 gc : Nat
 gone : List Vtx
 A : Option Addr
 c : Nat
 lines : List ByteArray
instance : Inhabited ChgM := ⟨⟨v0, v0, v0, none, 0, [], none, 0, []⟩⟩
def ChgM.pl (x : ChgM) : HunkP := ⟨x.up, x.down, x.lines, x.gone⟩
def chgR (x : ChgM) : List Value := chgC x.file x.up x.down (.slice x.G x.gone.length x.gc) (.slice x.A x.lines.length x.c)
def chgS (l : List ChgM) : List Value := l.flatMap chgR
theorem chgR_len (x : ChgM) : (chgR x).length = 105 := chgC_len ..
theorem chgS_app (a b : List ChgM) : chgS (a ++ b) = chgS a ++ chgS b := by unfold chgS; rw [List.flatMap_append]
structure ChgOk (w0 : World) (j : Seg) (x : ChgM) : Prop where
 rdG : Rd w0 (j :: []) x.G (vtxs x.gone)
 rdL : Rd w0 (j :: []) x.A (strs x.lines)
 capG : x.gone.length <= x.gc
 nilG : x.G = none -> x.gc = 0
 capL : x.lines.length <= x.c
 nilL : x.A = none -> x.c = 0
def ItemsFC (w0 : World) (gp : Value) (I : List ItemP) (S : SS) : Prop := ∀ s : Seg, FC Tryz.prog w0 16 [gp] (s :: S) (fun v S' => ∃ its seg junk, S' = seg :: junk :: s :: S /\ its.map ItemM.pl = I /\ SlV 75 3 v its.length (itemS its) seg /\ ∀ x ∈ its, ItemOk w0 junk x)
theorem FC.subP {w0 : World} {P : Program} {k : FuncId} {args : List Value} {S : SS} {post : Value -> SS -> Prop} (h : FC P w0 k args S (fun v S' => ∃ S'', Sub S'' S' /\ post v S'')) : FC P w0 k args S post := by
 intro w hw
 refine (h w hw).mono ?_
 rintro e w' ⟨v, S', e1, hr, S'', hs, hp⟩
 exact ⟨v, S'', e1, hr.subS hs, hp⟩
theorem gs_k {a : GrM} {s t u : Seg} {S : SS} : Sub (t :: u :: s :: (GS a ++ S)) (t :: u :: (GS a ++ (s :: S))) := Sub.sel [0, 1, 6, 2, 3, 4, 5] 7 (by decide) (t :: u :: (GS a ++ (s :: S)))
theorem itemsFC_gg {w0 : World} {S X : SS} {m : GrM} {ps : List PartP} (h : GG w0 X m ps) (hX : Over X S) (hn : (allV ps).length <= 60000) : ItemsFC w0 m.ptr (itemsP ps) (GS m ++ S) := by
 intro s
 refine FC.subP (FC.subS gs_a ((items_fc (S := s :: S) h hX.cons hn).mono ?_))
 rintro v _ ⟨its, seg, junk, rfl, h1, h2, h3, _⟩
 exact ⟨_, gs_k, its, seg, junk, rfl, h1, h2, h3⟩
theorem hunks_fc {w0 : World} {S : SS} {gp : Value} {I : List ItemP} {file : Vtx} {W : Option Addr} {cw : Nat} {w : List ByteArray} (HI : ItemsFC w0 gp I S) (hn : I.length <= 1000) (hsol : ∀ x ∈ I, x.block = false -> 0 < x.lines.length) (hw : Rd w0 S W (strs w)) (hwc : w.length <= cw) (hwl : w.length <= 100000) (hz : ∀ s ∈ w, s.size <= 1000000000000000) :
  FC Tryz.prog w0 9 [vtxV file, gp, .slice W w.length cw] S (fun u S' => ∃ v hs sg junk, u = .tuple #[v, .int .i64 (errH I w)] /\ S' = sg :: junk :: S /\ SlV 46 105 v hs.length (chgS hs) sg /\ (∀ x ∈ hs, ChgOk w0 junk x /\ x.file = file) /\ hs.map ChgM.pl = hunksP I w) := by
 refine FC.ofD Tryz.known9 (by simp) ?_
 unfold Tryz.pc9
 simp only [argT]
 refine PW.seqOps (OL.cons trivial (OW.bx rfl) ?_)
 rintro _ _ ⟨r3, rfl, rfl⟩
 rw [vtx_box, vtxL_len]
 refine OL.dp rfl (OL.dp rfl (OL.nil (PW.k4 1 2 3 6 rfl (PW.seqOps (OL.dp rfl (OL.call trivial rfl (HI _) ?_))))))
 rintro v21 _ ⟨its, sgI, jI, rfl, rfl, hsI, hokI⟩
 rw [List.length_map] at hn
 obtain ⟨Ai, ci, rfl, hnI, hcI, hrI⟩ := slv_rdL (w0 := w0) hsI
 refine OL.det trivial (.build (cs := [.slice Ai its.length ci, (.slice none 0 0), (.slice none 0 0)]) rfl) (OL.cons trivial (OW.bx rfl) ?_)
 rintro _ _ ⟨r23, rfl, rfl⟩
 change OL _ _ _ _ _ ([(r23, .cells [.slice Ai its.length ci, (.slice none 0 0), (.slice none 0 0)] 71 3)] :: sgI :: jI :: [(r3, .cells (vtxL file) 27 33)] :: S) _
 refine OL.dp rfl (OL.nil (PW.k4 2 3 6 8 rfl (PW.seqOps (OL.dp rfl (OL.dp rfl (OL.det trivial (Yields.nilc rfl) (OL.dp rfl (OL.det trivial (.ld rfl (own_at (j := 0) (c := [.slice Ai its.length ci, (.slice none 0 0), (.slice none 0 0)]) (E := 71) (tot := 3) zM0 rfl)) (OL.dp rfl ?_)))))))))
 refine OL.cons trivial (OW.mkS_full (m := its.length) rfl rfl (by omega) (by unfold maxLen; omega)) ?_
 rintro _ _ ⟨r30, rfl, rfl⟩
 rw [made1 _ rfl]
 refine OL.det trivial (Yields.nilc rfl) (OL.dp rfl (OL.cons trivial (OW.st (k := 1) rfl rfl rfl rfl (Nat.le_refl 3) rfl) ?_))
 rintro _ _ rfl
 refine OL.nil (PW.k4 2 3 6 8 rfl ?_)
 refine PW.seq fun K1 hK1 => ?_
 refine PW.seqOps ?_
 refine OL.subS (S' := [(r23, .cells [.slice Ai its.length ci, (.slice none 0 0), (.slice (some ⟨r30, 0, none⟩) its.length its.length)] 71 3)] :: [] :: [] :: [(r30, .cells (List.replicate its.length (.bool false)) 4 (its.length * 1))] :: sgI :: jI :: [(r3, .cells (vtxL file) 27 33)] :: S) ((Sub.cons (Sub.nilL (Sub.nilL (Sub.refl _)))).trans (Sub.sel [1, 0, 2, 3, 4] 5 (by decide) ([(r30, .cells (List.replicate its.length (.bool false)) 4 (its.length * 1))] :: [(r23, .cells [.slice Ai its.length ci, (.slice none 0 0), (.slice (some ⟨r30, 0, none⟩) its.length its.length)] 71 3)] :: sgI :: jI :: [(r3, .cells (vtxL file) 27 33)] :: S))) ?_
 refine OL.dp rfl (OL.det trivial (Yields.nilc rfl) (OL.dp rfl (OL.det trivial (.ld rfl (own_at (j := 0) (c := [.slice Ai its.length ci, (.slice none 0 0), (.slice (some ⟨r30, 0, none⟩) its.length its.length)]) (E := 71) (tot := 3) zM0 rfl)) (OL.dp rfl (OL.dp rfl (OL.nil (PW.k7 2 3 6 8 36 37 38 rfl (PW.block (PW.k7 2 3 6 8 36 37 38 rfl ?_)))))))))
 refine PW.loopK (I := fun mm T S' => ∃ (k : Nat) (tm : List TM) (v : Value) (tg tj : Seg), (k <= its.length /\ mm = its.length - k /\ tm.length = k /\ tm.map (·.l) = (its.take k).map (fun x => oneT x.pl) /\ SlV 23 1 v tm.length (tolds tm) tg /\ ∀ t ∈ tm, Rd w0 (tj :: []) t.A (strs t.l) /\ t.l.length <= t.c /\ t.l.length <= 1000000) /\ T = ([(2, .slice W w.length cw), (3, .pointer (some ⟨r3, 0, none⟩)), (6, .slice none 0 0), (8, .pointer (some ⟨r23, 0, none⟩)), (36, .slice Ai its.length ci), (37, .int .i64 (its.length : Int)), (38, .int .i64 (k : Int))] : TT) /\ S' = [(r23, .cells [.slice Ai its.length ci, v, (.slice (some ⟨r30, 0, none⟩) its.length its.length)] 71 3)] :: tg :: tj :: [(r30, .cells (List.replicate its.length (.bool false)) 4 (its.length * 1))] :: sgI :: jI :: [(r3, .cells (vtxL file) 27 33)] :: S) (m := its.length) ⟨0, [], _, [], [], ⟨by omega, by omega, rfl, rfl, SlV.nil 23 1, by simp⟩, rfl, rfl⟩ ?_
 rintro mm _ _ ⟨k, tm, v, tg, tj, ⟨hkL, hmm, htl, htm, htg, htr⟩, rfl, rfl⟩
 refine PW.seqOps (OL.dp rfl (OL.nil (PW.k8 2 3 6 8 36 37 38 39 rfl ?_)))
 refine PW.seq fun K2 hK2 => ?_
 refine PW.cond rfl (fun c39 => ?_) (fun c39 => ?_)
 ·try simp only [cvS] at c39
  have hkl : k < its.length := by omega
  obtain ⟨a0, rfl⟩ := itemS_some (hrI []) (by omega)
  have hol := oneT_len its[k].pl
  refine PW.skip ?_
  refine hK2 _ _ ?_
  refine PW.k7 2 3 6 8 36 37 38 rfl ?_
  refine PW.seq fun K3 hK3 => ?_
  refine PW.block (PW.seqOps (OL.det trivial (.ixN rfl rfl rfl hkl) ?_))
  refine OL.det trivial (.ldA rfl (itemC_len _) (item_at (rd_mem (hrI []) (by simp)) hkl)) ?_
  refine OL.cons trivial OW.al ?_
  rintro _ _ ⟨r10, rfl, rfl⟩
  refine OL.cons trivial (item_st rfl rfl rfl) ?_
  rintro _ _ rfl
  refine OL.nil (PW.k8 2 3 6 8 10 36 37 38 rfl ?_)
  refine PW.quietG (Ss := Over ([(r10, .cells (itemC its[k]) 75 3)] :: [(r23, .cells [.slice (some a0) its.length ci, v, (.slice (some ⟨r30, 0, none⟩) its.length its.length)] 71 3)] :: tg :: tj :: [(r30, .cells (List.replicate its.length (.bool false)) 4 (its.length * 1))] :: sgI :: jI :: [(r3, .cells (vtxL file) 27 33)] :: S)) (fr := false) [(0, 0), (1, 0), (2, 0), (3, 0), (4, 0), (5, 0), (6, 2), (7, 2), (8, 2)] Tryz.mixed (by decide +kernel) (Over.refl _) (fun h => by cases h) ?_
  refine GL.dp rfl ?_
  refine GL.dp rfl ?_
  refine GL.det trivial (fun Sx hSx => Yields.nilc rfl) ?_
  refine GL.dp rfl ?_
  refine GL.det trivial (fun Sx hSx => Yields.ld rfl (own_at (j := 1) (c := [.slice (some a0) its.length ci, v, (.slice (some ⟨r30, 0, none⟩) its.length its.length)]) (E := 71) (tot := 3) (hSx _ zM1) rfl)) ?_
  refine GL.det trivial (fun Sx hSx => Yields.ldA rfl (itemC_len _) (all_at (c := itemC its[k]) (E := 75) (tot := 3) (hSx _ zM0))) ?_
  refine GL.lo trivial (OW.mono (OW.bsl (cs := itemC its[k]) rfl) ?_)
  rintro _ _ ⟨r48, rfl, rfl⟩
  rw [itemC_len]
  refine ⟨(Over.refl _).cons, ?_⟩
  refine GL.lo trivial (OW.mono (OW.call rfl (textI_fc (l := [its[k]]) (by rw [show itemS [its[k]] = itemC its[k] from List.append_nil _]; exact Rd.own (E := 75) (tot := 3) zM0) (fun y hy => by rw [List.mem_singleton.1 hy]; exact (hokI _ (List.getElem_mem hkl)).rd (by simp)) (by simp))) ?_)
  rintro v49 _ ⟨sgT, rfl, hsT, hlT⟩
  rw [textI_one] at hsT hlT
  obtain ⟨AT, cT, rfl, hnT, hcT, hrT⟩ := slv_rdL (w0 := w0) hsT
  refine ⟨(Over.refl _).cons.cons, ?_⟩
  refine GL.lo trivial (OW.mono (OW.bsl (cs := [.slice AT (oneT its[k].pl).length cT]) rfl) ?_)
  rintro _ _ ⟨r50, rfl, rfl⟩
  refine ⟨(Over.refl _).cons.cons.cons, ?_⟩
  change OL _ _ _ [_, _, _, _] _ _ _
  refine OL.cons trivial (OW.app (k := 5) rfl rfl htg rfl (news := [.slice AT (oneT its[k].pl).length cT]) rfl (fun j u hj => (Rd.own (xs := [.slice AT (oneT its[k].pl).length cT]) (E := 23) (tot := 1) zM0).at hj) rfl (by omega) (by unfold maxLen; omega)) ?_
  rintro v51 _ ⟨seg51, rfl, hsl51⟩
  have h51 : SlV 23 1 v51 (tm ++ [(⟨AT, cT, oneT its[k].pl⟩ : TM)]).length (tolds (tm ++ [(⟨AT, cT, oneT its[k].pl⟩ : TM)])) seg51 := by simpa [tolds, toldC] using hsl51
  obtain ⟨A9, c9, rfl, -, -, -⟩ := slv_rdL (w0 := w0) h51
  refine OL.det trivial (Yields.nilc rfl) (OL.dp rfl (OL.cons trivial (OW.st (k := 4) rfl rfl rfl rfl (Nat.le_succ 2) rfl) ?_))
  rintro _ _ rfl
  refine OL.nil ?_
  refine hK3 _ _ ?_
  refine PW.k7 2 3 6 8 36 37 38 rfl (PW.ops ?_)
  refine OL.det trivial (.add64 rfl rfl (by omega) (by omega)) ?_
  refine OL.dp rfl (OL.nil ?_)
  repeat rw [inBlk_n]
  try rw [thenK_n]
  refine LoopEnd.mkS ((Sub.cons (Sub.cons Sub.join)).trans (Sub.sel [4, 5, 1, 6] 7 (by decide) _)) (T'' := [(2, _), (3, _), (6, _), (8, _), (36, _), (37, _), (38, _)]) (wi rfl) ?_
  refine ⟨its.length - (k + 1), by omega, k + 1, (tm ++ [(⟨AT, cT, oneT its[k].pl⟩ : TM)]), .slice A9 (tm ++ [(⟨AT, cT, oneT its[k].pl⟩ : TM)]).length c9, seg51, sgT ++ tj, ⟨by omega, rfl, by rw [List.length_append, List.length_singleton, htl], by rw [List.map_append, htm, ltake_snoc hkl, List.map_append]; rfl, h51, ?_⟩, rfl, ?_⟩
  ·intro t ht
   rcases List.mem_append.1 ht with h1 | h1
   ·exact ⟨(htr t h1).1.mono fun p hp => by simp at hp ⊢; exact .inr hp, (htr t h1).2⟩
   rw [List.mem_singleton.1 h1]
   exact ⟨(hrT []).mono fun p hp => by simp at hp ⊢; exact .inl hp, hcT, by have := oneT_len its[k].pl; have h2 := (hokI _ (List.getElem_mem hkl)).nL; show (oneT its[k].pl).length <= _; rw [show its[k].pl.lines = its[k].lines from rfl] at this; omega⟩
  rfl
 try simp only [cvS] at c39
 refine PW.exit ?_
 refine hK1 _ _ ?_
 refine PW.k4 2 3 6 8 rfl (PW.seqOps ?_)
 have hke : k = its.length := by omega
 have htl2 : tm.length = its.length := by omega
 obtain ⟨At, ct, rfl, hnt, hct, hrt⟩ := slv_rdL (w0 := w0) htg
 obtain ⟨c, e1, e2, e3, e4, e5, e6, e7, e8⟩ : ∃ c : ChM, c.r = r23 /\ c.its = its /\ c.Ai = Ai /\ c.ci = ci /\ c.tm = tm /\ c.At = At /\ c.ct = ct /\ c.rk = r30 := ⟨⟨r23, its, Ai, ci, tm, At, ct, r30⟩, rfl, rfl, rfl, rfl, rfl, rfl, rfl, rfl⟩
 subst e1 e2 e3 e4 e5 e6 e7 e8
 rw [hke, List.take_length] at htm
 have hOK : ChOK w0 (cseg c :: tg :: tj :: sgI :: jI :: [(r3, .cells (vtxL file) 27 33)] :: S) c := ⟨rd_mem (hrI []) (by simp), fun x hx => (hokI x hx).rd (by simp), rd_mem (hrt []) (by simp [cseg]), by rw [htm]; unfold ChM.I; rw [List.map_map]; rfl, fun t ht => ⟨rd_mem (htr t ht).1 (by simp), (htr t ht).2⟩, hn, hcI, fun x hx hb => hsol x.pl (List.mem_map_of_mem hx) hb⟩
 have hCo : Over [cseg c] (cseg c :: tg :: tj :: sgI :: jI :: [(r3, .cells (vtxL file) 27 33)] :: S) := Over.hd _ _
 rw [show List.replicate c.its.length (Value.bool false) = (List.replicate c.its.length false).map Value.bool from (List.map_replicate ..).symm]
 rw [show (Value.slice c.At c.tm.length c.ct) = _ from rfl]
 refine OL.subS (S' := kseg c (List.replicate c.its.length false) :: cseg c :: tg :: tj :: sgI :: jI :: [(r3, .cells (vtxL file) 27 33)] :: S) (Sub.sel [3, 0, 1, 2, 4, 5, 6] 7 (by decide) (cseg c :: tg :: tj :: kseg c (List.replicate c.its.length false) :: sgI :: jI :: [(r3, .cells (vtxL file) 27 33)] :: S)) ?_
 refine OL.dp rfl (OL.dp rfl (OL.call trivial rfl (sections_fc (K := List.replicate c.its.length false) hOK hCo (List.length_replicate ..) (hw.mono (Over.refl _).cons.cons.cons.cons.cons.cons) hwc hwl) ?_))
 rintro v57 _ ⟨l, sgS, jS, rfl, hsS, hrS, hls, hll⟩
 obtain ⟨AS, cS, rfl, hnS, hcS, hrdS⟩ := slv_rdL (w0 := w0) hsS
 have hsx : ∀ x ∈ l, secP x ∈ secs c.I w := fun x hx => hls ▸ List.mem_map_of_mem hx
 refine OL.dp rfl (OL.nil (PW.k4 3 6 8 11 rfl ?_))
 refine PW.seq fun K4 hK4 => ?_
 refine PW.seqOps (OL.dp rfl ?_)
 refine OL.call trivial rfl (check_fc (l := l) (hrdS _) (fun x hx => rd_mem (hrS x hx).rd (by simp)) (fun x hx s hs => hz s ((secs_ok (hsx x hx)).2.2 s hs)) (fun x hx => Nat.le_trans (secs_ok (hsx x hx)).2.1 (by omega)) (by omega)) ?_
 rintro _ Sx ⟨rfl, hSx⟩
 rw [hSx]
 clear hSx
 rw [hls]
 refine OL.dp rfl (OL.nil (PW.k5 3 6 8 11 12 rfl (PW.seqOps (OL.dp rfl (OL.dp rfl (OL.nil (PW.k6 3 6 8 11 12 61 rfl ?_)))))))
 refine PW.cond rfl (fun c61 => ?_) (fun c61 => ?_)
 ·try simp only [cvS] at c61
  refine PW.seqOps (OL.dp rfl (OL.dp rfl (OL.dp rfl (OL.nil (PW.k2 6 7 rfl (PW.ret ?_))))))
  change (Exit.ret = Exit.normal ∨ Exit.ret = Exit.ret) /\ ∃ v, resV _ _ = some v /\ _
  exact ⟨.inr rfl, _, rfl, _, Sub.nilL (Sub.nilL (Sub.drop (Sub.drop (Sub.drop (Sub.drop (Sub.drop (Sub.drop (Sub.drop (Sub.drop (Sub.drop (Sub.refl _))))))))))), _, [], [], [], rfl, rfl, SlV.nil 46 105, by simp, by show _ = hunksP c.I w; unfold hunksP; rw [if_neg (show ¬ errH c.I w = 0 from c61)]; rfl⟩
 try simp only [cvS] at c61
 have hE : errH c.I w = 0 := c61
 obtain ⟨hmany, hbad⟩ := checkP_zero hE
 obtain ⟨K1, hK1⟩ : ∃ z, z = keepT (List.replicate c.its.length false) (toks c.I 0 w) := ⟨_, rfl⟩
 have hK1l : K1.length = c.its.length := by rw [hK1, keepT_len, List.length_replicate]
 rw [<- hK1]
 refine PW.skip ?_
 refine hK4 _ _ ?_
 refine PW.k4 3 6 8 11 rfl (PW.seqOps (OL.dp rfl (OL.nil (PW.k5 3 6 8 11 13 rfl ?_))))
 refine PW.seq fun K5 hK5 => ?_
 refine PW.seqOps ?_
 refine OL.subS (S' := [] :: [] :: kseg c K1 :: sgS :: jS :: cseg c :: tg :: tj :: sgI :: jI :: [(r3, .cells (vtxL file) 27 33)] :: S) ((Sub.nilL (Sub.nilL (Sub.refl _))).trans (Sub.sel [2, 0, 1] 3 (by decide) (sgS :: jS :: kseg c K1 :: cseg c :: tg :: tj :: sgI :: jI :: [(r3, .cells (vtxL file) 27 33)] :: S))) ?_
 refine OL.dp rfl (OL.dp rfl (OL.dp rfl (OL.nil (PW.k7 3 6 8 13 63 64 65 rfl (PW.block (PW.k7 3 6 8 13 63 64 65 rfl ?_))))))
 refine PW.loopK (I := fun mm T S' => ∃ (k : Nat) (va : Value) (rs : List RunM) (ag aj : Seg) (Kk : List Bool), (k <= l.length /\ mm = l.length - k /\ SlV 84 3 va rs.length (runsS rs) ag /\ (∀ x ∈ rs, RunOk w0 aj x) /\ rs.map RunM.pl = (allR c.I ((l.take k).map secP) K1).1 /\ Kk = (allR c.I ((l.take k).map secP) K1).2 /\ rs.length <= 2000 * k) /\ T = ([(3, .pointer (some ⟨r3, 0, none⟩)), (6, .slice none 0 0), (8, c.ptr), (13, va), (63, .slice AS l.length cS), (64, .int .i64 (l.length : Int)), (65, .int .i64 (k : Int))] : TT) /\ S' = ag :: aj :: kseg c Kk :: sgS :: jS :: cseg c :: tg :: tj :: sgI :: jI :: [(r3, .cells (vtxL file) 27 33)] :: S) (m := l.length) ⟨0, _, [], [], [], K1, ⟨by omega, by omega, SlV.nil 84 3, by simp, rfl, rfl, Nat.zero_le _⟩, rfl, rfl⟩ ?_
 rintro mm _ _ ⟨k, va, rs, ag, aj, Kk, ⟨hkL, hmm, hag, hro, hpm, hKk, hrb⟩, rfl, rfl⟩
 refine PW.seqOps (OL.dp rfl (OL.nil (PW.k8 3 6 8 13 63 64 65 66 rfl ?_)))
 refine PW.seq fun K6 hK6 => ?_
 refine PW.cond rfl (fun c66 => ?_) (fun c66 => ?_)
 ·try simp only [cvS] at c66
  have hkl : k < l.length := by omega
  obtain ⟨a1, rfl⟩ := runsS_some (hrdS []) (by omega)
  have hso := secs_ok (hsx _ (List.getElem_mem hkl))
  have hsm : (secP l[k]).lines.length <= 1000 := by have := sec_many (hsx _ (List.getElem_mem hkl)); omega
  refine PW.skip ?_
  refine hK6 _ _ ?_
  refine PW.k7 3 6 8 13 63 64 65 rfl ?_
  refine PW.seq fun K7 hK7 => ?_
  refine PW.block (PW.seqOps (OL.det trivial (.ixN rfl rfl rfl hkl) ?_))
  refine OL.det trivial (.ldA rfl rfl (run_at (rd_mem (hrdS []) (by simp)) hkl)) ?_
  refine OL.cons trivial OW.al ?_
  rintro _ _ ⟨r15, rfl, rfl⟩
  refine OL.cons trivial (sec_st (s := secP l[k]) (A := l[k].A) (c := l[k].c) rfl rfl rfl) ?_
  rintro _ _ rfl
  refine OL.nil (PW.k8 3 6 8 13 15 63 64 65 rfl (PW.seqOps ?_))
  refine OL.subS (S' := kseg c Kk :: sseg r15 (secP l[k]) l[k].A l[k].c :: ag :: aj :: sgS :: jS :: cseg c :: tg :: tj :: sgI :: jI :: [(r3, .cells (vtxL file) 27 33)] :: S) (Sub.sel [3, 0, 1, 2, 4, 5] 6 (by decide) (sseg r15 (secP l[k]) l[k].A l[k].c :: ag :: aj :: kseg c Kk :: sgS :: jS :: cseg c :: tg :: tj :: sgI :: jI :: [(r3, .cells (vtxL file) 27 33)] :: S)) ?_
  refine OL.dp rfl (OL.det trivial (.ldA rfl rfl (all_at (c := secC (secP l[k]) l[k].A l[k].c) (E := 81) (tot := 3) zM1)) ?_)
  refine OL.call trivial rfl (runs_fc (s := secP l[k]) (K := Kk) (hOK.mono (Over.refl _).cons.cons.cons.cons.cons) (fun q hq => hCo.cons.cons.cons.cons.cons q hq) (by rw [hKk, allR_len]; exact hK1l) hso.1.1 (by rw [<- c.I_len]; exact hso.1.2) (rd_mem (hrS _ (List.getElem_mem hkl)).rd (by simp)) hsm) ?_
  rintro v72 _ ⟨vr, rs2, sr, jr, rfl, rfl, hsr, hrr, hpr, hrl⟩
  obtain ⟨Ar, cr, rfl, hnr, hcr, hrdr⟩ := slv_rdL (w0 := w0) hsr
  refine OL.dp rfl (OL.dp rfl (OL.dp rfl (OL.dp rfl (OL.dp rfl (OL.nil (PW.k9 3 6 8 13 16 17 63 64 65 rfl ?_))))))
  refine PW.seq fun K8 hK8 => ?_
  refine PW.seqOps (OL.dp rfl (OL.det trivial (.to (v' := .bool false) (Yields.pure rfl) rfl) (OL.nil (PW.k10 3 6 8 13 16 17 63 64 65 76 rfl (PW.ite (b := false) rfl ?_)))))
  rw [if_neg Bool.false_ne_true]
  refine PW.skip ?_
  refine hK8 _ _ ?_
  refine PW.k8 3 6 8 13 16 63 64 65 rfl (PW.ops (OL.dp rfl (OL.dp rfl ?_)))
  refine OL.cons trivial (OW.appW (k := 4) rfl rfl hag rfl (runsS_len rs2) (by decide) (rd_mem (hrdr []) (by simp)) hnr (runsS_one rs2) (by omega) (by unfold maxLen; omega)) ?_
  rintro v80 _ ⟨ag2, rfl, hag2⟩
  refine OL.dp rfl (OL.nil ?_)
  refine hK7 _ _ ?_
  refine PW.k7 3 6 8 13 63 64 65 rfl (PW.ops ?_)
  refine OL.det trivial (.add64 rfl rfl (by omega) (by omega)) ?_
  refine OL.dp rfl (OL.nil ?_)
  repeat rw [inBlk_n]
  try rw [thenK_n]
  refine LoopEnd.mkS ((Sub.cons Sub.join).trans (Sub.sel [4, 1, 5, 2, 6, 7] 8 (by decide) _)) (T'' := [(3, _), (6, _), (8, _), (13, _), (63, _), (64, _), (65, _)]) (wi rfl) ?_
  have hsn := allR_snoc c.I ((l.take k).map secP) (secP l[k]) K1
  have hmp : (l.take (k + 1)).map secP = (l.take k).map secP ++ [secP l[k]] := by rw [ltake_snoc hkl, List.map_append]; rfl
  rw [<- hmp, <- hKk] at hsn
  refine ⟨l.length - (k + 1), by omega, k + 1, v80, rs ++ rs2, ag2, jr ++ aj, (runsR c.I (secP l[k]) Kk).K, ⟨by omega, rfl, by rw [runsS_app, List.length_append]; exact hag2, ?_, by rw [List.map_append, hpm, hpr, hsn], by rw [hsn], by rw [List.length_append]; omega⟩, rfl, rfl⟩
  intro x hx
  rcases List.mem_append.1 hx with h1 | h1
  ·exact (hro x h1).more fun p hp => List.mem_append_right _ hp
  exact (hrr x h1).more fun p hp => List.mem_append_left _ hp
 try simp only [cvS] at c66
 refine PW.exit ?_
 refine hK5 _ _ ?_
 refine PW.k4 3 6 8 13 rfl ?_
 refine PW.seq fun K9 hK9 => ?_
 refine PW.seqOps ?_
 have hke : k = l.length := by omega
 rw [hke, List.take_length, hls] at hpm hKk
 have hKK : Kk = keptH c.I w := by rw [hKk, hK1]; unfold keptH; rw [c.I_len]
 have hrsH : rs.map RunM.pl = runsH c.I w := by rw [hpm, hK1]; unfold runsH; rw [c.I_len]
 have hKl : Kk.length = c.its.length := by rw [hKk, allR_len]; exact hK1l
 have hrin : ∀ r ∈ runsH c.I w, r.fr <= r.to /\ r.to <= c.I.length := allR_in _ _ (fun s hs => (secs_ok hs).1)
 obtain ⟨Aa, ca, rfl, hna, hca, hrda⟩ := slv_rdL (w0 := w0) hag
 refine OL.subS (S' := [] :: [] :: ag :: aj :: kseg c Kk :: sgS :: jS :: cseg c :: tg :: tj :: sgI :: jI :: [(r3, .cells (vtxL file) 27 33)] :: S) (Sub.nilL (Sub.nilL (Sub.refl _))) (OL.dp rfl (OL.dp rfl (OL.dp rfl (OL.nil (PW.k6 3 6 8 82 83 84 rfl (PW.block (PW.k6 3 6 8 82 83 84 rfl ?_)))))))
 refine PW.loopK (I := fun mm T S' => ∃ (k : Nat) (vo : Value) (hs : List ChgM) (og oj : Seg), (k <= rs.length /\ mm = rs.length - k /\ SlV 46 105 vo hs.length (chgS hs) og /\ (∀ x ∈ hs, Rd w0 (oj :: []) x.G (vtxs x.gone) /\ x.gone.length <= x.gc /\ ((x.G = none -> x.gc = 0) /\ RunOk w0 aj ⟨0, 0, x.A, x.c, x.lines⟩) /\ x.file = file) /\ hs.map ChgM.pl = ((rs.take k).map RunM.pl).map (hunkP c.I Kk) /\ hs.length = k) /\ T = ([(3, .pointer (some ⟨r3, 0, none⟩)), (6, vo), (8, c.ptr), (82, .slice Aa rs.length ca), (83, .int .i64 (rs.length : Int)), (84, .int .i64 (k : Int))] : TT) /\ S' = og :: oj :: ag :: aj :: kseg c Kk :: sgS :: jS :: cseg c :: tg :: tj :: sgI :: jI :: [(r3, .cells (vtxL file) 27 33)] :: S) (m := rs.length) ⟨0, _, [], [], [], ⟨by omega, by omega, SlV.nil 46 105, by simp, rfl, rfl⟩, rfl, rfl⟩ ?_
 rintro mm _ _ ⟨k, vo, hs, og, oj, ⟨hkL, hmm, hog, hho, hpm2, hhl⟩, rfl, rfl⟩
 refine PW.seqOps (OL.dp rfl (OL.nil (PW.k7 3 6 8 82 83 84 85 rfl ?_)))
 refine PW.seq fun K10 hK10 => ?_
 refine PW.cond rfl (fun c85 => ?_) (fun c85 => ?_)
 ·try simp only [cvS] at c85
  have hkl : k < rs.length := by omega
  obtain ⟨a2, rfl⟩ := runsS_some (hrda []) (by omega)
  have hrf : rs[k].fr <= rs[k].to /\ rs[k].to <= c.its.length := by
   have := hrin rs[k].pl (by rw [<- hrsH]; exact List.mem_map_of_mem (List.getElem_mem hkl))
   rw [c.I_len] at this
   exact this
  refine PW.skip ?_
  refine hK10 _ _ ?_
  refine PW.k6 3 6 8 82 83 84 rfl ?_
  refine PW.seq fun K11 hK11 => ?_
  refine PW.block (PW.seqOps (OL.det trivial (.ixN rfl rfl rfl hkl) ?_))
  refine OL.det trivial (.ldA rfl rfl (run_at (rd_mem (hrda []) (by simp)) hkl)) ?_
  refine OL.cons trivial OW.al ?_
  rintro _ _ ⟨r19, rfl, rfl⟩
  refine OL.cons trivial (run_st (u := rs[k]) rfl rfl rfl) ?_
  rintro _ _ rfl
  refine OL.nil (PW.k7 3 6 8 19 82 83 84 rfl (PW.ops (OL.dp rfl (OL.dp rfl (OL.det trivial (.ldA rfl (vtxL_len _) (all_at zM13)) (OL.det trivial (.ldA rfl rfl (all_at (c := runC rs[k]) (E := 84) (tot := 3) zM0)) ?_))))))
  refine OL.call trivial rfl (hunk_fc (x := rs[k]) (K := Kk) (hOK.mono (Over.refl _).cons.cons.cons.cons.cons.cons.cons.cons) (by simp) (by simp) hKl hrf.1 hrf.2) ?_
  rintro v92 _ ⟨G, ng, cg, sgh, rfl, rfl, rfl, hsh⟩
  apply OL.app1 (k := 2)
  ·rfl
  ·rfl
  ·exact (List.size_toArray).trans (chgC_len ..)
  ·rfl
  ·rfl
  ·rfl
  ·exact hog
  ·exact chgC_one ..
  ·omega
  ·unfold maxLen; omega
  intro v94 og2 hog2
  refine OL.dp rfl (OL.nil ?_)
  refine hK11 _ _ ?_
  refine PW.k6 3 6 8 82 83 84 rfl (PW.ops ?_)
  refine OL.det trivial (.add64 rfl rfl (by omega) (by omega)) ?_
  refine OL.dp rfl (OL.nil ?_)
  repeat rw [inBlk_n]
  try rw [thenK_n]
  refine LoopEnd.mkS ((Sub.cons Sub.join).trans (Sub.sel [2, 0, 3] 4 (by decide) _)) (T'' := [(3, _), (6, _), (8, _), (82, _), (83, _), (84, _)]) (wi rfl) ?_
  have hmp : ((rs.take (k + 1)).map RunM.pl).map (hunkP c.I Kk) = ((rs.take k).map RunM.pl).map (hunkP c.I Kk) ++ [hunkP c.I Kk rs[k].pl] := by rw [ltake_snoc hkl, List.map_append, List.map_append]; rfl
  obtain ⟨Ah, ch, eh, hnh, hch, hrh⟩ := slv_rdL (w0 := w0) hsh
  simp only [Value.slice.injEq] at eh
  obtain ⟨rfl, _, rfl⟩ := eh
  refine ⟨rs.length - (k + 1), by omega, k + 1, v94, hs ++ [(⟨file, upK c.I Kk rs[k].fr, downK c.I Kk rs[k].to, G, cg, sortL (goneK c.I rs[k].pl), rs[k].A, rs[k].c, rs[k].lines⟩ : ChgM)], og2, sgh ++ oj, ⟨by omega, rfl, ?_, ?_, by rw [List.map_append, hpm2, hmp]; rfl, by rw [List.length_append, List.length_singleton, hhl]⟩, rfl, rfl⟩
  ·rw [chgS_app, List.length_append]
   show SlV 46 105 v94 (hs.length + 1) (chgS hs ++ (chgC file _ _ (.slice G (sortL (goneK c.I rs[k].pl)).length cg) _ ++ [])) og2
   rw [sortL_len, List.append_nil]; exact hog2
  intro y hy
  rcases List.mem_append.1 hy with h1 | h1
  ·obtain ⟨a1, a2, a3, a4⟩ := hho y h1
   exact ⟨a1.mono fun p hp => by simp at hp ⊢; exact .inr hp, a2, a3, a4⟩
  rw [List.mem_singleton.1 h1]
  exact ⟨(hrh []).mono fun p hp => by simp at hp ⊢; exact .inl hp, by show (sortL (goneK c.I rs[k].pl)).length <= cg; rw [sortL_len]; exact hch, ⟨hnh, ⟨(hro rs[k] (List.getElem_mem hkl)).rd, (hro rs[k] (List.getElem_mem hkl)).cap, (hro rs[k] (List.getElem_mem hkl)).nil⟩⟩, rfl⟩
 try simp only [cvS] at c85
 refine PW.exit ?_
 refine hK9 _ _ ?_
 refine PW.k1 6 rfl (PW.seqOps (OL.dp rfl (OL.dp rfl (OL.dp rfl (OL.nil (PW.k2 6 7 rfl (PW.ret ?_)))))))
 change (Exit.ret = Exit.normal ∨ Exit.ret = Exit.ret) /\ ∃ v, resV _ _ = some v /\ _
 have hke : k = rs.length := by omega
 rw [hke, List.take_length, hrsH, hKK] at hpm2
 refine ⟨.inr rfl, _, rfl, _, (Sub.cons Sub.join).trans (Sub.sel [0, 1, 3] 13 (by decide) (og :: oj :: ag :: aj :: kseg c Kk :: sgS :: jS :: cseg c :: tg :: tj :: sgI :: jI :: [(r3, .cells (vtxL file) 27 33)] :: S)), _, hs, og, oj ++ aj, by rw [show errH (c.its.map ItemM.pl) w = 0 from hE], rfl, hog, ?_, by rw [hpm2]; show _ = hunksP c.I w; unfold hunksP; rw [if_pos hE]⟩
 intro x hx
 obtain ⟨a1, a2, ⟨a3, a4⟩, a5⟩ := hho x hx
 exact ⟨⟨a1.mono fun p hp => by simp at hp ⊢; exact .inl hp, a4.rd.mono fun p hp => by simp at hp ⊢; exact .inr hp, a2, a3, a4.cap, a4.nil⟩, a5⟩
end Go.Proofs.Gr

namespace Go.Proofs.Gr
open Go.SL Go.RowKit Go.Proofs Go.GP
set_option maxHeartbeats 1000000
structure SmallC (l : List PartM) : Prop where
 len : l.length <= 12
 part : ∀ x ∈ l, x.lines.length <= 10 /\ x.gone.length <= 12 /\ x.first <= 1000000
structure SmallW (w : List ByteArray) : Prop where
 len : w.length <= 300
 mid : w.length <= 120 ∨ 256 < w.length
 size : ∀ s ∈ w, s.size <= 20000
theorem PartsIn.partC {w0 : World} {A : Option Addr} {l : List PartM} (h : PartsIn w0 A l) (hs : SmallC l) {k : Nat} (hk : k < l.length) : PartB w0 l[k] := by
 have h1 := h.part _ (List.getElem_mem hk)
 obtain ⟨h2, h3, h4⟩ := hs.part _ (List.getElem_mem hk)
 exact ⟨h1.rdL, h1.rdG, h1.rng (by omega) (by omega) (by omega), ⟨by omega, by omega⟩, h1.text⟩
theorem PW.seqSP {P : Program} {w0 : World} {n : Nat} {T : TT} {S : SS} {x y : PC} {Q : Exit -> TT -> SS -> Prop} {H : Prop} (T0 : TT) (S0 : SS) (tail : H -> PW P w0 n y T0 S0 Q)
  (h : ∀ K : TT -> SS -> Prop, (H -> ∀ T' S', Within T0 T' -> S' = S0 -> K T' S') -> PW P w0 n x T S (thenK K Q)) : PW P w0 n (.seq x y) T S Q :=
 PW.seq fun K hK => h K fun hH T' S' hW hS => hK T' S' (PW.keep hW (hS ▸ tail hH))
def sizeT (w : List ByteArray) : Nat := (w.map ByteArray.size).sum
theorem sizeT_mem : ∀ {w : List ByteArray} {s : ByteArray}, s ∈ w -> s.size <= sizeT w
 | t :: w, s, h => by
  have e : sizeT (t :: w) = t.size + sizeT w := by unfold sizeT; rw [List.map_cons, List.sum_cons]
  rcases List.mem_cons.1 h with rfl | h
  ·omega
  have := sizeT_mem h; omega
theorem large_end {l : List PartM} {w : List ByteArray} {j : Nat} (hH : l.length <= 12 -> ∀ x ∈ l, x.lines.length <= 10 /\ x.gone.length <= 12 /\ x.first <= 1000000) (h1 : l.length <= 12) (h2 : ¬ ((sizeT (w.take j) : Nat) : Int) > 20000) (h3 : w.length <= j) (h4 : w.length <= 300) (h5 : w.length <= 120 ∨ 256 < w.length) : SmallC l /\ SmallW w := by
 rw [List.take_of_length_le h3] at h2
 exact ⟨⟨h1, hH h1⟩, ⟨h4, h5, fun s hs => by have := sizeT_mem hs; omega⟩⟩
theorem sizeT_snoc {w : List ByteArray} {k : Nat} (hk : k < w.length) : sizeT (w.take (k + 1)) = sizeT (w.take k) + w[k].size := by
 unfold sizeT; rw [ltake_snoc hk, List.map_append, List.sum_append]; simp
theorem sizeT_le {w : List ByteArray} {b : Nat} (h : ∀ s ∈ w, s.size <= b) : sizeT w <= b * w.length := by
 induction w with
 | nil => simp [sizeT]
 | cons s w ih =>
  have h1 := h s (by simp)
  have h2 := ih (fun x hx => h x (List.mem_cons_of_mem _ hx))
  have e : sizeT (s :: w) = s.size + sizeT w := by unfold sizeT; rw [List.map_cons, List.sum_cons]
  rw [e, List.length_cons, Nat.mul_succ]
  omega
theorem large_fc {w0 : World} {S : SS} {A W : Option Addr} {c cw : Nat} {l : List PartM} {w : List ByteArray} (h : PartsIn w0 A l) (hw : Rd w0 S W (strs w)) (hwl : w.length <= 1000000000000000) (hws : ∀ s ∈ w, s.size <= 140737488351232) :
  FC Tryz.prog w0 6 [.slice A l.length c, .slice W w.length cw] S (fun v S' => ∃ b, v = .bool b /\ S' = S /\ (b = false -> SmallC l /\ SmallW w)) := by
 have hlen := h.len
 refine FC.ofD Tryz.known6 (by simp) ?_
 unfold Tryz.pc6
 simp only [argT]
 refine PW.seqOps (OL.dp rfl (OL.nil (PW.k2 0 1 rfl (PW.seqOps (OL.dp rfl (OL.nil (PW.k3 0 1 5 rfl ?_)))))))
 refine PW.seqSP (H := l.length <= 12 -> ∀ x ∈ l, x.lines.length <= 10 /\ x.gone.length <= 12 /\ x.first <= 1000000) [(0, .slice A l.length c), (1, .slice W w.length cw), (5, .int .i64 0)] (S) (fun hH => ?_) fun K1 hK1 => ?_
 ·skip
  refine PW.seq fun K2 hK2 => ?_
  refine PW.seqOps (OL.dp rfl (OL.nil (PW.k4 0 1 5 7 rfl (PW.block (PW.k4 0 1 5 7 rfl ?_)))))
  refine PW.loopK (I := fun mj T S' => ∃ j : Nat, (j <= w.length /\ j <= 300 /\ mj = w.length - j) /\ T = ([(0, .slice A l.length c), (1, .slice W w.length cw), (5, .int .i64 (sizeT (w.take j) : Int)), (7, .int .i64 j)] : TT) /\ S' = S) (m := w.length) ⟨0, ⟨by omega, by omega, by omega⟩, rfl, rfl⟩ ?_
  rintro mj _ _ ⟨j, ⟨hj, hj300, hmj⟩, rfl, rfl⟩
  refine PW.seq fun K3 hK3 => ?_
  refine PW.seqOps (OL.dp rfl (OL.dp rfl (OL.dp rfl (OL.dp rfl ?_))))
  refine OL.bool trivial (Yields.pure rfl) (fun g46 => ?_) (fun g46 => ?_)
  ·try simp only [cvS] at g46
   refine OL.det rfl (.pure rfl) (OL.det rfl (.pure rfl) (OL.dp rfl (OL.nil (PW.k5 0 1 5 7 49 rfl ?_))))
   refine PW.cond rfl (fun c49 => ?_) (fun c49 => ?_)
   ·try simp only [cvS] at c49
    have hkw : j < w.length := by omega
    obtain ⟨b0, hb0⟩ := strs_some hw (by omega)
    have hw2 := hw
    rw [hb0] at hw2
    have hz1 := sizeT_le (w := w.take j) (fun s hs => hws s (List.mem_of_mem_take hs))
    rw [List.length_take] at hz1
    have hz2 := hws _ (List.getElem_mem hkw)
    have hz3 := sizeT_snoc hkw
    refine PW.skip ?_
    refine hK3 _ _ ?_
    refine PW.k4 0 1 5 7 rfl ?_
    refine PW.seq fun K4 hK4 => ?_
    refine PW.block (PW.ops (OL.dp rfl (OL.dp rfl (OL.dp rfl ?_))))
    rw [hb0]
    refine OL.det trivial (.ixN1 rfl rfl rfl hkw) (OL.det trivial (.ld rfl (str_at hw2 hkw)) (OL.dp rfl ?_))
    refine OL.det trivial (.to (v' := .int .i64 (sizeT (w.take (j + 1)) : Int)) (Yields.add64 rfl rfl (show -9223372036854775808 <= (sizeT (w.take j) : Int) + (w[j].size : Int) by omega) (show (sizeT (w.take j) : Int) + (w[j].size : Int) <= 9223372036854775807 by omega)) (congrArg (Value.int .i64) (show (sizeT (w.take j) : Int) + (w[j].size : Int) = _ by omega))) ?_
    refine OL.dp rfl (OL.nil ?_)
    refine hK4 _ _ ?_
    refine PW.k4 0 1 5 7 rfl (PW.ops (OL.dp rfl ?_))
    refine OL.det trivial (.add64 rfl rfl (by omega) (by omega)) ?_
    refine OL.dp rfl (OL.nil ?_)
    repeat rw [inBlk_n]
    try rw [thenK_n]
    refine LoopEnd.mk (T'' := [(0, _), (1, _), (5, _), (7, _)]) (wi rfl) ?_
    try rw [hb0]
    exact ⟨w.length - (j + 1), by omega, j + 1, ⟨by omega, by omega, rfl⟩, rfl, rfl⟩
   try simp only [cvS] at c49
   refine PW.exit ?_
   refine hK2 _ _ ?_
   refine PW.k3 0 1 5 rfl (PW.seqOps (OL.dp rfl (OL.dp rfl (OL.dp rfl ?_))))
   refine OL.bool trivial (Yields.pure rfl) (fun g62 => ?_) (fun g62 => ?_)
   ·try simp only [cvS] at g62
    refine OL.off rfl rfl (OL.off rfl rfl (OL.dp rfl (OL.dp rfl (OL.off rfl rfl (OL.off rfl rfl (OL.off rfl rfl (OL.off rfl rfl (OL.off rfl rfl (OL.off rfl rfl (OL.off rfl rfl (OL.off rfl rfl ?_)))))))))))
    refine OL.dp rfl (OL.dp rfl (OL.off rfl rfl (OL.off rfl rfl (OL.off rfl rfl (OL.dp rfl (OL.dp rfl (OL.nil (PW.k1 4 rfl (PW.ret ?_)))))))))
    change (Exit.ret = Exit.normal ∨ Exit.ret = Exit.ret) /\ ∃ v, resV _ _ = some v /\ _
    first
     | exact ⟨.inr rfl, _, rfl, _, Sub.refl _, _, rfl, rfl, fun hb => by cases hb⟩
     | exact ⟨.inr rfl, _, rfl, _, Sub.refl _, _, rfl, rfl, fun hb => large_end (j := j) hH (by omega) g66 (by simp only [decide_eq_false_iff_not] at hb; omega) (by simp only [decide_eq_false_iff_not] at hb; omega) (by omega)⟩
   try simp only [cvS] at g62
   refine OL.det rfl (.pure rfl) (OL.det rfl (.pure rfl) (OL.dp rfl ?_))
   refine OL.bool trivial (Yields.pure rfl) (fun g66 => ?_) (fun g66 => ?_)
   ·try simp only [cvS] at g66
    refine OL.off rfl rfl (OL.off rfl rfl (OL.off rfl rfl (OL.off rfl rfl (OL.off rfl rfl (OL.off rfl rfl (OL.off rfl rfl (OL.off rfl rfl (OL.dp rfl (OL.dp rfl (OL.off rfl rfl (OL.off rfl rfl ?_)))))))))))
    refine OL.off rfl rfl (OL.dp rfl (OL.dp rfl (OL.nil (PW.k1 4 rfl (PW.ret ?_)))))
    change (Exit.ret = Exit.normal ∨ Exit.ret = Exit.ret) /\ ∃ v, resV _ _ = some v /\ _
    first
     | exact ⟨.inr rfl, _, rfl, _, Sub.refl _, _, rfl, rfl, fun hb => by cases hb⟩
     | exact ⟨.inr rfl, _, rfl, _, Sub.refl _, _, rfl, rfl, fun hb => large_end (j := j) hH (by omega) g66 (by simp only [decide_eq_false_iff_not] at hb; omega) (by simp only [decide_eq_false_iff_not] at hb; omega) (by omega)⟩
   try simp only [cvS] at g66
   refine OL.det rfl (.pure rfl) (OL.det rfl (.pure rfl) (OL.det rfl (.pure rfl) ?_))
   refine OL.bool rfl (Yields.pure rfl) (fun g70 => ?_) (fun g70 => ?_)
   ·try simp only [cvS] at g70
    refine OL.det rfl (.pure rfl) (OL.det rfl (.pure rfl) (OL.det rfl (.pure rfl) (OL.det rfl (.pure rfl) (OL.dp rfl ?_))))
    refine OL.bool trivial (Yields.pure rfl) (fun g76 => ?_) (fun g76 => ?_)
    ·try simp only [cvS] at g76
     refine OL.off rfl rfl (OL.off rfl rfl (OL.off rfl rfl (OL.dp rfl (OL.dp rfl (OL.nil (PW.k1 4 rfl (PW.ret ?_)))))))
     change (Exit.ret = Exit.normal ∨ Exit.ret = Exit.ret) /\ ∃ v, resV _ _ = some v /\ _
     first
      | exact ⟨.inr rfl, _, rfl, _, Sub.refl _, _, rfl, rfl, fun hb => by cases hb⟩
      | exact ⟨.inr rfl, _, rfl, _, Sub.refl _, _, rfl, rfl, fun hb => large_end (j := j) hH (by omega) g66 (by simp only [decide_eq_false_iff_not] at hb; omega) (by simp only [decide_eq_false_iff_not] at hb; omega) (by omega)⟩
    try simp only [cvS] at g76
    refine OL.det rfl (.pure rfl) (OL.det rfl (.pure rfl) (OL.det rfl (.pure rfl) (OL.dp rfl (OL.dp rfl (OL.nil (PW.k1 4 rfl (PW.ret ?_)))))))
    change (Exit.ret = Exit.normal ∨ Exit.ret = Exit.ret) /\ ∃ v, resV _ _ = some v /\ _
    first
     | exact ⟨.inr rfl, _, rfl, _, Sub.refl _, _, rfl, rfl, fun hb => by cases hb⟩
     | exact ⟨.inr rfl, _, rfl, _, Sub.refl _, _, rfl, rfl, fun hb => large_end (j := j) hH (by omega) g66 (by simp only [decide_eq_false_iff_not] at hb; omega) (by simp only [decide_eq_false_iff_not] at hb; omega) (by omega)⟩
   try simp only [cvS] at g70
   refine OL.off rfl rfl (OL.off rfl rfl (OL.off rfl rfl (OL.det rfl (.pure rfl) (OL.dp rfl (OL.dp rfl (OL.det rfl (.pure rfl) (OL.det rfl (.pure rfl) (OL.det rfl (.pure rfl) (OL.dp rfl (OL.dp rfl (OL.nil ?_)))))))))))
   refine PW.k1 4 rfl (PW.ret ?_)
   change (Exit.ret = Exit.normal ∨ Exit.ret = Exit.ret) /\ ∃ v, resV _ _ = some v /\ _
   first
    | exact ⟨.inr rfl, _, rfl, _, Sub.refl _, _, rfl, rfl, fun hb => by cases hb⟩
    | exact ⟨.inr rfl, _, rfl, _, Sub.refl _, _, rfl, rfl, fun hb => large_end (j := j) hH (by omega) g66 (by simp only [decide_eq_false_iff_not] at hb; omega) (by simp only [decide_eq_false_iff_not] at hb; omega) (by omega)⟩
  try simp only [cvS] at g46
  refine OL.off rfl rfl (OL.off rfl rfl (OL.dp rfl (OL.nil (PW.k5 0 1 5 7 49 rfl (PW.ite (b := false) rfl ?_)))))
  rw [if_neg Bool.false_ne_true]
  refine PW.exit ?_
  refine hK2 _ _ ?_
  refine PW.k3 0 1 5 rfl (PW.seqOps (OL.dp rfl (OL.dp rfl (OL.dp rfl ?_))))
  refine OL.bool trivial (Yields.pure rfl) (fun g62 => ?_) (fun g62 => ?_)
  ·try simp only [cvS] at g62
   refine OL.off rfl rfl (OL.off rfl rfl (OL.dp rfl (OL.dp rfl (OL.off rfl rfl (OL.off rfl rfl (OL.off rfl rfl (OL.off rfl rfl (OL.off rfl rfl (OL.off rfl rfl (OL.off rfl rfl (OL.off rfl rfl ?_)))))))))))
   refine OL.dp rfl (OL.dp rfl (OL.off rfl rfl (OL.off rfl rfl (OL.off rfl rfl (OL.dp rfl (OL.dp rfl (OL.nil (PW.k1 4 rfl (PW.ret ?_)))))))))
   change (Exit.ret = Exit.normal ∨ Exit.ret = Exit.ret) /\ ∃ v, resV _ _ = some v /\ _
   first
    | exact ⟨.inr rfl, _, rfl, _, Sub.refl _, _, rfl, rfl, fun hb => by cases hb⟩
    | exact ⟨.inr rfl, _, rfl, _, Sub.refl _, _, rfl, rfl, fun hb => large_end (j := j) hH (by omega) g66 (by simp only [decide_eq_false_iff_not] at hb; omega) (by simp only [decide_eq_false_iff_not] at hb; omega) (by omega)⟩
  try simp only [cvS] at g62
  refine OL.det rfl (.pure rfl) (OL.det rfl (.pure rfl) (OL.dp rfl ?_))
  refine OL.bool trivial (Yields.pure rfl) (fun g66 => ?_) (fun g66 => ?_)
  ·try simp only [cvS] at g66
   refine OL.off rfl rfl (OL.off rfl rfl (OL.off rfl rfl (OL.off rfl rfl (OL.off rfl rfl (OL.off rfl rfl (OL.off rfl rfl (OL.off rfl rfl (OL.dp rfl (OL.dp rfl (OL.off rfl rfl (OL.off rfl rfl ?_)))))))))))
   refine OL.off rfl rfl (OL.dp rfl (OL.dp rfl (OL.nil (PW.k1 4 rfl (PW.ret ?_)))))
   change (Exit.ret = Exit.normal ∨ Exit.ret = Exit.ret) /\ ∃ v, resV _ _ = some v /\ _
   first
    | exact ⟨.inr rfl, _, rfl, _, Sub.refl _, _, rfl, rfl, fun hb => by cases hb⟩
    | exact ⟨.inr rfl, _, rfl, _, Sub.refl _, _, rfl, rfl, fun hb => large_end (j := j) hH (by omega) g66 (by simp only [decide_eq_false_iff_not] at hb; omega) (by simp only [decide_eq_false_iff_not] at hb; omega) (by omega)⟩
  try simp only [cvS] at g66
  refine OL.det rfl (.pure rfl) (OL.det rfl (.pure rfl) (OL.det rfl (.pure rfl) ?_))
  refine OL.bool rfl (Yields.pure rfl) (fun g70 => ?_) (fun g70 => ?_)
  ·try simp only [cvS] at g70
   refine OL.det rfl (.pure rfl) (OL.det rfl (.pure rfl) (OL.det rfl (.pure rfl) (OL.det rfl (.pure rfl) (OL.dp rfl ?_))))
   refine OL.bool trivial (Yields.pure rfl) (fun g76 => ?_) (fun g76 => ?_)
   ·try simp only [cvS] at g76
    refine OL.off rfl rfl (OL.off rfl rfl (OL.off rfl rfl (OL.dp rfl (OL.dp rfl (OL.nil (PW.k1 4 rfl (PW.ret ?_)))))))
    change (Exit.ret = Exit.normal ∨ Exit.ret = Exit.ret) /\ ∃ v, resV _ _ = some v /\ _
    first
     | exact ⟨.inr rfl, _, rfl, _, Sub.refl _, _, rfl, rfl, fun hb => by cases hb⟩
     | exact ⟨.inr rfl, _, rfl, _, Sub.refl _, _, rfl, rfl, fun hb => large_end (j := j) hH (by omega) g66 (by simp only [decide_eq_false_iff_not] at hb; omega) (by simp only [decide_eq_false_iff_not] at hb; omega) (by omega)⟩
   try simp only [cvS] at g76
   refine OL.det rfl (.pure rfl) (OL.det rfl (.pure rfl) (OL.det rfl (.pure rfl) (OL.dp rfl (OL.dp rfl (OL.nil (PW.k1 4 rfl (PW.ret ?_)))))))
   change (Exit.ret = Exit.normal ∨ Exit.ret = Exit.ret) /\ ∃ v, resV _ _ = some v /\ _
   first
    | exact ⟨.inr rfl, _, rfl, _, Sub.refl _, _, rfl, rfl, fun hb => by cases hb⟩
    | exact ⟨.inr rfl, _, rfl, _, Sub.refl _, _, rfl, rfl, fun hb => large_end (j := j) hH (by omega) g66 (by simp only [decide_eq_false_iff_not] at hb; omega) (by simp only [decide_eq_false_iff_not] at hb; omega) (by omega)⟩
  try simp only [cvS] at g70
  refine OL.off rfl rfl (OL.off rfl rfl (OL.off rfl rfl (OL.det rfl (.pure rfl) (OL.dp rfl (OL.dp rfl (OL.det rfl (.pure rfl) (OL.det rfl (.pure rfl) (OL.det rfl (.pure rfl) (OL.dp rfl (OL.dp rfl (OL.nil ?_)))))))))))
  refine PW.k1 4 rfl (PW.ret ?_)
  change (Exit.ret = Exit.normal ∨ Exit.ret = Exit.ret) /\ ∃ v, resV _ _ = some v /\ _
  first
   | exact ⟨.inr rfl, _, rfl, _, Sub.refl _, _, rfl, rfl, fun hb => by cases hb⟩
   | exact ⟨.inr rfl, _, rfl, _, Sub.refl _, _, rfl, rfl, fun hb => large_end (j := j) hH (by omega) g66 (by simp only [decide_eq_false_iff_not] at hb; omega) (by simp only [decide_eq_false_iff_not] at hb; omega) (by omega)⟩
 skip
 refine PW.seqOps (OL.dp rfl (OL.nil (PW.k4 0 1 5 6 rfl (PW.block (PW.k4 0 1 5 6 rfl ?_)))))
 refine PW.loopK (I := fun mm T S' => ∃ k : Nat, (k <= l.length /\ k <= 20 /\ mm = l.length - k /\ ∀ x ∈ l.take k, x.lines.length <= 10 /\ x.gone.length <= 12 /\ x.first <= 1000000) /\ T = ([(0, .slice A l.length c), (1, .slice W w.length cw), (5, .int .i64 0), (6, .int .i64 k)] : TT) /\ S' = S) (m := l.length) ⟨0, ⟨by omega, by omega, by omega, by simp⟩, rfl, rfl⟩ ?_
 rintro mm _ _ ⟨k, ⟨hk, hk15, hmm, hall⟩, rfl, rfl⟩
 rename SS => S
 refine PW.seq fun K5 hK5 => ?_
 refine PW.seqOps (OL.dp rfl (OL.dp rfl (OL.dp rfl (OL.dp rfl ?_))))
 refine OL.bool trivial (Yields.pure rfl) (fun g12 => ?_) (fun g12 => ?_)
 ·try simp only [cvS] at g12
  refine OL.det rfl (.pure rfl) (OL.det rfl (.pure rfl) (OL.dp rfl (OL.nil (PW.k5 0 1 5 6 15 rfl ?_))))
  refine PW.cond rfl (fun c15 => ?_) (fun c15 => ?_)
  ·try simp only [cvS] at c15
   have hkl : k < l.length := by omega
   obtain ⟨a0, ha0⟩ := partS_some h.rd (by omega)
   have hrd := h.rd
   rw [ha0] at hrd
   refine PW.skip ?_
   refine hK5 _ _ ?_
   refine PW.k4 0 1 5 6 rfl ?_
   refine PW.seq fun K6 hK6 => ?_
   refine PW.block (PW.seqOps (OL.dp rfl (OL.dp rfl ?_)))
   try rw [ha0]
   refine OL.det trivial (.ixN rfl rfl rfl hkl) (OL.dp rfl (OL.det trivial (.ld rfl (partS_lines hrd.any hkl)) (OL.dp rfl (OL.dp rfl ?_))))
   refine OL.bool trivial (Yields.pure rfl) (fun g25 => ?_) (fun g25 => ?_)
   ·try simp only [cvS] at g25
    refine OL.off rfl rfl (OL.off rfl rfl (OL.off rfl rfl (OL.off rfl rfl (OL.off rfl rfl (OL.off rfl rfl (OL.off rfl rfl (OL.dp rfl (OL.dp rfl (OL.off rfl rfl (OL.off rfl rfl (OL.off rfl rfl ?_)))))))))))
    refine OL.off rfl rfl (OL.off rfl rfl (OL.off rfl rfl (OL.dp rfl (OL.nil (PW.k5 0 1 5 6 41 rfl (PW.ite (b := true) rfl ?_))))))
    rw [if_pos rfl]
    refine PW.seqOps (OL.dp rfl (OL.nil (PW.k1 4 rfl (PW.ret ?_))))
    change (Exit.ret = Exit.normal ∨ Exit.ret = Exit.ret) /\ ∃ v, resV _ _ = some v /\ _
    exact ⟨.inr rfl, _, rfl, _, Sub.refl _, true, rfl, rfl, fun h => by cases h⟩
   try simp only [cvS] at g25
   refine OL.det rfl (.pure rfl) (OL.det rfl (.pure rfl) ?_)
   try rw [ha0]
   refine OL.det rfl (.ixN rfl rfl rfl hkl) (OL.det rfl (.pure rfl) (OL.det rfl (.ld rfl (partS_gone hrd.any hkl)) (OL.det rfl (.pure rfl) (OL.det rfl (.pure rfl) (OL.dp rfl ?_)))))
   refine OL.bool trivial (Yields.pure rfl) (fun g34 => ?_) (fun g34 => ?_)
   ·try simp only [cvS] at g34
    refine OL.off rfl rfl (OL.off rfl rfl (OL.off rfl rfl (OL.off rfl rfl (OL.off rfl rfl (OL.off rfl rfl (OL.dp rfl (OL.nil (PW.k5 0 1 5 6 41 rfl (PW.ite (b := true) rfl ?_)))))))))
    rw [if_pos rfl]
    refine PW.seqOps (OL.dp rfl (OL.nil (PW.k1 4 rfl (PW.ret ?_))))
    change (Exit.ret = Exit.normal ∨ Exit.ret = Exit.ret) /\ ∃ v, resV _ _ = some v /\ _
    exact ⟨.inr rfl, _, rfl, _, Sub.refl _, true, rfl, rfl, fun h => by cases h⟩
   try simp only [cvS] at g34
   refine OL.det rfl (.pure rfl) (OL.det rfl (.pure rfl) ?_)
   try rw [ha0]
   refine OL.det rfl (.ixN rfl rfl rfl hkl) (OL.det rfl (.pure rfl) (OL.det rfl (.ld rfl (partS_first hrd.any hkl)) (OL.det rfl (.pure rfl) (OL.dp rfl (OL.nil (PW.k5 0 1 5 6 41 rfl ?_))))))
   refine PW.cond rfl (fun c41 => ?_) (fun c41 => ?_)
   ·try simp only [cvS] at c41
    refine PW.seqOps (OL.dp rfl (OL.nil (PW.k1 4 rfl (PW.ret ?_))))
    change (Exit.ret = Exit.normal ∨ Exit.ret = Exit.ret) /\ ∃ v, resV _ _ = some v /\ _
    exact ⟨.inr rfl, _, rfl, _, Sub.refl _, true, rfl, rfl, fun h => by cases h⟩
   try simp only [cvS] at c41
   have hk2 : l[k].lines.length <= 10 /\ l[k].gone.length <= 12 /\ l[k].first <= 1000000 := by
    first | (simp only [cvS] at *; omega) | omega
   refine PW.skip ?_
   refine hK6 _ _ ?_
   refine PW.k4 0 1 5 6 rfl (PW.ops (OL.dp rfl ?_))
   refine OL.det trivial (.add64 rfl rfl (by omega) (by omega)) ?_
   refine OL.dp rfl (OL.nil ?_)
   repeat rw [inBlk_n]
   try rw [thenK_n]
   refine LoopEnd.mk (T'' := [(0, _), (1, _), (5, _), (6, _)]) (wi rfl) ?_
   try rw [ha0]
   refine ⟨l.length - (k + 1), by omega, k + 1, ⟨by omega, by omega, rfl, ?_⟩, rfl, rfl⟩
   rw [ltake_snoc hkl]
   intro x hx
   rcases List.mem_append.1 hx with hx | hx
   ·exact hall x hx
   rw [List.mem_singleton] at hx; subst hx; exact hk2
  try simp only [cvS] at c15
  refine PW.exit ?_
  exact hK1 (fun h12 x hx => hall x (by rw [List.take_of_length_le (by omega)]; exact hx)) _ _ ⟨rfl, rfl, rfl, trivial⟩ rfl
 try simp only [cvS] at g12
 refine OL.off rfl rfl (OL.off rfl rfl (OL.dp rfl (OL.nil (PW.k5 0 1 5 6 15 rfl (PW.ite (b := false) rfl ?_)))))
 rw [if_neg Bool.false_ne_true]
 refine PW.exit ?_
 exact hK1 (fun h12 x hx => hall x (by rw [List.take_of_length_le (by omega)]; exact hx)) _ _ ⟨rfl, rfl, rfl, trivial⟩ rfl
theorem plainL_fc {w0 : World} {S : SS} {A : Option Addr} {c : Nat} {l : List PartM} (h : PartsIn w0 A l) (hs : SmallC l) :
  FC Tryz.prog w0 14 [.slice A l.length c] S (fun v S' => ∃ b, v = .bool b /\ S' = S /\ (b = true -> ∀ x ∈ l, ∀ s ∈ x.lines, Ln.isP s = true)) := by
 have hlen := hs.len
 refine FC.ofD Tryz.known14 (by simp) ?_
 unfold Tryz.pc14
 simp only [argT]
 refine PW.seqOps (OL.dp rfl (OL.nil (PW.k1 0 rfl ?_)))
 refine PW.seq fun K1 hK1 => ?_
 refine PW.seqOps (OL.dp rfl (OL.nil (PW.k2 0 3 rfl (PW.block (PW.k2 0 3 rfl ?_)))))
 refine PW.loopK (I := fun mm T S' => ∃ k : Nat, (k <= l.length /\ mm = l.length - k /\ ∀ x ∈ l.take k, ∀ s ∈ x.lines, Ln.isP s = true) /\ T = ([(0, .slice A l.length c), (3, .int .i64 k)] : TT) /\ S' = S) (m := l.length) ⟨0, ⟨by omega, by omega, by simp⟩, rfl, rfl⟩ ?_
 rintro mm _ _ ⟨k, ⟨hk, hmm, hall⟩, rfl, rfl⟩
 rename SS => S
 refine PW.seq fun K2 hK2 => ?_
 refine PW.seqOps (OL.dp rfl (OL.dp rfl (OL.dp rfl (OL.dp rfl (OL.nil (PW.k3 0 3 8 rfl ?_))))))
 refine PW.cond rfl (fun c8 => ?_) (fun c8 => ?_)
 ·try simp only [cvS] at c8
  have hkl : k < l.length := by omega
  obtain ⟨a0, ha0⟩ := partS_some h.rd (by omega)
  have hrd := h.rd
  rw [ha0] at hrd
  have hpa := h.part _ (List.getElem_mem hkl)
  have hpm := hs.part _ (List.getElem_mem hkl)
  refine PW.skip ?_
  refine hK2 _ _ ?_
  refine PW.k2 0 3 rfl ?_
  refine PW.seq fun K3 hK3 => ?_
  refine PW.block (PW.seqOps (OL.dp rfl (OL.nil (PW.k3 0 3 4 rfl (PW.block (PW.k3 0 3 4 rfl ?_))))))
  refine PW.loopK (I := fun mj T S' => ∃ j : Nat, (j <= l[k].lines.length /\ mj = l[k].lines.length - j /\ ∀ s ∈ l[k].lines.take j, Ln.isP s = true) /\ T = ([(0, .slice A l.length c), (3, .int .i64 k), (4, .int .i64 j)] : TT) /\ S' = S) (m := l[k].lines.length) ⟨0, ⟨by omega, by omega, by simp⟩, rfl, rfl⟩ ?_
  rintro mj _ _ ⟨j, ⟨hj, hmj, hal2⟩, rfl, rfl⟩
  refine PW.seq fun K4 hK4 => ?_
  refine PW.seqOps (OL.dp rfl (OL.dp rfl (OL.dp rfl ?_)))
  rw [ha0]
  refine OL.det trivial (.ixN rfl rfl rfl hkl) (OL.dp rfl (OL.det trivial (.ld rfl (partS_lines hrd.any hkl)) (OL.dp rfl (OL.dp rfl (OL.nil (PW.k4 0 3 4 18 rfl ?_))))))
  refine PW.cond rfl (fun c18 => ?_) (fun c18 => ?_)
  ·try simp only [cvS] at c18
   have hjl : j < l[k].lines.length := by omega
   obtain ⟨b0, hb0⟩ := strs_some hpa.rdL (by omega)
   have hrl := hpa.rdL
   rw [hb0] at hrl
   refine PW.skip ?_
   refine hK4 _ _ ?_
   refine PW.k3 0 3 4 rfl ?_
   refine PW.seq fun K5 hK5 => ?_
   refine PW.block (PW.seqOps (OL.dp rfl (OL.dp rfl ?_)))
   rw [ha0]
   refine OL.det trivial (.ixN rfl rfl rfl hkl) (OL.dp rfl (OL.det trivial (.ld rfl (partS_lines hrd.any hkl)) (OL.dp rfl ?_)))
   rw [hb0]
   refine OL.det trivial (.ixN1 rfl rfl rfl hjl) (OL.det trivial (.ld rfl (str_at hrl.any hjl)) ?_)
   refine OL.call trivial rfl (Ln.is_fc (by have := hpa.text _ (List.getElem_mem hjl); omega)) ?_
   rintro _ Sx ⟨rfl, hSx⟩
   rw [hSx]
   clear hSx
   refine OL.dp rfl (OL.nil (PW.k4 0 3 4 30 rfl ?_))
   refine PW.cond rfl (fun c30 => ?_) (fun c30 => ?_)
   ·skip
    refine PW.seqOps (OL.dp rfl (OL.nil (PW.k1 2 rfl (PW.ret ?_))))
    change (Exit.ret = Exit.normal ∨ Exit.ret = Exit.ret) /\ ∃ v, resV _ _ = some v /\ _
    exact ⟨.inr rfl, _, rfl, _, Sub.refl _, false, rfl, rfl, fun h => by cases h⟩
   skip
   have hisj : Ln.isP l[k].lines[j] = true := by simpa using c30
   refine PW.skip ?_
   refine hK5 _ _ ?_
   refine PW.k3 0 3 4 rfl (PW.ops (OL.dp rfl ?_))
   refine OL.det trivial (.add64 rfl rfl (by omega) (by omega)) ?_
   refine OL.dp rfl (OL.nil ?_)
   repeat rw [inBlk_n]
   try rw [thenK_n]
   refine LoopEnd.mk (T'' := [(0, _), (3, _), (4, _)]) (wi rfl) ?_
   try rw [ha0]
   refine ⟨l[k].lines.length - (j + 1), by omega, j + 1, ⟨by omega, rfl, ?_⟩, rfl, rfl⟩
   rw [ltake_snoc hjl]
   intro x hx
   rcases List.mem_append.1 hx with hx | hx
   ·exact hal2 x hx
   rw [List.mem_singleton] at hx; subst hx; exact hisj
  try simp only [cvS] at c18
  refine PW.exit ?_
  refine hK3 _ _ ?_
  refine PW.k2 0 3 rfl (PW.ops (OL.dp rfl ?_))
  refine OL.det trivial (.add64 rfl rfl (by omega) (by omega)) ?_
  refine OL.dp rfl (OL.nil ?_)
  repeat rw [inBlk_n]
  try rw [thenK_n]
  refine LoopEnd.mk (T'' := [(0, _), (3, _)]) (wi rfl) ?_
  try rw [ha0]
  have hje : j = l[k].lines.length := by omega
  rw [hje, List.take_length] at hal2
  refine ⟨l.length - (k + 1), by omega, k + 1, ⟨by omega, rfl, ?_⟩, rfl, rfl⟩
  rw [ltake_snoc hkl]
  intro x hx
  rcases List.mem_append.1 hx with hx | hx
  ·exact hall x hx
  rw [List.mem_singleton] at hx; subst hx; exact hal2
 try simp only [cvS] at c8
 refine PW.exit ?_
 refine hK1 _ _ ?_
 refine PW.keep (T' := []) trivial (PW.seqOps (OL.dp rfl (OL.nil (PW.k1 2 rfl (PW.ret ?_)))))
 change (Exit.ret = Exit.normal ∨ Exit.ret = Exit.ret) /\ ∃ v, resV _ _ = some v /\ _
 have hke : k = l.length := by omega
 rw [hke, List.take_length] at hall
 exact ⟨.inr rfl, _, rfl, _, Sub.refl _, true, rfl, rfl, fun _ => hall⟩
theorem both_fc {w0 : World} {S : SS} {A : Option Addr} {c : Nat} {l : List PartM} (h : PartsIn w0 A l) (hs : SmallC l) :
  FC Tryz.prog w0 8 [.slice A l.length c] S (fun v S' => ∃ m cms A' c' sg, v = .tuple #[m.ptr, .slice A' cms.length c'] /\ S' = GS m ++ (sg :: S) /\ GG w0 [] m (pls cms).reverse /\ SlV 66 102 (.slice A' cms.length c') cms.length (partS cms) sg /\ (∀ x ∈ cms, PartB w0 x /\ x ∈ l) /\ cms.length <= 12 /\ (allV (pls cms).reverse).length <= 120 /\ m.lim <= 100000) := by
 have hlen := hs.len
 refine FC.ofD Tryz.known8 (by simp) ?_
 unfold Tryz.pc8
 simp only [argT]
 refine PW.seqOps (OL.dp rfl (OL.dp rfl (OL.nil (PW.k1 0 rfl (PW.seqOps (OL.call trivial rfl (new_fc (X := [])) ?_))))))
 rintro _ _ ⟨m0, rfl, rfl, hm0, hg0, hl0⟩
 have hgg : GG w0 [] m0 [] := ⟨hm0, by rw [hg0]; exact GP.Inv.nil, Sq.nil, by simp [allV], by omega⟩
 refine OL.dp rfl (OL.nil (PW.k2 0 4 rfl (PW.seqOps (OL.dp rfl (OL.nil (PW.k3 0 4 5 rfl ?_))))))
 refine PW.seq fun K1 hK1 => ?_
 refine PW.seqOps (OL.subS (S' := GS m0 ++ ([] :: S)) gs_j (OL.dp rfl (OL.nil (PW.k4 0 4 5 6 rfl (PW.block (PW.k4 0 4 5 6 rfl ?_))))))
 refine PW.loopK (I := fun mm T S' => ∃ (k : Nat) (m : GrM) (cms : List PartM) (Ar : Option Addr) (cr : Nat) (sg : Seg), (k <= l.length /\ mm = l.length - k /\ GG w0 [] m (pls cms).reverse /\ SlV 66 102 (.slice Ar cms.length cr) cms.length (partS cms) sg /\ (∀ x ∈ cms, PartB w0 x /\ x ∈ l) /\ cms.length <= k /\ (allV (pls cms).reverse).length <= 10 * k /\ m.lim <= 1000 * k /\ m.r = m0.r) /\ T = ([(0, .slice A l.length c), (4, m0.ptr), (5, .slice Ar cms.length cr), (6, .int .i64 k)] : TT) /\ S' = GS m ++ (sg :: S)) (m := l.length) ⟨0, m0, [], _, _, [], ⟨by omega, by omega, hgg, SlV.nil 66 102, (fun x hx => by cases hx), Nat.le_refl 0, by simp [allV, pls], by omega, rfl⟩, rfl, rfl⟩ ?_
 rintro mm _ _ ⟨k, m, cms, Ar, cr, sg, ⟨hk, hmm, hg, hsr, hcb, hcl, hal, hlim, hr⟩, rfl, rfl⟩
 refine PW.seq fun K2 hK2 => ?_
 refine PW.seqOps (OL.dp rfl (OL.dp rfl (OL.dp rfl (OL.dp rfl (OL.nil (PW.k5 0 4 5 6 12 rfl ?_))))))
 refine PW.cond rfl (fun c12 => ?_) (fun c12 => ?_)
 ·try simp only [cvS] at c12
  have hkl : k < l.length := by omega
  obtain ⟨a0, ha0⟩ := partS_some h.rd (by omega)
  have hrd := h.rd
  rw [ha0] at hrd
  have hpb := h.partC hs hkl
  have hrl : (pls cms).reverse.length = cms.length := by simp [pls]
  have hsm := hs.part _ (List.getElem_mem hkl)
  obtain ⟨Ar2, cr2, er2, hnr, hcr, hrr⟩ := slv_rdL (w0 := w0) hsr
  cases er2
  refine PW.skip ?_
  refine hK2 _ _ ?_
  refine PW.k4 0 4 5 6 rfl ?_
  refine PW.seq fun K3 hK3 => ?_
  refine PW.block (PW.seqOps (OL.dp rfl (OL.dp rfl ?_)))
  rw [ha0]
  refine OL.det trivial (.ixN rfl rfl rfl hkl) (OL.det trivial (.ldA rfl (partC_len _) (partS_at hrd.any hkl)) (OL.cons trivial OW.al ?_))
  rintro _ _ ⟨r7, rfl, rfl⟩
  refine OL.cons trivial (part_stk (k := 0) (u := l[k]) rfl rfl rfl rfl) ?_
  rintro _ _ rfl
  change OL _ _ _ _ _ (pseg r7 l[k] :: (GS m ++ (sg :: S))) _
  refine OL.nil (PW.k5 0 4 5 6 7 rfl (PW.seqOps (OL.dp rfl (OL.det trivial (.ldA rfl (partC_len _) (all_at zM0)) ?_))))
  refine OL.call trivial rfl (by rw [<- ptr_eq hr]; exact FC.subS gs_a (add2_fc (S := pseg r7 l[k] :: sg :: S) hg over_nil hpb.rng hpb.rdL.any hpb.rdG.any (by omega) (by unfold addL; omega))) ?_
  rintro _ _ ⟨m1, rfl, rfl, hg1, hl1, hr1, _⟩
  unfold addL at hl1
  refine OL.dp rfl (OL.nil (PW.k6 0 4 5 6 7 22 rfl ?_))
  refine PW.cond rfl (fun c22 => ?_) (fun c22 => ?_)
  ·skip
   have hnew : New (pls cms).reverse l[k].pl := (addE_zero hg.inv hg.sq).1 (by simpa using c22)
   rw [came_new hnew, <- pls_snoc] at hg1
   refine PW.ops (OL.dp rfl (OL.dp rfl (OL.det trivial (.ldA rfl (hb_len _) (part_patch (p := l[k]) (E := 59) (tot := 102) zM4)) (OL.dp rfl (OL.det trivial (.ld rfl (part_at (p := l[k]) (E := 59) (tot := 102) zM4)) (OL.dp rfl (OL.det trivial (.ld rfl (part_first (p := l[k]) (E := 59) (tot := 102) zM4)) (OL.dp rfl (OL.det trivial (.ldA rfl (vtxL_len _) (part_up (p := l[k]) (E := 59) (tot := 102) zM4)) (OL.dp rfl (OL.det trivial (.ldA rfl (vtxL_len _) (part_down (p := l[k]) (E := 59) (tot := 102) zM4)) ?_)))))))))))
   refine OL.dp rfl (OL.det trivial (.ld rfl (part_lines (p := l[k]) (E := 59) (tot := 102) zM4)) (OL.dp rfl (OL.det trivial (.ld rfl (part_gone (p := l[k]) (E := 59) (tot := 102) zM4)) (OL.det trivial (.build (fill_part7 rfl rfl rfl rfl rfl rfl rfl)) ?_))))
   refine OL.call trivial rfl (rAdd_fc (l := cms) ⟨rd_mem (hrr []) (by simp [GS]), fun x hx => (hcb x hx).1.rdS, by omega⟩ hpb.rdS hnr (new_rev hnew) (line_pls hg)) ?_
   rintro _ _ ⟨v1, sg40, rfl, rfl, hs40⟩
   obtain ⟨A1, c1, rfl, hn1, hc1, hr40⟩ := slv_rdL (w0 := w0) hs40
   refine OL.dp rfl (OL.dp rfl (OL.dp rfl (OL.dp rfl (OL.nil ?_))))
   refine hK3 _ _ ?_
   refine PW.k4 0 4 5 6 rfl (PW.ops (OL.dp rfl ?_))
   refine OL.det trivial (.add64 rfl rfl (by omega) (by omega)) ?_
   refine OL.dp rfl (OL.nil ?_)
   repeat rw [inBlk_n]
   try rw [thenK_n]
   refine LoopEnd.mkS (gs_h) (T'' := [(0, _), (4, _), (5, _), (6, _)]) (wi rfl) ?_
   rw [ha0]
   exact ⟨l.length - (k + 1), by omega, k + 1, m1, cms ++ [l[k]], _, _, sg40, ⟨by omega, rfl, hg1, hs40, (fun x hx => by
    rcases List.mem_append.1 hx with hx | hx
    ·exact hcb x hx
    ·rw [List.mem_singleton.1 hx]; exact ⟨hpb, List.getElem_mem hkl⟩), by rw [List.length_append]; simp only [List.length_cons, List.length_nil]; omega, by
    rw [pls_snoc, allV_cons, List.length_append, own_len]
    have : l[k].pl.lines.length = l[k].lines.length := rfl
    omega, by omega, hr1.trans hr⟩, rfl, rfl⟩
  skip
  have hnn : ¬ New (pls cms).reverse l[k].pl := fun hn => by
   have := (addE_zero hg.inv hg.sq).2 hn
   simp [this] at c22
  rw [came_not hnn] at hg1
  refine PW.skip ?_
  refine hK3 _ _ ?_
  refine PW.k4 0 4 5 6 rfl (PW.ops (OL.dp rfl ?_))
  refine OL.det trivial (.add64 rfl rfl (by omega) (by omega)) ?_
  refine OL.dp rfl (OL.nil ?_)
  repeat rw [inBlk_n]
  try rw [thenK_n]
  refine LoopEnd.mkS (gs_i) (T'' := [(0, _), (4, _), (5, _), (6, _)]) (wi rfl) ?_
  rw [ha0]
  exact ⟨l.length - (k + 1), by omega, k + 1, m1, cms, _, _, sg, ⟨by omega, rfl, hg1, hsr, hcb, by omega, by omega, by omega, hr1.trans hr⟩, rfl, rfl⟩
 try simp only [cvS] at c12
 refine PW.exit ?_
 refine hK1 _ _ ?_
 refine PW.k2 4 5 rfl (PW.seqOps (OL.dp rfl (OL.dp rfl (OL.dp rfl (OL.dp rfl (OL.nil (PW.k2 2 3 rfl (PW.ret ?_))))))))
 change (Exit.ret = Exit.normal ∨ Exit.ret = Exit.ret) /\ ∃ v, resV _ _ = some v /\ _
 rw [<- ptr_eq hr]
 exact ⟨.inr rfl, _, rfl, _, Sub.refl _, m, cms, _, _, sg, rfl, rfl, hg, hsr, hcb, by omega, by omega, by omega⟩
open Go.MyPlain
def p17 (A : Option Addr) (c : Nat) : PartM := ⟨hb1 1, 0, 1, rootV, endV, A, c, [str1 97, str1 98, str1 99], none, 0, []⟩
def k17 : PartP := (p17 none 0).pl
def v17 (n : Int) : Vtx := (hb1 1, n)
def I17 : List ItemP := [⟨[⟨v17 1, str1 97, true⟩], false, []⟩, ⟨[⟨v17 2, str1 98, true⟩], false, []⟩, ⟨[⟨v17 3, str1 99, true⟩], false, []⟩]
theorem new17 : newC [] k17 = true := by decide +kernel
theorem closed17 : ((allV [k17]).all fun a => closedB (allE [k17]) a) = true := by decide +kernel
theorem items17 : itemsP [k17] = I17 := by
 rw [items_comp closed17]
 kernel_rfl
def w17a : List ByteArray := [str1 97, str1 120, str1 98, str1 99]
def w17b : List ByteArray := [str1 97, str1 98, str1 99]
theorem err17a : errH I17 w17a = 0 := by decide +kernel
theorem err17b : errH I17 w17b = 0 := by decide +kernel
theorem runs17a : runsH I17 w17a = [⟨1, 1, [str1 120]⟩] := by kernel_rfl
theorem runs17b : runsH I17 w17b = [] := by kernel_rfl
theorem kept17a : keptH I17 w17a = [true, true, true] := by decide +kernel
def y17a : HunkP := ⟨v17 1, v17 2, [str1 120], []⟩
theorem hunks17a : hunksP I17 w17a = [y17a] := by
 unfold hunksP
 rw [if_pos err17a, runs17a, kept17a]
 show [hunkP I17 [true, true, true] ⟨1, 1, [str1 120]⟩] = _
 unfold hunkP y17a
 have h1 : upK I17 [true, true, true] 1 = v17 1 := by decide +kernel
 have h2 : downK I17 [true, true, true] 1 = v17 2 := by decide +kernel
 have h3 : goneK I17 ⟨1, 1, [str1 120]⟩ = [] := rfl
 simp only [h1, h2, h3]
 rw [show sortL [] = [] by simp [sortL]]
theorem hunks17b : hunksP I17 w17b = [] := by
 unfold hunksP
 rw [if_pos err17b, runs17b]; rfl
theorem fill_part5 {T : TT} {h : HashB} {z : Int} {up down : Vtx} {A : Option Addr} {n c : Nat} {x1 x3 x4 x5 x6 : PV} (h1 : x1.val T = some (.agg (bytesC h.1).toArray)) (h3 : x3.val T = some (.int .i64 z)) (h4 : x4.val T = some (vtxV up)) (h5 : x5.val T = some (vtxV down)) (h6 : x6.val T = some (.slice A n c)) :
  fillP T zP [(0, 32, x1), (33, 1, x3), (34, 33, x4), (67, 33, x5), (100, 1, x6)] = some (bytesC h.1 ++ ([.int .i64 0] ++ ([.int .i64 z] ++ (vtxL up ++ (vtxL down ++ ([.slice A n c] ++ [.slice none 0 0])))))) := by
 have hb := hb_len h
 have hu := vtxL_len up
 have hd := vtxL_len down
 have h0 := vtxL_len v0
 have e0 : zP = [] ++ (List.replicate 32 (.int .u8 0) ++ ([.int .i64 0] ++ ([.int .i64 0] ++ (vtxL v0 ++ (vtxL v0 ++ ([.slice none 0 0] ++ [.slice none 0 0])))))) := by unfold zP; simp only [List.append_assoc, List.nil_append]; rfl
 have c1 : (Value.agg (bytesC h.1).toArray).cells.toList = bytesC h.1 := rfl
 have c4 : (vtxV up).cells.toList = vtxL up := rfl
 have c5 : (vtxV down).cells.toList = vtxL down := rfl
 have c2 : ∀ (k : IntKind) (z : Int), (Value.int k z).cells.toList = [.int k z] := fun _ _ => rfl
 have c6 : ∀ (A : Option Addr) (n c : Nat), (Value.slice A n c).cells.toList = [.slice A n c] := fun _ _ _ => rfl
 rw [e0, fill_step (a := []) (n := 0) (k := 32) h1 rfl List.length_replicate (by rw [c1]; exact hb), c1, List.nil_append, <- List.append_assoc (bytesC h.1) [Value.int .i64 0],
  fill_step (k := 1) (b := [.int .i64 0]) h3 (by simp only [List.length_append, List.length_nil, List.length_cons]; omega) rfl rfl, c2,
  fill_step h4 (by simp only [List.length_append, List.length_nil, List.length_cons]; omega) h0 (by rw [c4]; exact hu), c4,
  fill_step h5 (by simp only [List.length_append, List.length_nil, List.length_cons]; omega) h0 (by rw [c5]; exact hd), c5, fill_step (k := 1) (b := [.slice none 0 0]) h6 (by simp only [List.length_append, List.length_nil, List.length_cons]; omega) rfl rfl, c6]
 simp only [fillP, List.append_assoc]
theorem p17_c (A : Option Addr) (c : Nat) : partC (p17 A c) = bytesC (hb1 1).1 ++ ([.int .i64 0] ++ ([.int .i64 1] ++ (vtxL rootV ++ (vtxL endV ++ ([.slice A 3 c] ++ [.slice none 0 0]))))) := by
 rw [partC_split]; rfl
theorem p17_rd {w0 : World} {S : SS} {r n : Nat} (h : [(r, AO.cells (strs [str1 97, str1 98, str1 99]) 9 n)] ∈ S) : PartRd w0 S (p17 (some ⟨r, 0, none⟩) 3) :=
 ⟨Rd.own (E := 9) (tot := n) (List.mem_flatten.2 ⟨_, h, List.mem_singleton.2 rfl⟩), Rd.nil, ⟨(show (-9223372036854775808 : Int) <= 0 /\ (0 : Int) <= 9223372036854775807 by decide), (show (-9223372036854775808 : Int) <= 1 /\ (1 : Int) <= 4611686018427387904 by decide), (show 3 <= 1000000000 by decide), Nat.zero_le _, Nat.le_refl _, fun _ => rfl, okRoot, okEnd, fun v hv => by cases hv⟩, (show 3 <= 100 by decide), Nat.zero_le _⟩
theorem given_fc {w0 : World} {S : SS} : FC Tryz.prog w0 22 [] S (fun v S' => ∃ m sg, v = m.ptr /\ S' = GS m ++ (sg :: S) /\ GG w0 [] m [k17]) := by
 refine FC.of Tryz.known22 (by simp) ?_
 unfold Tryz.pc22
 simp only [argT]
 refine PW.seqOps (OL.dp rfl (OL.nil (PW.keep (T' := []) trivial (PW.seqOps (OL.call trivial rfl (new_fc (X := [])) ?_)))))
 rintro _ _ ⟨m0, rfl, rfl, hm0, hg0, hl0⟩
 have hgg : GG w0 [] m0 [] := ⟨hm0, by rw [hg0]; exact GP.Inv.nil, Sq.nil, by simp [allV], by omega⟩
 refine OL.dp rfl (OL.nil (PW.k1 1 rfl (PW.seqOps (OL.dp rfl (OL.det trivial (.bldA (cs := bytesC (hb1 1).1) rfl) (OL.det trivial (.build (cs := vtxL rootV) rfl) (OL.det trivial (.build (cs := vtxL endV) rfl) (OL.cons trivial (OW.bsl (cs := strs [str1 97, str1 98, str1 99]) rfl) ?_))))))))
 rintro _ _ ⟨r7, rfl, rfl⟩
 refine OL.det trivial (.build (cs := partC (p17 (some ⟨r7, 0, none⟩) 3)) (by rw [p17_c]; exact fill_part5 rfl rfl rfl rfl rfl)) ?_
 refine OL.call trivial rfl (addF_fc (p := p17 (some ⟨r7, 0, none⟩) 3) hgg (p17_rd (n := 3) (.head _)) (show newC [] k17 = true from new17) (show 4 <= 1000000 by decide) (by rw [hl0]; exact (show 0 + 6 <= 500000000000 by decide))) ?_
 rintro _ _ ⟨m1, rfl, rfl, hg1, hl1, hr1⟩
 refine OL.nil (PW.k1 1 rfl (PW.seqOps (OL.dp rfl (OL.dp rfl (OL.nil (PW.k1 0 rfl (PW.ret ?_)))))))
 change (Exit.ret = Exit.normal ∨ Exit.ret = Exit.ret) /\ ∃ v, resV _ _ = some v /\ _
 exact ⟨.inr rfl, _, rfl, m1, _, by rw [ptr_eq hr1], rfl, hg1⟩
theorem line17_fc {w0 : World} {S : SS} {z : Int} : FC Tryz.prog w0 23 [.int .i64 z] S (fun v S' => v = vtxV (v17 z) /\ S' = S) := by
 refine FC.ofC Tryz.known23 (by simp) ?_
 unfold Tryz.pc23
 simp only [argT]
 refine PW.seqOps (OL.cons trivial OW.al ?_)
 rintro _ _ ⟨r2, rfl, rfl⟩
 refine OL.nil (PW.k2 0 2 rfl (PW.seqOps (OL.det trivial (.bldA (cs := bytesC (hb1 1).1) rfl) (OL.dp rfl (OL.det trivial (.build (cs := vtxL (v17 z)) rfl) (OL.cons trivial (vtx_stk (k := 0) (u := v17 z) rfl rfl rfl rfl) ?_))))))
 rintro _ _ rfl
 refine OL.nil (PW.k1 2 rfl (PW.ret ?_))
 exact ⟨.inr rfl, _, _, rfl, vtx_read (r := r2) (v := v17 z) (E := 27) (tot := 33) zM0, _, Sub.drop (Sub.refl _), rfl, rfl⟩
theorem gs_l {a : GrM} {s t u v : Seg} {S : SS} : Sub (v :: s :: t :: S) (s :: t :: (GS a ++ (u :: v :: S))) := Sub.sel [7, 0, 1] 8 (by decide) (s :: t :: (GS a ++ (u :: v :: S)))
theorem gs_n {a : GrM} {s t u z v w x : Seg} {S : SS} : Sub (v :: w :: S) (s :: t :: (GS a ++ (u :: z :: v :: w :: x :: S))) := Sub.sel [8, 9] 11 (by decide) (s :: t :: (GS a ++ (u :: z :: v :: w :: x :: S)))
theorem chg_at {w0 : World} {S : SS} {a : Addr} {l : List ChgM} (h : Rd w0 S (some a) (chgS l)) {k : Nat} (hk : k < l.length) : ∀ (j : Nat) (v : Value), (chgR l[k])[j]? = some v -> Cell w0 S ((a.add (k * 105)).add j) v := by
 intro j v hj
 have hj2 : j < 105 := by have := (List.getElem?_eq_some_iff.1 hj).1; rwa [chgR_len] at this
 rw [addr_add_add]
 refine h.at ?_
 unfold chgS
 rw [flat_get chgR_len l (k * 105 + j) (by omega), show (k * 105 + j) / 105 = k from by omega, show (k * 105 + j) % 105 = j from by omega, getElem!_pos l k hk]
 exact hj
theorem chgS_len (l : List ChgM) : (chgS l).length = l.length * 105 := by unfold chgS; rw [List.length_flatMap]; simp [chgR_len, List.map_const']
theorem chgS_some {w0 : World} {S : SS} {A : Option Addr} {l : List ChgM} (h : Rd w0 S A (chgS l)) (hk : 0 < l.length) : ∃ a, A = some a :=
 h.some (fun e => by have := chgS_len l; rw [e] at this; simp at this; omega)
theorem chgC_up {f u d : Vtx} {G L : Value} {j : Nat} {v : Value} (h : (vtxL u)[j]? = some v) : (chgC f u d G L)[37 + j]? = some v := by
 have hj : j < 33 := by have := (List.getElem?_eq_some_iff.1 h).1; rwa [vtxL_len] at this
 have e : chgC f u d G L = ([Value.int .i64 5] ++ (vtxL f ++ [Value.string ⟨#[]⟩, Value.int .i64 0, Value.int .u64 0])) ++ (vtxL u ++ (vtxL d ++ [G, L])) := by unfold chgC; simp only [List.append_assoc]
 have hl : ([Value.int .i64 5] ++ (vtxL f ++ [Value.string ⟨#[]⟩, Value.int .i64 0, Value.int .u64 0])).length = 37 := by simp only [List.length_append, vtxL_len]; rfl
 rw [e, List.getElem?_append_right (by omega), hl, Nat.add_sub_cancel_left, List.getElem?_append_left (by rw [vtxL_len]; exact hj)]
 exact h
theorem chgC_down {f u d : Vtx} {G L : Value} {j : Nat} {v : Value} (h : (vtxL d)[j]? = some v) : (chgC f u d G L)[70 + j]? = some v := by
 have hj : j < 33 := by have := (List.getElem?_eq_some_iff.1 h).1; rwa [vtxL_len] at this
 have e : chgC f u d G L = ([Value.int .i64 5] ++ (vtxL f ++ ([Value.string ⟨#[]⟩, Value.int .i64 0, Value.int .u64 0] ++ vtxL u))) ++ (vtxL d ++ [G, L]) := by unfold chgC; simp only [List.append_assoc]
 have hl : ([Value.int .i64 5] ++ (vtxL f ++ ([Value.string ⟨#[]⟩, Value.int .i64 0, Value.int .u64 0] ++ vtxL u))).length = 70 := by simp only [List.length_append, vtxL_len]; rfl
 rw [e, List.getElem?_append_right (by omega), hl, Nat.add_sub_cancel_left, List.getElem?_append_left (by rw [vtxL_len]; exact hj)]
 exact h
theorem cell_up {w0 : World} {S : SS} {r E tot : Nat} {f u d : Vtx} {G L : Value} (hm : (r, AO.cells (chgC f u d G L) E tot) ∈ S.flatten) : ∀ (j : Nat) (v : Value), (vtxL u)[j]? = some v -> Cell w0 S (((⟨r, 0, none⟩ : Addr).add 37).add j) v := fun j v hj => by
 have := (Rd.own (w0 := w0) hm).at (chgC_up (f := f) (d := d) (G := G) (L := L) hj)
 rwa [<- addr_add_add] at this
theorem cell_down {w0 : World} {S : SS} {r E tot : Nat} {f u d : Vtx} {G L : Value} (hm : (r, AO.cells (chgC f u d G L) E tot) ∈ S.flatten) : ∀ (j : Nat) (v : Value), (vtxL d)[j]? = some v -> Cell w0 S (((⟨r, 0, none⟩ : Addr).add 70).add j) v := fun j v hj => by
 have := (Rd.own (w0 := w0) hm).at (chgC_down (f := f) (u := u) (G := G) (L := L) hj)
 rwa [<- addr_add_add] at this
theorem items17_fc {w0 : World} {S : SS} {m : GrM} (h : GG w0 [] m [k17]) : ItemsFC w0 m.ptr I17 (GS m ++ S) := by
 have := itemsFC_gg (S := S) h over_nil (show 3 <= 60000 by decide)
 rwa [items17] at this
theorem sol17 : ∀ x ∈ I17, x.block = false -> 0 < x.lines.length := by decide +kernel
theorem one_fc {w0 : World} {S : SS} {W : Option Addr} {cw : Nat} {w : List ByteArray} {y : HunkP} (hw : Rd w0 S W (strs w)) (hwc : w.length <= cw) (hwl : w.length <= 1000) (hz : ∀ s ∈ w, s.size <= 1000000) (hE : errH I17 w = 0) (hy : hunksP I17 w = [y]) :
  FC Tryz.prog w0 21 [.slice W w.length cw] S (fun v S' => ∃ G cg A c junk, v = chgV v0 y.up y.down (.slice G y.gone.length cg) (.slice A y.lines.length c) /\ S' = junk :: S /\ Rd w0 (junk :: []) A (strs y.lines) /\ Rd w0 (junk :: []) G (vtxs y.gone)) := by
 refine FC.ofC Tryz.known21 (by simp) ?_
 unfold Tryz.pc21
 simp only [argT]
 refine PW.seqOps (OL.cons trivial OW.al ?_)
 rintro _ _ ⟨r2, rfl, rfl⟩
 change OL _ _ _ _ _ ([(r2, .cells zChg 46 105)] :: S) _
 refine OL.nil (PW.k2 0 2 rfl (PW.seqOps (OL.det trivial (.build (cs := vtxL v0) rfl) (OL.call trivial rfl (given_fc) ?_))))
 rintro _ _ ⟨m, sgl, rfl, rfl, hg⟩
 refine OL.dp rfl ?_
 refine OL.call trivial rfl (hunks_fc (S := GS m ++ (sgl :: [(r2, .cells zChg 46 105)] :: S)) (file := v0) (items17_fc hg) (by decide) sol17 (hw.mono (Over.trans (Over.cons (Over.cons (Over.refl S))) (Over.appR (fun q h => h)))) hwc (by omega) (fun s hs => by have := hz s hs; omega)) ?_
 rintro v9 _ ⟨va, hs, sgh, jh, rfl, rfl, hsh, hok, hpl⟩
 rw [hE]
 rw [hy] at hpl
 obtain ⟨x, rfl⟩ : ∃ x, hs = [x] := by
  match hs, hpl with
  | [x], _ => exact ⟨x, rfl⟩
 obtain rfl : ChgM.pl x = y := by simpa using hpl
 obtain ⟨hox, hxf⟩ := hok x (by simp)
 obtain ⟨Ah, ch, rfl, hnh, hch, hrh⟩ := slv_rdL (w0 := w0) hsh
 obtain ⟨ah, rfl⟩ := chgS_some (hrh []) (by simp)
 refine OL.dp rfl (OL.dp rfl (OL.dp rfl (OL.dp rfl (OL.dp rfl (OL.nil (PW.k3 2 3 4 rfl ?_))))))
 refine PW.seq fun K1 hK1 => ?_
 refine PW.seqOps (OL.dp rfl (OL.det trivial (.to (v' := .bool false) (Yields.pure rfl) rfl) (OL.dp rfl (OL.det rfl (.pure rfl) (OL.det rfl (.pure rfl) (OL.det rfl (.to (v' := .bool false) (Yields.pure rfl) rfl) (OL.dp rfl (OL.nil (PW.k3 2 3 18 rfl (PW.ite (b := false) rfl ?_))))))))))
 rw [if_neg Bool.false_ne_true]
 refine PW.skip ?_
 refine hK1 _ _ ?_
 refine PW.k2 2 3 rfl (PW.seqOps (OL.subS (S' := [(r2, .cells zChg 46 105)] :: sgh :: jh :: S) gs_l (OL.dp rfl (OL.det trivial (.ixN (j := 0) rfl rfl rfl Nat.zero_lt_one) ?_))))
 refine OL.det trivial (.ldA rfl (chgR_len _) (chg_at (l := [x]) (k := 0) (rd_mem (hrh []) (by simp)) Nat.zero_lt_one)) ?_
 refine OL.cons trivial (chg_stk (k := 0) (z := zChg) (f := x.file) (u := x.up) (d := x.down) (A := x.G) (a := x.gone.length) (c := x.gc) (B := x.A) (b := x.lines.length) (e := x.c) rfl rfl rfl zChg_len) ?_
 rintro _ _ rfl
 refine OL.nil (PW.k1 2 rfl (PW.ret ?_))
 exact ⟨.inr rfl, _, _, rfl, chg_read (E := 46) (tot := 105) zM0, (sgh ++ jh) :: S, (Sub.join).trans (Sub.drop (Sub.refl _)), x.G, x.gc, x.A, x.c, sgh ++ jh, by rw [hxf]; rfl, rfl, hox.rdL.mono fun p hp => by simp at hp ⊢; exact .inr hp, hox.rdG.mono fun p hp => by simp at hp ⊢; exact .inr hp⟩
theorem awake_fc {w0 : World} {S : SS} : FC Tryz.prog w0 7 [] S (fun v S' => v = .bool true /\ S' = S) := by
 refine FC.ofD Tryz.known7 (by simp) ?_
 unfold Tryz.pc7
 simp only [argT]
 refine PW.seqOps (OL.dp rfl (OL.nil (PW.keep (T' := []) trivial (PW.seqOps (OL.cons trivial (OW.bsl (cs := strs w17a) rfl) ?_)))))
 rintro _ _ ⟨r4, rfl, rfl⟩
 refine OL.call trivial rfl (one_fc (w := w17a) (y := y17a) (Rd.own (E := 9) (tot := 4) zM0) (show 4 <= 4 by decide) (show 4 <= 1000 by decide) (by decide +kernel) err17a hunks17a) ?_
 rintro _ _ ⟨G, cg, Ax, cx, jx, rfl, rfl, hrl, -⟩
 obtain ⟨ax, rfl⟩ := strs_some hrl Nat.zero_lt_one
 refine OL.cons trivial OW.al ?_
 rintro _ _ ⟨r1, rfl, rfl⟩
 change OL _ _ _ _ _ ([(r1, .cells zChg 46 105)] :: jx :: [(r4, .cells (strs w17a) 9 4)] :: S) _
 refine OL.cons trivial (chg_stk (k := 0) (z := zChg) (f := v0) (u := v17 1) (d := v17 2) (A := G) (a := 0) (c := cg) (B := some ax) (b := 1) (e := cx) rfl rfl rfl zChg_len) ?_
 rintro _ _ rfl
 refine OL.nil (PW.k1 1 rfl (PW.seqOps (OL.det trivial (.build (cs := vtxL v0) rfl) (OL.call trivial rfl (given_fc) ?_))))
 rintro _ _ ⟨m, sgl, rfl, rfl, hg⟩
 refine OL.cons trivial (OW.bsl (cs := strs w17b) rfl) ?_
 rintro _ _ ⟨r9, rfl, rfl⟩
 refine OL.call trivial rfl (FC.subS gs_a (hunks_fc (W := some ⟨r9, 0, none⟩) (cw := 3) (w := w17b) (file := v0) (S := GS m ++ ([(r9, .cells (strs w17b) 9 3)] :: sgl :: [(r1, .cells (chgC v0 (v17 1) (v17 2) (.slice G 0 cg) (.slice (some ax) 1 cx)) 46 105)] :: jx :: [(r4, .cells (strs w17a) 9 4)] :: S)) (items17_fc hg) (by decide) sol17 (Rd.own (E := 9) (tot := 3) (by simp)) (show 3 <= 3 by decide) (show 3 <= 100000 by decide) (by decide +kernel))) ?_
 rintro v10 _ ⟨va, hs, s1, j1, rfl, rfl, hsh, -, hpl⟩
 rw [err17b]
 rw [hunks17b] at hpl
 obtain rfl : hs = [] := by simpa using hpl
 obtain ⟨Ah, ch, rfl, -, -, -⟩ := slv_rdL (w0 := w0) hsh
 refine OL.dp rfl (OL.dp rfl (OL.dp rfl (OL.dp rfl (OL.subS (S' := [(r1, .cells (chgC v0 (v17 1) (v17 2) (.slice G 0 cg) (.slice (some ax) 1 cx)) 46 105)] :: jx :: S) gs_n (OL.dp rfl (OL.nil (PW.k3 1 2 3 rfl ?_)))))))
 refine PW.seq fun K1 hK1 => ?_
 refine PW.quietK Tryz.mixed (QK.dp rfl (QK.det trivial (.ld rfl (own_at (j := 0) (c := chgC v0 (v17 1) (v17 2) (.slice G 0 cg) (.slice (some ax) 1 cx)) (E := 46) (tot := 105) zM0 rfl)) (QK.det trivial (.to (v' := .bool true) (Yields.pure rfl) rfl) (QK.dp rfl (QK.det rfl (.pure rfl) (QK.det rfl (.ldA rfl (vtxL_len _) (cell_up (f := v0) (d := v17 2) (G := .slice G 0 cg) (L := .slice (some ax) 1 cx) (E := 46) (tot := 105) zM0)) (QK.call rfl rfl (line17_fc) ?_)))))))
 refine QK.det rfl (.to (v' := .bool true) (Yields.eqD (neg := false) rfl rfl (eqL_vtx _ _)) (congrArg Value.bool (by decide +kernel))) ?_
 refine QK.dp rfl (QK.dp rfl (QK.det rfl (.pure rfl) (QK.det rfl (.ldA rfl (vtxL_len _) (cell_down (f := v0) (u := v17 1) (G := .slice G 0 cg) (L := .slice (some ax) 1 cx) (E := 46) (tot := 105) zM0)) (QK.call rfl rfl (line17_fc) (QK.nil ?_)))))
 change OL _ _ _ [_, _, _, _, _, _, _, _, _, _, _, _, _, _, _, _, _, _, _, _, _, _, _, _, _, _, _, _, _, _, _] _ _ _
 refine OL.det rfl (.to (v' := .bool true) (Yields.eqD (neg := false) rfl rfl (eqL_vtx _ _)) (congrArg Value.bool (by decide +kernel))) ?_
 refine OL.dp rfl (OL.dp rfl (OL.det rfl (.pure rfl) (OL.det rfl (.ld rfl (own_at (j := 104) (c := chgC v0 (v17 1) (v17 2) (.slice G 0 cg) (.slice (some ax) 1 cx)) (E := 46) (tot := 105) zM0 (chgC_gone ..).2)) (OL.det rfl (.pure rfl) (OL.det rfl (.to (v' := .bool true) (Yields.pure rfl) rfl) (OL.dp rfl (OL.dp rfl (OL.det rfl (.pure rfl) (OL.det rfl (.ld rfl (own_at (j := 104) (c := chgC v0 (v17 1) (v17 2) (.slice G 0 cg) (.slice (some ax) 1 cx)) (E := 46) (tot := 105) zM0 (chgC_gone ..).2)) (OL.det rfl (.ixN1 (j := 0) rfl rfl rfl Nat.zero_lt_one) ?_))))))))))
 refine OL.det rfl (.ld rfl (str_at (l := [str1 120]) (rd_mem hrl (by simp)) (by decide))) ?_
 refine OL.det rfl (.to (v' := .bool true) (Yields.pure rfl) (congrArg Value.bool (by decide +kernel))) ?_
 refine OL.dp rfl (OL.dp rfl (OL.det rfl (.pure rfl) (OL.det rfl (.ld rfl (own_at (j := 103) (c := chgC v0 (v17 1) (v17 2) (.slice G 0 cg) (.slice (some ax) 1 cx)) (E := 46) (tot := 105) zM0 (chgC_gone ..).1)) (OL.det rfl (.pure rfl) (OL.det rfl (.to (v' := .bool true) (Yields.pure rfl) rfl) (OL.dp rfl (OL.dp rfl (OL.det rfl (.pure rfl) (OL.det rfl (.to (v' := .bool true) (Yields.pure rfl) rfl) (OL.dp rfl (OL.dp rfl ?_)))))))))))
 refine OL.det rfl (.pure rfl) (OL.det rfl (.pure rfl) (OL.det rfl (.to (v' := .bool true) (Yields.pure rfl) rfl) (OL.dp rfl (OL.dp rfl (OL.nil ?_)))))
 refine hK1 _ _ ?_
 refine PW.k1 0 rfl (PW.ret ?_)
 change (Exit.ret = Exit.normal ∨ Exit.ret = Exit.ret) /\ ∃ v, resV _ _ = some v /\ _
 exact ⟨.inr rfl, _, rfl, _, Sub.drop (Sub.drop (Sub.refl _)), rfl, rfl⟩
end Go.Proofs.Gr

namespace Go.Proofs.Gr
open Go.SL Go.RowKit Go.Proofs Go.GP Go.MyPlain
section
variable {α : Type} [DecidableEq α]
theorem lcs_le2 (xs ys : List α) : lcs xs ys <= ys.length := by
 induction ys with
 | nil => rw [lcs_nil_right]; exact Nat.le_refl _
 | cons y ys ih => have := ((lcs_mono xs ys).2 y).2; simp only [List.length_cons]; omega
theorem lcs_self (xs : List α) : lcs xs xs = xs.length := by
 induction xs with
 | nil => rw [lcs_nil_left]; rfl
 | cons x xs ih => rw [lcs_cons, if_pos rfl, ih]; rfl
def keeps (i j : Nat) : List α -> List (Int × Int × Int)
 | [] => []
 | _ :: l => (0, (i : Int), (j : Int)) :: keeps (i + 1) (j + 1) l
theorem scrF_self : ∀ (xs : List α) (f i j : Nat), xs.length <= f -> scrF f i j xs xs = keeps i j xs
 | [], f, i, j, h => by cases f <;> rfl
 | x :: xs, 0, i, j, h => by cases h
 | x :: xs, f + 1, i, j, h => by
  simp only [scrF, if_true, keeps]
  rw [scrF_self xs f (i + 1) (j + 1) (by simp only [List.length_cons] at h; omega)]
theorem scrF_more : ∀ (p q : List α) (t : α) (f i j : Nat), (p ++ q).length + (p ++ t :: q).length <= f -> ∃ a b, p ++ q = a ++ b /\ p ++ t :: q = a ++ t :: b /\ scrF f i j (p ++ q) (p ++ t :: q) = keeps i j a ++ (2, 0, ((j + a.length : Nat) : Int)) :: keeps (i + a.length) (j + a.length + 1) b
 | x :: p, q, t, 0, i, j, h => by simp at h
 | x :: p, q, t, f + 1, i, j, h => by
  obtain ⟨a, b, h1, h2, h3⟩ := scrF_more p q t f (i + 1) (j + 1) (by simp only [List.cons_append, List.length_cons] at h; omega)
  refine ⟨x :: a, b, by rw [List.cons_append, h1]; rfl, by rw [List.cons_append, h2]; rfl, ?_⟩
  simp only [List.cons_append, scrF, if_true, keeps]
  rw [h3]
  simp only [List.length_cons]
  rw [show j + 1 + a.length = j + (a.length + 1) by omega, show i + 1 + a.length = i + (a.length + 1) by omega]
 | [], q, t, 0, i, j, h => by simp at h
 | [], [], t, f + 1, i, j, h => ⟨[], [], rfl, rfl, by cases f <;> simp [scrF, keeps]⟩
 | [], x :: q, t, f + 1, i, j, h => by
  simp only [List.nil_append, List.length_cons] at h
  by_cases e : x = t
  ·subst e
   obtain ⟨a, b, h1, h2, h3⟩ := scrF_more [] q x f (i + 1) (j + 1) (by simp only [List.nil_append, List.length_cons]; omega)
   simp only [List.nil_append] at h1 h2 h3
   refine ⟨x :: a, b, by rw [List.nil_append, h1]; rfl, by rw [List.nil_append, h2]; rfl, ?_⟩
   simp only [List.nil_append, scrF, if_true, keeps]
   rw [h3]
   simp only [List.length_cons, List.cons_append]
   rw [show j + 1 + a.length = j + (a.length + 1) by omega, show i + 1 + a.length = i + (a.length + 1) by omega]
  refine ⟨[], x :: q, rfl, rfl, ?_⟩
  have h1 := lcs_self (x :: q)
  have h2 := lcs_le q (t :: x :: q)
  simp only [List.length_cons] at h1
  simp only [List.nil_append, scrF, if_neg e]
  rw [if_neg (by omega), scrF_self (x :: q) f i (j + 1) (by simp only [List.length_cons]; omega)]
  rfl
theorem scrF_less : ∀ (p q : List α) (t : α) (f i j : Nat), (p ++ t :: q).length + (p ++ q).length <= f -> ∃ a b, p ++ q = a ++ b /\ p ++ t :: q = a ++ t :: b /\ scrF f i j (p ++ t :: q) (p ++ q) = keeps i j a ++ (1, ((i + a.length : Nat) : Int), 0) :: keeps (i + a.length + 1) (j + a.length) b
 | x :: p, q, t, 0, i, j, h => by simp at h
 | x :: p, q, t, f + 1, i, j, h => by
  obtain ⟨a, b, h1, h2, h3⟩ := scrF_less p q t f (i + 1) (j + 1) (by simp only [List.cons_append, List.length_cons] at h; omega)
  refine ⟨x :: a, b, by rw [List.cons_append, h1]; rfl, by rw [List.cons_append, h2]; rfl, ?_⟩
  simp only [List.cons_append, scrF, if_true, keeps]
  rw [h3]
  simp only [List.length_cons]
  rw [show j + 1 + a.length = j + (a.length + 1) by omega, show i + 1 + a.length = i + (a.length + 1) by omega]
 | [], q, t, 0, i, j, h => by simp at h
 | [], [], t, f + 1, i, j, h => ⟨[], [], rfl, rfl, by cases f <;> simp [scrF, keeps]⟩
 | [], y :: q, t, f + 1, i, j, h => by
  simp only [List.nil_append, List.length_cons] at h
  by_cases e : t = y
  ·subst e
   obtain ⟨a, b, h1, h2, h3⟩ := scrF_less [] q t f (i + 1) (j + 1) (by simp only [List.nil_append, List.length_cons]; omega)
   simp only [List.nil_append] at h1 h2 h3
   refine ⟨t :: a, b, by rw [List.nil_append, h1]; rfl, by rw [List.nil_append, h2]; rfl, ?_⟩
   simp only [List.nil_append, scrF, if_true, keeps]
   rw [h3]
   simp only [List.length_cons, List.cons_append]
   rw [show j + 1 + a.length = j + (a.length + 1) by omega, show i + 1 + a.length = i + (a.length + 1) by omega]
  refine ⟨[], y :: q, rfl, rfl, ?_⟩
  have h1 := lcs_self (y :: q)
  have h2 := lcs_le2 (t :: y :: q) q
  simp only [List.length_cons] at h1
  simp only [List.nil_append, scrF, if_neg e]
  rw [if_pos (by omega), scrF_self (y :: q) f (i + 1) j (by simp only [List.length_cons]; omega)]
  rfl
end
theorem fold_keeps {α : Type} {ls : List ByteArray} : ∀ (l : List α) (i j : Nat) (st : RS), ((keeps i j l).foldl (stepU ls) st).at_ = st.at_ + l.length /\ ((keeps i j l).foldl (stepU ls) st).runs = st.runs /\ (st.op = false -> ((keeps i j l).foldl (stepU ls) st).op = false)
 | [], i, j, st => ⟨rfl, rfl, id⟩
 | x :: l, i, j, st => by
  simp only [keeps, List.foldl_cons]
  obtain ⟨h1, h2, h3⟩ := fold_keeps (ls := ls) l (i + 1) (j + 1) (stepU ls st (0, (i : Int), (j : Int)))
  have e : stepU ls st (0, (i : Int), (j : Int)) = ⟨st.at_ + 1, false, st.runs, st.K.set st.at_ true⟩ := by unfold stepU; rw [if_pos rfl]
  rw [e] at h1 h2 h3 ⊢
  refine ⟨by rw [h1, List.length_cons]; show st.at_ + 1 + l.length = _; omega, h2, fun _ => h3 rfl⟩
theorem recF_none {I : List ItemP} (h : ∀ x ∈ I, x.block = false) {w : List ByteArray} : ∀ (f i : Nat), i + f <= I.length -> recF I w f i = none
 | 0, _, _ => rfl
 | f + 1, i, hf => by
  unfold recF
  rw [getElem!_pos I i (by omega), h _ (List.getElem_mem _), Bool.false_and, if_neg (by simp)]
  exact recF_none h f (i + 1) (by omega)
theorem recAt_none {I : List ItemP} (h : ∀ x ∈ I, x.block = false) {w : List ByteArray} {fr : Nat} : recAt I fr w = none := by
 unfold recAt
 by_cases hf : fr <= I.length
 ·exact recF_none h _ _ (by omega)
 rw [show I.length - fr = 0 by omega]; rfl
theorem toks_all {I : List ItemP} (h : ∀ fr w, recAt I fr w = none) {fr : Nat} : ∀ w, toks I fr w = w.map Tok.free
 | [] => rfl
 | s :: w => by rw [toks_free (h _ _), toks_all h w]; rfl
theorem secsT_frees {n fr : Nat} : ∀ (w cur : List ByteArray), secsT n (w.map Tok.free) fr cur = [⟨fr, n, cur ++ w⟩]
 | [], cur => by rw [List.append_nil]; rfl
 | s :: w, cur => by
  rw [List.map_cons]
  simp only [secsT]
  rw [secsT_frees w, List.append_assoc]; rfl
theorem keepT_frees {K : List Bool} : ∀ (w : List ByteArray), keepT K (w.map Tok.free) = K
 | [] => rfl
 | s :: w => keepT_frees w
section
variable {I : List ItemP} {w : List ByteArray}
theorem secs_frees (h : toks I 0 w = w.map Tok.free) : secs I w = [⟨0, I.length, w⟩] := by
 unfold secs; rw [h, secsT_frees]; rfl
theorem err_frees (h : toks I 0 w = w.map Tok.free) (hi : ∀ s ∈ w, Ln.isP s = true) (hn : w.length <= 256) : errH I w = 0 := by
 unfold errH checkP
 rw [secs_frees h]
 rw [if_neg (by unfold manyS; simp; omega), if_neg ?_]
 unfold badS
 simp only [List.any_cons, List.any_nil, Bool.or_false]
 rw [Bool.not_eq_true, List.any_eq_false]
 intro s hs
 rw [hi s hs]; simp
theorem runs_frees (h : toks I 0 w = w.map Tok.free) : runsH I w = (runsR I ⟨0, I.length, w⟩ (List.replicate I.length false)).runs /\ keptH I w = (runsR I ⟨0, I.length, w⟩ (List.replicate I.length false)).K := by
 unfold runsH keptH
 rw [secs_frees h, h, keepT_frees]
 exact ⟨by simp only [allR, List.append_nil], by simp only [allR]⟩
end
structure Ones (I : List ItemP) : Prop where
 noB : ∀ x ∈ I, x.block = false
 one : ∀ x ∈ I, x.lines.length = 1
theorem oneT_one {x : ItemP} (h1 : x.block = false) (h2 : x.lines.length = 1) : oneT x = [txtI x] := by
 unfold oneT txtI rowsT
 rw [h1, h2]
 simp
theorem flat_one {α β : Type} {f : α -> List β} {g : α -> β} : ∀ {l : List α}, (∀ x ∈ l, f x = [g x]) -> l.flatMap f = l.map g
 | [], _ => rfl
 | x :: l, h => by rw [List.flatMap_cons, List.map_cons, h x (by simp), flat_one (fun y hy => h y (List.mem_cons_of_mem _ hy))]; rfl
theorem Ones.text {I : List ItemP} (h : Ones I) : textI I = I.map txtI := flat_one fun x hx => oneT_one (h.noB x hx) (h.one x hx)
theorem txts_all (I : List ItemP) : txts I 0 I.length = I.map txtI := by unfold txts; rw [List.take_length, List.drop_zero]
theorem goneK_none (I : List ItemP) (a : Nat) (l : List ByteArray) : goneK I ⟨a, a, l⟩ = [] := by
 unfold goneK
 rw [show ((I.take (Run.to ⟨a, a, l⟩)).drop (Run.fr ⟨a, a, l⟩)) = [] from List.drop_eq_nil_of_le (by rw [List.length_take]; exact Nat.min_le_left _ _)]; rfl
theorem sortL_nil : sortL [] = [] := by simp [sortL]
theorem fold_more {I : List ItemP} {w : List ByteArray} {K : List Bool} {a b : List ByteArray} {t : ByteArray} (hs : scr (txts I 0 I.length) w = keeps 0 0 a ++ (2, 0, (a.length : Int)) :: keeps a.length (a.length + 1) b) (hw : w = a ++ t :: b) :
  (runsR I ⟨0, I.length, w⟩ K).runs = [⟨a.length, a.length, [t]⟩] := by
 unfold runsR
 simp only
 rw [hs, List.foldl_append, List.foldl_cons]
 obtain ⟨h1, h2, h3⟩ := fold_keeps (ls := w) a 0 0 ⟨0, false, [], K⟩
 obtain ⟨st, hst⟩ : ∃ z, z = (keeps 0 0 a).foldl (stepU w) ⟨0, false, [], K⟩ := ⟨_, rfl⟩
 rw [<- hst] at h1 h2 h3 ⊢
 have hop : st.op = false := h3 rfl
 have e : stepU w st (2, 0, (a.length : Int)) = ⟨a.length, true, [⟨a.length, a.length, [t]⟩], st.K⟩ := by
  unfold stepU
  rw [if_neg (show ¬ ((2 : Int) = 0) by decide), if_neg (show ¬ ((2 : Int) = 1) by decide)]
  unfold growR
  rw [hop, if_neg (by simp), h2, h1]
  have e2 : w[((2 : Int), (0 : Int), (a.length : Int)).2.2.toNat]! = t := by
   subst hw
   show (a ++ t :: b)[a.length]! = t
   rw [getElem!_pos _ _ (by simp), List.getElem_append_right (by omega)]
   simp
  rw [e2]
  simp [modLast]
 rw [e, (fold_keeps b _ _ _).2.1]
theorem fold_less {I : List ItemP} {w : List ByteArray} {K : List Bool} {a b : List ByteArray} (hs : scr (txts I 0 I.length) w = keeps 0 0 a ++ (1, (a.length : Int), 0) :: keeps (a.length + 1) a.length b) :
  (runsR I ⟨0, I.length, w⟩ K).runs = [⟨a.length, a.length + 1, []⟩] := by
 unfold runsR
 simp only
 rw [hs, List.foldl_append, List.foldl_cons]
 obtain ⟨h1, h2, h3⟩ := fold_keeps (ls := w) a 0 0 ⟨0, false, [], K⟩
 obtain ⟨st, hst⟩ : ∃ z, z = (keeps 0 0 a).foldl (stepU w) ⟨0, false, [], K⟩ := ⟨_, rfl⟩
 rw [<- hst] at h1 h2 h3 ⊢
 have hop : st.op = false := h3 rfl
 have e : stepU w st (1, (a.length : Int), 0) = ⟨a.length + 1, true, [⟨a.length, a.length + 1, []⟩], st.K⟩ := by
  unfold stepU
  rw [if_neg (show ¬ ((1 : Int) = 0) by decide), if_pos rfl]
  unfold growR
  rw [hop, if_neg (by simp), h2, h1]
  simp [modLast]
 rw [e, (fold_keeps b _ _ _).2.1]
section
variable {I : List ItemP} {k : Nat} {t : ByteArray}
theorem small_more (h : Ones I) (hi : ∀ s ∈ textI I, Ln.isP s = true) (ht : Ln.isP t = true) (hn : I.length <= 100) :
  errH I ((textI I).take k ++ t :: (textI I).drop k) = 0 /\ ∃ y, hunksP I ((textI I).take k ++ t :: (textI I).drop k) = [y] /\ y.gone = [] /\ y.lines = [t] := by
 have htx := toks_all (I := I) (fun fr w => recAt_none h.noB) (fr := 0)
 have hl : (textI I).length = I.length := by rw [h.text, List.length_map]
 have hE : errH I ((textI I).take k ++ t :: (textI I).drop k) = 0 := by
  refine err_frees (htx _) (fun s hs => ?_) ?_
  ·rcases List.mem_append.1 hs with h1 | h1
   ·exact hi s (List.mem_of_mem_take h1)
   rcases List.mem_cons.1 h1 with rfl | h1
   ·exact ht
   exact hi s (List.mem_of_mem_drop h1)
  rw [List.length_append, List.length_cons, List.length_take, List.length_drop]; omega
 refine ⟨hE, ?_⟩
 obtain ⟨hr, hK⟩ := runs_frees (w := (textI I).take k ++ t :: (textI I).drop k) (htx _)
 obtain ⟨a, b, h1, h2, h3⟩ := scrF_more ((textI I).take k) ((textI I).drop k) t _ 0 0 (Nat.le_refl _)
 have hs : scr (txts I 0 I.length) ((textI I).take k ++ t :: (textI I).drop k) = keeps 0 0 a ++ (2, 0, (a.length : Int)) :: keeps a.length (a.length + 1) b := by
  rw [txts_all, <- h.text]
  unfold scr
  rw [List.take_append_drop] at h3
  rw [h3]
  simp only [Nat.zero_add]
 unfold hunksP
 rw [if_pos hE, hr, fold_more hs h2]
 refine ⟨_, rfl, ?_, rfl⟩
 show sortL (goneK I ⟨a.length, a.length, [t]⟩) = []
 rw [goneK_none, sortL_nil]
theorem small_less (h : Ones I) (hi : ∀ s ∈ textI I, Ln.isP s = true) (hn : I.length <= 100) (hk : k < I.length) :
  errH I ((textI I).take k ++ (textI I).drop (k + 1)) = 0 /\ ∃ y, hunksP I ((textI I).take k ++ (textI I).drop (k + 1)) = [y] /\ y.lines = [] /\ y.gone.length = 1 := by
 have htx := toks_all (I := I) (fun fr w => recAt_none h.noB) (fr := 0)
 have hl : (textI I).length = I.length := by rw [h.text, List.length_map]
 have hE : errH I ((textI I).take k ++ (textI I).drop (k + 1)) = 0 := by
  refine err_frees (htx _) (fun s hs => ?_) ?_
  ·rcases List.mem_append.1 hs with h1 | h1
   ·exact hi s (List.mem_of_mem_take h1)
   exact hi s (List.mem_of_mem_drop h1)
  rw [List.length_append, List.length_take, List.length_drop]; omega
 refine ⟨hE, ?_⟩
 obtain ⟨hr, hK⟩ := runs_frees (w := (textI I).take k ++ (textI I).drop (k + 1)) (htx _)
 have hkt : k < (textI I).length := by omega
 obtain ⟨a, b, h1, h2, h3⟩ := scrF_less ((textI I).take k) ((textI I).drop (k + 1)) (textI I)[k] _ 0 0 (Nat.le_refl _)
 have hxs : (textI I).take k ++ (textI I)[k] :: (textI I).drop (k + 1) = textI I := by
  rw [<- List.drop_eq_getElem_cons hkt, List.take_append_drop]
 have hs : scr (txts I 0 I.length) ((textI I).take k ++ (textI I).drop (k + 1)) = keeps 0 0 a ++ (1, (a.length : Int), 0) :: keeps (a.length + 1) a.length b := by
  rw [txts_all, <- h.text]
  unfold scr
  rw [hxs] at h3
  rw [h3]
  simp only [Nat.zero_add]
 have hal : a.length < I.length := by
  have := congrArg List.length h2
  rw [hxs, hl, List.length_append, List.length_cons] at this
  omega
 unfold hunksP
 rw [if_pos hE, hr, fold_less hs]
 refine ⟨_, rfl, rfl, ?_⟩
 show (sortL (goneK I ⟨a.length, a.length + 1, []⟩)).length = 1
 rw [sortL_len]
 unfold goneK
 have e : (I.take (a.length + 1)).drop a.length = [I[a.length]] := by
  rw [ltake_snoc hal, List.drop_append, List.drop_eq_nil_of_le (by rw [List.length_take]; omega), List.length_take, Nat.min_eq_left (by omega), Nat.sub_self]
  rfl
 show (((I.take (a.length + 1)).drop a.length).flatMap fun x => x.lines.map LineP.v).length = 1
 rw [e]
 simp [h.one _ (List.getElem_mem hal)]
end
theorem text_mem {ps : List PartP} {v : Vtx} (hv : v ∈ allV ps) : ∃ p ∈ ps, textV ps v ∈ p.lines := by
 unfold textV
 obtain ⟨p, hp, hv2⟩ := mem_allV.1 hv
 obtain ⟨i, hi, rfl⟩ := mem_own.1 hv2
 cases e : (ps.flatMap fun p => (own p).zip p.lines).find? fun q => decide (q.1 = p.vtx i) with
 | none =>
  exfalso
  rw [List.find?_eq_none] at e
  have := e (p.vtx i, p.lines[i]) (List.mem_flatMap.2 ⟨p, hp, zip_mem.2 ⟨i, List.getElem?_eq_getElem hi, rfl⟩⟩)
  simp at this
 | some q =>
  obtain ⟨p2, hp2, hq⟩ := List.mem_flatMap.1 (List.mem_of_find?_eq_some e)
  obtain ⟨j, hj, _⟩ := zip_mem.1 hq
  exact ⟨p2, hp2, List.mem_of_getElem? hj⟩
theorem items_plain {ps : List PartP} (hs : Sq ps) (hp : ∀ p ∈ ps, ∀ s ∈ p.lines, Ln.isP s = true) : ∀ x ∈ itemsP ps, ∀ y ∈ x.lines, Ln.isP y.text = true := by
 intro x hx y hy
 have h1 : y ∈ live (linesP ps) := by rw [<- (itemsP_good hs).2]; exact List.mem_flatMap.2 ⟨x, hx, hy⟩
 obtain ⟨v, hv, rfl⟩ := List.mem_map.1 (List.mem_filter.1 h1).1
 obtain ⟨p, hp2, ht⟩ := text_mem (topoF_mem hv)
 exact hp p hp2 _ ht
theorem items_len {ps : List PartP} (hs : Sq ps) : (itemsP ps).length <= (allV ps).length := by
 have hg := itemsP_good hs
 have h1 : (itemsP ps).length <= ((itemsP ps).flatMap (·.lines)).length := by
  have hpos : ∀ x ∈ itemsP ps, 1 <= x.lines.length := fun x hx => by
   obtain ⟨h1, h2, _⟩ := hg.1.one x hx
   cases e : x.block with
   | true => have := h1 e; omega
   | false => have := h2 e; omega
  generalize itemsP ps = I at hpos
  induction I with
  | nil => exact Nat.le_refl _
  | cons x I ih =>
   have h2 := ih (fun y hy => hpos y (List.mem_cons_of_mem _ hy))
   have h3 := hpos x (by simp)
   rw [List.flatMap_cons, List.length_append, List.length_cons]
   omega
 rw [hg.2] at h1
 have h2 := linesP_len hs
 have h3 : (live (linesP ps)).length <= (linesP ps).length := List.length_filter_le _ _
 omega
theorem items_solid {ps : List PartP} (hs : Sq ps) : ∀ x ∈ itemsP ps, x.block = false -> 0 < x.lines.length := fun x hx hb => by
 have := ((itemsP_good hs).1.one x hx).2.1 hb
 omega
theorem items_ones {ps : List PartP} (hs : Sq ps) (hb : (itemsP ps).any (·.block) = false) : Ones (itemsP ps) := by
 have h : ∀ x ∈ itemsP ps, x.block = false := fun x hx => by
  have := List.any_eq_false.1 hb x hx
  simpa using this
 exact ⟨h, fun x hx => ((itemsP_good hs).1.one x hx).2.1 (h x hx)⟩
theorem ones_plain {ps : List PartP} (hs : Sq ps) (hp : ∀ p ∈ ps, ∀ s ∈ p.lines, Ln.isP s = true) (ho : Ones (itemsP ps)) : ∀ s ∈ textI (itemsP ps), Ln.isP s = true := by
 intro s hs2
 rw [ho.text] at hs2
 obtain ⟨x, hx, rfl⟩ := List.mem_map.1 hs2
 have h1 := ho.one x hx
 unfold txtI
 rw [ho.noB x hx, if_neg (by simp), getElem!_pos x.lines 0 (by omega)]
 exact items_plain hs hp x hx _ (List.getElem_mem _)
end Go.Proofs.Gr

namespace Go.Proofs.Gr
open Go.SL Go.RowKit Go.Proofs Go.GP
set_option maxHeartbeats 1000000
theorem cutT {A : Option Addr} {cap i : Nat} {l : List ByteArray} (hi : i <= l.length) : cutV A cap 1 0 i = .slice A (l.take i).length cap /\ ∀ (w0 : World) (S : SS), Rd w0 S A (strs l) -> Rd w0 S A (strs (l.take i)) := by
 refine ⟨by rw [cutV0, List.length_take, Nat.min_eq_left hi], fun w0 S h => strs_pre h⟩
theorem cut_nil {A : Option Addr} {cap i : Nat} (h : A = none -> cap = 0) (hi : i <= cap) : ∀ A' n c', cutV A cap 1 i n = .slice A' (n - i) c' -> A' = none -> c' = 0 := by
 intro A' n c' e e2
 unfold cutV at e
 simp only [Value.slice.injEq] at e
 obtain ⟨h1, _, h3⟩ := e
 split at h1
 ·omega
 subst e2
 cases A with
 | none => have := h rfl; omega
 | some a => cases h1
section
variable {w0 : World} {P : Program} {n : Nat} {T : TT} {S F : SS}
theorem OW.frameB0 {E : TypeId} : OW P w0 n (.bsl0 E) T (F ++ S) (fun v S' => ∃ S1, (F ++ S1).Perm S' /\ ∃ r, v = .slice (some ⟨r, 0, none⟩) 0 0 /\ S1 = [(r, .cells [] E 0)] :: S) := by
 refine OW.bsl0.mono ?_
 rintro v S' ⟨r, rfl, rfl⟩
 exact ⟨_, List.perm_middle, r, rfl, rfl⟩
theorem OW.frameApp {t E sz bytes m q c k : Nat} {z v : Value} {s x : PV} {A : Option Addr} {xs news : List Value} {seg : Seg} (hs' : s.val T = some v) (hk : S[k]? = some seg) (hv : SlV E sz v m xs seg)
  (hx : x.val T = some (.slice A q c)) (hl : news.length = q * sz) (hsz : 0 < sz) (hrd : Rd w0 S A news) (hc : A = none -> c = 0) (h1 : news.all (·.oneCell') = true) (hb : (m + q) * bytes <= 140737488355328) (h63 : m + q <= maxLen) :
  OW P w0 n (.app t E sz bytes z s x) T (F ++ S) (fun v' S' => ∃ S1, (F ++ S1).Perm S' /\ ∃ seg', S1 = S.set k seg' /\ SlV E sz v' (m + q) (xs ++ news) seg') := by
 refine (OW.appW (k := F.length + k) hs' (by rw [List.getElem?_append_right (by omega)]; simpa using hk) hv hx hl hsz (hrd.mono fun p hp => by rw [List.flatten_append]; exact List.mem_append_right _ hp) hc h1 hb h63).mono ?_
 rintro v' S' ⟨seg', rfl, h⟩
 refine ⟨_, ?_, seg', rfl, h⟩
 rw [List.set_append_right _ _ (by omega)]
 simp
end
theorem bsl0_slv {r : Nat} : SlV 9 1 (.slice (some ⟨r, 0, none⟩) 0 0) 0 [] [(r, .cells [] 9 0)] := ⟨rfl, .inr ⟨r, 0, rfl, rfl, Nat.le_refl _, Nat.zero_le _⟩⟩
theorem gs_o {a : GrM} {s t u v w x : Seg} {S : SS} : Sub (GS a ++ (t :: u :: S)) (s :: t :: u :: v :: w :: (GS a ++ (x :: S))) := Sub.sel [5, 6, 7, 8, 1, 2] 10 (by decide) (s :: t :: u :: v :: w :: (GS a ++ (x :: S)))
theorem gs_p {a : GrM} {s t u v w : Seg} {S : SS} : Sub (GS a ++ (s :: S)) (s :: t :: u :: (GS a ++ (v :: w :: S))) := Sub.sel [3, 4, 5, 6, 0] 9 (by decide) (s :: t :: u :: (GS a ++ (v :: w :: S)))
theorem isP_size {s : ByteArray} (h : Ln.isP s = true) : s.size <= 80 := by
 unfold Ln.isP Ln.plainP at h
 simp only [Bool.and_eq_true, decide_eq_true_eq] at h
 exact h.1.2
theorem changeSmall_fc {w0 : World} {A : Option Addr} {c : Nat} {l : List PartM} {z : Int} {t : ByteArray} (h : PartsIn w0 A l) (hz0 : 0 <= z) (hz1 : z <= 65535) (ht : t.size <= 140737488351232) :
  FC Tryz.prog w0 5 [.slice A l.length c, .int .u16 z, .string t] [] (fun v _ => v = .bool true) := by
 refine FC.ofD Tryz.known5 (by simp) ?_
 unfold Tryz.pc5
 simp only [argT]
 refine PW.seqOps (OL.dp rfl (OL.nil (PW.k3 0 1 2 rfl ?_)))
 refine PW.seq fun K1 hK1 => ?_
 refine PW.seqOps (OL.dp rfl ?_)
 refine OL.call trivial rfl (large_fc (W := none) (w := []) (cw := 0) h Rd.nil (Nat.zero_le _) (fun s hs => by cases hs)) ?_
 rintro _ _ ⟨b, rfl, rfl, hb⟩
 refine OL.bool trivial (Yields.pure rfl) (fun g20 => ?_) (fun g20 => ?_)
 ·try simp only [cvS] at g20
  refine OL.off rfl rfl (OL.off rfl rfl (OL.off rfl rfl (OL.dp rfl (OL.dp rfl (OL.off rfl rfl (OL.off rfl rfl (OL.off rfl rfl (OL.dp rfl (OL.dp rfl (OL.off rfl rfl (OL.off rfl rfl ?_)))))))))))
  refine OL.off rfl rfl (OL.dp rfl (OL.nil (PW.k4 0 1 2 34 rfl (PW.ite (b := true) rfl ?_))))
  rw [if_pos rfl]
  refine PW.seqOps (OL.call trivial rfl (awake_fc) ?_)
  rintro _ Sx ⟨rfl, hSx⟩
  rw [hSx]
  clear hSx
  refine OL.dp rfl (OL.nil (PW.k1 6 rfl (PW.ret ?_)))
  change (Exit.ret = Exit.normal ∨ Exit.ret = Exit.ret) /\ ∃ v, resV _ _ = some v /\ _
  exact ⟨.inr rfl, _, rfl, _, Sub.refl _, rfl⟩
 try simp only [cvS] at g20
 have hsm := (hb g20).1
 refine OL.det rfl (.pure rfl) (OL.det rfl (.pure rfl) (OL.det rfl (.pure rfl) (OL.dp rfl ?_)))
 refine OL.bool trivial (Yields.pure rfl) (fun g25 => ?_) (fun g25 => ?_)
 ·try simp only [cvS] at g25
  refine OL.off rfl rfl (OL.off rfl rfl (OL.off rfl rfl (OL.dp rfl (OL.dp rfl (OL.off rfl rfl (OL.off rfl rfl (OL.off rfl rfl (OL.dp rfl (OL.nil (PW.k4 0 1 2 34 rfl (PW.ite (b := true) rfl ?_)))))))))))
  rw [if_pos rfl]
  refine PW.seqOps (OL.call trivial rfl (awake_fc) ?_)
  rintro _ Sx ⟨rfl, hSx⟩
  rw [hSx]
  clear hSx
  refine OL.dp rfl (OL.nil (PW.k1 6 rfl (PW.ret ?_)))
  change (Exit.ret = Exit.normal ∨ Exit.ret = Exit.ret) /\ ∃ v, resV _ _ = some v /\ _
  exact ⟨.inr rfl, _, rfl, _, Sub.refl _, rfl⟩
 try simp only [cvS] at g25
 refine OL.det rfl (.pure rfl) ?_
 refine OL.call rfl rfl (Ln.is_fc (by omega)) ?_
 rintro _ Sx ⟨rfl, hSx⟩
 rw [hSx]
 clear hSx
 refine OL.det rfl (.pure rfl) (OL.dp rfl ?_)
 refine OL.bool trivial (Yields.pure rfl) (fun g30 => ?_) (fun g30 => ?_)
 ·try simp only [cvS] at g30
  refine OL.off rfl rfl (OL.off rfl rfl (OL.off rfl rfl (OL.dp rfl (OL.nil (PW.k4 0 1 2 34 rfl (PW.ite (b := true) rfl ?_))))))
  rw [if_pos rfl]
  refine PW.seqOps (OL.call trivial rfl (awake_fc) ?_)
  rintro _ Sx ⟨rfl, hSx⟩
  rw [hSx]
  clear hSx
  refine OL.dp rfl (OL.nil (PW.k1 6 rfl (PW.ret ?_)))
  change (Exit.ret = Exit.normal ∨ Exit.ret = Exit.ret) /\ ∃ v, resV _ _ = some v /\ _
  exact ⟨.inr rfl, _, rfl, _, Sub.refl _, rfl⟩
 try simp only [cvS] at g30
 refine OL.det rfl (.pure rfl) (OL.call rfl rfl (plainL_fc h hsm) ?_)
 rintro _ _ ⟨b2, rfl, rfl, hb2⟩
 refine OL.det rfl (.pure rfl) (OL.dp rfl (OL.nil (PW.k4 0 1 2 34 rfl ?_)))
 refine PW.cond rfl (fun c34 => ?_) (fun c34 => ?_)
 ·skip
  refine PW.seqOps (OL.call trivial rfl (awake_fc) ?_)
  rintro _ Sx ⟨rfl, hSx⟩
  rw [hSx]
  clear hSx
  refine OL.dp rfl (OL.nil (PW.k1 6 rfl (PW.ret ?_)))
  change (Exit.ret = Exit.normal ∨ Exit.ret = Exit.ret) /\ ∃ v, resV _ _ = some v /\ _
  exact ⟨.inr rfl, _, rfl, _, Sub.refl _, rfl⟩
 skip
 have hpl2 : b2 = true := by simpa using c34
 have htp : Ln.isP t = true := by simpa using g30
 refine PW.skip ?_
 refine hK1 _ _ ?_
 refine PW.k3 0 1 2 rfl (PW.seqOps (OL.dp rfl (OL.call trivial rfl (both_fc h hsm) ?_)))
 rintro _ _ ⟨m, cms, Ac, cc, sg, rfl, rfl, hg, hsg, hcb, hcl, hal, hlim⟩
 obtain ⟨ps, hps⟩ : ∃ z, z = (pls cms).reverse := ⟨_, rfl⟩
 have hpp : ∀ p ∈ ps, ∀ s ∈ p.lines, Ln.isP s = true := fun p hp s hs => by
  rw [hps, List.mem_reverse] at hp
  obtain ⟨q, hq, rfl⟩ := List.mem_map.1 hp
  exact hb2 hpl2 q (hcb q hq).2 s hs
 rw [<- hps] at hg hal
 have hil := items_len hg.sq
 refine OL.dp rfl (OL.dp rfl (OL.dp rfl (OL.dp rfl (OL.dp rfl (OL.nil (PW.k3 1 2 7 rfl (PW.seqOps (OL.dp rfl ?_))))))))
 refine OL.call trivial rfl (items_fc (S := sg :: []) hg over_nil (by omega)) ?_
 rintro v42 _ ⟨its, seg, junk, rfl, hmap, hsi, hio, hitn⟩
 obtain ⟨Ai, ci, rfl, hni, hci, hri⟩ := slv_rdL (w0 := w0) hsi
 have hml : (itemsP ps).length = its.length := by rw [<- hmap, List.length_map]
 refine OL.dp rfl (OL.nil (PW.k4 1 2 7 9 rfl (PW.seqOps (OL.dp rfl ?_))))
 refine OL.call trivial rfl (textI_fc (l := its) (rd_mem (hri []) (by simp)) (fun x hx => (hio x hx).rd (by simp)) (by omega)) ?_
 rintro v44 _ ⟨segt, rfl, hst, -⟩
 rw [show pli its = itemsP ps from hmap] at hst
 obtain ⟨T, hT⟩ : ∃ z, z = textI (itemsP ps) := ⟨_, rfl⟩
 rw [<- hT] at hst
 obtain ⟨At, ct, rfl, hnt, hct, hrt⟩ := slv_rdL (w0 := w0) hst
 refine OL.dp rfl (OL.nil (PW.k5 1 2 7 9 10 rfl ?_))
 refine PW.seq fun K2 hK2 => ?_
 refine PW.seqOps (OL.dp rfl ?_)
 refine OL.call trivial rfl (conflict_fc (l := its) (rd_mem (hri []) (by simp)) (by omega)) ?_
 rintro _ Sx ⟨rfl, hSx⟩
 rw [hSx]
 clear hSx
 refine OL.bool trivial (Yields.pure rfl) (fun g47 => ?_) (fun g47 => ?_)
 ·try simp only [cvS] at g47
  refine OL.off rfl rfl (OL.off rfl rfl (OL.off rfl rfl (OL.dp rfl (OL.nil (PW.k5 1 2 7 10 51 rfl (PW.ite (b := true) rfl ?_))))))
  rw [if_pos rfl]
  refine PW.seqOps (OL.call trivial rfl (awake_fc) ?_)
  rintro _ Sx ⟨rfl, hSx⟩
  rw [hSx]
  clear hSx
  refine OL.dp rfl (OL.nil (PW.k1 6 rfl (PW.ret ?_)))
  change (Exit.ret = Exit.normal ∨ Exit.ret = Exit.ret) /\ ∃ v, resV _ _ = some v /\ _
  exact ⟨.inr rfl, _, rfl, _, Sub.refl _, rfl⟩
 try simp only [cvS] at g47
 refine OL.det rfl (.pure rfl) (OL.det rfl (.pure rfl) (OL.det rfl (.pure rfl) (OL.dp rfl (OL.nil (PW.k5 1 2 7 10 51 rfl ?_)))))
 refine PW.cond rfl (fun c51 => ?_) (fun c51 => ?_)
 ·try simp only [cvS] at c51
  refine PW.seqOps (OL.call trivial rfl (awake_fc) ?_)
  rintro _ Sx ⟨rfl, hSx⟩
  rw [hSx]
  clear hSx
  refine OL.dp rfl (OL.nil (PW.k1 6 rfl (PW.ret ?_)))
  change (Exit.ret = Exit.normal ∨ Exit.ret = Exit.ret) /\ ∃ v, resV _ _ = some v /\ _
  exact ⟨.inr rfl, _, rfl, _, Sub.refl _, rfl⟩
 try simp only [cvS] at c51
 have hones : Ones (itemsP ps) := items_ones hg.sq (by
  have h1 : (itemsP ps).any (·.block) = its.any (·.block) := by rw [<- hmap, List.any_map]; rfl
  rw [h1]; exact g47)
 have htis := ones_plain hg.sq hpp hones
 rw [<- hT] at htis
 have hTl : T.length = (itemsP ps).length := by rw [hT, hones.text, List.length_map]
 have hTb : T.length <= 100 := by omega
 refine PW.skip ?_
 refine hK2 _ _ ?_
 refine PW.k4 1 2 7 10 rfl (PW.seqOps (OL.dp rfl (OL.dp rfl (OL.dp rfl (OL.dp rfl ?_)))))
 refine OL.det trivial (.to (v' := .int .i64 ((T.length + 1 : Nat) : Int)) (Yields.add64 rfl rfl (by omega) (by omega)) rfl) ?_
 refine OL.det trivial (.to (v' := .int .i64 ((z.toNat % (T.length + 1) : Nat) : Int)) (Yields.rem rfl rfl (by omega)) (congrArg (Value.int .i64) (tmod_nat (n := z.toNat) (b := T.length + 1) (by rw [i64_id (by omega) (by omega)]; omega)))) ?_
 obtain ⟨k, hk⟩ : ∃ k, k = z.toNat % (T.length + 1) := ⟨_, rfl⟩
 rw [<- hk]
 have hkT : k <= T.length := by have := Nat.mod_lt z.toNat (show 0 < T.length + 1 by omega); omega
 refine OL.dp rfl (OL.nil (PW.k4 2 7 10 11 rfl ?_))
 refine PW.seq fun K3 hK3 => ?_
 refine PW.quietGz (fun c => if c.d = some 65 then (9, [.string t], fun r => .slice (some ⟨r, 0, none⟩) 1 1) else ezOf c) (Ss := Over (segt :: seg :: junk :: (GS m ++ (sg :: [])))) (fr := true) [(1, 0), (2, 0), (3, 0), (5, 0), (8, 0), (9, 0), (10, 0), (0, 2), (4, 2), (6, 3), (7, 2)] Tryz.mixed (by decide +kernel) (Over.refl _) (fun _ _ _ h => h.cons) ?_
 refine GL.dp rfl ?_
 refine GL.dp rfl ?_
 refine GL.det trivial (fun Sx hSx => Yields.to (v' := .slice At (T.take k).length ct) (Yields.slS (l := 0) (h := k) rfl rfl rfl (.inr ⟨rfl, rfl⟩) (.inl rfl) (by omega) (by omega)) (cutT hkT).1) ?_
 refine GL.dp rfl ?_
 refine GL.dp rfl ?_
 refine GL.dp rfl ?_
 obtain ⟨A2, c2, hcut2, hc2, hr2⟩ := cutW (A := At) (i := k) (l := T) hkT hct
 have hn2 := cut_nil hnt (show k <= ct by omega) A2 T.length c2 (by rw [hcut2, List.length_drop])
 refine GL.det trivial (fun Sx hSx => Yields.to (v' := .slice A2 (T.drop k).length c2) (Yields.slS (l := k) (h := T.length) rfl rfl rfl (.inl rfl) (.inr ⟨rfl, rfl⟩) (by omega) (by omega)) hcut2) ?_
 refine GL.loF trivial fun F => OW.mono (OW.frameB0) ?_
 rintro v59 S59 ⟨S1, hperm, r59, rfl, rfl⟩
 refine ⟨_, hperm, (Over.refl _).cons, ?_⟩
 refine GL.loF trivial fun F => OW.mono (OW.frameApp (k := 0) (news := strs (T.take k)) rfl rfl bsl0_slv rfl (by rw [strs_len, Nat.mul_one]) (by decide) ((cutT (A := At) (cap := ct) hkT).2 _ _ (rd_mem (hrt []) (by simp))) hnt (strs_one _) (by rw [List.length_take]; omega) (by unfold maxLen; rw [List.length_take]; omega)) ?_
 rintro v63 S63 ⟨S1, hperm, sg63, rfl, hs63⟩
 refine ⟨_, hperm, (Over.refl _).cons, ?_⟩
 refine GL.freshB trivial rfl rfl fun r65 => ?_
 refine GL.loF trivial fun F => OW.mono (OW.frameApp (k := 1) (news := [.string t]) rfl rfl hs63 rfl rfl (by decide) (Rd.own (E := 9) (tot := 1) zM0) (fun h => by cases h) rfl (by rw [List.length_take]; omega) (by unfold maxLen; rw [List.length_take]; omega)) ?_
 rintro v66 S66 ⟨S1, hperm, sg66, rfl, hs66⟩
 refine ⟨_, hperm, (Over.refl _).cons.cons, ?_⟩
 change OL _ _ _ [_, _] _ _ _
 refine OL.cons trivial (OW.appW (k := 1) (news := strs (T.drop k)) rfl rfl hs66 rfl (by rw [strs_len, Nat.mul_one]) (by decide) (hr2 _ _ (rd_mem (hrt []) (by simp))) hn2 (strs_one _) (by rw [List.length_take, List.length_drop]; omega) (by unfold maxLen; rw [List.length_take, List.length_drop]; omega)) ?_
 rintro v70 _ ⟨sg70, rfl, hs70⟩
 refine OL.dp rfl (OL.nil ?_)
 refine hK3 _ _ ?_
 refine PW.k5 2 7 10 11 12 rfl (PW.seqOps ?_)
 obtain ⟨hE, y, hy, hy1, hy2⟩ := small_more (I := itemsP ps) (k := k) (t := t) hones (by rw [<- hT]; exact htis) htp (by omega)
 rw [<- hT] at hE hy
 have hwl : (T.take k ++ t :: T.drop k).length = T.length + 1 := by rw [List.length_append, List.length_cons, List.length_take, List.length_drop]; omega
 have hwi : ∀ s ∈ T.take k ++ t :: T.drop k, Ln.isP s = true := fun s hs => by
  rcases List.mem_append.1 hs with h1 | h1
  ·exact htis s (List.mem_of_mem_take h1)
  rcases List.mem_cons.1 h1 with rfl | h1
  ·exact htp
  exact htis s (List.mem_of_mem_drop h1)
 have hs70b : SlV 9 1 v70 (T.take k ++ t :: T.drop k).length (strs (T.take k ++ t :: T.drop k)) sg70 := by
  have e : [] ++ strs (T.take k) ++ [Value.string t] ++ strs (T.drop k) = strs (T.take k ++ t :: T.drop k) := by simp [strs]
  rw [e] at hs70
  exact slv_len hs70 (by rw [hwl, List.length_take, List.length_drop]; omega)
 obtain ⟨A70, c70, rfl, hn70, hc70, hrd70⟩ := slv_rdL (w0 := w0) hs70b
 refine OL.subS (S' := GS m ++ (sg70 :: segt :: [])) gs_o (OL.det trivial (.build (cs := vtxL v0) rfl) (OL.dp rfl (OL.dp rfl ?_)))
 refine OL.call trivial rfl (hunks_fc (S := GS m ++ (sg70 :: segt :: [])) (file := v0) (w := (T.take k ++ t :: T.drop k)) (itemsFC_gg hg over_nil (by omega)) (by omega) (items_solid hg.sq) (rd_mem (hrd70 []) (by simp)) hc70 (by rw [hwl]; omega) (fun s hs => Nat.le_trans (isP_size (hwi s hs)) (by decide))) ?_
 rintro v75 _ ⟨va, hs, sgh, jh, rfl, rfl, hsh, hok, hpl⟩
 rw [hE]
 rw [hy] at hpl
 obtain ⟨x, rfl⟩ : ∃ x, hs = [x] := by
  match hs, hpl with
  | [x], _ => exact ⟨x, rfl⟩
 obtain rfl : ChgM.pl x = y := by simpa using hpl
 have hox := (hok x (by simp)).1
 obtain ⟨Ah, ch, rfl, hnh, hch, hrh⟩ := slv_rdL (w0 := w0) hsh
 obtain ⟨ah, rfl⟩ := chgS_some (hrh []) (by simp)
 refine OL.dp rfl (OL.dp rfl (OL.dp rfl (OL.dp rfl (OL.dp rfl (OL.nil (PW.k6 2 7 10 11 13 14 rfl ?_))))))
 refine PW.seq fun K4 hK4 => ?_
 refine PW.seqOps (OL.dp rfl (OL.det trivial (.to (v' := .bool false) (Yields.pure rfl) rfl) (OL.dp rfl (OL.det rfl (.pure rfl) (OL.det rfl (.pure rfl) (OL.det rfl (.to (v' := .bool false) (Yields.pure rfl) rfl) (OL.dp rfl (OL.dp rfl (OL.det rfl (.pure rfl) (OL.det rfl (.ixN (j := 0) rfl rfl rfl Nat.zero_lt_one) (OL.det rfl (.pure rfl) ?_)))))))))))
 refine OL.det rfl (.ld rfl (chg_at (l := [x]) (k := 0) (rd_mem (hrh []) (by simp)) Nat.zero_lt_one 103 _ (chgC_gone ..).1)) ?_
 refine OL.det rfl (.pure rfl) ?_
 refine OL.det rfl (.to (v' := .bool false) (Yields.pure rfl) (by show Value.bool ((x.gone.length : Int) != 0) = _; rw [show x.gone = [] from hy1]; rfl)) ?_
 refine OL.dp rfl (OL.dp rfl (OL.det rfl (.pure rfl) (OL.det rfl (.ixN (j := 0) rfl rfl rfl Nat.zero_lt_one) (OL.det rfl (.pure rfl) ?_))))
 refine OL.det rfl (.ld rfl (chg_at (l := [x]) (k := 0) (rd_mem (hrh []) (by simp)) Nat.zero_lt_one 104 _ (chgC_gone ..).2)) ?_
 refine OL.det rfl (.pure rfl) ?_
 refine OL.det rfl (.to (v' := .bool false) (Yields.pure rfl) (by show Value.bool ((x.lines.length : Int) != 1) = _; rw [show x.lines = [t] from hy2]; rfl)) ?_
 refine OL.dp rfl (OL.dp rfl (OL.det rfl (.pure rfl) (OL.det rfl (.ixN (j := 0) rfl rfl rfl Nat.zero_lt_one) (OL.det rfl (.pure rfl) ?_))))
 refine OL.det rfl (.ld rfl (chg_at (l := [x]) (k := 0) (rd_mem (hrh []) (by simp)) Nat.zero_lt_one 104 _ (chgC_gone ..).2)) ?_
 obtain ⟨al, hal2⟩ := strs_some hox.rdL (by rw [show x.lines = [t] from hy2]; exact Nat.zero_lt_one)
 have hal3 : ([x] : List ChgM)[0].A = some al := hal2
 rw [hal3]
 refine OL.det rfl (.ixN1 (j := 0) rfl rfl rfl (by show 0 < x.lines.length; rw [show x.lines = [t] from hy2]; exact Nat.zero_lt_one)) ?_
 refine OL.det rfl (.ld rfl (str_at (l := [t]) (k := 0) (by have := rd_mem hox.rdL (show jh ∈ sgh :: jh :: (GS m ++ (sg70 :: segt :: [])) by simp); rw [show x.lines = [t] from hy2, hal2] at this; exact this) Nat.zero_lt_one)) ?_
 refine OL.det rfl (.pure rfl) ?_
 refine OL.det rfl (.to (v' := .bool false) (Yields.pure rfl) (congrArg Value.bool (by simp))) ?_
 refine OL.dp rfl (OL.nil (PW.k4 7 10 11 110 rfl (PW.ite (b := false) rfl ?_)))
 rw [if_neg Bool.false_ne_true]
 refine PW.skip ?_
 refine hK4 _ _ ?_
 refine PW.k3 7 10 11 rfl ?_
 refine PW.seq fun K5 hK5 => ?_
 refine PW.seqOps (OL.dp rfl (OL.dp rfl (OL.dp rfl (OL.dp rfl (OL.nil (PW.k4 7 10 11 114 rfl ?_))))))
 refine PW.cond rfl (fun c114 => ?_) (fun c114 => ?_)
 ·try simp only [cvS] at c114
  refine PW.seqOps (OL.call trivial rfl (awake_fc) ?_)
  rintro _ Sx ⟨rfl, hSx⟩
  rw [hSx]
  clear hSx
  refine OL.dp rfl (OL.nil (PW.k1 6 rfl (PW.ret ?_)))
  change (Exit.ret = Exit.normal ∨ Exit.ret = Exit.ret) /\ ∃ v, resV _ _ = some v /\ _
  exact ⟨.inr rfl, _, rfl, _, Sub.refl _, rfl⟩
 try simp only [cvS] at c114
 have hkl : k < T.length := by omega
 refine PW.skip ?_
 refine hK5 _ _ ?_
 refine PW.k3 7 10 11 rfl ?_
 refine PW.seq fun K6 hK6 => ?_
 refine PW.quietG (Ss := Over (sgh :: jh :: (GS m ++ (sg70 :: segt :: [])))) (fr := false) [(1, 0), (2, 0), (3, 0), (5, 0), (6, 0), (7, 0), (8, 0), (0, 2), (4, 2)] Tryz.mixed (by decide +kernel) (Over.refl _) (fun h => by cases h) ?_
 refine GL.dp rfl ?_
 refine GL.dp rfl ?_
 refine GL.det trivial (fun Sx hSx => Yields.to (v' := .slice At (T.take k).length ct) (Yields.slS (l := 0) (h := k) rfl rfl rfl (.inr ⟨rfl, rfl⟩) (.inl rfl) (by omega) (by omega)) (cutT hkT).1) ?_
 refine GL.dp rfl ?_
 refine GL.dp rfl ?_
 refine GL.det trivial (fun Sx hSx => Yields.to (v' := .int .i64 ((k + 1 : Nat) : Int)) (Yields.add64 rfl rfl (by omega) (by omega)) rfl) ?_
 obtain ⟨A3, c3, hcut3, hc3, hr3⟩ := cutW (A := At) (i := k + 1) (l := T) (by omega) hct
 have hn3 := cut_nil hnt (show k + 1 <= ct by omega) A3 T.length c3 (by rw [hcut3, List.length_drop])
 refine GL.det trivial (fun Sx hSx => Yields.to (v' := .slice A3 (T.drop (k + 1)).length c3) (Yields.slS (l := k + 1) (h := T.length) rfl rfl rfl (.inl rfl) (.inr ⟨rfl, rfl⟩) (by omega) (by omega)) hcut3) ?_
 refine GL.lo trivial (OW.mono (OW.bsl0) ?_)
 rintro _ _ ⟨r116, rfl, rfl⟩
 refine ⟨(Over.refl _).cons, ?_⟩
 refine GL.lo trivial (OW.mono (OW.appW (k := 0) (news := strs (T.take k)) rfl rfl bsl0_slv rfl (by rw [strs_len, Nat.mul_one]) (by decide) ((cutT (A := At) (cap := ct) hkT).2 _ _ (rd_mem (hrt []) (by simp))) hnt (strs_one _) (by rw [List.length_take]; omega) (by unfold maxLen; rw [List.length_take]; omega)) ?_)
 rintro v120 _ ⟨sg120, rfl, hs120⟩
 refine ⟨(Over.refl _).cons, ?_⟩
 change OL _ _ _ [_, _] _ _ _
 refine OL.cons trivial (OW.appW (k := 0) (news := strs (T.drop (k + 1))) rfl rfl hs120 rfl (by rw [strs_len, Nat.mul_one]) (by decide) (hr3 _ _ (rd_mem (hrt []) (by simp))) hn3 (strs_one _) (by rw [List.length_take, List.length_drop]; omega) (by unfold maxLen; rw [List.length_take, List.length_drop]; omega)) ?_
 rintro v125 _ ⟨sg125, rfl, hs125⟩
 refine OL.dp rfl (OL.nil ?_)
 refine hK6 _ _ ?_
 refine PW.k2 7 15 rfl (PW.seqOps ?_)
 obtain ⟨hE, y, hy, hy1, hy2⟩ := small_less (I := itemsP ps) (k := k) hones (by rw [<- hT]; exact htis) (by omega) (by omega)
 rw [<- hT] at hE hy
 have hxl : (T.take k ++ T.drop (k + 1)).length = T.length - 1 := by rw [List.length_append, List.length_take, List.length_drop]; omega
 have hxi : ∀ s ∈ T.take k ++ T.drop (k + 1), Ln.isP s = true := fun s hs => by
  rcases List.mem_append.1 hs with h1 | h1
  ·exact htis s (List.mem_of_mem_take h1)
  exact htis s (List.mem_of_mem_drop h1)
 have hs125b : SlV 9 1 v125 (T.take k ++ T.drop (k + 1)).length (strs (T.take k ++ T.drop (k + 1))) sg125 := by
  have e : [] ++ strs (T.take k) ++ strs (T.drop (k + 1)) = strs (T.take k ++ T.drop (k + 1)) := by simp [strs]
  rw [e] at hs125
  exact slv_len hs125 (by rw [hxl, List.length_take, List.length_drop]; omega)
 obtain ⟨A125, c125, rfl, hn125, hc125, hrd125⟩ := slv_rdL (w0 := w0) hs125b
 refine OL.subS (S' := GS m ++ (sg125 :: [])) gs_p (OL.det trivial (.build (cs := vtxL v0) rfl) (OL.dp rfl (OL.dp rfl ?_)))
 refine OL.call trivial rfl (hunks_fc (S := GS m ++ (sg125 :: [])) (file := v0) (w := (T.take k ++ T.drop (k + 1))) (itemsFC_gg hg over_nil (by omega)) (by omega) (items_solid hg.sq) (rd_mem (hrd125 []) (by simp)) hc125 (by rw [hxl]; omega) (fun s hs => Nat.le_trans (isP_size (hxi s hs)) (by decide))) ?_
 rintro v130 _ ⟨va, hs, sgh, jh, rfl, rfl, hsh, hok, hpl⟩
 rw [hE]
 rw [hy] at hpl
 obtain ⟨x, rfl⟩ : ∃ x, hs = [x] := by
  match hs, hpl with
  | [x], _ => exact ⟨x, rfl⟩
 obtain rfl : ChgM.pl x = y := by simpa using hpl
 have hox := (hok x (by simp)).1
 obtain ⟨Ah, ch, rfl, hnh, hch, hrh⟩ := slv_rdL (w0 := w0) hsh
 obtain ⟨ah, rfl⟩ := chgS_some (hrh []) (by simp)
 refine OL.dp rfl (OL.dp rfl (OL.dp rfl (OL.dp rfl (OL.dp rfl (OL.nil (PW.k2 16 17 rfl (PW.seqOps (OL.dp rfl (OL.det trivial (.to (v' := .bool true) (Yields.pure rfl) rfl) (OL.dp rfl (OL.det rfl (.pure rfl) ?_)))))))))))
 refine OL.det rfl (.pure rfl) (OL.det rfl (.to (v' := .bool true) (Yields.pure rfl) rfl) (OL.dp rfl (OL.dp rfl (OL.det rfl (.pure rfl) (OL.det rfl (.ixN (j := 0) rfl rfl rfl Nat.zero_lt_one) (OL.det rfl (.pure rfl) ?_))))))
 refine OL.det rfl (.ld rfl (chg_at (l := [x]) (k := 0) (rd_mem (hrh []) (by simp)) Nat.zero_lt_one 104 _ (chgC_gone ..).2)) ?_
 refine OL.det rfl (.pure rfl) ?_
 refine OL.det rfl (.to (v' := .bool true) (Yields.pure rfl) (by show Value.bool ((x.lines.length : Int) == 0) = _; rw [show x.lines = [] from hy1]; rfl)) ?_
 refine OL.dp rfl (OL.dp rfl (OL.det rfl (.pure rfl) (OL.det rfl (.ixN (j := 0) rfl rfl rfl Nat.zero_lt_one) (OL.det rfl (.pure rfl) ?_))))
 refine OL.det rfl (.ld rfl (chg_at (l := [x]) (k := 0) (rd_mem (hrh []) (by simp)) Nat.zero_lt_one 103 _ (chgC_gone ..).1)) ?_
 refine OL.det rfl (.pure rfl) ?_
 refine OL.det rfl (.to (v' := .bool true) (Yields.pure rfl) (by show Value.bool ((x.gone.length : Int) == 1) = _; rw [show x.gone.length = 1 from hy2]; rfl)) ?_
 refine OL.dp rfl (OL.dp rfl (OL.call rfl rfl (awake_fc) ?_))
 rintro _ Sx ⟨rfl, hSx⟩
 rw [hSx]
 clear hSx
 refine OL.dp rfl (OL.dp rfl (OL.nil (PW.k1 6 rfl (PW.ret ?_))))
 change (Exit.ret = Exit.normal ∨ Exit.ret = Exit.ret) /\ ∃ v, resV _ _ = some v /\ _
 exact ⟨.inr rfl, _, rfl, _, Sub.refl _, rfl⟩
end Go.Proofs.Gr

namespace Go.Proofs.Gr
open Go.SL Go.RowKit Go.Proofs Go.GP Go.ChangeShapes Go.WideShapes Go.ChangeAt
set_option maxRecDepth 100000 in
theorem parts_arg {H : Type} {enc : TypeId × Value -> H} {W : World} {r : Reach} {base j : Nat} {v : Value} {d : DataW H} {ps : List MemPlace} {ts : List TypeId} {ds : List (DataW H)} (hv : Value.okWide Tryz.prog W r base 22 v)
  (h : DataW.Trod enc Tryz.prog W 0 (fun _ => true) true 22 v d ps) (hsz : (DataW.weightsEach Tryz.prog ts ds).all (· <= reachBytes) = true) (ht : ts[j]? = some 22) (hd : ds[j]? = some d) :
  ∃ (A : Option Addr) (c : Nat) (l : List PartM), v = .slice A l.length c /\ PartsIn W A l := by
 have hu : Tryz.prog.underlying 22 = some (.slice 59) := by kernel_rfl
 obtain ⟨A, len, cap, rfl⟩ := okWide_slice hu hv
 obtain ⟨l, rfl, hr, hR, hy, hc⟩ := arg_listW (j := j) (f := partC) (R := fun a => PartA W a) hu (fun n cs y hh _ hw => part_of hh hw) h hsz ht hd
 rw [show Tryz.prog.bytesOf 59 = 176 by kernel_rfl] at hy
 simp only [reachBytes] at hy
 exact ⟨A, cap, l, rfl, hr, hR, by omega⟩
end Go.Proofs.Gr
