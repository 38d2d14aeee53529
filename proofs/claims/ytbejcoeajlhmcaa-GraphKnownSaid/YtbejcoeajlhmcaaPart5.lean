/- Walks. -/
import Derived.Test.YtbejcoeajlhmcaaPart4
set_option linter.unusedVariables false
set_option linter.unusedSimpArgs false
set_option linter.unusedSectionVars false

namespace Go.Proofs.Gr
open Go.SL Go.RowKit Go.Proofs Go.GP
set_option maxHeartbeats 1000000
def intV (z : Int) : Value := .int .i64 z
theorem zero3 : ∃ i, Try.prog.info? 3 = some i /\ i.zero = some (intV 0) := Option.bind_eq_some_iff.1 (show (Try.prog.info? 3).bind (·.zero) = some (intV 0) by kernel_rfl)
def lv (left : List (Vtx × Int)) (v : Vtx) : Int := (mgt left v).getD 0
theorem lv_put (left : List (Vtx × Int)) (w : Vtx) (z : Int) (u : Vtx) : lv (mpt (entL left w 0) w z) u = if u = w then z else lv left u := by
 unfold lv
 rw [mgt_mpt]
 split
 ·rfl
 exact mgt_entL
theorem put_ok {left : List (Vtx × Int)} {w : Vtx} {z : Int} (hl : ∀ q ∈ left, okV q.1) (hw : okV w) : ∀ q ∈ mpt (entL left w 0) w z, okV q.1 := by
 intro q hq
 rcases mem_mpt hq with rfl | h
 ·exact hw
 exact entL_ok hl hw q h
def GO (m : GrM) (en : Array MapEntry) (clk : Nat) : SS := [[(m.r, .cells m.cells 57 4)], [(m.pb, .gm (gmL vtxV partV m.parts))], [(m.nb, .obj (.map en clk))], m.junk]
theorem GO_n {S : SS} {m : GrM} {en : Array MapEntry} {clk : Nat} (h : Over (GO m en clk) S) : (m.nb, AO.obj (.map en clk)) ∈ S.flatten := h _ (by simp [GO])
theorem Rd.go {w0 : World} {m : GrM} {S X : SS} {en : Array MapEntry} {clk : Nat} {A : Option Addr} {l : List Value} (h : Rd w0 (m.junk :: X) A l) (hS : Over (GO m en clk ++ X) S) : Rd w0 S A l := h.mono fun p hp => by
 rw [List.flatten_cons, List.mem_append] at hp
 refine hS p ?_
 rw [List.flatten_append, List.mem_append]
 rcases hp with hp | hp
 ·exact .inl (by simp [GO, hp])
 exact .inr hp
theorem plN_app (a b : List (Vtx × NodeM)) : plN (a ++ b) = plN a ++ plN b := by unfold plN; simp
theorem tgts_app (a b : List (Vtx × NodeP)) : tgts (a ++ b) = tgts a ++ tgts b := by unfold tgts; simp
theorem done_len {m : GrM} {done rest : List (Vtx × NodeM)} {p : Vtx × NodeM} (h : ((done ++ [p]) ++ rest).Perm m.nodes) : (tgts (plN done)).length + p.2.next.length <= (EG m.gr.nodes).length := by
 have h2 : (plN ((done ++ [p]) ++ rest)).Perm m.gr.nodes := h.map _
 rw [<- tgts_len, <- (tgts_perm h2).length_eq, plN_app, plN_app, tgts_app, tgts_app, List.length_append, List.length_append]
 have : (tgts (plN [p])).length = p.2.next.length := by simp [tgts, plN, NodeM.pl]
 omega
theorem inN_snoc (done : List (Vtx × NodeM)) (p : Vtx × NodeM) (u : Vtx) : inN (plN (done ++ [p])) u = inN (plN done) u + cntV u p.2.next := by
 unfold inN
 rw [plN_app, tgts_app, cntV_app]
 congr 1
 simp [tgts, plN, NodeM.pl]
theorem cnt_take {l : List Vtx} {k : Nat} (hk : k < l.length) (u : Vtx) : cntV u (l.take (k + 1)) = cntV u (l.take k) + if u = l[k] then 1 else 0 := by
 rw [vtake_snoc hk, cntV_app, cntV_cons]
 have : cntV u [] = 0 := by simp [cntV]
 rw [this]
 by_cases h : l[k] = u
 ·rw [if_pos h, if_pos h.symm]; omega
 rw [if_neg h, if_neg (fun e => h e.symm)]; omega
theorem done_get {m : GrM} {X : SS} {w0 : World} (hm : GOk w0 X m) {done rest : List (Vtx × NodeM)} {p : Vtx × NodeM} {i : Nat} (hp : (done ++ rest).Perm m.nodes) (hi : rest[i]? = some p) : p ∈ m.nodes := hp.subset (List.mem_append_right _ (List.mem_of_getElem? hi))
theorem ahead_fc {w0 : World} {S X : SS} {m : GrM} (hm : GOk w0 X m) (hX : Over X S) (hE : (EG m.gr.nodes).length <= 1000000000) :
  FC Try.prog w0 61 [m.ptr] (GS m ++ S) (fun v S' => ∃ (ra : Nat) (left : List (Vtx × Int)), v = .map (some ra) /\ S' = [(ra, .gm (gmL vtxV intV left))] :: (GS m ++ S) /\ (∀ q ∈ left, okV q.1) /\ ∀ u, lv left u = inN m.gr.nodes u) := by
 have hS : Over (GS m ++ X) (GS m ++ S) := Over.both hX
 obtain ⟨z, hz1, hz2⟩ := zero3
 have hml := hm.lim
 refine FC.ofD Try.known61 (by simp) ?_
 unfold Try.pc61
 simp only [argT]
 refine PW.seqOps ?_
 refine OL.dp rfl ?_
 refine OL.nil ?_
 refine PW.k1 0 rfl ?_
 refine PW.seqOps ?_
 refine OL.dp rfl ?_
 refine OL.det trivial (Yields.nilc rfl) ?_
 refine OL.dp rfl ?_
 refine OL.det trivial (.ld rfl (g_nodes hS)) ?_
 refine OL.det trivial (Yields.lenG rfl (GS_mem hS).2.2.1) ?_
 refine OL.cons trivial (OW.mkGr (j := (m.nodes.length : Int)) Try.underlying107 rfl) ?_
 rintro _ _ ⟨ra, rfl, rfl⟩
 change OL _ _ _ _ _ ([(ra, .gm (gmL vtxV intV []))] :: (GS m ++ S)) _
 refine OL.dp rfl ?_
 refine OL.nil ?_
 refine PW.k2 0 3 rfl rfl ?_
 refine PW.seq fun K1 hK1 => ?_
 refine PW.seqOps ?_
 refine OL.dp rfl ?_
 refine OL.det trivial (Yields.nilc rfl) ?_
 refine OL.dp rfl ?_
 refine OL.det trivial (.ld rfl (g_nodes hS.cons)) ?_
 refine OL.cons trivial (OW.rngG (j := 3) (l := m.nodes) Try.underlying55 rfl rfl) ?_
 rintro _ _ ⟨ri, en, clk, rfl, hopen, hit0, rfl⟩
 change OL _ _ _ _ _ ([(ri, .obj (.mapIter (some m.nb) clk #[] clk))] :: [(ra, .gm (gmL vtxV intV []))] :: (GO m en clk ++ S)) _
 refine OL.nil ?_
 refine PW.k3 0 3 19 rfl rfl rfl ?_
 refine PW.block ?_
 refine PW.k3 0 3 19 rfl rfl rfl ?_
 refine PW.loopK (I := fun mm T S' => ∃ (seen : Array Nat) (done rest : List (Vtx × NodeM)) (left : List (Vtx × Int)), (It vtxV nodeV en seen m.nodes done rest /\ (∀ q ∈ left, okV q.1) /\ (∀ u, lv left u = 0) /\ mm = rest.length) /\ T = ([(0, m.ptr), (3, .map (some ra)), (19, .pointer (some ⟨ri, 0, none⟩))] : TT) /\ S' = [(ri, .obj (.mapIter (some m.nb) clk seen clk))] :: [(ra, .gm (gmL vtxV intV left))] :: (GO m en clk ++ S)) (m := m.nodes.length) ⟨#[], [], m.nodes, [], ⟨hit0, (fun q h => nomatch h), fun u => rfl, rfl⟩, rfl, rfl⟩ ?_
 rintro mm _ _ ⟨seen, done, rest, left, ⟨hit, hlk, hall, hmm⟩, rfl, rfl⟩
 refine PW.seqOps ?_
 refine OL.cons trivial (OW.nxtG (j := 0) (b := m.nb) (l := m.nodes) (done := done) (rest := rest) rfl rfl (GO_n (en := en) (clk := clk) (Over.app (b := S)).cons.cons) hopen hit) ?_
 refine fun v S' h => Or.elim h.symm ?_ ?_
 ·skip
  rintro ⟨ii, p, qq, hri, rfl, hit2, rfl⟩
  refine OL.det trivial (.pure rfl) ?_
  refine OL.nil ?_
  refine PW.k4 0 3 19 21 rfl rfl rfl rfl ?_
  refine PW.seq fun K2 hK2 => ?_
  refine PW.ite (b := true) rfl ?_
  rw [if_pos rfl]
  refine PW.skip ?_
  refine hK2 _ _ ?_
  refine PW.k3 0 3 19 rfl rfl rfl ?_
  refine PW.block ?_
  refine PW.seqOps ?_
  refine OL.det trivial (Yields.entG (b := m.nb) rfl (List.mem_flatten.2 ⟨_, .head _, List.mem_singleton.2 rfl⟩) (GO_n (en := en) (clk := clk) (Over.app (b := S)).cons.cons) hopen hit2) ?_
  refine OL.dp rfl ?_
  refine OL.cons trivial OW.al ?_
  rintro _ _ ⟨r4, rfl, rfl⟩
  refine OL.cons trivial (vtx_st rfl rfl rfl) ?_
  rintro _ _ rfl
  obtain ⟨v, n0⟩ := p
  have hpm := done_get hm hit.perm hri
  have hov : okV v := hm.nk _ hpm
  change OL _ _ _ _ _ (vseg r4 v :: [(ri, .obj (.mapIter (some m.nb) clk (seen.push qq) clk))] :: [(ra, .gm (gmL vtxV intV left))] :: (GO m en clk ++ S)) _
  refine OL.nil ?_
  refine PW.k4 0 3 4 19 rfl rfl rfl rfl ?_
  refine PW.quietG (Ss := OpS vtxV intV left v 0 ra (vseg r4 v :: [[(ri, .obj (.mapIter (some m.nb) clk (seen.push qq) clk))]]) (GO m en clk ++ S)) (fr := false) [(0, 0), (1, 0), (2, 0), (3, 0), (4, 2), (5, 2)] Try.mixed (by decide +kernel) (.inl rfl) (fun h => by cases h) ?_
  refine GL.dp rfl ?_
  refine GL.det trivial (fun Sx hSx => Yields.ldA rfl (vtxL_len _) (all_at (c := vtxL v) (E := 32) (tot := 33) (hSx.over _ (by simp)))) ?_
  refine GL.det trivial (fun Sx hSx => Yields.lookOp (u := v) Try.underlying107 hz1 hz2 keys32 hlk hov hov rfl rfl hSx) ?_
  refine GL.det trivial (fun Sx hSx => Yields.to (v' := intV (lv left v + 0)) (Yields.add64 rfl rfl (by show _ <= lv left v + 0; rw [hall]; decide) (by show lv left v + 0 <= _; rw [hall]; decide)) rfl) ?_
  refine GL.lo trivial (OW.mono (OW.entry (j := 2) (a := v) (z := (0 : Int)) Try.underlying107 hz1 hz2 keys32 hlk hov rfl rfl rfl) ?_)
  rintro _ _ ⟨en2, clk2, qq2, e2, rfl, hop2, hee2, heb2, hek2, rfl⟩
  refine ⟨.inr ⟨en2, clk2, hop2, rfl⟩, ?_⟩
  refine GL.lo trivial (OW.mono (OW.of_yields (Yields.pure rfl)) ?_)
  rintro _ _ ⟨rfl, rfl⟩
  refine ⟨.inr ⟨en2, clk2, hop2, rfl⟩, ?_⟩
  change OL _ _ _ [_] _ _ _
  refine OL.cons trivial (OW.store (j := 2) (v := lv left v + 0) (fun a b => vtx_inj') rfl rfl rfl hop2 hee2 heb2 hek2 rfl) ?_
  rintro _ _ rfl
  change OL _ _ _ _ _ (vseg r4 v :: [(ri, .obj (.mapIter (some m.nb) clk (seen.push qq) clk))] :: [(ra, .gm (gmL vtxV intV (mpt (entL left v 0) v (lv left v + 0))))] :: (GO m en clk ++ S)) _
  refine OL.nil ?_
  repeat rw [inBlk_n]
  try rw [thenK_n]
  refine LoopEnd.mkS (Sub.drop (Sub.refl _)) (T'' := [(0, _), (3, _), (19, _)]) ⟨rfl, rfl, rfl, trivial⟩ ?_
  have hil : ii < rest.length := (List.getElem?_eq_some_iff.1 hri).1
  refine ⟨(rest.eraseIdx ii).length, by rw [List.length_eraseIdx, if_pos hil]; omega, seen.push qq, done ++ [(v, n0)], rest.eraseIdx ii, mpt (entL left v 0) v (lv left v + 0), ⟨hit2, put_ok hlk hov, fun u => ?_, rfl⟩, rfl, rfl⟩
  rw [lv_put, hall, hall]
  split <;> rfl
 skip
 rintro ⟨hr0, rfl, rfl⟩
 refine OL.det trivial (.pure rfl) ?_
 refine OL.nil ?_
 refine PW.k4 0 3 19 21 rfl rfl rfl rfl ?_
 refine PW.seq fun K3 hK3 => ?_
 refine PW.ite (b := false) rfl ?_
 rw [if_neg Bool.false_ne_true]
 refine PW.exit ?_
 refine hK1 _ _ ?_
 refine PW.k2 0 3 rfl rfl ?_
 refine PW.seq fun K4 hK4 => ?_
 refine PW.seqOps ?_
 refine OL.tell (k := 4) rfl (fun w hw => hopen.close _ w hw) ?_
 refine OL.subS (S' := [(ra, .gm (gmL vtxV intV left))] :: (GS m ++ S)) (Sub.drop (Sub.refl _)) ?_
 refine OL.det trivial (.pure rfl) ?_
 refine OL.det trivial (Yields.nilc rfl) ?_
 refine OL.dp rfl ?_
 refine OL.det trivial (.ld rfl (g_nodes hS.cons)) ?_
 refine OL.cons trivial (OW.rngG (j := 3) (l := m.nodes) Try.underlying55 rfl rfl) ?_
 rintro _ _ ⟨ri, en, clk, rfl, hopen, hit0, rfl⟩
 change OL _ _ _ _ _ ([(ri, .obj (.mapIter (some m.nb) clk #[] clk))] :: [(ra, .gm (gmL vtxV intV left))] :: (GO m en clk ++ S)) _
 refine OL.nil ?_
 refine PW.k2 3 34 rfl rfl ?_
 refine PW.block ?_
 refine PW.k2 3 34 rfl rfl ?_
 refine PW.loopK (I := fun mm T S' => ∃ (seen : Array Nat) (done rest : List (Vtx × NodeM)) (left : List (Vtx × Int)), (It vtxV nodeV en seen m.nodes done rest /\ (∀ q ∈ left, okV q.1) /\ (∀ u, lv left u = inN (plN done) u) /\ mm = rest.length) /\ T = ([(3, .map (some ra)), (34, .pointer (some ⟨ri, 0, none⟩))] : TT) /\ S' = [(ri, .obj (.mapIter (some m.nb) clk seen clk))] :: [(ra, .gm (gmL vtxV intV left))] :: (GO m en clk ++ S)) (m := m.nodes.length) ⟨#[], [], m.nodes, left, ⟨hit0, hlk, fun u => (hall u).trans rfl, rfl⟩, rfl, rfl⟩ ?_
 rintro mm _ _ ⟨seen, done, rest, left, ⟨hit, hlk, hall, hmm⟩, rfl, rfl⟩
 refine PW.seqOps ?_
 refine OL.cons trivial (OW.nxtG (j := 0) (b := m.nb) (l := m.nodes) (done := done) (rest := rest) rfl rfl (GO_n (en := en) (clk := clk) (Over.app (b := S)).cons.cons) hopen hit) ?_
 refine fun v S' h => Or.elim h.symm ?_ ?_
 ·skip
  rintro ⟨ii, p, qq, hri, rfl, hit2, rfl⟩
  refine OL.det trivial (.pure rfl) ?_
  refine OL.nil ?_
  refine PW.k3 3 34 36 rfl rfl rfl ?_
  refine PW.seq fun K5 hK5 => ?_
  refine PW.ite (b := true) rfl ?_
  rw [if_pos rfl]
  refine PW.skip ?_
  refine hK5 _ _ ?_
  refine PW.k2 3 34 rfl rfl ?_
  refine PW.block ?_
  refine PW.seqOps ?_
  refine OL.det trivial (Yields.entG (b := m.nb) rfl (List.mem_flatten.2 ⟨_, .head _, List.mem_singleton.2 rfl⟩) (GO_n (en := en) (clk := clk) (Over.app (b := S)).cons.cons) hopen hit2) ?_
  refine OL.dp rfl ?_
  refine OL.cons trivial OW.al ?_
  rintro _ _ ⟨r6, rfl, rfl⟩
  refine OL.cons trivial (node_st rfl rfl _ _ _ _) ?_
  rintro _ _ rfl
  obtain ⟨v, n0⟩ := p
  have hpm := done_get hm hit.perm hri
  have hno := hm.node _ hpm
  have hdl := done_len hit2.perm
  change OL _ _ _ _ _ ([(r6, .cells (nodeC n0) 100 4)] :: [(ri, .obj (.mapIter (some m.nb) clk (seen.push qq) clk))] :: [(ra, .gm (gmL vtxV intV left))] :: (GO m en clk ++ S)) _
  refine OL.nil ?_
  refine PW.k3 3 6 34 rfl rfl rfl ?_
  refine PW.seqOps ?_
  refine OL.dp rfl ?_
  refine OL.det trivial (.ld rfl (own_at (j := 3) (c := nodeC n0) (E := 100) (tot := 4) (List.mem_flatten.2 ⟨_, .head _, List.mem_singleton.2 rfl⟩) rfl)) ?_
  refine OL.dp rfl ?_
  have hdl1 : n0.next.length <= 1000000000 := by simp only at hdl; omega
  refine OL.det trivial (.pure rfl) ?_
  refine OL.nil ?_
  refine PW.k5 3 34 40 41 42 rfl rfl rfl rfl rfl ?_
  refine PW.block ?_
  refine PW.k5 3 34 40 41 42 rfl rfl rfl rfl rfl ?_
  refine PW.loopK (I := fun mi T S' => ∃ (k : Nat) (left : List (Vtx × Int)), (k <= n0.next.length /\ mi = n0.next.length - k /\ (∀ q ∈ left, okV q.1) /\ ∀ u, lv left u = inN (plN done) u + cntV u (n0.next.take k)) /\ T = ([(3, .map (some ra)), (34, .pointer (some ⟨ri, 0, none⟩)), (40, .slice n0.A n0.next.length n0.c), (41, .int .i64 (n0.next.length : Int)), (42, .int .i64 k)] : TT) /\ S' = [(r6, .cells (nodeC n0) 100 4)] :: [(ri, .obj (.mapIter (some m.nb) clk (seen.push qq) clk))] :: [(ra, .gm (gmL vtxV intV left))] :: (GO m en clk ++ S)) (m := n0.next.length) ⟨0, left, ⟨by omega, by omega, hlk, fun u => by rw [hall]; simp [cntV]⟩, rfl, rfl⟩ ?_
  rintro mi _ _ ⟨k, left, ⟨hk, hmi, hlk, hall2⟩, rfl, rfl⟩
  refine PW.seqOps ?_
  refine OL.dp rfl ?_
  refine OL.nil ?_
  refine PW.k6 3 34 40 41 42 43 rfl rfl rfl rfl rfl rfl ?_
  refine PW.seq fun K6 hK6 => ?_
  refine PW.cond rfl (fun c43 => ?_) (fun c43 => ?_)
  ·try simp only [cvS] at c43
   have hdl1 : n0.next.length <= 1000000000 := by simp only at hdl; omega
   have hkl : k < n0.next.length := by omega
   obtain ⟨a0, ha0⟩ := vtxs_some (l := n0.next) hno.rd (by omega)
   have hrd2 : Rd w0 ([(r6, .cells (nodeC n0) 100 4)] :: [(ri, .obj (.mapIter (some m.nb) clk (seen.push qq) clk))] :: [(ra, .gm (gmL vtxV intV left))] :: (GO m en clk ++ S)) (some a0) (vtxs n0.next) := by rw [<- ha0]; exact Rd.go hno.rd (Over.both hX).cons.cons.cons
   refine PW.skip ?_
   refine hK6 _ _ ?_
   refine PW.k5 3 34 40 41 42 rfl rfl rfl rfl rfl ?_
   refine PW.seq fun K7 hK7 => ?_
   refine PW.block ?_
   refine PW.seqOps ?_
   rw [ha0]
   refine OL.det trivial (.ixN rfl rfl rfl (by omega)) ?_
   refine OL.det trivial (.ldA rfl (vtxL_len _) (vtx_at hrd2 hkl)) ?_
   refine OL.cons trivial OW.al ?_
   rintro _ _ ⟨r8, rfl, rfl⟩
   refine OL.cons trivial (vtx_st rfl rfl rfl) ?_
   rintro _ _ rfl
   obtain ⟨w, hw⟩ : ∃ z, z = n0.next[k] := ⟨_, rfl⟩
   rw [<- hw]
   have how : okV w := by rw [hw]; exact hno.ok _ (List.getElem_mem hkl)
   have hlw := hall2 w
   have hc1 := cntV_le w (tgts (plN done))
   have hc2 := cntV_le w (n0.next.take k)
   rw [List.length_take] at hc2
   unfold inN at hlw
   refine OL.nil ?_
   refine PW.k6 3 8 34 40 41 42 rfl rfl rfl rfl rfl rfl ?_
   refine PW.quietG (Ss := OpS vtxV intV left w 0 ra (vseg r8 w :: [(r6, .cells (nodeC n0) 100 4)] :: [[(ri, .obj (.mapIter (some m.nb) clk (seen.push qq) clk))]]) (GO m en clk ++ S)) (fr := false) [(0, 0), (1, 0), (2, 0), (3, 0), (4, 2), (5, 2)] Try.mixed (by decide +kernel) (.inl rfl) (fun h => by cases h) ?_
   refine GL.dp rfl ?_
   refine GL.det trivial (fun Sx hSx => Yields.ldA rfl (vtxL_len _) (all_at (c := vtxL w) (E := 32) (tot := 33) (hSx.over _ (by simp)))) ?_
   refine GL.det trivial (fun Sx hSx => Yields.lookOp (u := w) Try.underlying107 hz1 hz2 keys32 hlk how how rfl rfl hSx) ?_
   refine GL.det trivial (fun Sx hSx => Yields.to (v' := intV (lv left w + 1)) (Yields.add64 rfl rfl (by show _ <= lv left w + 1; omega) (by show lv left w + 1 <= _; simp only at hdl; omega)) rfl) ?_
   refine GL.lo trivial (OW.mono (OW.entry (j := 3) (a := w) (z := (0 : Int)) Try.underlying107 hz1 hz2 keys32 hlk how rfl rfl rfl) ?_)
   rintro _ _ ⟨en2, clk2, qq2, e2, rfl, hop2, hee2, heb2, hek2, rfl⟩
   refine ⟨.inr ⟨en2, clk2, hop2, rfl⟩, ?_⟩
   refine GL.lo trivial (OW.mono (OW.of_yields (Yields.pure rfl)) ?_)
   rintro _ _ ⟨rfl, rfl⟩
   refine ⟨.inr ⟨en2, clk2, hop2, rfl⟩, ?_⟩
   change OL _ _ _ [_] _ _ _
   refine OL.cons trivial (OW.store (j := 3) (v := lv left w + 1) (fun a b => vtx_inj') rfl rfl rfl hop2 hee2 heb2 hek2 rfl) ?_
   rintro _ _ rfl
   change OL _ _ _ _ _ (vseg r8 w :: [(r6, .cells (nodeC n0) 100 4)] :: [(ri, .obj (.mapIter (some m.nb) clk (seen.push qq) clk))] :: [(ra, .gm (gmL vtxV intV (mpt (entL left w 0) w (lv left w + 1))))] :: (GO m en clk ++ S)) _
   refine OL.nil ?_
   refine hK7 _ _ ?_
   refine PW.k5 3 34 40 41 42 rfl rfl rfl rfl rfl ?_
   refine PW.ops ?_
   refine OL.det trivial (.add64 rfl rfl (by omega) (by omega)) ?_
   have hdl1 : n0.next.length <= 1000000000 := by simp only at hdl; omega
   refine OL.det trivial (.pure rfl) ?_
   refine OL.nil ?_
   repeat rw [inBlk_n]
   try rw [thenK_n]
   refine LoopEnd.mkS (Sub.drop (Sub.refl _)) (T'' := [(3, _), (34, _), (40, _), (41, _), (42, _)]) ⟨rfl, rfl, rfl, rfl, rfl, trivial⟩ ?_
   rw [ha0]
   refine ⟨n0.next.length - (k + 1), by omega, k + 1, mpt (entL left w 0) w (lv left w + 1), ⟨by omega, rfl, put_ok hlk how, fun u => ?_⟩, rfl, rfl⟩
   rw [lv_put, cnt_take hkl, <- hw]
   have := hall2 u
   by_cases hu : u = w
   ·subst hu; rw [if_pos rfl, if_pos rfl]; omega
   rw [if_neg hu, if_neg hu]; omega
  try simp only [cvS] at c43
  refine PW.exit ?_
  repeat rw [inBlk_n]
  try rw [thenK_n]
  refine LoopEnd.mkS (Sub.drop (Sub.refl _)) (T'' := [(3, _), (34, _)]) ⟨rfl, rfl, trivial⟩ ?_
  have hil : ii < rest.length := (List.getElem?_eq_some_iff.1 hri).1
  refine ⟨(rest.eraseIdx ii).length, by rw [List.length_eraseIdx, if_pos hil]; omega, seen.push qq, done ++ [(v, n0)], rest.eraseIdx ii, left, ⟨hit2, hlk, fun u => ?_, rfl⟩, rfl, rfl⟩
  rw [hall2, inN_snoc, List.take_of_length_le (by omega)]
 skip
 rintro ⟨hr0, rfl, rfl⟩
 refine OL.det trivial (.pure rfl) ?_
 refine OL.nil ?_
 refine PW.k3 3 34 36 rfl rfl rfl ?_
 refine PW.seq fun K8 hK8 => ?_
 refine PW.ite (b := false) rfl ?_
 rw [if_neg Bool.false_ne_true]
 refine PW.exit ?_
 refine hK4 _ _ ?_
 refine PW.k1 3 rfl ?_
 refine PW.seqOps ?_
 refine OL.tell (k := 4) rfl (fun w hw => hopen.close _ w hw) ?_
 refine OL.subS (S' := [(ra, .gm (gmL vtxV intV left))] :: (GS m ++ S)) (Sub.drop (Sub.refl _)) ?_
 refine OL.det trivial (.pure rfl) ?_
 refine OL.dp rfl ?_
 refine OL.nil ?_
 refine PW.k1 2 rfl ?_
 refine PW.ret ?_
 change (Exit.ret = Exit.normal ∨ Exit.ret = Exit.ret) /\ ∃ v, resV _ _ = some v /\ _
 refine ⟨.inr rfl, _, rfl, _, Sub.refl _, ra, left, rfl, rfl, hlk, fun u => ?_⟩
 rw [hall u]
 refine inN_perm ?_ u
 have := hit.perm
 rw [hr0, List.append_nil] at this
 exact this.map _
end Go.Proofs.Gr

namespace Go.GP
open Go.SL
theorem mks_mdl_erase {β : Type} {l : List (Vtx × β)} (h : (mks l).Nodup) (a : Vtx) : mks (mdl l a) = (mks l).erase a := by
 rw [mks_mdl, h.erase_eq_filter]
 congr 1
 funext c
 by_cases e : a = c
 ·subst e; simp
 have : c ≠ a := fun h => e h.symm
 simp [e, this]
theorem mks_mdl_erase' {α β : Type} [DecidableEq α] {l : List (α × β)} (h : (mks l).Nodup) (a : α) : mks (mdl l a) = (mks l).erase a := by
 rw [mks_mdl, h.erase_eq_filter]
 congr 1
 funext c
 by_cases e : a = c
 ·subst e; simp
 have : c ≠ a := fun h => e h.symm
 simp [e, this]
theorem mdl_out {α β : Type} [DecidableEq α] {l : List (α × β)} {a : α} (h : a ∉ mks l) : mdl l a = l := by
 unfold mdl
 rw [List.filter_eq_self]
 intro p hp
 have : a ≠ p.1 := fun e => h (e ▸ List.mem_map.2 ⟨p, hp, rfl⟩)
 simp [this]
theorem cntV_nil (u : Vtx) : cntV u [] = 0 := by simp [cntV]
theorem inN_cons (p : Vtx × NodeP) (N : List (Vtx × NodeP)) (u : Vtx) : inN (p :: N) u = cntV u p.2.next + inN N u := by
 unfold inN tgts
 rw [List.flatMap_cons, cntV_app]
theorem inN_nonneg (N : List (Vtx × NodeP)) (u : Vtx) : 0 <= inN N u := (cntV_le u _).1
theorem inN_mdl {N : List (Vtx × NodeP)} (h : (mks N).Nodup) {v : Vtx} {n : NodeP} (hv : (v, n) ∈ N) (u : Vtx) : inN N u = inN (mdl N v) u + cntV u n.next := by
 induction N with
 | nil => cases hv
 | cons p N ih =>
  have hn : (p.1 :: mks N).Nodup := h
  obtain ⟨h1, h2⟩ := List.nodup_cons.1 hn
  rcases List.mem_cons.1 hv with rfl | hv
  ·have : mdl ((v, n) :: N) v = N := by
    have e := mdl_out (l := N) h1
    unfold mdl at e ⊢
    rw [List.filter_cons]
    simp only [decide_true, Bool.not_true, Bool.false_eq_true, if_false]
    exact e
   rw [this, inN_cons]
   show cntV u n.next + inN N u = _
   omega
  have hne : v ≠ p.1 := fun e => h1 (e ▸ List.mem_map.2 ⟨_, hv, rfl⟩)
  have : mdl (p :: N) v = p :: mdl N v := by
   unfold mdl
   rw [List.filter_cons]
   simp [hne]
  rw [this, inN_cons, inN_cons, ih h2 hv]
  omega
theorem inN_pos {N : List (Vtx × NodeP)} {u : Vtx} : 0 < inN N u ↔ ∃ p ∈ N, u ∈ p.2.next := by
 unfold inN cntV tgts
 rw [show (0 : Int) < ((List.count u (List.flatMap (fun p => p.2.next) N) : Nat) : Int) ↔ 0 < List.count u (List.flatMap (fun p => p.2.next) N) by omega, List.count_pos_iff, List.mem_flatMap]
structure Kahn (lt : Vtx -> Vtx -> Bool) (N rem : List (Vtx × NodeP)) (q : List Vtx) (cnt : Vtx -> Int) (out pend : List Vtx) : Prop where
 nn : (mks N).Nodup
 nd : (mks rem).Nodup
 sub : ∀ p ∈ rem, p ∈ N
 ct : ∀ u, cnt u = inN rem u + cntV u pend
 qn : q.Nodup
 qm : ∀ u, u ∈ q ↔ u ∈ mks rem /\ cnt u = 0
 topo : ∀ L, Topo lt (EG N) (mks rem) L -> Topo lt (EG N) (mks N) (out ++ L)
 zero : ∀ u ∈ out, cnt u = 0
 key : ∀ u ∈ mks N, u ∈ out ∨ u ∈ mks rem
variable {lt : Vtx -> Vtx -> Bool} {N rem : List (Vtx × NodeP)} {q out pend : List Vtx} {cnt : Vtx -> Int} {w : Vtx}
theorem Kahn.free (K : Kahn lt N rem q cnt out pend) (u : Vtx) : Free (EG N) (mks rem) u ↔ inN rem u = 0 := by
 constructor
 ·intro h
  have := inN_nonneg rem u
  refine Classical.byContradiction fun hne => ?_
  obtain ⟨p, hp, hu⟩ := inN_pos.1 (show 0 < inN rem u by omega)
  refine h (p.1, u) ?_ rfl (List.mem_map.2 ⟨p, hp, rfl⟩)
  unfold EG
  exact List.mem_flatMap.2 ⟨p, K.sub p hp, List.mem_map.2 ⟨u, hu, rfl⟩⟩
 intro h e he heu hm
 obtain ⟨p, hp, hpe⟩ := List.mem_map.1 hm
 obtain ⟨p', hp', w, hw, rfl⟩ : ∃ p' ∈ N, ∃ w, w ∈ p'.2.next /\ (p'.1, w) = e := by
  unfold EG at he
  obtain ⟨p', h1, h2⟩ := List.mem_flatMap.1 he
  obtain ⟨w, h3, h4⟩ := List.mem_map.1 h2
  exact ⟨p', h1, w, h3, h4⟩
 have hpp : p = p' := by
  have h1 := (mgt_mem K.nn).2 (show (p.1, p.2) ∈ N from K.sub p hp)
  have h2 := (mgt_mem K.nn).2 (show (p'.1, p'.2) ∈ N from hp')
  rw [show p.1 = p'.1 from hpe, h2] at h1
  exact Prod.ext hpe (Option.some.inj h1).symm
 subst hpp
 have : 0 < inN rem u := inN_pos.2 ⟨p, hp, heu ▸ hw⟩
 omega
theorem Kahn.pop (K : Kahn lt N rem q cnt out []) {v : Vtx} {n : NodeP} {q' : List Vtx} (hq : (v :: q').Perm q) (hmin : ∀ x ∈ q, lt x v = false) (hv : (v, n) ∈ N) :
  Kahn lt N (mdl rem v) q' cnt (out ++ [v]) n.next := by
 obtain ⟨hvr, hv0⟩ := (K.qm v).1 (hq.mem_iff.1 (by simp))
 obtain ⟨p, hp, hpv⟩ := List.mem_map.1 hvr
 have hvn : (v, n) ∈ rem := by
  have h1 := (mgt_mem K.nn).2 (show (p.1, p.2) ∈ N from K.sub p hp)
  have h2 := (mgt_mem K.nn).2 hv
  rw [hpv, h2] at h1
  have : p = (v, n) := Prod.ext hpv (Option.some.inj h1).symm
  exact this ▸ hp
 have hc : ∀ u, cnt u = inN (mdl rem v) u + cntV u n.next := fun u => by
  rw [K.ct, cntV_nil, inN_mdl K.nd hvn]; omega
 have hmk := mks_mdl_erase K.nd v
 have hqn : (v :: q').Nodup := hq.nodup_iff.2 K.qn
 refine ⟨K.nn, mdl_nodup K.nd v, fun p hp => K.sub p (List.mem_filter.1 hp).1, hc, (List.nodup_cons.1 hqn).2, fun u => ?_, fun L hL => ?_, fun u hu => ?_, fun u hu => ?_⟩
 ·rw [hmk, K.nd.mem_erase_iff]
  constructor
  ·intro hu
   have h1 := (K.qm u).1 (hq.mem_iff.1 (List.mem_cons_of_mem _ hu))
   exact ⟨⟨fun e => (List.nodup_cons.1 hqn).1 (e ▸ hu), h1.1⟩, h1.2⟩
  rintro ⟨⟨h1, h2⟩, h3⟩
  have := hq.mem_iff.2 ((K.qm u).2 ⟨h2, h3⟩)
  rcases List.mem_cons.1 this with h | h
  ·exact absurd h h1
  exact h
 ·rw [List.append_assoc]
  refine K.topo _ (.cons hvr ((K.free v).2 ?_) (fun u hu hf => ?_) (by rw [mks_mdl_erase' K.nd v] at hL; exact hL))
  ·have := K.ct v; rw [cntV_nil] at this; omega
  refine hmin u ((K.qm u).2 ⟨hu, ?_⟩)
  have := (K.free u).1 hf
  have h2 := K.ct u; rw [cntV_nil] at h2; omega
 ·rcases List.mem_append.1 hu with h | h
  ·exact K.zero u h
  rw [List.mem_singleton.1 h]; exact hv0
 rcases K.key u hu with h | h
 ·exact .inl (List.mem_append_left _ h)
 by_cases e : u = v
 ·exact .inl (List.mem_append_right _ (by simp [e]))
 exact .inr (by rw [hmk, K.nd.mem_erase_iff]; exact ⟨e, h⟩)
theorem cntV_hd (u w : Vtx) (l : List Vtx) : cntV u (w :: l) = cntV u l + if u = w then 1 else 0 := by
 rw [cntV_cons]
 by_cases h : w = u
 ·rw [if_pos h, if_pos h.symm]
 rw [if_neg h, if_neg (fun e => h e.symm)]
theorem Kahn.dec (K : Kahn lt N rem q cnt out (w :: pend)) {cnt' : Vtx -> Int} (hc : ∀ u, cnt' u = if u = w then cnt w - 1 else cnt u) {q' : List Vtx}
  (hq : if w ∈ mks N /\ cnt w = 1 then q'.Perm (w :: q) else q' = q) : Kahn lt N rem q' cnt' out pend := by
 have hw1 : 1 <= cnt w := by
  have := K.ct w
  rw [cntV_hd, if_pos rfl] at this
  have h1 := inN_nonneg rem w
  have h2 := (cntV_le w pend).1
  omega
 have hwo : w ∉ out := fun h => by have := K.zero w h; omega
 have hwq : w ∉ q := fun h => by have := ((K.qm w).1 h).2; omega
 have hcnt : ∀ u, cnt' u = inN rem u + cntV u pend := fun u => by
  rw [hc]
  have := K.ct u
  rw [cntV_hd] at this
  by_cases e : u = w
  ·subst e; rw [if_pos rfl] at this ⊢; omega
  rw [if_neg e] at this ⊢; omega
 have hz : ∀ u, u ≠ w -> cnt' u = cnt u := fun u hu => by rw [hc, if_neg hu]
 refine ⟨K.nn, K.nd, K.sub, hcnt, ?_, fun u => ?_, K.topo, fun u hu => ?_, K.key⟩
 ·split at hq
  ·exact hq.nodup_iff.2 (List.nodup_cons.2 ⟨hwq, K.qn⟩)
  rw [hq]; exact K.qn
 ·by_cases e : u = w
  ·subst e
   have h1 : cnt' u = cnt u - 1 := by rw [hc, if_pos rfl]
   split at hq
   ·rename_i hh
    constructor
    ·intro _
     exact ⟨(K.key u hh.1).resolve_left hwo, by omega⟩
    intro _; exact hq.mem_iff.2 (by simp)
   rename_i hh
   rw [hq]
   constructor
   ·intro h; exact absurd h hwq
   rintro ⟨h2, h3⟩
   refine absurd ⟨?_, by omega⟩ hh
   obtain ⟨p, hp, rfl⟩ := List.mem_map.1 h2
   exact List.mem_map.2 ⟨p, K.sub p hp, rfl⟩
  rw [hz u e, <- K.qm u]
  split at hq
  ·rw [hq.mem_iff]; simp [e]
  rw [hq]
 have : u ≠ w := fun e => hwo (e ▸ hu)
 rw [hz u this]; exact K.zero u hu
theorem Kahn.fin (K : Kahn lt N rem [] cnt out []) : Topo lt (EG N) (mks N) out := by
 have := K.topo [] (.nil fun v hv hf => ?_)
 ·simpa using this
 have h1 := (K.free v).1 hf
 have h2 := K.ct v
 rw [cntV_nil] at h2
 exact absurd ((K.qm v).2 ⟨hv, by omega⟩) (by simp)
end Go.GP

namespace Go.Proofs.Gr
open Go.SL Go.RowKit Go.Proofs Go.GP Go.HP
theorem cb_cons (a b : UInt8) (l r : List UInt8) : Lib.compareBytes (a :: l) (b :: r) = if a.toNat < b.toNat then -1 else if b.toNat < a.toNat then 1 else Lib.compareBytes l r := by
 show (if a < b then (-1 : Int) else if b < a then 1 else Lib.compareBytes l r) = _
 simp only [UInt8.lt_iff_toNat_lt]
theorem cb_neg : ∀ a b : List UInt8, Lib.compareBytes b a = -Lib.compareBytes a b
 | [], [] => rfl
 | [], _ :: _ => rfl
 | _ :: _, [] => rfl
 | a :: l, b :: r => by
  rw [cb_cons, cb_cons, cb_neg l r]
  split <;> split <;> (try split) <;> omega
theorem cb_eq : ∀ {a b : List UInt8}, Lib.compareBytes a b = 0 -> a = b
 | [], [], _ => rfl
 | [], _ :: _, h => by simp [Lib.compareBytes] at h
 | _ :: _, [], h => by simp [Lib.compareBytes] at h
 | a :: l, b :: r, h => by
  rw [cb_cons] at h
  split at h
  ·omega
  split at h
  ·omega
  rw [cb_eq h, UInt8.toNat_inj.1 (show a.toNat = b.toNat by omega)]
theorem cb_trans : ∀ {a b c : List UInt8}, Lib.compareBytes a b <= 0 -> Lib.compareBytes b c <= 0 -> Lib.compareBytes a c <= 0 /\ (Lib.compareBytes a c = 0 -> Lib.compareBytes a b = 0 /\ Lib.compareBytes b c = 0)
 | [], [], [], _, _ => by decide
 | [], [], _ :: _, _, _ => by simp [Lib.compareBytes]
 | [], _ :: _, [], _, h => by simp [Lib.compareBytes] at h
 | [], _ :: _, _ :: _, _, _ => by simp [Lib.compareBytes]
 | _ :: _, [], _, h, _ => by simp [Lib.compareBytes] at h
 | _ :: _, _ :: _, [], _, h => by simp [Lib.compareBytes] at h
 | a :: l, b :: r, c :: s, h1, h2 => by
  rw [cb_cons] at h1 h2 ⊢
  rw [cb_cons, cb_cons]
  by_cases x1 : a.toNat < b.toNat
  ·by_cases x2 : b.toNat < c.toNat
   ·rw [if_pos (show a.toNat < c.toNat by omega)]; omega
   rw [if_neg x2] at h2
   by_cases x3 : c.toNat < b.toNat
   ·rw [if_pos x3] at h2; omega
   rw [if_pos (show a.toNat < c.toNat by omega)]; omega
  rw [if_neg x1] at h1
  by_cases x4 : b.toNat < a.toNat
  ·rw [if_pos x4] at h1; omega
  rw [if_neg x4] at h1
  by_cases x2 : b.toNat < c.toNat
  ·rw [if_pos (show a.toNat < c.toNat by omega)]; omega
  rw [if_neg x2] at h2
  by_cases x3 : c.toNat < b.toNat
  ·rw [if_pos x3] at h2; omega
  rw [if_neg x3] at h2
  rw [if_neg (show ¬ a.toNat < c.toNat by omega), if_neg (show ¬ c.toNat < a.toNat by omega), if_neg x1, if_neg x4, if_neg x2, if_neg x3]
  exact cb_trans h1 h2
theorem ordV_def (a b : Vtx) : ordV a b = if Lib.compareBytes a.1.1 b.1.1 ≠ 0 then Lib.compareBytes a.1.1 b.1.1 else cmpI a.2 b.2 := by
 unfold ordV orL orL orL
 by_cases h : Lib.compareBytes a.1.1 b.1.1 ≠ 0
 ·rw [if_pos h, if_pos h]
 rw [if_neg h, if_neg h]
 by_cases h2 : cmpI a.2 b.2 ≠ 0
 ·rw [if_pos h2]
 rw [if_neg h2]; omega
theorem ordV_neg (a b : Vtx) : ordV b a = -ordV a b := by
 rw [ordV_def, ordV_def, cb_neg]
 have : cmpI b.2 a.2 = -cmpI a.2 b.2 := by unfold cmpI; split <;> split <;> (try split) <;> omega
 rw [this]
 split <;> split <;> omega
theorem ordV_eq {a b : Vtx} (h : ordV a b = 0) : a = b := by
  rw [ordV_def] at h
  split at h
  · omega
  rename_i h1
  have e1 := cb_eq (Classical.not_not.1 h1)
  have e2 : a.2 = b.2 := by unfold cmpI at h; split at h; · omega
                            split at h <;> omega
  exact Prod.ext (Subtype.ext e1) e2
theorem ordV_trans {a b c : Vtx} (h1 : ordV a b <= 0) (h2 : ordV b c <= 0) : ordV a c <= 0 := by
 rw [ordV_def] at h1 h2 ⊢
 have k1 : Lib.compareBytes a.1.1 b.1.1 <= 0 := by split at h1 <;> omega
 have k2 : Lib.compareBytes b.1.1 c.1.1 <= 0 := by split at h2 <;> omega
 obtain ⟨k3, k4⟩ := cb_trans k1 k2
 split
 ·exact k3
 rename_i h3
 obtain ⟨e1, e2⟩ := k4 (Classical.not_not.1 h3)
 rw [if_neg (by rw [e1]; simp)] at h1
 rw [if_neg (by rw [e2]; simp)] at h2
 unfold cmpI at h1 h2 ⊢
 split at h1 <;> split at h2 <;> (try split at h1) <;> (try split at h2) <;> split <;> (try split) <;> omega
theorem ltV_ord : Ord ltV where
 asymm := fun a b h => by
  unfold ltV at h ⊢
  have := ordV_neg a b
  simp only [decide_eq_true_eq, decide_eq_false_iff_not] at h ⊢
  omega
 trans := fun a b c h1 h2 => by
  unfold ltV at h1 h2 ⊢
  simp only [decide_eq_false_iff_not] at h1 h2 ⊢
  have e1 := ordV_neg a b
  have e2 := ordV_neg b c
  have e3 := ordV_neg a c
  have := ordV_trans (a := a) (b := b) (c := c) (by omega) (by omega)
  omega
theorem ltV_tot (a b : Vtx) (h1 : ltV a b = false) (h2 : ltV b a = false) : a = b := by
 unfold ltV at h1 h2
 simp only [decide_eq_false_iff_not] at h1 h2
 have := ordV_neg a b
 exact ordV_eq (by omega)
end Go.Proofs.Gr

namespace Go.Proofs.Gr
open Go.SL Go.RowKit Go.Proofs Go.GP
set_option maxHeartbeats 1000000
open Go.HP
structure LineP where
 v : Vtx
 text : ByteArray
 alive : Bool
def lineC (l : LineP) : List Value := vtxL l.v ++ [.string l.text, .bool l.alive]
def lines (l : List LineP) : List Value := l.flatMap lineC
theorem lineC_len (l : LineP) : (lineC l).length = 35 := by simp [lineC, vtxL_len]
theorem lines_len (l : List LineP) : (lines l).length = l.length * 35 := by unfold lines; rw [List.length_flatMap]; simp [lineC_len, List.map_const']
theorem lineC_one (l : LineP) : (lineC l).all (·.oneCell') = true := by rw [lineC, List.all_append, vtxL_one]; rfl
theorem lines_snoc (l : List LineP) (x : LineP) : lines (l ++ [x]) = lines l ++ lineC x := by unfold lines; simp
def z35 : List Value := z33 ++ [.string ⟨#[]⟩, .bool false]
theorem fill_line {T : TT} {v : Vtx} {s : ByteArray} {al : Bool} {a b c : Nat} (h1 : Go.SL.look T a = some (vtxV v)) (h2 : Go.SL.look T b = some (.string s)) (h3 : Go.SL.look T c = some (.bool al)) : fillP T z35 [(0, 33, .t a), (33, 1, .t b), (34, 1, .t c)] = some (lineC ⟨v, s, al⟩) := by
 have hv := vtxL_len v
 have e0 : (vtxV v).cells.size = 33 := (List.size_toArray).trans hv
 have f1 : setAt z35 0 (vtxL v) = vtxL v ++ [.string ⟨#[]⟩, .bool false] := by
  rw [setAt_eq _ _ _ (by rw [hv]; decide), hv]
  rfl
 have f2 : setAt (vtxL v ++ [Value.string ⟨#[]⟩, .bool false]) 33 [.string s] = vtxL v ++ [.string s, .bool false] := by
  rw [setAt_eq _ _ _ (by simp [hv]), List.take_append_of_le_length (by omega), List.take_of_length_le (by omega), List.drop_append, List.drop_eq_nil_of_le (by simp [hv])]
  simp [hv]
 have f3 : setAt (vtxL v ++ [Value.string s, .bool false]) 34 [.bool al] = vtxL v ++ [.string s, .bool al] := by
  rw [setAt_eq _ _ _ (by simp [hv]), List.take_append, List.take_of_length_le (by omega)]
  simp [hv]
 simp only [fillP, PV.val, h1, h2, h3]
 rw [if_pos ⟨e0, by decide⟩]
 rw [show (vtxV v).cells.toList = vtxL v from rfl, f1, if_pos ⟨rfl, by simp [hv]⟩, show (Value.string s).cells.toList = [.string s] from rfl, f2, if_pos ⟨rfl, by simp [hv]⟩, show (Value.bool al).cells.toList = [.bool al] from rfl]
 exact congrArg some f3
def lineOf (N : List (Vtx × NodeP)) (v : Vtx) : LineP := ⟨v, (nd N v).text, decide ((nd N v).gone = 0)⟩
theorem filter_snoc (A : List (Vtx × NodeM)) (p : Vtx × NodeM) (f : Vtx -> Bool) : (mks (A ++ [p])).filter f = (mks A).filter f ++ (if f p.1 then [p.1] else []) := by
 unfold mks
 rw [List.map_append, List.filter_append]
 congr 1
 simp only [List.map_cons, List.map_nil, List.filter_cons, List.filter_nil]
end Go.Proofs.Gr

namespace Go.Proofs.Gr
open Go.SL Go.RowKit Go.Proofs Go.GP
set_option maxHeartbeats 1000000
open Go.HP
theorem kahn_start {w0 : World} {X : SS} {m : GrM} (hm : GOk w0 X m) {left : List (Vtx × Int)} {q : List Vtx} {done : List (Vtx × NodeM)} (hd : done.Perm m.nodes) (hlv : ∀ u, lv left u = inN m.gr.nodes u) (hq : q.Perm ((mks done).filter fun u => decide (lv left u = 0))) :
  Kahn ltV m.gr.nodes m.gr.nodes q (lv left) [] [] := by
 have hk : mks m.gr.nodes = mks m.nodes := mks_plN _
 have hn : (mks m.gr.nodes).Nodup := by rw [hk]; exact hm.nkd
 have hdk : (mks done).Perm (mks m.nodes) := hd.map _
 refine ⟨hn, hn, fun p hp => hp, fun u => by rw [hlv, cntV_nil]; omega, hq.nodup_iff.2 ((hdk.nodup_iff.2 hm.nkd).filter _), fun u => ?_, fun L hL => by simpa using hL, fun u hu => by simp at hu, fun u hu => .inr hu⟩
 rw [hq.mem_iff, List.mem_filter, hdk.mem_iff, hk]
 simp
theorem nd_mem {w0 : World} {X : SS} {m : GrM} (hm : GOk w0 X m) {v : Vtx} (hv : v ∈ mks m.nodes) : (v, ((mgt m.nodes v).getD zM).pl) ∈ m.gr.nodes /\ nd m.gr.nodes v = ((mgt m.nodes v).getD zM).pl := by
 obtain ⟨n, hn⟩ := mem_mks.1 hv
 refine ⟨?_, nd_plN _ _⟩
 rw [hn]
 exact List.mem_map.2 ⟨(v, n), mgt_some_mem hn, rfl⟩
theorem nodup_le : ∀ {l l' : List Vtx}, l.Nodup -> (∀ x ∈ l, x ∈ l') -> l.length <= l'.length
 | [], l', _, _ => by simp
 | a :: l, l', hn, h => by
  obtain ⟨h1, h2⟩ := List.nodup_cons.1 hn
  have ha : a ∈ l' := h a (by simp)
  have := nodup_le (l := l) (l' := l'.erase a) h2 (fun x hx => by
   have hne : x ≠ a := fun e => h1 (e ▸ hx)
   exact (List.mem_erase_of_ne hne).2 (h x (by simp [hx])))
  rw [List.length_erase_of_mem ha] at this
  have hp : 0 < l'.length := List.length_pos_of_mem ha
  simp only [List.length_cons]
  omega
theorem kahn_qlen {lt : Vtx -> Vtx -> Bool} {N rem : List (Vtx × NodeP)} {q out pend : List Vtx} {cnt : Vtx -> Int} (K : Kahn lt N rem q cnt out pend) : q.length <= N.length := by
 have := nodup_le (l' := mks N) K.qn (fun x hx => by
  obtain ⟨p, hp, rfl⟩ := List.mem_map.1 ((K.qm x).1 hx).1
  exact List.mem_map.2 ⟨p, K.sub p hp, rfl⟩)
 unfold mks at this
 rwa [List.length_map] at this
theorem kahn_one {lt : Vtx -> Vtx -> Bool} {N rem : List (Vtx × NodeP)} {q out pend : List Vtx} {cnt : Vtx -> Int} {w : Vtx} (K : Kahn lt N rem q cnt out (w :: pend)) : 1 <= cnt w := by
 have := K.ct w
 rw [cntV_hd, if_pos rfl] at this
 have h1 := inN_nonneg rem w
 have h2 := (cntV_le w pend).1
 omega
theorem rem_len {N : List (Vtx × NodeP)} {v : Vtx} (hn : (mks N).Nodup) (hv : v ∈ mks N) : (mdl N v).length + 1 = N.length := by
 have h := mks_mdl_erase hn v
 have := congrArg List.length h
 rw [List.length_erase_of_mem hv] at this
 have hp : 0 < (mks N).length := List.length_pos_of_mem hv
 unfold mks at this hp
 simp only [List.length_map] at this hp
 omega
theorem lines_fc {w0 : World} {S X : SS} {m : GrM} (hm : GOk w0 X m) (hX : Over X S) (hE : (EG m.gr.nodes).length <= 1000000000) (hN : m.nodes.length <= 1000000000) (hT : ∀ e ∈ EG m.gr.nodes, e.2 ∈ mks m.nodes ∨ e.2 = endV) (hend : endV ∉ mks m.nodes) :
  FC Try.prog w0 17 [m.ptr] (GS m ++ S) (fun v S' => ∃ seg out, S' = seg :: (GS m ++ S) /\ Topo ltV (EG m.gr.nodes) (mks m.gr.nodes) out /\ SlV 43 35 v out.length (lines (out.map (lineOf m.gr.nodes))) seg) := by
 have hS : Over (GS m ++ X) (GS m ++ S) := Over.both hX
 obtain ⟨z, hz1, hz2⟩ := zero3
 obtain ⟨y, hy1, hy2⟩ := zero100
 have hml := hm.lim
 have hb00 : ∀ u, inN m.gr.nodes u <= 1000000000 := fun u => by unfold inN; have := (cntV_le u (tgts m.gr.nodes)).2; rw [tgts_len] at this; omega
 refine FC.ofD Try.known17 (by simp) ?_
 unfold Try.pc17
 simp only [argT]
 refine PW.seqOps ?_
 refine OL.dp rfl ?_
 refine OL.nil ?_
 refine PW.k2 0 2 rfl rfl ?_
 refine PW.seq fun K1 hK1 => ?_
 refine PW.seqOps ?_
 refine OL.dp rfl ?_
 refine OL.call trivial rfl (is_fc hS) ?_
 rintro _ Sx ⟨rfl, hSx⟩
 rw [hSx]
 clear hSx
 refine OL.dp rfl ?_
 refine OL.nil ?_
 refine PW.k3 0 2 13 rfl rfl rfl ?_
 refine PW.ite (b := false) rfl ?_
 rw [if_neg Bool.false_ne_true]
 refine PW.skip ?_
 refine hK1 _ _ ?_
 refine PW.k2 0 2 rfl rfl ?_
 refine PW.seqOps ?_
 refine OL.dp rfl ?_
 refine OL.call trivial rfl (ahead_fc hm hX hE) ?_
 rintro _ _ ⟨ra, left, rfl, rfl, hlk, hlv⟩
 have hb0 : ∀ u, lv left u <= 1000000000 := fun u => by rw [hlv]; exact hb00 u
 refine OL.dp rfl ?_
 refine OL.nil ?_
 refine PW.k3 0 2 3 rfl rfl rfl ?_
 refine PW.seqOps ?_
 refine OL.cons trivial OW.bsl0 ?_
 rintro _ _ ⟨r16, rfl, rfl⟩
 refine OL.cons trivial (OW.bx rfl) ?_
 rintro _ _ ⟨r17, rfl, rfl⟩
 change OL _ _ _ _ _ (wseg r17 (.slice (some ⟨r16, 0, none⟩) 0 0) :: [(r16, .cells [] 32 0)] :: [(ra, .gm (gmL vtxV intV left))] :: (GS m ++ S)) _
 have hs0 : SlV 32 33 (.slice (some ⟨r16, 0, none⟩) 0 0) ([] : List Vtx).length (vtxs []) [(r16, .cells [] 32 0)] := SlV.mk' (cap := 0) rfl (Nat.le_refl 0) (by decide)
 obtain ⟨vq, hvq⟩ : ∃ z : Value, z = .slice (some ⟨r16, 0, none⟩) 0 0 := ⟨_, rfl⟩
 obtain ⟨sgq, hsgq⟩ : ∃ z : Seg, z = [(r16, .cells [] 32 0)] := ⟨_, rfl⟩
 rw [<- hvq, <- hsgq] at hs0 ⊢
 refine OL.dp rfl ?_
 refine OL.nil ?_
 refine PW.k4 0 2 3 4 rfl rfl rfl rfl ?_
 refine PW.seq fun K2 hK2 => ?_
 refine PW.seqOps ?_
 refine OL.dp rfl ?_
 refine OL.det trivial (Yields.nilc rfl) ?_
 refine OL.dp rfl ?_
 refine OL.det trivial (.ld rfl (g_nodes hS.cons.cons.cons)) ?_
 refine OL.cons trivial (OW.rngG (j := 5) (l := m.nodes) Try.underlying55 rfl rfl) ?_
 rintro _ _ ⟨ri, en, clk, rfl, hopen, hit0, rfl⟩
 change OL _ _ _ _ _ ([(ri, .obj (.mapIter (some m.nb) clk #[] clk))] :: wseg r17 vq :: sgq :: [(ra, .gm (gmL vtxV intV left))] :: (GO m en clk ++ S)) _
 refine OL.subS (S' := wseg r17 vq :: sgq :: [(ri, .obj (.mapIter (some m.nb) clk #[] clk))] :: [(ra, .gm (gmL vtxV intV left))] :: (GO m en clk ++ S)) (Sub.sel [1, 2, 0] 3 (by decide) ([(ri, .obj (.mapIter (some m.nb) clk #[] clk))] :: wseg r17 vq :: sgq :: [(ra, .gm (gmL vtxV intV left))] :: (GO m en clk ++ S))) ?_
 refine OL.nil ?_
 refine PW.k5 0 2 3 4 22 rfl rfl rfl rfl rfl ?_
 refine PW.block ?_
 refine PW.k5 0 2 3 4 22 rfl rfl rfl rfl rfl ?_
 refine PW.loopK (I := fun mm T S' => ∃ (seen : Array Nat) (done rest : List (Vtx × NodeM)) (q : List Vtx) (vq : Value) (sgq : Seg), (It vtxV nodeV en seen m.nodes done rest /\ SlV 32 33 vq q.length (vtxs q) sgq /\ Hp ltV q q.length /\ q.Perm ((mks done).filter fun u => decide (lv left u = 0)) /\ mm = rest.length) /\ T = ([(0, m.ptr), (2, .slice none 0 0), (3, .map (some ra)), (4, .pointer (some ⟨r17, 0, none⟩)), (22, .pointer (some ⟨ri, 0, none⟩))] : TT) /\ S' = wseg r17 vq :: sgq :: [(ri, .obj (.mapIter (some m.nb) clk seen clk))] :: [(ra, .gm (gmL vtxV intV left))] :: (GO m en clk ++ S)) (m := m.nodes.length) ⟨#[], [], m.nodes, [], vq, sgq, ⟨hit0, hs0, (fun k h0 hk => by simp at hk), .nil, rfl⟩, rfl, rfl⟩ ?_
 rintro mm _ _ ⟨seen, done, rest, q, vq, sgq, ⟨hit, hsq, hhp, hqp, hmm⟩, rfl, rfl⟩
 have hql : q.length <= done.length := by have h1 := hqp.length_eq; have h2 := List.length_filter_le (fun u => decide (lv left u = 0)) (mks done); unfold mks at h1 h2; rw [List.length_map] at h2; omega
 refine PW.seqOps ?_
 refine OL.cons trivial (OW.nxtG (j := 2) (b := m.nb) (l := m.nodes) (done := done) (rest := rest) rfl rfl (GO_n (en := en) (clk := clk) (Over.app (b := S)).cons.cons.cons.cons) hopen hit) ?_
 refine fun v S' h => Or.elim h.symm ?_ ?_
 ·skip
  rintro ⟨ii, p, qq, hri, rfl, hit2, rfl⟩
  refine OL.det trivial (.pure rfl) ?_
  refine OL.nil ?_
  refine PW.k6 0 2 3 4 22 24 rfl rfl rfl rfl rfl rfl ?_
  refine PW.seq fun K3 hK3 => ?_
  refine PW.ite (b := true) rfl ?_
  rw [if_pos rfl]
  refine PW.skip ?_
  refine hK3 _ _ ?_
  refine PW.k5 0 2 3 4 22 rfl rfl rfl rfl rfl ?_
  refine PW.block ?_
  refine PW.seqOps ?_
  refine OL.det trivial (Yields.entG (b := m.nb) rfl (List.mem_flatten.2 ⟨_, .tail _ (.tail _ (.head _)), List.mem_singleton.2 rfl⟩) (GO_n (en := en) (clk := clk) (Over.app (b := S)).cons.cons.cons.cons) hopen hit2) ?_
  refine OL.dp rfl ?_
  refine OL.cons trivial OW.al ?_
  rintro _ _ ⟨r5, rfl, rfl⟩
  refine OL.cons trivial (vtx_st rfl rfl rfl) ?_
  rintro _ _ rfl
  obtain ⟨v, n0⟩ := p
  have hpm := done_get hm hit.perm hri
  have hov : okV v := hm.nk _ hpm
  have hdl : done.length <= m.nodes.length := by have := hit.perm.length_eq; rw [List.length_append] at this; omega
  change OL _ _ _ _ _ (vseg r5 v :: wseg r17 vq :: sgq :: [(ri, .obj (.mapIter (some m.nb) clk (seen.push qq) clk))] :: [(ra, .gm (gmL vtxV intV left))] :: (GO m en clk ++ S)) _
  refine OL.nil ?_
  refine PW.k6 0 2 3 4 5 22 rfl rfl rfl rfl rfl rfl ?_
  refine PW.seqOps ?_
  refine OL.dp rfl ?_
  refine OL.det trivial (.ldA rfl (vtxL_len _) (all_at (List.mem_flatten.2 ⟨_, .head _, List.mem_singleton.2 rfl⟩))) ?_
  refine OL.det trivial (.lookG (okc := false) (a := v) Try.underlying107 hz1 hz2 keys32 hlk hov rfl rfl (List.mem_flatten.2 ⟨_, .tail _ (.tail _ (.tail _ (.tail _ (.head _)))), List.mem_singleton.2 rfl⟩)) ?_
  refine OL.dp rfl ?_
  refine OL.nil ?_
  refine PW.k7 0 2 3 4 5 22 30 rfl rfl rfl rfl rfl rfl rfl ?_
  refine PW.cond rfl (fun c30 => ?_) (fun c30 => ?_)
  ·try simp only [cvS] at c30
   have hz0 : lv left v = 0 := c30
   refine PW.subS (S' := wseg r17 vq :: sgq :: vseg r5 v :: [(ri, .obj (.mapIter (some m.nb) clk (seen.push qq) clk))] :: [(ra, .gm (gmL vtxV intV left))] :: (GO m en clk ++ S)) (Sub.sel [1, 2, 0] 3 (by decide) (vseg r5 v :: wseg r17 vq :: sgq :: [(ri, .obj (.mapIter (some m.nb) clk (seen.push qq) clk))] :: [(ra, .gm (gmL vtxV intV left))] :: (GO m en clk ++ S))) ?_
   refine PW.ops ?_
   refine OL.dp rfl ?_
   refine OL.det trivial (Yields.mkI rfl) ?_
   refine OL.det trivial (.ldA rfl (vtxL_len _) (all_at (c := vtxL v) (E := 32) (tot := 33) (List.mem_flatten.2 ⟨_, .tail _ (.tail _ (.head _)), List.mem_singleton.2 rfl⟩))) ?_
   refine OL.det trivial (Yields.mkI rfl) ?_
   refine OL.call trivial rfl (hpush_fc (x := v) hsq (by omega)) ?_
   rintro _ _ ⟨rfl, v35, sg35, rfl, hs35⟩
   refine OL.nil ?_
   repeat rw [inBlk_n]
   try rw [thenK_n]
   refine LoopEnd.mkS (Sub.sel [0, 1] 3 (by decide) _) (T'' := [(0, _), (2, _), (3, _), (4, _), (22, _)]) ⟨rfl, rfl, rfl, rfl, rfl, trivial⟩ ?_
   have hil : ii < rest.length := (List.getElem?_eq_some_iff.1 hri).1
   obtain ⟨hp1, hp2⟩ := pushL_spec ltV_ord hhp v
   refine ⟨(rest.eraseIdx ii).length, by rw [List.length_eraseIdx, if_pos hil]; omega, seen.push qq, done ++ [(v, n0)], rest.eraseIdx ii, pushL ltV q v, v35, sg35, ⟨hit2, hs35, hp1, ?_, rfl⟩, rfl, rfl⟩
   rw [filter_snoc, if_pos (by simpa using hz0)]
   exact hp2.trans ((List.Perm.cons v hqp).trans (List.perm_append_singleton v _).symm)
  try simp only [cvS] at c30
  have hz0 : ¬ lv left v = 0 := c30
  refine PW.subS (S' := wseg r17 vq :: sgq :: vseg r5 v :: [(ri, .obj (.mapIter (some m.nb) clk (seen.push qq) clk))] :: [(ra, .gm (gmL vtxV intV left))] :: (GO m en clk ++ S)) (Sub.sel [1, 2, 0] 3 (by decide) (vseg r5 v :: wseg r17 vq :: sgq :: [(ri, .obj (.mapIter (some m.nb) clk (seen.push qq) clk))] :: [(ra, .gm (gmL vtxV intV left))] :: (GO m en clk ++ S))) ?_
  refine PW.skip ?_
  repeat rw [inBlk_n]
  try rw [thenK_n]
  refine LoopEnd.mkS (Sub.sel [0, 1] 3 (by decide) _) (T'' := [(0, _), (2, _), (3, _), (4, _), (22, _)]) ⟨rfl, rfl, rfl, rfl, rfl, trivial⟩ ?_
  have hil : ii < rest.length := (List.getElem?_eq_some_iff.1 hri).1
  refine ⟨(rest.eraseIdx ii).length, by rw [List.length_eraseIdx, if_pos hil]; omega, seen.push qq, done ++ [(v, n0)], rest.eraseIdx ii, q, vq, sgq, ⟨hit2, hsq, hhp, ?_, rfl⟩, rfl, rfl⟩
  rw [filter_snoc, if_neg (by simpa using hz0), List.append_nil]
  exact hqp
 skip
 rintro ⟨hr0, rfl, rfl⟩
 refine OL.tell (k := 6) rfl (fun w hw => hopen.close _ w hw) ?_
 refine OL.subS (S' := wseg r17 vq :: sgq :: [] :: [(ra, .gm (gmL vtxV intV left))] :: (GS m ++ S)) ((Sub.cons (Sub.cons (Sub.nilL (Sub.refl _)))).trans (Sub.sel [0, 1, 3] 4 (by decide) (wseg r17 vq :: sgq :: [(ri, .obj (.mapIter (some m.nb) clk seen clk))] :: [(ra, .gm (gmL vtxV intV left))] :: (GS m ++ S)))) ?_
 refine OL.det trivial (.pure rfl) ?_
 refine OL.nil ?_
 refine PW.k6 0 2 3 4 22 24 rfl rfl rfl rfl rfl rfl ?_
 refine PW.seq fun K4 hK4 => ?_
 refine PW.ite (b := false) rfl ?_
 rw [if_neg Bool.false_ne_true]
 refine PW.exit ?_
 refine hK2 _ _ ?_
 refine PW.k4 0 2 3 4 rfl rfl rfl rfl ?_
 refine PW.seq fun K5 hK5 => ?_
 refine PW.block ?_
 refine PW.k4 0 2 3 4 rfl rfl rfl rfl ?_
 refine PW.loopK (I := fun mm T S' => ∃ (q : List Vtx) (vq : Value) (sgq : Seg) (out : List Vtx) (vout : Value) (sgo : Seg) (left : List (Vtx × Int)) (rem : List (Vtx × NodeP)), (Kahn ltV m.gr.nodes rem q (lv left) out [] /\ Hp ltV q q.length /\ SlV 32 33 vq q.length (vtxs q) sgq /\ SlV 43 35 vout out.length (lines (out.map (lineOf m.gr.nodes))) sgo /\ (∀ q ∈ left, okV q.1) /\ (∀ u, lv left u <= 1000000000) /\ mm = rem.length /\ out.length + rem.length <= 1000000000) /\ T = ([(0, m.ptr), (2, vout), (3, .map (some ra)), (4, .pointer (some ⟨r17, 0, none⟩))] : TT) /\ S' = wseg r17 vq :: sgq :: sgo :: [(ra, .gm (gmL vtxV intV left))] :: (GS m ++ S)) (m := m.nodes.length) ⟨q, vq, sgq, [], _, [], left, m.gr.nodes, ⟨kahn_start hm (by have := hit.perm; rwa [hr0, List.append_nil] at this) hlv hqp, hhp, hsq, SlV.nil 43 35, hlk, hb0, (List.length_map _).symm, by rw [show m.gr.nodes.length = m.nodes.length from List.length_map _]; simpa using hN⟩, rfl, rfl⟩ ?_
 rintro mm _ _ ⟨q, vq, sgq, out, vout, sgo, left, rem, ⟨hK, hhp, hsq, hso, hlk, hb, hmm, hor⟩, rfl, rfl⟩
 obtain ⟨Aq, cq, rfl, -, -, -⟩ := slv_rdL (w0 := w0) hsq
 have hqb : q.length <= 1000000000 := by have := kahn_qlen hK; have e : m.gr.nodes.length = m.nodes.length := List.length_map _; omega
 refine PW.seq fun K6 hK6 => ?_
 refine PW.seqOps ?_
 refine OL.dp rfl ?_
 refine OL.det trivial (Yields.nilc rfl) ?_
 refine OL.det trivial (.ld rfl (own_at (j := 0) (c := [.slice Aq q.length cq]) (E := 110) (tot := 1) (List.mem_flatten.2 ⟨_, .head _, List.mem_singleton.2 rfl⟩) rfl)) ?_
 refine OL.call trivial rfl (wlen_fc) ?_
 rintro _ Sx ⟨rfl, hSx⟩
 rw [hSx]
 clear hSx
 refine OL.dp rfl ?_
 refine OL.nil ?_
 refine PW.k5 0 2 3 4 40 rfl rfl rfl rfl rfl ?_
 refine PW.cond rfl (fun c40 => ?_) (fun c40 => ?_)
 ·try simp only [cvS] at c40
  obtain ⟨rq, capq, eq0, rfl, hc1, hc2⟩ := slv_own hsq (by omega)
  simp only [Value.slice.injEq, true_and] at eq0
  obtain ⟨rfl, rfl⟩ := eq0
  obtain ⟨hp1, hp2, hp3, hp4, hp5⟩ := popL_spec ltV_ord hhp (by omega)
  refine PW.skip ?_
  refine hK6 _ _ ?_
  refine PW.k4 0 2 3 4 rfl rfl rfl rfl ?_
  refine PW.block ?_
  refine PW.seqOps ?_
  refine OL.dp rfl ?_
  refine OL.det trivial (Yields.mkI rfl) ?_
  refine OL.call trivial rfl (hpop_fc (q := q) (by omega) hc1 hc2 (by omega)) ?_
  rintro _ _ ⟨rfl, rfl⟩
  rw [hp3]
  obtain ⟨v, hv⟩ : ∃ z, z = q[0]! := ⟨_, rfl⟩
  rw [<- hv] at hp2 hp5 ⊢
  have hvq : v ∈ q := hp2.mem_iff.1 (by simp)
  have hvr := ((hK.qm v).1 hvq).1
  have hvk : v ∈ mks m.nodes := by
   obtain ⟨p, hp, rfl⟩ := List.mem_map.1 hvr
   rw [<- mks_plN]
   exact List.mem_map.2 ⟨p, hK.sub p hp, rfl⟩
  have hov : okV v := by
   obtain ⟨n, hn⟩ := mem_mks.1 hvk
   exact hm.nk _ (mgt_some_mem hn)
  have hmin : ∀ x ∈ q, ltV x v = false := by
   intro x hx
   rcases List.mem_cons.1 (hp2.mem_iff.2 hx) with rfl | h
   ·cases h : ltV x x with
    | false => rfl
    | true => have := ltV_ord.asymm x x h; rw [h] at this; cases this
   exact hp5 x h
  obtain ⟨hnm, hnd⟩ := nd_mem hm hvk
  have hK2 := hK.pop hp2 hmin hnm
  have hrl := rem_len hK.nd hvr
  have hs2 : SlV 32 33 (.slice (some ⟨rq, 0, none⟩) (q.length - 1) cq) (popL ltV q).length (vtxs (popL ltV q)) [(rq, .cells (vtxs (popL ltV q)) 32 (cq * 33))] := by
   have := SlV.mk' (E := 32) (sz := 33) (m := (popL ltV q).length) (cap := cq) (r := rq) (xs := vtxs (popL ltV q)) (vtxs_len _) (by omega) hc2
   rw [hp4] at this ⊢
   exact this
  refine OL.det trivial (Yields.tas (ok := true) rfl Try.underlying32 (by intro ms h; cases h)) ?_
  refine OL.dp rfl ?_
  refine OL.dp rfl ?_
  refine OL.dp rfl ?_
  refine OL.cons trivial OW.al ?_
  rintro _ _ ⟨r6, rfl, rfl⟩
  refine OL.cons trivial (vtx_st rfl rfl rfl) ?_
  rintro _ _ rfl
  refine OL.dp rfl ?_
  refine OL.nil ?_
  refine PW.k6 0 2 3 4 6 7 rfl rfl rfl rfl rfl rfl ?_
  refine PW.seq fun K7 hK7 => ?_
  refine PW.seqOps ?_
  refine OL.dp rfl ?_
  refine OL.dp rfl ?_
  refine OL.nil ?_
  refine PW.k6 0 2 3 4 6 49 rfl rfl rfl rfl rfl rfl ?_
  refine PW.ite (b := false) rfl ?_
  rw [if_neg Bool.false_ne_true]
  refine PW.skip ?_
  refine hK7 _ _ ?_
  refine PW.k5 0 2 3 4 6 rfl rfl rfl rfl rfl ?_
  refine PW.seq fun K8 hK8 => ?_
  refine PW.quietG (Ss := Over _) (fr := true) [(0, 0), (1, 0), (2, 0), (3, 0), (4, 0), (5, 0), (6, 3)] Try.mixed (by decide +kernel) (Over.refl _) (fun _ _ _ h => h.cons) ?_
  refine GL.dp rfl ?_
  refine GL.det trivial (fun Sx hSx => Yields.nilc rfl) ?_
  refine GL.dp rfl ?_
  refine GL.det trivial (fun Sx hSx => Yields.ld rfl (g_nodes (hS.cons.cons.cons.cons.cons.trans hSx))) ?_
  refine GL.det trivial (fun Sx hSx => Yields.ldA rfl (vtxL_len _) (all_at (c := vtxL v) (E := 32) (tot := 33) (hSx _ (List.mem_flatten.2 ⟨_, .head _, List.mem_singleton.2 rfl⟩)))) ?_
  refine GL.det trivial (fun Sx hSx => Yields.lookG (okc := false) (a := v) Try.underlying55 hy1 hy2 keys32 hm.nk hov rfl rfl (GS_mem (hS.cons.cons.cons.cons.cons.trans hSx)).2.2.1) ?_
  refine GL.fresh trivial fun r8 => ?_
  change OL _ _ _ _ _ ([(r8, .cells [.string ⟨#[]⟩, .int .i64 0, .int .i64 0, .slice none 0 0] 100 4)] :: vseg r6 v :: wseg r17 (.slice (some ⟨rq, 0, none⟩) (q.length - 1) cq) :: qseg rq (cq * 33) (popL ltV q) :: sgo :: [(ra, .gm (gmL vtxV intV left))] :: (GS m ++ S)) _
  change OL _ _ _ [_] _ _ _
  refine OL.cons trivial (node_st rfl rfl _ _ _ _) ?_
  rintro _ _ rfl
  obtain ⟨n0, hn0⟩ : ∃ z, z = (mgt m.nodes v).getD zM := ⟨_, rfl⟩
  rw [<- hn0] at hnd hnm hK2 ⊢
  have hno := getD_ok hm v
  rw [<- hn0] at hno
  have hnl := hno.len
  refine OL.nil ?_
  refine hK8 _ _ ?_
  refine PW.k6 0 2 3 4 6 8 rfl rfl rfl rfl rfl rfl ?_
  refine PW.seqOps ?_
  refine OL.dp rfl ?_
  refine OL.det trivial (.ldA rfl (vtxL_len _) (all_at (List.mem_flatten.2 ⟨_, .tail _ (.head _), List.mem_singleton.2 rfl⟩))) ?_
  refine OL.dp rfl ?_
  refine OL.det trivial (.ld rfl (own_at (j := 0) (c := nodeC n0) (E := 100) (tot := 4) (List.mem_flatten.2 ⟨_, .head _, List.mem_singleton.2 rfl⟩) rfl)) ?_
  refine OL.dp rfl ?_
  refine OL.det trivial (.ld rfl (own_at (j := 1) (c := nodeC n0) (E := 100) (tot := 4) (List.mem_flatten.2 ⟨_, .head _, List.mem_singleton.2 rfl⟩) rfl)) ?_
  refine OL.det trivial (.to (v' := .bool (decide (n0.gone = 0))) (Yields.pure rfl) (congrArg Value.bool (by rw [Bool.eq_iff_iff]; simp))) ?_
  refine OL.det trivial (.build (fill_line rfl rfl rfl)) ?_
  apply OL.app1 (k := 4)
  ·rfl
  ·rfl
  ·exact (List.size_toArray).trans (lineC_len _)
  ·rfl
  ·rfl
  ·rfl
  ·exact hso
  ·exact lineC_one _
  ·omega
  ·unfold maxLen; omega
  intro v65 sgo2 hso2
  change OL _ _ _ _ _ ([(r8, .cells (nodeC n0) 100 4)] :: vseg r6 v :: wseg r17 (.slice (some ⟨rq, 0, none⟩) (q.length - 1) cq) :: qseg rq (cq * 33) (popL ltV q) :: sgo2 :: [(ra, .gm (gmL vtxV intV left))] :: (GS m ++ S)) _
  obtain ⟨vout2, hvo2⟩ : ∃ z : Value, z = v65 := ⟨_, rfl⟩
  rw [<- hvo2] at hso2 ⊢
  have hso3 : SlV 43 35 vout2 (out ++ [v]).length (lines ((out ++ [v]).map (lineOf m.gr.nodes))) sgo2 := by
   rw [List.map_append, List.map_cons, List.map_nil, lines_snoc, List.length_append]
   have e : lineOf m.gr.nodes v = ⟨v, n0.text, decide (n0.gone = 0)⟩ := by unfold lineOf; rw [hnd]; rfl
   rw [e]
   exact hso2
  refine OL.dp rfl ?_
  refine OL.nil ?_
  refine PW.k5 0 2 3 4 8 rfl rfl rfl rfl rfl ?_
  refine PW.seqOps ?_
  refine OL.dp rfl ?_
  refine OL.det trivial (.ld rfl (own_at (j := 3) (c := nodeC n0) (E := 100) (tot := 4) (List.mem_flatten.2 ⟨_, .head _, List.mem_singleton.2 rfl⟩) rfl)) ?_
  refine OL.dp rfl ?_
  refine OL.dp rfl ?_
  refine OL.nil ?_
  refine PW.k7 0 2 3 4 67 68 69 rfl rfl rfl rfl rfl rfl rfl ?_
  refine PW.block ?_
  refine PW.k7 0 2 3 4 67 68 69 rfl rfl rfl rfl rfl rfl rfl ?_
  refine PW.loopK (I := fun mi T S' => ∃ (k : Nat) (q2 : List Vtx) (vq2 : Value) (sgq2 : Seg) (left2 : List (Vtx × Int)), (k <= n0.next.length /\ mi = n0.next.length - k /\ Kahn ltV m.gr.nodes (mdl rem v) q2 (lv left2) (out ++ [v]) (n0.next.drop k) /\ Hp ltV q2 q2.length /\ SlV 32 33 vq2 q2.length (vtxs q2) sgq2 /\ (∀ q ∈ left2, okV q.1) /\ ∀ u, lv left2 u <= 1000000000) /\ T = ([(0, m.ptr), (2, vout2), (3, .map (some ra)), (4, .pointer (some ⟨r17, 0, none⟩)), (67, .slice n0.A n0.next.length n0.c), (68, .int .i64 (n0.next.length : Int)), (69, .int .i64 k)] : TT) /\ S' = [(r8, .cells (nodeC n0) 100 4)] :: vseg r6 v :: wseg r17 vq2 :: sgq2 :: sgo2 :: [(ra, .gm (gmL vtxV intV left2))] :: (GS m ++ S)) (m := n0.next.length) ⟨0, popL ltV q, _, _, left, ⟨by omega, by omega, hK2, hp1, hs2, hlk, hb⟩, rfl, rfl⟩ ?_
  rintro mi _ _ ⟨k, q2, vq2, sgq2, left2, ⟨hk, hmi, hK3, hhp2, hsq2, hlk2, hb2⟩, rfl, rfl⟩
  refine PW.seqOps ?_
  refine OL.dp rfl ?_
  refine OL.nil ?_
  refine PW.k8 0 2 3 4 67 68 69 70 rfl rfl rfl rfl rfl rfl rfl rfl ?_
  refine PW.seq fun K9 hK9 => ?_
  refine PW.cond rfl (fun c70 => ?_) (fun c70 => ?_)
  ·try simp only [cvS] at c70
   have hkl : k < n0.next.length := by omega
   obtain ⟨a0, ha0⟩ := vtxs_some (l := n0.next) hno.rd (by omega)
   have hrd2 : Rd w0 ([(r8, .cells (nodeC n0) 100 4)] :: vseg r6 v :: wseg r17 vq2 :: sgq2 :: sgo2 :: [(ra, .gm (gmL vtxV intV left2))] :: (GS m ++ S)) (some a0) (vtxs n0.next) := by rw [<- ha0]; exact hno.rd.junk hS.cons.cons.cons.cons.cons.cons
   refine PW.skip ?_
   refine hK9 _ _ ?_
   refine PW.k7 0 2 3 4 67 68 69 rfl rfl rfl rfl rfl rfl rfl ?_
   refine PW.seq fun K10 hK10 => ?_
   refine PW.block ?_
   refine PW.seqOps ?_
   rw [ha0]
   refine OL.det trivial (.ixN rfl rfl rfl (by omega)) ?_
   refine OL.det trivial (.ldA rfl (vtxL_len _) (vtx_at hrd2 hkl)) ?_
   refine OL.cons trivial OW.al ?_
   rintro _ _ ⟨r10, rfl, rfl⟩
   refine OL.cons trivial (vtx_st rfl rfl rfl) ?_
   rintro _ _ rfl
   obtain ⟨w, hw⟩ : ∃ z, z = n0.next[k] := ⟨_, rfl⟩
   rw [<- hw]
   have how : okV w := by rw [hw]; exact hno.ok _ (List.getElem_mem hkl)
   rw [List.drop_eq_getElem_cons hkl, <- hw] at hK3
   have hw1 := kahn_one hK3
   have hb1 := hb2 w
   have hwT := hT (v, w) (by rw [mem_EG hK3.nn, hnd, hw]; exact List.getElem_mem hkl)
   refine OL.nil ?_
   refine PW.k8 0 2 3 4 10 67 68 69 rfl rfl rfl rfl rfl rfl rfl rfl ?_
   refine PW.seq fun K11 hK11 => ?_
   refine PW.quietG (Ss := OpS vtxV intV left2 w 0 ra (vseg r10 w :: [(r8, .cells (nodeC n0) 100 4)] :: vseg r6 v :: wseg r17 vq2 :: sgq2 :: [sgo2]) (GS m ++ S)) (fr := false) [(0, 0), (1, 0), (2, 0), (3, 0), (4, 2), (5, 2)] Try.mixed (by decide +kernel) (.inl rfl) (fun h => by cases h) ?_
   refine GL.dp rfl ?_
   refine GL.det trivial (fun Sx hSx => Yields.ldA rfl (vtxL_len _) (all_at (c := vtxL w) (E := 32) (tot := 33) (hSx.over _ (by simp)))) ?_
   refine GL.det trivial (fun Sx hSx => Yields.lookOp (u := w) Try.underlying107 hz1 hz2 keys32 hlk2 how how rfl rfl hSx) ?_
   refine GL.det trivial (fun Sx hSx => Yields.to (v' := intV (lv left2 w - 1)) (Yields.sub64 rfl rfl (by show _ <= lv left2 w - 1; omega) (by show lv left2 w - 1 <= _; omega)) rfl) ?_
   refine GL.lo trivial (OW.mono (OW.entry (j := 6) (a := w) (z := (0 : Int)) Try.underlying107 hz1 hz2 keys32 hlk2 how rfl rfl rfl) ?_)
   rintro _ _ ⟨en2, clk2, qq2, e2, rfl, hop2, hee2, heb2, hek2, rfl⟩
   refine ⟨.inr ⟨en2, clk2, hop2, rfl⟩, ?_⟩
   refine GL.lo trivial (OW.mono (OW.of_yields (Yields.pure rfl)) ?_)
   rintro _ _ ⟨rfl, rfl⟩
   refine ⟨.inr ⟨en2, clk2, hop2, rfl⟩, ?_⟩
   change OL _ _ _ [_] _ _ _
   refine OL.cons trivial (OW.store (j := 6) (v := lv left2 w - 1) (fun a b => vtx_inj') rfl rfl rfl hop2 hee2 heb2 hek2 rfl) ?_
   rintro _ _ rfl
   obtain ⟨left3, hl3⟩ : ∃ z, z = mpt (entL left2 w 0) w (lv left2 w - 1) := ⟨_, rfl⟩
   change OL _ _ _ _ _ (vseg r10 w :: [(r8, .cells (nodeC n0) 100 4)] :: vseg r6 v :: wseg r17 vq2 :: sgq2 :: sgo2 :: [(ra, .gm (gmL vtxV intV (mpt (entL left2 w 0) w (lv left2 w - 1))))] :: (GS m ++ S)) _
   rw [<- hl3]
   have hlk3 : ∀ q ∈ left3, okV q.1 := by rw [hl3]; exact put_ok hlk2 how
   have hlv3 : ∀ u, lv left3 u = if u = w then lv left2 w - 1 else lv left2 u := fun u => by rw [hl3]; exact lv_put _ _ _ _
   have hlw3 : lv left3 w = lv left2 w - 1 := by rw [hlv3, if_pos rfl]
   have hb3 : ∀ u, lv left3 u <= 1000000000 := fun u => by rw [hlv3]; have := hb2 u; split <;> omega
   refine OL.nil ?_
   refine hK11 _ _ ?_
   refine PW.k8 0 2 3 4 10 67 68 69 rfl rfl rfl rfl rfl rfl rfl rfl ?_
   refine PW.seq fun K12 hK12 => ?_
   refine PW.quietK Try.mixed ?_
   refine QK.det trivial (.ldA rfl (vtxL_len _) (all_at (List.mem_flatten.2 ⟨_, .head _, List.mem_singleton.2 rfl⟩))) ?_
   refine QK.call trivial rfl (end_fc) ?_
   refine QK.det trivial (.eqD (neg := true) rfl rfl (eqL_vtx _ _)) ?_
   refine QK.bool trivial (Yields.pure rfl) (fun g82 => ?_) (fun g82 => ?_)
   ·try simp only [cvS] at g82
    refine QK.det rfl (.pure rfl) ?_
    refine QK.det rfl (.ldA rfl (vtxL_len _) (all_at (List.mem_flatten.2 ⟨_, .head _, List.mem_singleton.2 rfl⟩))) ?_
    refine QK.nil ?_
    change OL _ _ _ [_, _, _] _ _ _
    refine OL.det rfl (.lookG (okc := false) (a := w) Try.underlying107 hz1 hz2 keys32 hlk3 how rfl rfl (List.mem_flatten.2 ⟨_, .tail _ (.tail _ (.tail _ (.tail _ (.tail _ (.tail _ (.head _)))))), List.mem_singleton.2 rfl⟩)) ?_
    refine OL.det rfl (.pure rfl) ?_
    refine OL.dp rfl ?_
    refine OL.nil ?_
    refine hK12 _ _ ?_
    refine PW.k9 0 2 3 4 10 67 68 69 87 rfl rfl rfl rfl rfl rfl rfl rfl rfl ?_
    refine PW.cond rfl (fun c87 => ?_) (fun c87 => ?_)
    ·try simp only [cvS] at c87
     refine PW.ops ?_
     refine OL.dp rfl ?_
     refine OL.det trivial (Yields.mkI rfl) ?_
     refine OL.det trivial (.ldA rfl (vtxL_len _) (all_at (List.mem_flatten.2 ⟨_, .head _, List.mem_singleton.2 rfl⟩))) ?_
     refine OL.det trivial (Yields.mkI rfl) ?_
     refine OL.call trivial rfl (FC.subS (Sub.sel [3, 4, 0, 1, 2] 5 (by decide) (vseg r10 w :: [(r8, .cells (nodeC n0) 100 4)] :: vseg r6 v :: wseg r17 vq2 :: sgq2 :: sgo2 :: [(ra, .gm (gmL vtxV intV left3))] :: (GS m ++ S))) (hpush_fc (x := w) hsq2 (by have := kahn_qlen hK3; have e : m.gr.nodes.length = m.nodes.length := List.length_map _; omega))) ?_
     rintro _ _ ⟨rfl, v92, sg92, rfl, hs92⟩
     refine OL.subS (S' := vseg r10 w :: [(r8, .cells (nodeC n0) 100 4)] :: vseg r6 v :: wseg r17 v92 :: sg92 :: sgo2 :: [(ra, .gm (gmL vtxV intV left3))] :: (GS m ++ S)) (Sub.sel [2, 3, 4, 0, 1] 5 (by decide) (wseg r17 v92 :: sg92 :: vseg r10 w :: [(r8, .cells (nodeC n0) 100 4)] :: vseg r6 v :: sgo2 :: [(ra, .gm (gmL vtxV intV left3))] :: (GS m ++ S))) ?_
     refine OL.nil ?_
     refine hK10 _ _ ?_
     refine PW.k7 0 2 3 4 67 68 69 rfl rfl rfl rfl rfl rfl rfl ?_
     refine PW.ops ?_
     refine OL.det trivial (.add64 rfl rfl (by omega) (by omega)) ?_
     refine OL.dp rfl ?_
     refine OL.nil ?_
     repeat rw [inBlk_n]
     try rw [thenK_n]
     refine LoopEnd.mkS (Sub.drop (Sub.refl _)) (T'' := [(0, _), (2, _), (3, _), (4, _), (67, _), (68, _), (69, _)]) ⟨rfl, rfl, rfl, rfl, rfl, rfl, rfl, trivial⟩ ?_
     rw [ha0]
     obtain ⟨hp1', hp2'⟩ := pushL_spec ltV_ord hhp2 w
     refine ⟨n0.next.length - (k + 1), by omega, k + 1, pushL ltV q2 w, v92, sg92, left3, ⟨by omega, rfl, hK3.dec hlv3 ?_, hp1', hs92, hlk3, hb3⟩, rfl, rfl⟩
     rw [if_pos ⟨by rw [show mks m.gr.nodes = mks m.nodes from mks_plN _]; exact hwT.resolve_right g82, by have : lv left3 w = 0 := c87; omega⟩]
     exact hp2'
    try simp only [cvS] at c87
    refine PW.skip ?_
    refine hK10 _ _ ?_
    refine PW.k7 0 2 3 4 67 68 69 rfl rfl rfl rfl rfl rfl rfl ?_
    refine PW.ops ?_
    refine OL.det trivial (.add64 rfl rfl (by omega) (by omega)) ?_
    refine OL.dp rfl ?_
    refine OL.nil ?_
    repeat rw [inBlk_n]
    try rw [thenK_n]
    refine LoopEnd.mkS (Sub.drop (Sub.refl _)) (T'' := [(0, _), (2, _), (3, _), (4, _), (67, _), (68, _), (69, _)]) ⟨rfl, rfl, rfl, rfl, rfl, rfl, rfl, trivial⟩ ?_
    rw [ha0]
    refine ⟨n0.next.length - (k + 1), by omega, k + 1, q2, vq2, sgq2, left3, ⟨by omega, rfl, hK3.dec hlv3 ?_, hhp2, hsq2, hlk3, hb3⟩, rfl, rfl⟩
    rw [if_neg (fun h => by have : ¬ lv left3 w = 0 := c87; omega)]
   try simp only [cvS] at g82
   refine QK.off rfl rfl ?_
   refine QK.off rfl rfl ?_
   refine QK.nil ?_
   change OL _ _ _ [_, _, _] _ _ _
   refine OL.off rfl rfl ?_
   refine OL.off rfl rfl ?_
   refine OL.dp rfl ?_
   refine OL.nil ?_
   refine hK12 _ _ ?_
   refine PW.k9 0 2 3 4 10 67 68 69 87 rfl rfl rfl rfl rfl rfl rfl rfl rfl ?_
   refine PW.ite (b := false) rfl ?_
   rw [if_neg Bool.false_ne_true]
   refine PW.skip ?_
   refine hK10 _ _ ?_
   refine PW.k7 0 2 3 4 67 68 69 rfl rfl rfl rfl rfl rfl rfl ?_
   refine PW.ops ?_
   refine OL.det trivial (.add64 rfl rfl (by omega) (by omega)) ?_
   refine OL.dp rfl ?_
   refine OL.nil ?_
   repeat rw [inBlk_n]
   try rw [thenK_n]
   refine LoopEnd.mkS (Sub.drop (Sub.refl _)) (T'' := [(0, _), (2, _), (3, _), (4, _), (67, _), (68, _), (69, _)]) ⟨rfl, rfl, rfl, rfl, rfl, rfl, rfl, trivial⟩ ?_
   rw [ha0]
   refine ⟨n0.next.length - (k + 1), by omega, k + 1, q2, vq2, sgq2, left3, ⟨by omega, rfl, hK3.dec hlv3 ?_, hhp2, hsq2, hlk3, hb3⟩, rfl, rfl⟩
   rw [if_neg (fun h => hend (by rw [<- g82, <- show mks m.gr.nodes = mks m.nodes from mks_plN _]; exact h.1))]
  try simp only [cvS] at c70
  refine PW.exit ?_
  repeat rw [inBlk_n]
  try rw [thenK_n]
  refine LoopEnd.mkS (Sub.sel [2, 3, 4] 5 (by decide) _) (T'' := [(0, _), (2, _), (3, _), (4, _)]) ⟨rfl, rfl, rfl, rfl, trivial⟩ ?_
  refine ⟨(mdl rem v).length, by omega, q2, vq2, sgq2, out ++ [v], vout2, sgo2, left2, mdl rem v, ⟨?_, hhp2, hsq2, hso3, hlk2, hb2, rfl, by rw [List.length_append, List.length_singleton]; omega⟩, rfl, rfl⟩
  rw [List.drop_eq_nil_of_le (by omega)] at hK3
  exact hK3
 try simp only [cvS] at c40
 refine PW.exit ?_
 refine hK5 _ _ ?_
 refine PW.k1 2 rfl ?_
 refine PW.seqOps ?_
 refine OL.dp rfl ?_
 refine OL.dp rfl ?_
 refine OL.nil ?_
 refine PW.k1 2 rfl ?_
 refine PW.ret ?_
 change (Exit.ret = Exit.normal ∨ Exit.ret = Exit.ret) /\ ∃ v, resV _ _ = some v /\ _
 obtain rfl : q = [] := List.eq_nil_of_length_eq_zero (by omega)
 exact ⟨.inr rfl, _, rfl, _, Sub.sel [2] 4 (by decide) _, sgo, out, rfl, hK.fin, hso⟩
end Go.Proofs.Gr

namespace Go.GP
open Go.SL
theorem mem_outE {ps : List PartP} {v w : Vtx} : w ∈ outE ps v ↔ (v, w) ∈ allE ps := by
 unfold outE
 simp only [List.mem_map, List.mem_filter, decide_eq_true_eq]
 constructor
 ·rintro ⟨e, ⟨h1, h2⟩, rfl⟩; subst h2; exact h1
 intro h; exact ⟨_, ⟨h, rfl⟩, rfl⟩
theorem Inv.edge {ps : List PartP} {G : Gr} (h : Inv ps G) (hs : Sq ps) {e : Vtx × Vtx} : e ∈ EG G.nodes ↔ e ∈ allE ps /\ e.1 ≠ rootV := by
 obtain ⟨v, w⟩ := e
 rw [mem_EG h.nk]
 constructor
 ·intro hw
  cases hv : mgt G.nodes v with
  | none => unfold nd at hw; rw [hv] at hw; simp [zN] at hw
  | some n =>
   have hn := h.node v n hv
   have hnd : nd G.nodes v = n := by unfold nd; rw [hv]; rfl
   rw [hnd] at hw
   exact ⟨mem_outE.1 (hn.next.mem_iff.1 hw), fun e => h.root hs (e ▸ mem_mks.2 ⟨n, hv⟩)⟩
 rintro ⟨h1, h2⟩
 have hk : v ∈ mks G.nodes := (h.keys v).2 ((hs.edge h1).1.resolve_left h2)
 have hv := nd_some hk
 exact (h.node v _ hv).next.mem_iff.2 (mem_outE.2 h1)
theorem Inv.noRoot {ps : List PartP} {G : Gr} (h : Inv ps G) (hs : Sq ps) : ∀ e ∈ EG G.nodes, e.2 ≠ rootV := by
 intro e he hr
 rcases (hs.edge ((h.edge hs).1 he).1).2 with h1 | h1
 ·exact root_ne_end (hr.symm.trans h1)
 exact (hs.line h1).1 hr
theorem Inv.tgt {ps : List PartP} {G : Gr} (h : Inv ps G) (hs : Sq ps) : ∀ e ∈ EG G.nodes, e.2 ∈ mks G.nodes ∨ e.2 = endV := by
 intro e he
 rcases (hs.edge ((h.edge hs).1 he).1).2 with h1 | h1
 ·exact .inr h1
 exact .inl ((h.keys _).2 h1)
theorem Inv.noEnd {ps : List PartP} {G : Gr} (h : Inv ps G) (hs : Sq ps) : endV ∉ mks G.nodes := fun hm => (hs.line ((h.keys _).1 hm)).2 rfl
theorem Inv.has {ps : List PartP} {G : Gr} (h : Inv ps G) {v : Vtx} : HasG G v ↔ HasV ps v := by
 unfold HasG HasV
 rw [h.keys]
theorem Inv.rch {ps : List PartP} {G : Gr} (h : Inv ps G) (hs : Sq ps) {a b : Vtx} (ha : a ≠ rootV) : Rch (EG G.nodes) a b ↔ Rch (allE ps) a b := by
 constructor
 ·exact fun hr => hr.mono fun e he => ((h.edge hs).1 he).1
 intro hr
 induction hr with
 | one h1 => exact .one ((h.edge hs).2 ⟨h1, ha⟩)
 | cons h1 _ ih =>
  have h2 := (h.edge hs).2 ⟨h1, ha⟩
  exact .cons h2 (ih (h.noRoot hs _ h2))
theorem Inv.bef {ps : List PartP} {G : Gr} (h : Inv ps G) (hs : Sq ps) {a b : Vtx} : BefG G a b ↔ Bef ps a b := by
 unfold BefG Bef
 rw [h.has, h.has]
 by_cases ha : a = rootV
 ·simp [ha]
 rw [h.rch hs ha]
theorem Inv.there {ps : List PartP} {G : Gr} (h : Inv ps G) {p : PartP} : ThereG G p ↔ (∃ q ∈ ps, q.name = p.name) ∨ ∃ v ∈ own p, v ∈ allV ps := by
 unfold ThereG
 constructor
 ·rintro (h1 | ⟨v, h1, h2⟩)
  ·obtain ⟨q, hq, hqn⟩ := List.mem_map.1 h1
   have := h.pname q hq
   refine .inl ⟨q.2, (h.part q.2).1 ?_, by rw [<- this]; exact hqn⟩
   rw [<- this]; exact hq
  exact .inr ⟨v, h1, (h.keys v).1 h2⟩
 rintro (⟨q, hq, hqn⟩ | ⟨v, h1, h2⟩)
 ·exact .inl (List.mem_map.2 ⟨_, (h.part q).2 hq, hqn⟩)
 exact .inr ⟨v, h1, (h.keys v).2 h2⟩
theorem Inv.new {ps : List PartP} {G : Gr} (h : Inv ps G) (hs : Sq ps) {p : PartP} : (¬ ThereG G p /\ Formed p /\ HasG G p.up /\ HasG G p.down /\ (∀ v ∈ p.gone, v ∈ mks G.nodes) /\ BefG G p.up p.down) ↔ New ps p := by
 constructor
 ·rintro ⟨h1, h2, h3, h4, h5, h6⟩
  exact ⟨fun q hq e => h1 (h.there.2 (.inl ⟨q, hq, e⟩)), fun v hv hm => h1 (h.there.2 (.inr ⟨v, hv, hm⟩)), h2.first, h2.upE, h2.downR, h2.gone0, h2.goneR, h.has.1 h3, h.has.1 h4, fun v hv => (h.keys v).1 (h5 v hv), (h.bef hs).1 h6⟩
 intro n
 refine ⟨fun ht => ?_, ⟨n.gone0, n.goneR, n.first, n.upE, n.downR⟩, h.has.2 n.up, h.has.2 n.down, fun v hv => (h.keys v).2 (n.gone v hv), (h.bef hs).2 n.bef⟩
 rcases h.there.1 ht with ⟨q, hq, e⟩ | ⟨v, hv, hm⟩
 ·exact n.name q hq e
 exact n.own v hv hm
theorem len_le : ∀ {l l' : List Vtx}, l.Nodup -> (∀ x ∈ l, x ∈ l') -> l.length <= l'.length
 | [], l', _, _ => by simp
 | a :: l, l', hn, h => by
  obtain ⟨h1, h2⟩ := List.nodup_cons.1 hn
  have ha : a ∈ l' := h a (by simp)
  have := len_le (l := l) (l' := l'.erase a) h2 (fun x hx => by
   have hne : x ≠ a := fun e => h1 (e ▸ hx)
   exact (List.mem_erase_of_ne hne).2 (h x (by simp [hx])))
  rw [List.length_erase_of_mem ha] at this
  have hp : 0 < l'.length := List.length_pos_of_mem ha
  simp only [List.length_cons]
  omega
theorem Inv.nodesLen {ps : List PartP} {G : Gr} (h : Inv ps G) : G.nodes.length <= (allV ps).length := by
 have := len_le h.nk (fun x hx => (h.keys x).1 hx)
 unfold mks at this
 rwa [List.length_map] at this
theorem outs_le (E : List (Vtx × Vtx)) : ∀ {K : List Vtx}, K.Nodup -> (K.flatMap fun v => E.filter fun e => decide (e.1 = v)).length <= E.length := by
 intro K hK
 induction E with
 | nil =>
  have : (K.flatMap fun v => ([] : List (Vtx × Vtx)).filter fun e => decide (e.1 = v)) = [] := by simp
  rw [this]; simp
 | cons e E ih =>
  have key : ∀ {K : List Vtx}, K.Nodup -> (K.flatMap fun v => (e :: E).filter fun x => decide (x.1 = v)).length <= (K.flatMap fun v => E.filter fun x => decide (x.1 = v)).length + if e.1 ∈ K then 1 else 0 := by
   intro K hK
   induction K with
   | nil => simp
   | cons a K ih =>
    obtain ⟨h1, h2⟩ := List.nodup_cons.1 hK
    have := ih h2
    rw [List.flatMap_cons, List.flatMap_cons, List.length_append, List.length_append, List.filter_cons]
    by_cases ha : e.1 = a
    ·subst ha
     rw [if_neg h1] at this
     simp only [decide_true, if_true, List.length_cons, List.mem_cons, true_or]
     omega
    have e2 : (e.1 ∈ a :: K) ↔ e.1 ∈ K := by simp [ha]
    simp only [ha, decide_false, Bool.false_eq_true, if_false, e2]
    omega
  have := key hK
  simp only [List.length_cons]
  split at this <;> omega
theorem Inv.edgesLen {ps : List PartP} {G : Gr} (h : Inv ps G) : (EG G.nodes).length <= (allE ps).length := by
 refine Nat.le_trans (Nat.le_of_eq ?_) (outs_le (allE ps) h.nk)
 unfold EG mks
 have : ∀ N : List (Vtx × NodeP), (∀ p ∈ N, p ∈ G.nodes) -> (N.flatMap fun p => p.2.next.map fun w => (p.1, w)).length = ((N.map (·.1)).flatMap fun v => (allE ps).filter fun e => decide (e.1 = v)).length := by
  intro N hN
  induction N with
  | nil => rfl
  | cons p N ih =>
   have hp := hN p (by simp)
   have hn := h.node p.1 p.2 ((mgt_mem h.nk).2 hp)
   have hl := hn.next.length_eq
   unfold outE at hl
   rw [List.length_map] at hl
   rw [List.flatMap_cons, List.map_cons, List.flatMap_cons, List.length_append, List.length_append, List.length_map, hl, ih fun q hq => hN q (by simp [hq])]
 exact this G.nodes fun p hp => hp
end Go.GP

namespace Go.GP
open Go.SL
theorem outE_app (A B : List PartP) (v : Vtx) : outE (A ++ B) v = outE A v ++ outE B v := by unfold outE allE; simp
theorem allV_app (A B : List PartP) : allV (A ++ B) = allV A ++ allV B := by unfold allV; simp
theorem delN_spec : ∀ (vs : List Vtx) (N : List (Vtx × NodeP)), (∀ c, c ∈ mks (delN N vs) ↔ c ∈ mks N /\ c ∉ vs) /\ ((mks N).Nodup -> (mks (delN N vs)).Nodup) /\ ∀ c, c ∉ vs -> mgt (delN N vs) c = mgt N c
 | [], N => by simp [delN]
 | v :: vs, N => by
  obtain ⟨h1, h2, h3⟩ := delN_spec vs (mdl N v)
  have e : delN N (v :: vs) = delN (mdl N v) vs := rfl
  rw [e]
  refine ⟨fun c => ?_, fun hn => h2 (mdl_nodup hn v), fun c hc => ?_⟩
  ·rw [h1, mks_mdl, List.mem_filter]
   simp only [Bool.not_eq_true', decide_eq_false_iff_not, List.mem_cons, not_or]
   constructor
   ·rintro ⟨⟨a, b⟩, d⟩; exact ⟨a, fun e => b e.symm, d⟩
   rintro ⟨a, b, d⟩; exact ⟨⟨a, fun e => b e.symm⟩, d⟩
  simp only [List.mem_cons, not_or] at hc
  rw [h3 c hc.2, mgt_mdl, if_neg hc.1]
theorem Sq.gone_all {ps : List PartP} (h : Sq ps) {q : PartP} (hq : q ∈ ps) {v : Vtx} (hv : v ∈ q.gone) : v ∈ allV ps := by
 induction h with
 | nil => cases hq
 | @cons p ps h t ih =>
  have up : ∀ v, v ∈ allV ps -> v ∈ allV (p :: ps) := fun v hv => by rw [allV_cons]; exact List.mem_append_right _ hv
  rcases List.mem_cons.1 hq with rfl | hq
  ·exact up _ (h.gone v hv)
  exact up _ (ih hq)
theorem cntV_flat (f : PartP -> List Vtx) (A B : List PartP) (p : PartP) (v : Vtx) : cntV v ((A ++ p :: B).flatMap f) = cntV v ((A ++ B).flatMap f) + cntV v (f p) := by
 rw [List.flatMap_append, List.flatMap_cons, List.flatMap_append, cntV_app, cntV_app, cntV_app]
 omega
def Loose1 (ps : List PartP) (p : PartP) : Prop := ∀ q ∈ ps, ∀ v ∈ names q, v ∉ own p
theorem Inv.remove {A B : List PartP} {p : PartP} {G : Gr} (h : Inv (A ++ p :: B) G) (hs : Sq (A ++ p :: B)) (hl : Loose1 (A ++ p :: B) p) (hd : ∀ q ∈ A ++ B, q.name ≠ p.name /\ ∀ v ∈ own q, v ∉ own p) : Inv (A ++ B) (remG G p) := by
 have hp : p ∈ A ++ p :: B := by simp
 have hsub : ∀ q ∈ A ++ B, q ∈ A ++ p :: B := fun q hq => by simp at hq ⊢; rcases hq with h | h <;> simp [h]
 have hroot := h.root hs
 have hsrc : ∀ e ∈ edges p, e.1 = rootV ∨ e.1 ∈ mks G.nodes := fun e he => by
  rcases (hs.edge (mem_allE.2 ⟨p, hp, he⟩)).1 with h1 | h1
  ·exact .inl h1
  exact .inr ((h.keys _).2 h1)
 obtain ⟨k1, k2, k3, k4⟩ := linksG_spec false (edges p) G hsrc hroot
 have hgo : ∀ v ∈ p.gone, v ∈ mks (linksG false G (edges p)).nodes := fun v hv => by
  rw [k2]
  exact (h.keys v).2 (hs.gone_all hp hv)
 obtain ⟨c1, c2, c3⟩ := countG_spec (d := -1) hgo
 obtain ⟨d1, d2, d3⟩ := delN_spec (own p) (countG (-1) (linksG false G (edges p)).nodes p)
 have hA : remG G p = { parts := mdl (linksG false G (edges p)).parts p.name, nodes := delN (countG (-1) (linksG false G (edges p)).nodes p) (own p), first := (linksG false G (edges p)).first } := rfl
 have hkeys : ∀ v, v ∈ mks (delN (countG (-1) (linksG false G (edges p)).nodes p) (own p)) ↔ v ∈ mks G.nodes /\ v ∉ own p := fun v => by rw [d1, c1, k2]
 have hallV : ∀ v, v ∈ allV (A ++ B) ↔ v ∈ allV (A ++ p :: B) /\ v ∉ own p := fun v => by
  constructor
  ·intro hv
   obtain ⟨q, hq, hvq⟩ := mem_allV.1 hv
   exact ⟨mem_allV.2 ⟨q, hsub q hq, hvq⟩, (hd q hq).2 v hvq⟩
  rintro ⟨hv, hn⟩
  obtain ⟨q, hq, hvq⟩ := mem_allV.1 hv
  have : q ≠ p := fun e => hn (e ▸ hvq)
  refine mem_allV.2 ⟨q, ?_, hvq⟩
  simp only [List.mem_append, List.mem_cons] at hq ⊢
  rcases hq with h1 | h1 | h1
  ·exact .inl h1
  ·exact absurd h1 this
  exact .inr h1
 have hout : ∀ v, (outE (A ++ p :: B) v).Perm (outL (edges p) v ++ outE (A ++ B) v) := fun v => by
  rw [outE_app, outE_cons, outE_app]
  exact (List.perm_append_comm_assoc _ _ _)
 have hndk : ∀ v, v ∈ mks (delN (countG (-1) (linksG false G (edges p)).nodes p) (own p)) -> nd (delN (countG (-1) (linksG false G (edges p)).nodes p) (own p)) v = ⟨(nd G.nodes v).text, (nd G.nodes v).gone + (-1) * cntV v p.gone, (nd G.nodes v).named + (-1) * cntV v (names p), undo false (nd G.nodes v).next (outL (edges p) v)⟩ := fun v hv => by
  obtain ⟨h1, h2⟩ := (hkeys v).1 hv
  have e : nd (delN (countG (-1) (linksG false G (edges p)).nodes p) (own p)) v = nd (countG (-1) (linksG false G (edges p)).nodes p) v := by unfold nd; rw [d3 v h2]
  rw [e, c3 v (by rw [k2]; exact h1), k3 v h1]
 rw [hA]
 refine ⟨?_, ?_, ?_, ?_, ?_, ?_, ?_, ?_⟩
 ·simp only; rw [k1]; exact mdl_nodup h.pk _
 ·intro q
  simp only; rw [k1]
  unfold mdl
  rw [List.mem_filter, h.part]
  simp only [Bool.not_eq_true', decide_eq_false_iff_not]
  constructor
  ·rintro ⟨h1, h2⟩
   simp only [List.mem_append, List.mem_cons] at h1 ⊢
   rcases h1 with h1 | rfl | h1
   ·exact .inl h1
   ·exact absurd rfl h2
   exact .inr h1
  intro hq
  exact ⟨hsub q hq, fun e => (hd q hq).1 e.symm⟩
 ·intro q
  simp only; rw [k1]
  intro hq
  exact h.pname q (List.mem_filter.1 hq).1
 ·simp only; exact d2 (c2 (by rw [k2]; exact h.nk))
 ·intro v; simp only; rw [hkeys, hallV, h.keys]
 ·intro v n hv
  simp only at hv
  have hm := mem_mks.2 ⟨n, hv⟩
  have hnd := nd_some hm
  rw [hv] at hnd
  obtain rfl := Option.some.inj hnd
  rw [hndk v hm]
  obtain ⟨h1, h2⟩ := (hkeys v).1 hm
  have hn := h.node v _ (nd_some h1)
  refine ⟨?_, ?_, ?_⟩
  ·have := hn.gone; rw [cntV_flat] at this; simp only; omega
  ·have := hn.named; rw [cntV_flat] at this; simp only; omega
  exact undo_false (l := []) _ (hn.next.trans (hout v))
 ·intro q hq i s hi
  simp only
  have hv : q.vtx i ∈ own q := mem_own.2 ⟨i, (List.getElem?_eq_some_iff.1 hi).1, rfl⟩
  have hm : q.vtx i ∈ mks (delN (countG (-1) (linksG false G (edges p)).nodes p) (own p)) := by
   rw [hkeys, h.keys]
   exact (hallV _).1 (mem_allV.2 ⟨q, hq, hv⟩)
  rw [hndk _ hm]
  exact h.text q (hsub q hq) i s hi
 simp only; rw [k4]
 exact undo_false (l := []) _ (h.first.trans (hout rootV))
theorem mem_mid {A B : List PartP} {p q : PartP} : q ∈ A ++ p :: B ↔ q = p ∨ q ∈ A ++ B := by
 simp only [List.mem_append, List.mem_cons]
 constructor
 ·rintro (h | h | h)
  ·exact .inr (.inl h)
  ·exact .inl h
  exact .inr (.inr h)
 rintro (h | h | h)
 ·exact .inr (.inl h)
 ·exact .inl h
 exact .inr (.inr h)
theorem HasV.less {A B : List PartP} {p : PartP} {v : Vtx} (h : HasV (A ++ p :: B) v) (hn : v ∉ own p) : HasV (A ++ B) v := by
 rcases h with h | h | h
 ·exact .inl h
 ·exact .inr (.inl h)
 obtain ⟨q, hq, hv⟩ := mem_allV.1 h
 rcases mem_mid.1 hq with rfl | hq
 ·exact absurd hv hn
 exact .inr (.inr (mem_allV.2 ⟨q, hq, hv⟩))
theorem Sq.at {A B : List PartP} {p : PartP} (h : Sq (A ++ p :: B)) : New B p /\ Sq B := by
 induction A with
 | nil => cases h with | cons n t => exact ⟨n, t⟩
 | cons a A ih => cases h with | cons n t => exact ih t
theorem Bef.less {A B : List PartP} {p : PartP} (hs : Sq (A ++ p :: B)) (hs' : Sq (A ++ B)) (hd : ∀ q ∈ A ++ B, ∀ v ∈ own q, v ∉ own p) {x y : Vtx} (hx : x ∉ own p) (hy : y ∉ own p) (h : Bef (A ++ p :: B) x y) : Bef (A ++ B) x y := by
 obtain ⟨h1, h2, h3, h4, h5, h6⟩ := h
 obtain ⟨n, t⟩ := hs.at
 obtain ⟨f1, f2⟩ := n.fresh t
 refine ⟨h1.less hx, h2.less hy, h3, h4, h5, ?_⟩
 by_cases hxr : x = rootV
 ·exact .inl hxr
 by_cases hye : y = endV
 ·exact .inr (.inl hye)
 have h7 := (h6.resolve_left hxr).resolve_left hye
 have hmem : ∀ q, q ∈ A ++ p :: B -> q ∈ p :: (A ++ B) := fun q hq => by
  rcases mem_mid.1 hq with rfl | hq
  ·simp
  exact List.mem_cons_of_mem _ hq
 have hmem' : ∀ q, q ∈ p :: (A ++ B) -> q ∈ A ++ p :: B := fun q hq => by
  rcases List.mem_cons.1 hq with rfl | hq
  ·simp
  exact mem_mid.2 (.inr hq)
 have hge := ge_ne (v := x)
 have hown : ∀ v ∈ own p, ∀ e ∈ allE (A ++ B), e.1 ≠ v /\ e.2 ≠ v := fun v hv e he => by
  have hv0 := ge_ne (own_ge n.first hv)
  obtain ⟨e1, e2⟩ := hs'.edge he
  constructor
  ·intro ee
   rcases e1 with e1 | e1
   ·exact hv0.1 (ee.symm.trans e1)
   obtain ⟨q, hq, hvq⟩ := mem_allV.1 e1
   exact hd q hq _ hvq (ee ▸ hv)
  intro ee
  rcases e2 with e2 | e2
  ·exact hv0.2 (ee.symm.trans e2)
  obtain ⟨q, hq, hvq⟩ := mem_allV.1 e2
  exact hd q hq _ hvq (ee ▸ hv)
 have hsubB : ∀ q ∈ B, q ∈ A ++ B := fun q hq => List.mem_append_right _ hq
 refine .inr (.inr ((rch_back hown (f2 _ n.up) (f2 _ n.down) (n.bef.2.2.2.2.2.imp_right fun h => h.imp_right fun h => h.mono (allE_mono hsubB)) (fun e he hr => ?_) (fun e he hr => ?_) (h7.mono (allE_mono hmem)) hy hye).1 hx hxr))
 ·rcases (hs.edge (allE_mono hmem' e he)).2 with h8 | h8
  ·exact root_ne_end (hr.symm.trans h8)
  exact (hs.line h8).1 hr
 rcases (hs.edge (allE_mono hmem' e he)).1 with h8 | h8
 ·exact root_ne_end (h8.symm.trans hr)
 exact (hs.line h8).2 hr
theorem Sq.remove : ∀ {A B : List PartP} {p : PartP}, Sq (A ++ p :: B) -> (∀ q ∈ A, ∀ v ∈ names q, v ∉ own p) -> Sq (A ++ B) /\ ∀ q ∈ A ++ B, q.name ≠ p.name /\ ∀ v ∈ own q, v ∉ own p
 | [], B, p, hs, _ => by
  cases hs with
  | cons n t => exact ⟨t, fun q hq => ⟨fun e => n.name q hq e, fun v hv hp => n.own v hp (mem_allV.2 ⟨q, hq, hv⟩)⟩⟩
 | a :: A, B, p, hs, hl => by
  cases hs with
  | cons n t =>
   obtain ⟨i1, i2⟩ := Sq.remove t fun q hq => hl q (List.mem_cons_of_mem _ hq)
   have hp : p ∈ A ++ p :: B := by simp
   have hnm : ∀ v ∈ names a, v ∉ own p := hl a (by simp)
   have hup := hnm a.up (by simp [names])
   have hdn := hnm a.down (by simp [names])
   have hgo : ∀ v ∈ a.gone, v ∉ own p := fun v hv => hnm v (by simp [names, hv])
   have hsub : ∀ q ∈ A ++ B, q ∈ A ++ p :: B := fun q hq => mem_mid.2 (.inr hq)
   have hown : ∀ v ∈ own a, v ∉ own p := fun v hv hm => n.own v hv (mem_allV.2 ⟨p, hp, hm⟩)
   have hn : New (A ++ B) a := ⟨fun q hq => n.name q (hsub q hq), fun v hv hm => n.own v hv (by
     obtain ⟨q, hq, h⟩ := mem_allV.1 hm
     exact mem_allV.2 ⟨q, hsub q hq, h⟩), n.first, n.upE, n.downR, n.gone0, n.goneR, n.up.less hup, n.down.less hdn, fun v hv => by
     obtain ⟨q, hq, h⟩ := mem_allV.1 (n.gone v hv)
     rcases mem_mid.1 hq with rfl | hq
     ·exact absurd h (hgo v hv)
     exact mem_allV.2 ⟨q, hq, h⟩, n.bef.less t i1 (fun q hq => (i2 q hq).2) hup hdn⟩
   refine ⟨.cons hn i1, fun q hq => ?_⟩
   rcases List.mem_cons.1 hq with rfl | hq
   ·exact ⟨fun e => n.name p hp e.symm, hown⟩
   exact i2 q hq
end Go.GP

namespace Go.Proofs.Gr
open Go.SL Go.RowKit Go.Proofs Go.GP
theorem befB_iff {G : Gr} {a b : Vtx} : befB G a b = true ↔ BefG G a b := by
 constructor
 ·intro h
  exact Classical.byContradiction fun k => by rw [befB_false k] at h; cases h
 exact befB_true
theorem addE_zero' {G : Gr} {p : PartP} : addE G p = 0 ↔ ¬ ThereG G p /\ Formed p /\ HasG G p.up /\ HasG G p.down /\ (∀ v ∈ p.gone, v ∈ mks G.nodes) /\ BefG G p.up p.down := by
 constructor
 ·intro h
  by_cases h1 : ThereG G p
  ·rw [addE_there h1] at h; omega
  by_cases h2 : Formed p
  ·by_cases h3 : ¬ HasG G p.up ∨ ¬ HasG G p.down ∨ ∃ v ∈ p.gone, v ∉ mks G.nodes
   ·rw [addE_dep h1 h2 h3] at h; omega
   have k1 : HasG G p.up := Classical.byContradiction fun k => h3 (.inl k)
   have k2 : HasG G p.down := Classical.byContradiction fun k => h3 (.inr (.inl k))
   have k3 : ∀ v ∈ p.gone, v ∈ mks G.nodes := fun v hv => Classical.byContradiction fun k => h3 (.inr (.inr ⟨v, hv, k⟩))
   rw [addE_bef h1 h2 k1 k2 k3] at h
   split at h
   ·omega
   rename_i h4
   exact ⟨h1, h2, k1, k2, k3, befB_iff.1 (by simpa using h4)⟩
  rw [addE_form h1 h2] at h; omega
 rintro ⟨h1, h2, h3, h4, h5, h6⟩
 rw [addE_bef h1 h2 h3 h4 h5, if_neg (by rw [befB_iff.2 h6]; simp)]
theorem addE_zero {ps : List PartP} {G : Gr} (h : Inv ps G) (hs : Sq ps) {p : PartP} : addE G p = 0 ↔ New ps p := addE_zero'.trans (h.new hs)
open Classical in
noncomputable def came (ps : List PartP) (p : PartP) : List PartP := if New ps p then p :: ps else ps
open Classical in
theorem came_new {ps : List PartP} {p : PartP} (h : New ps p) : came ps p = p :: ps := by unfold came; rw [if_pos h]
open Classical in
theorem came_not {ps : List PartP} {p : PartP} (h : ¬ New ps p) : came ps p = ps := by unfold came; rw [if_neg h]
theorem addT_inv {ps : List PartP} {G : Gr} (h : Inv ps G) (hs : Sq ps) (p : PartP) : Inv (came ps p) (addT G p) /\ Sq (came ps p) := by
 unfold addT
 by_cases hn : New ps p
 ·rw [if_pos ((addE_zero h hs).2 hn), came_new hn]
  exact ⟨h.add hs hn, .cons hn hs⟩
 rw [if_neg (fun e => hn ((addE_zero h hs).1 e)), came_not hn]
 exact ⟨h, hs⟩
theorem Inv.get {ps : List PartP} {G : Gr} (h : Inv ps G) {p : PartP} (hp : p ∈ ps) : mgt G.parts p.name = some p := (mgt_mem h.pk).2 ((h.part p).2 hp)
theorem named_pos {ps : List PartP} {G : Gr} (h : Inv ps G) {v : Vtx} (hv : v ∈ allV ps) : (nd G.nodes v).named > 0 ↔ ∃ q ∈ ps, v ∈ names q := by
 have hn := (h.node v _ (nd_some ((h.keys v).2 hv))).named
 rw [hn]
 unfold cntV
 rw [show (((ps.flatMap names).count v : Nat) : Int) > 0 ↔ 0 < (ps.flatMap names).count v by omega, List.count_pos_iff, List.mem_flatMap]
theorem remE_zero {ps : List PartP} {G : Gr} (h : Inv ps G) {p : PartP} (hp : p ∈ ps) : remE G p.name = 0 ↔ Loose1 ps p := by
 unfold remE
 rw [Inv.get h hp]
 simp only
 have hown : ∀ v ∈ own p, v ∈ allV ps := fun v hv => mem_allV.2 ⟨p, hp, hv⟩
 constructor
 ·intro he q hq v hv hvo
  rw [if_pos ⟨v, hvo, (named_pos h (hown v hvo)).2 ⟨q, hq, hv⟩⟩] at he
  omega
 intro hl
 rw [if_neg]
 rintro ⟨v, hv, hn⟩
 obtain ⟨q, hq, hvq⟩ := (named_pos h (hown v hv)).1 hn
 exact hl q hq v hvq hv
theorem remT_inv {A B : List PartP} {p : PartP} {G : Gr} (h : Inv (A ++ p :: B) G) (hs : Sq (A ++ p :: B)) (he : remE G p.name = 0) : Inv (A ++ B) (remT G p.name) /\ Sq (A ++ B) := by
 have hp : p ∈ A ++ p :: B := by simp
 have hl := (remE_zero h hp).1 he
 obtain ⟨s1, s2⟩ := hs.remove (fun q hq v hv => hl q (by simp [hq]) v hv)
 have e : remT G p.name = remG G p := by
  unfold remT
  rw [Inv.get h hp]
  exact if_pos he
 rw [e]
 exact ⟨h.remove hs hl s2, s1⟩
end Go.Proofs.Gr

namespace Go.SL
open Go.ChangeShapes Go.WideShapes Go.ChangeAt Go.RowKit
section
variable {H : Type} {enc : TypeId × Value -> H} {P : Program} {W : World}
end
end Go.SL

namespace Go.Proofs.Gr
open Go.SL Go.RowKit Go.Proofs Go.GP
theorem FitsAll.parts : ∀ {s t : List CK} {cs : List Value}, FitsAll (s ++ t) cs -> ∃ a b, cs = a ++ b /\ FitsAll s a /\ FitsAll t b
 | [], t, cs, h => ⟨[], cs, rfl, trivial, h⟩
 | c :: s, t, [], h => h.elim
 | c :: s, t, v :: cs, h => by
  obtain ⟨h1, h2⟩ := h
  obtain ⟨a, b, rfl, h3, h4⟩ := FitsAll.parts h2
  exact ⟨v :: a, b, rfl, ⟨h1, h3⟩, h4⟩
structure PartA (W : World) (p : PartM) : Prop where
 at_ : -9223372036854775808 <= p.at_ /\ p.at_ <= 9223372036854775807
 first : -9223372036854775808 <= p.first /\ p.first <= 9223372036854775807
 up : okV p.up
 down : okV p.down
 gone : ∀ v ∈ p.gone, okV v
 text : ∀ s ∈ p.lines, s.size <= 140737488351232
 rdL : Rd W [] p.LA (strs p.lines)
 rdG : Rd W [] p.GA (vtxs p.gone)
 gnil : p.GA = none -> p.gc = 0
 gcap : p.gone.length <= p.gc
 len : p.lines.length <= 1000000000000000 /\ p.gone.length <= 1000000000000000
end Go.Proofs.Gr

namespace Go.Proofs.Gr
open Go.SL Go.RowKit Go.Proofs Go.GP Go.HP
section
variable {V : Type} [DecidableEq V] {lt : V -> V -> Bool}
theorem Ord.irr (hO : Ord lt) (a : V) : lt a a = false := by
 cases h : lt a a with
 | false => rfl
 | true => have := hO.asymm a a h; rw [h] at this; cases this
def freeB (E : List (V × V)) (left : List V) (v : V) : Bool := E.all fun e => !(decide (e.2 = v) && decide (e.1 ∈ left))
theorem freeB_iff {E : List (V × V)} {left : List V} {v : V} : freeB E left v = true ↔ Free E left v := by
 unfold freeB Free
 rw [List.all_eq_true]
 constructor
 ·intro h e he h2 h1
  have := h e he
  simp [h1, h2] at this
 intro h e he
 by_cases h2 : e.2 = v
 ·have := h e he h2
  simp [this]
 simp [h2]
def leastL (lt : V -> V -> Bool) : List V -> Option V
 | [] => none
 | v :: l => match leastL lt l with | none => some v | some w => if lt w v then some w else some v
theorem leastL_none {l : List V} (h : leastL lt l = none) : l = [] := by
 cases l with
 | nil => rfl
 | cons v l =>
  unfold leastL at h
  cases e : leastL lt l with
  | none => rw [e] at h; cases h
  | some w => rw [e] at h; simp only at h; split at h <;> cases h
theorem leastL_some (hO : Ord lt) : ∀ {l : List V} {v : V}, leastL lt l = some v -> v ∈ l /\ ∀ u ∈ l, lt u v = false
 | [], v, h => by cases h
 | a :: l, v, h => by
  unfold leastL at h
  cases e : leastL lt l with
  | none =>
   rw [e] at h
   obtain rfl := Option.some.inj h
   rw [leastL_none e]
   exact ⟨by simp, fun u hu => by simp at hu; subst hu; exact Ord.irr hO u⟩
  | some w =>
   rw [e] at h
   obtain ⟨h1, h2⟩ := leastL_some hO e
   simp only at h
   split at h
   ·rename_i h3
    obtain rfl := Option.some.inj h
    refine ⟨by simp [h1], fun u hu => ?_⟩
    rcases List.mem_cons.1 hu with rfl | hu
    ·exact hO.asymm _ _ h3
    exact h2 u hu
   rename_i h3
   obtain rfl := Option.some.inj h
   refine ⟨by simp, fun u hu => ?_⟩
   rcases List.mem_cons.1 hu with rfl | hu
   ·exact Ord.irr hO u
   have h4 := h2 u hu
   cases h5 : lt u a with
   | false => rfl
   | true =>
    exfalso
    have h6 : lt w a = false := by simpa using h3
    have := hO.trans _ _ _ h6 h4
    rw [this] at h5; cases h5
def kahnF (lt : V -> V -> Bool) (E : List (V × V)) : Nat -> List V -> List V
 | 0, _ => []
 | n + 1, left => match leastL lt (left.filter (freeB E left)) with | none => [] | some v => v :: kahnF lt E n (left.erase v)
theorem kahnF_topo (hO : Ord lt) {E : List (V × V)} : ∀ (n : Nat) (left : List V), left.length <= n -> Topo lt E left (kahnF lt E n left)
 | 0, left, h => by
  have : left = [] := List.eq_nil_of_length_eq_zero (by omega)
  subst this
  exact .nil fun v hv => by cases hv
 | n + 1, left, h => by
  unfold kahnF
  cases e : leastL lt (left.filter (freeB E left)) with
  | none =>
   have h0 := leastL_none e
   refine .nil fun v hv hf => ?_
   have : v ∈ left.filter (freeB E left) := List.mem_filter.2 ⟨hv, freeB_iff.2 hf⟩
   rw [h0] at this
   cases this
  | some v =>
   obtain ⟨h1, h2⟩ := leastL_some hO e
   rw [List.mem_filter] at h1
   refine .cons h1.1 (freeB_iff.1 h1.2) (fun u hu hf => h2 u (List.mem_filter.2 ⟨hu, freeB_iff.2 hf⟩)) (kahnF_topo hO n _ ?_)
   rw [List.length_erase_of_mem h1.1]
   omega
theorem Topo.congr {E : List (V × V)} {left L : List V} (h : Topo lt E left L) : ∀ {E' : List (V × V)} {left' : List V}, (∀ e, e.1 ∈ left -> (e ∈ E ↔ e ∈ E')) -> left.Perm left' -> Topo lt E' left' L := by
 have fr : ∀ {E E' : List (V × V)} {left left' : List V} {v : V}, (∀ e, e.1 ∈ left -> (e ∈ E ↔ e ∈ E')) -> left.Perm left' -> Free E left v -> Free E' left' v := fun hE hp hf e he hv hm => by
  have hm' := hp.mem_iff.2 hm
  exact hf e ((hE e hm').2 he) hv hm'
 have fr' : ∀ {E E' : List (V × V)} {left left' : List V} {v : V}, (∀ e, e.1 ∈ left -> (e ∈ E ↔ e ∈ E')) -> left.Perm left' -> Free E' left' v -> Free E left v := fun hE hp hf e he hv hm => by
  exact hf e ((hE e hm).1 he) hv (hp.mem_iff.1 hm)
 induction h with
 | nil h =>
  intro E' left' hE hp
  exact .nil fun v hv hf => h v (hp.mem_iff.2 hv) (fr' hE hp hf)
 | cons h1 h2 h3 h4 ih =>
  intro E' left' hE hp
  exact .cons (hp.mem_iff.1 h1) (fr hE hp h2) (fun u hu hf => h3 u (hp.mem_iff.2 hu) (fr' hE hp hf)) (ih (fun e he => hE e (List.mem_of_mem_erase he)) (hp.erase _))
end
def topoF (ps : List PartP) : List Vtx := kahnF ltV (allE ps) (allV ps).length (allV ps)
theorem topoF_topo (ps : List PartP) : Topo ltV (allE ps) (allV ps) (topoF ps) := kahnF_topo ltV_ord _ _ (Nat.le_refl _)
theorem _root_.Go.GP.Sq.nodup {ps : List PartP} (h : Sq ps) : (allV ps).Nodup := by
 induction h with
 | nil => exact List.nodup_nil
 | @cons p ps h t ih =>
  rw [allV_cons, List.nodup_append]
  exact ⟨own_nodup p, ih, fun a ha b hb e => h.own a ha (e ▸ hb)⟩
theorem _root_.Go.GP.Inv.nodes_perm {ps : List PartP} {G : Gr} (h : Inv ps G) (hs : Sq ps) : (mks G.nodes).Perm (allV ps) := by
 rw [List.perm_iff_count]
 intro v
 rw [List.Nodup.count h.nk, List.Nodup.count (Sq.nodup hs)]
 simp only [h.keys]
theorem _root_.Go.GP.Inv.told {ps : List PartP} {G : Gr} (h : Inv ps G) (hs : Sq ps) {out : List Vtx} (ht : Topo ltV (EG G.nodes) (mks G.nodes) out) : out = topoF ps := by
 refine Topo.unique ltV_tot (Topo.congr ht (E' := allE ps) (fun e he => ?_) (h.nodes_perm hs)) (fun e => Iff.rfl) (List.Perm.refl _) (topoF_topo ps)
 rw [h.edge hs]
 constructor
 ·exact fun h => h.1
 intro h2
 exact ⟨h2, fun e2 => (Sq.line hs ((h.keys _).1 he)).1 e2⟩
def textV (ps : List PartP) (v : Vtx) : ByteArray := (((ps.flatMap fun p => (own p).zip p.lines).find? fun q => decide (q.1 = v)).map (·.2)).getD ⟨#[]⟩
def aliveV (ps : List PartP) (v : Vtx) : Bool := !((ps.flatMap (·.gone)).contains v)
def lineP (ps : List PartP) (v : Vtx) : LineP := ⟨v, textV ps v, aliveV ps v⟩
def linesP (ps : List PartP) : List LineP := (topoF ps).map (lineP ps)
theorem zip_mem {p : PartP} {q : Vtx × ByteArray} : q ∈ (own p).zip p.lines ↔ ∃ i, p.lines[i]? = some q.2 /\ p.vtx i = q.1 := by
 obtain ⟨v, s⟩ := q
 rw [List.mem_iff_getElem?]
 constructor
 ·rintro ⟨i, hi⟩
  rw [List.getElem?_zip_eq_some] at hi
  obtain ⟨h1, h2⟩ := hi
  refine ⟨i, h2, ?_⟩
  unfold own at h1
  rw [List.getElem?_map] at h1
  obtain ⟨k, hk, e⟩ := Option.map_eq_some_iff.1 h1
  rw [List.getElem?_range (by have := (List.getElem?_eq_some_iff.1 h2).1; omega)] at hk
  obtain rfl := Option.some.inj hk
  exact e
 rintro ⟨i, h1, h2⟩
 have hl := (List.getElem?_eq_some_iff.1 h1).1
 refine ⟨i, ?_⟩
 rw [List.getElem?_zip_eq_some]
 refine ⟨?_, h1⟩
 unfold own
 rw [List.getElem?_map, List.getElem?_range hl]
 exact congrArg some h2
theorem _root_.Go.GP.Inv.textV {ps : List PartP} {G : Gr} (h : Inv ps G) {v : Vtx} (hv : v ∈ allV ps) : Gr.textV ps v = (nd G.nodes v).text := by
 unfold Gr.textV
 obtain ⟨p, hp, hvo⟩ := mem_allV.1 hv
 obtain ⟨i, hi, rfl⟩ := mem_own.1 hvo
 have hm : (p.vtx i, p.lines[i]) ∈ ps.flatMap fun p => (own p).zip p.lines := List.mem_flatMap.2 ⟨p, hp, zip_mem.2 ⟨i, List.getElem?_eq_getElem hi, rfl⟩⟩
 cases e : (ps.flatMap fun p => (own p).zip p.lines).find? fun q => decide (q.1 = p.vtx i) with
 | none =>
  have := List.find?_eq_none.1 e _ hm
  simp at this
 | some q =>
  have h1 := List.find?_some e
  have h2 := List.mem_of_find?_eq_some e
  simp only [decide_eq_true_eq] at h1
  obtain ⟨p', hp', hz⟩ := List.mem_flatMap.1 h2
  obtain ⟨j, hj, hj2⟩ := zip_mem.1 hz
  have := h.text p' hp' j _ hj
  rw [hj2, h1] at this
  exact this.symm
theorem _root_.Go.GP.Inv.lineP {ps : List PartP} {G : Gr} (h : Inv ps G) {v : Vtx} (hv : v ∈ allV ps) : lineOf G.nodes v = Gr.lineP ps v := by
 unfold lineOf Gr.lineP
 rw [h.textV hv]
 have hn := (h.node v _ (nd_some ((h.keys v).2 hv))).gone
 rw [hn]
 congr 1
 unfold aliveV cntV
 rw [Bool.eq_iff_iff]
 simp only [decide_eq_true_eq, Bool.not_eq_true', List.contains_eq_mem, decide_eq_false_iff_not]
 rw [show (((ps.flatMap (·.gone)).count v : Nat) : Int) = 0 ↔ (ps.flatMap (·.gone)).count v = 0 by omega, List.count_eq_zero]
theorem topoF_mem {ps : List PartP} {v : Vtx} (h : v ∈ topoF ps) : v ∈ allV ps := Topo.sub (topoF_topo ps) v h
theorem _root_.Go.GP.Inv.lines {ps : List PartP} {G : Gr} (h : Inv ps G) : (topoF ps).map (lineOf G.nodes) = linesP ps := List.map_congr_left fun v hv => h.lineP (topoF_mem hv)
theorem topoF_perm_all {ps : List PartP} (hs : Sq ps) : (topoF ps).Perm (allV ps) := by
 obtain ⟨r, hr, _⟩ := hs.rank
 exact Topo.perm (topoF_topo ps) r fun e he _ _ => hr e he
end Go.Proofs.Gr

namespace Go.Proofs.Gr
open Go.SL Go.RowKit Go.Proofs Go.GP
set_option maxHeartbeats 1000000
structure GG (w0 : World) (X : SS) (m : GrM) (ps : List PartP) : Prop where
 ok : GOk w0 X m
 inv : GP.Inv ps m.gr
 sq : Sq ps
 n : (allV ps).length + ps.length <= 1000000
 lim : m.lim <= 500000000000
theorem edges_len (p : PartP) : (edges p).length <= (own p).length + 2 := by
 unfold edges
 split
 ·simp
 rw [edgeL_len]
 unfold way
 simp
theorem allE_len (ps : List PartP) : (allE ps).length <= (allV ps).length + 2 * ps.length := by
 induction ps with
 | nil => simp [allE]
 | cons p ps ih =>
  have := edges_len p
  unfold allE allV at ih ⊢
  rw [List.flatMap_cons, List.flatMap_cons, List.length_append, List.length_append, List.length_cons]
  omega
theorem GG.nE {w0 : World} {X : SS} {m : GrM} {ps : List PartP} (h : GG w0 X m ps) : (EG m.gr.nodes).length <= 1000000000 := by
 have := h.inv.edgesLen
 have := allE_len ps
 have := h.n
 omega
theorem GG.nN {w0 : World} {X : SS} {m : GrM} {ps : List PartP} (h : GG w0 X m ps) : m.nodes.length <= 1000000000 := by
 have h1 := h.inv.nodesLen
 have h2 : m.gr.nodes.length = m.nodes.length := List.length_map _
 have := h.n
 omega
theorem GG.over {w0 : World} {X Y : SS} {m : GrM} {ps : List PartP} (h : GG w0 X m ps) (ho : Over X Y) : GG w0 Y m ps := ⟨h.ok.over ho, h.inv, h.sq, h.n, h.lim⟩
theorem lines2_fc {w0 : World} {S X : SS} {m : GrM} {ps : List PartP} (h : GG w0 X m ps) (hX : Over X S) :
  FC Try.prog w0 17 [m.ptr] (GS m ++ S) (fun v S' => ∃ seg, S' = seg :: (GS m ++ S) /\ SlV 43 35 v (linesP ps).length (lines (linesP ps)) seg) := by
 have hk : mks m.gr.nodes = mks m.nodes := mks_plN _
 refine (lines_fc h.ok hX h.nE h.nN (fun e he => ?_) (fun he => ?_)).mono ?_
 ·rw [<- hk]; exact h.inv.tgt h.sq e he
 ·rw [<- hk] at he; exact h.inv.noEnd h.sq he
 rintro v S' ⟨seg, out, rfl, ht, hs⟩
 have e := h.inv.told h.sq ht
 subst e
 refine ⟨seg, rfl, ?_⟩
 rw [h.inv.lines] at hs
 have : (topoF ps).length = (linesP ps).length := (List.length_map _).symm
 rwa [this] at hs
open Classical in
noncomputable def befP (ps : List PartP) (a b : Vtx) : Bool := decide (Bef ps a b)
open Classical in
theorem befP_iff {ps : List PartP} {a b : Vtx} : befP ps a b = true ↔ Bef ps a b := by unfold befP; exact decide_eq_true_iff
theorem GG.bef {w0 : World} {X : SS} {m : GrM} {ps : List PartP} (h : GG w0 X m ps) {a b : Vtx} : befB m.gr a b = befP ps a b := by
 rw [Bool.eq_iff_iff, befB_iff, befP_iff, h.inv.bef h.sq]
theorem before2_fc {w0 : World} {S X : SS} {m : GrM} {ps : List PartP} (h : GG w0 X m ps) (hS : Over (GS m ++ X) S) {a b : Vtx} (ha : okV a) (hb : okV b) :
  FC Try.prog w0 18 [m.ptr, vtxV a, vtxV b] S (fun u S' => u = .bool (befP ps a b) /\ S' = S) := by
 rw [<- h.bef]
 exact before_fc h.ok hS ha hb (h.inv.noRoot h.sq) h.nE
theorem came_n (ps : List PartP) (p : PartP) : (allV (came ps p)).length + (came ps p).length <= (allV ps).length + ps.length + p.lines.length + 1 := by
 by_cases h : New ps p
 ·rw [came_new h, allV_cons, List.length_append, own_len, List.length_cons]
  omega
 rw [came_not h]; omega
theorem add2_fc {w0 : World} {S X : SS} {m : GrM} {ps : List PartP} (h : GG w0 X m ps) (hX : Over X S) {p : PartM} (hp : PartR p) (hrL : Rd w0 S p.LA (strs p.lines)) (hrG : Rd w0 S p.GA (vtxs p.gone))
  (hn : (allV ps).length + ps.length + p.lines.length + 1 <= 1000000) (hlim : m.lim + addL p <= 500000000000) :
  FC Try.prog w0 16 [m.ptr, partV p] (GS m ++ S) (fun v S' => ∃ m', v = .int .i64 (addE m.gr p.pl) /\ S' = GS m' ++ S /\ GG w0 X m' (came ps p.pl) /\ m'.lim <= m.lim + addL p /\ m'.r = m.r /\ ∀ x ∈ m.junk, x ∈ m'.junk) := by
 refine (add_fc h.ok hX hp hrL hrG (h.inv.noRoot h.sq) h.nE (by omega)).mono ?_
 rintro v S' ⟨m', h1, h2, h3, h4, h5, h6, h7⟩
 obtain ⟨i, s⟩ := addT_inv h.inv h.sq p.pl
 have hc := came_n ps p.pl
 have hl : p.pl.lines.length = p.lines.length := rfl
 exact ⟨m', h1, h2, ⟨h3, h4 ▸ i, s, by omega, by omega⟩, h6, h5, h7⟩
instance : Inhabited LineP := ⟨⟨v0, ⟨#[]⟩, false⟩⟩
theorem lines_get {l : List LineP} {k : Nat} (hk : k < l.length) {j : Nat} (hj : j < 35) : (lines l)[k * 35 + j]? = (lineC l[k])[j]? := by
 unfold lines
 rw [flat_get lineC_len l (k * 35 + j) (by omega), show (k * 35 + j) / 35 = k from by omega, show (k * 35 + j) % 35 = j from by omega, getElem!_pos l k hk]
theorem lines_some {w0 : World} {S : SS} {A : Option Addr} {l : List LineP} (h : Rd w0 S A (lines l)) (hk : 0 < l.length) : ∃ a, A = some a :=
 h.some (fun e => by have := lines_len l; rw [e] at this; simp at this; omega)
section
variable {w0 : World} {S : SS} {a : Addr} {l : List LineP} {k : Nat}
theorem line_at (h : Rd w0 S (some a) (lines l)) (hk : k < l.length) : ∀ (j : Nat) (v : Value), (lineC l[k])[j]? = some v -> Cell w0 S ((a.add (k * 35)).add j) v := by
 intro j v hj
 have hj2 : j < 35 := by have := (List.getElem?_eq_some_iff.1 hj).1; rwa [lineC_len] at this
 rw [addr_add_add]
 exact h.at (by rw [lines_get hk hj2]; exact hj)
theorem lineC_text (l : LineP) : (lineC l)[33]? = some (.string l.text) /\ (lineC l)[34]? = some (.bool l.alive) := by
 have h := vtxL_len l.v
 unfold lineC
 constructor
 ·rw [List.getElem?_append_right (by omega), h]; rfl
 rw [List.getElem?_append_right (by omega), h]; rfl
theorem line_text (h : Rd w0 S (some a) (lines l)) (hk : k < l.length) : Cell w0 S ((a.add (k * 35)).add 33) (.string l[k].text) := line_at h hk _ _ (lineC_text _).1
theorem line_alive (h : Rd w0 S (some a) (lines l)) (hk : k < l.length) : Cell w0 S ((a.add (k * 35)).add 34) (.bool l[k].alive) := line_at h hk _ _ (lineC_text _).2
end
def textP (l : List LineP) : ByteArray := l.foldl (fun s x => if x.alive then s ++ x.text ++ ⟨#[32]⟩ else s ++ ⟨#[40]⟩ ++ x.text ++ ⟨#[41, 32]⟩) ⟨#[]⟩
theorem ltake_snoc {α : Type} {l : List α} {k : Nat} (hk : k < l.length) : l.take (k + 1) = l.take k ++ [l[k]] := by
 rw [List.take_add_one, List.getElem?_eq_getElem hk]; rfl
theorem textP_snoc {l : List LineP} {k : Nat} (hk : k < l.length) : textP (l.take (k + 1)) = if l[k].alive then textP (l.take k) ++ l[k].text ++ ⟨#[32]⟩ else textP (l.take k) ++ ⟨#[40]⟩ ++ l[k].text ++ ⟨#[41, 32]⟩ := by
 unfold textP
 rw [ltake_snoc hk, List.foldl_append]
 rfl
theorem linesP_len {ps : List PartP} (hs : Sq ps) : (linesP ps).length = (allV ps).length := by
 unfold linesP
 rw [List.length_map, (topoF_perm_all hs).length_eq]
theorem yields_cat {P : Program} {w0 : World} {n : Nat} {T : TT} {S : SS} {x y : PV} {a b : ByteArray} (hx : x.val T = some (.string a)) (hy : y.val T = some (.string b)) (h : a.size + b.size <= 9223372036854775807) : Go.SL.Yields P w0 n (.bin .add x y) T S (.string (a ++ b)) :=
 Go.SL.Yields.binRaw hx hy (fun t a b w => by simp [eqGuard]) (fun t w => by
  have hm : IntKind.i64.max = 9223372036854775807 := by decide
  have : ¬ ((a.size + b.size : Nat) : Int) > IntKind.i64.max := by rw [hm]; omega
  show Sem.run P (Op.stringOp .add a b) w = _
  unfold Op.stringOp
  simp only
  rw [if_neg this]
  rfl)
def Txt (ps : List PartP) : Prop := ∀ p ∈ ps, ∀ s ∈ p.lines, s.size <= 140737488351232
theorem textV_size {ps : List PartP} (h : Txt ps) (v : Vtx) : (textV ps v).size <= 140737488351232 := by
 unfold textV
 cases e : (ps.flatMap fun p => (own p).zip p.lines).find? fun q => decide (q.1 = v) with
 | none => exact Nat.zero_le _
 | some q =>
  obtain ⟨p, hp, hz⟩ := List.mem_flatMap.1 (List.mem_of_find?_eq_some e)
  obtain ⟨i, hi, _⟩ := zip_mem.1 hz
  exact h p hp _ (List.mem_of_getElem? hi)
theorem linesP_size {ps : List PartP} (h : Txt ps) : ∀ x ∈ linesP ps, x.text.size <= 140737488351232 := by
 intro x hx
 obtain ⟨v, _, rfl⟩ := List.mem_map.1 hx
 exact textV_size h v
theorem textP_size {l : List LineP} (h : ∀ x ∈ l, x.text.size <= 140737488351232) : ∀ k, k <= l.length -> (textP (l.take k)).size <= 140737488351235 * k
 | 0, _ => by rw [List.take_zero]; exact Nat.zero_le _
 | k + 1, hk => by
  have hkl : k < l.length := by omega
  have ih := textP_size h k (by omega)
  have hx := h _ (List.getElem_mem hkl)
  rw [textP_snoc hkl]
  split
  ·simp only [ByteArray.size_append]
   have : (⟨#[32]⟩ : ByteArray).size = 1 := rfl
   omega
  simp only [ByteArray.size_append]
  have : (⟨#[40]⟩ : ByteArray).size = 1 := rfl
  have : (⟨#[41, 32]⟩ : ByteArray).size = 2 := rfl
  omega
theorem text_fc {w0 : World} {S X : SS} {m : GrM} {ps : List PartP} (h : GG w0 X m ps) (hX : Over X S) (ht : Txt ps) (hc : (allV ps).length <= 60000) :
  FC Try.prog w0 19 [m.ptr] (GS m ++ S) (fun v S' => v = .string (textP (linesP ps)) /\ S' = GS m ++ S) := by
 refine FC.ofD Try.known19 (by simp) ?_
 unfold Try.pc19
 simp only [argT]
 refine PW.seqOps ?_
 refine OL.dp rfl ?_
 refine OL.nil ?_
 refine PW.k1 0 rfl ?_
 refine PW.seqOps ?_
 refine OL.dp rfl ?_
 refine OL.nil ?_
 refine PW.k2 0 3 rfl rfl ?_
 refine PW.seqOps ?_
 refine OL.dp rfl ?_
 refine OL.call trivial rfl (lines2_fc h hX) ?_
 rintro _ _ ⟨seg, rfl, hsl⟩
 obtain ⟨LA, lc, rfl, hLn, hLc, hrd0⟩ := slv_rdL (w0 := w0) hsl
 have hrd := hrd0 (GS m ++ S)
 have hln := linesP_len h.sq
 have hn := h.n
 have hsz := linesP_size ht
 have s1 : (⟨#[32]⟩ : ByteArray).size = 1 := rfl
 have s2 : (⟨#[40]⟩ : ByteArray).size = 1 := rfl
 have s3 : (⟨#[41, 32]⟩ : ByteArray).size = 2 := rfl
 obtain ⟨L, hL⟩ : ∃ z, z = linesP ps := ⟨_, rfl⟩
 rw [<- hL] at hln hrd hLc hsz ⊢
 refine OL.dp rfl ?_
 refine OL.nil ?_
 refine PW.k2 3 4 rfl rfl ?_
 refine PW.seq fun K1 hK1 => ?_
 refine PW.seqOps ?_
 refine OL.dp rfl ?_
 refine OL.nil ?_
 refine PW.k3 3 4 5 rfl rfl rfl ?_
 refine PW.block ?_
 refine PW.k3 3 4 5 rfl rfl rfl ?_
 refine PW.loopK (I := fun mm T S' => ∃ k : Nat, (k <= L.length /\ mm = L.length - k) /\ T = ([(3, .string (textP (L.take k))), (4, .slice LA L.length lc), (5, .int .i64 k)] : TT) /\ S' = seg :: (GS m ++ S)) (m := L.length) ⟨0, ⟨by omega, by omega⟩, rfl, rfl⟩ ?_
 rintro mm _ _ ⟨k, ⟨hk, hmm⟩, rfl, rfl⟩
 refine PW.seq fun K2 hK2 => ?_
 refine PW.seqOps ?_
 refine OL.dp rfl ?_
 refine OL.dp rfl ?_
 refine OL.dp rfl ?_
 refine OL.dp rfl ?_
 refine OL.nil ?_
 refine PW.k4 3 4 5 11 rfl rfl rfl rfl ?_
 refine PW.cond rfl (fun c11 => ?_) (fun c11 => ?_)
 ·try simp only [cvS] at c11
  have hkl : k < L.length := by omega
  obtain ⟨a0, ha0⟩ := lines_some hrd (by omega)
  have hrd2 := hrd
  rw [ha0] at hrd2
  have hz1 := textP_size hsz k hk
  have hz2 := hsz _ (List.getElem_mem hkl)
  refine PW.skip ?_
  refine hK2 _ _ ?_
  refine PW.k3 3 4 5 rfl rfl rfl ?_
  refine PW.seq fun K3 hK3 => ?_
  refine PW.block ?_
  refine PW.seqOps ?_
  refine OL.dp rfl ?_
  refine OL.dp rfl ?_
  rw [ha0]
  refine OL.det trivial (.ixN rfl rfl rfl (by omega)) ?_
  refine OL.dp rfl ?_
  refine OL.det trivial (.ld rfl (line_alive hrd2 hkl)) ?_
  refine OL.nil ?_
  refine PW.k4 3 4 5 18 rfl rfl rfl rfl ?_
  refine PW.cond rfl (fun c18 => ?_) (fun c18 => ?_)
  ·try simp only [cvS] at c18
   refine PW.ops ?_
   refine OL.dp rfl ?_
   refine OL.dp rfl ?_
   refine OL.dp rfl ?_
   refine OL.det trivial (.ixN rfl rfl rfl (by omega)) ?_
   refine OL.dp rfl ?_
   refine OL.det trivial (.ld rfl (line_text hrd2 hkl)) ?_
   refine OL.det trivial (yields_cat rfl rfl (by first | omega | (simp only [ByteArray.size_append, s1, s2, s3]; omega))) ?_
   refine OL.det trivial (yields_cat rfl rfl (by first | omega | (simp only [ByteArray.size_append, s1, s2, s3]; omega))) ?_
   refine OL.dp rfl ?_
   refine OL.nil ?_
   refine hK3 _ _ ?_
   refine PW.k3 3 4 5 rfl rfl rfl ?_
   refine PW.ops ?_
   refine OL.dp rfl ?_
   refine OL.det trivial (.add64 rfl rfl (by omega) (by omega)) ?_
   refine OL.dp rfl ?_
   refine OL.nil ?_
   repeat rw [inBlk_n]
   try rw [thenK_n]
   refine LoopEnd.mk (T'' := [(3, _), (4, _), (5, _)]) ⟨rfl, rfl, rfl, trivial⟩ ?_
   rw [ha0]
   refine ⟨L.length - (k + 1), by omega, k + 1, ⟨by omega, rfl⟩, ?_, rfl⟩
   rw [textP_snoc hkl, if_pos c18]
   rfl
  try simp only [cvS] at c18
  refine PW.ops ?_
  refine OL.dp rfl ?_
  refine OL.det trivial (yields_cat rfl rfl (by first | omega | (simp only [ByteArray.size_append, s1, s2, s3]; omega))) ?_
  refine OL.dp rfl ?_
  refine OL.dp rfl ?_
  refine OL.det trivial (.ixN rfl rfl rfl (by omega)) ?_
  refine OL.dp rfl ?_
  refine OL.det trivial (.ld rfl (line_text hrd2 hkl)) ?_
  refine OL.det trivial (yields_cat rfl rfl (by first | omega | (simp only [ByteArray.size_append, s1, s2, s3]; omega))) ?_
  refine OL.det trivial (yields_cat rfl rfl (by first | omega | (simp only [ByteArray.size_append, s1, s2, s3]; omega))) ?_
  refine OL.dp rfl ?_
  refine OL.nil ?_
  refine hK3 _ _ ?_
  refine PW.k3 3 4 5 rfl rfl rfl ?_
  refine PW.ops ?_
  refine OL.dp rfl ?_
  refine OL.det trivial (.add64 rfl rfl (by omega) (by omega)) ?_
  refine OL.dp rfl ?_
  refine OL.nil ?_
  repeat rw [inBlk_n]
  try rw [thenK_n]
  refine LoopEnd.mk (T'' := [(3, _), (4, _), (5, _)]) ⟨rfl, rfl, rfl, trivial⟩ ?_
  rw [ha0]
  refine ⟨L.length - (k + 1), by omega, k + 1, ⟨by omega, rfl⟩, ?_, rfl⟩
  rw [textP_snoc hkl, if_neg (by rw [c18]; simp)]
  rfl
 try simp only [cvS] at c11
 refine PW.exit ?_
 refine hK1 _ _ ?_
 refine PW.k1 3 rfl ?_
 refine PW.seqOps ?_
 refine OL.dp rfl ?_
 refine OL.dp rfl ?_
 refine OL.nil ?_
 refine PW.k1 2 rfl ?_
 refine PW.ret ?_
 change (Exit.ret = Exit.normal ∨ Exit.ret = Exit.ret) /\ ∃ v, resV _ _ = some v /\ _
 have hke : k = L.length := by omega
 exact ⟨.inr rfl, _, rfl, _, Sub.drop (Sub.refl _), by rw [hke, List.take_length], rfl⟩
end Go.Proofs.Gr

namespace Go.Proofs.Gr
open Go.SL Go.RowKit Go.Proofs Go.GP
set_option maxHeartbeats 1000000
def hb1 (b : UInt8) : HashB := ⟨b :: List.replicate 31 0, by simp⟩
def str1 (b : UInt8) : ByteArray := ⟨#[b]⟩
def p1 (r : Nat) : PartM := ⟨hb1 1, 0, 0, rootV, endV, some ⟨r, 0, none⟩, 2, [str1 97, str1 98], none, 0, []⟩
def p2 (r : Nat) : PartM := ⟨hb1 2, 0, 0, (hb1 1, 0), (hb1 1, 1), some ⟨r, 0, none⟩, 1, [str1 120], none, 0, []⟩
def p3 (r g : Nat) : PartM := ⟨hb1 3, 0, 0, (hb1 1, 0), (hb1 1, 1), some ⟨r, 0, none⟩, 1, [str1 121], some ⟨g, 0, none⟩, 1, [(hb1 1, 0)]⟩
theorem part_stk {w0 : World} {S : SS} {P : Program} {n r k : Nat} {T : TT} {x v : PV} {u : PartM} {z : List Value} (hk : S[k]? = some [(r, .cells z 36 102)]) (hx : x.val T = some (.pointer (some ⟨r, 0, none⟩))) (hv : v.val T = some (partV u)) (hz : z.length = 102) :
  OW P w0 n (.st 102 x v) T S (fun _ S' => S' = S.set k (pseg r u)) := by
 refine (OW.st (k := k) (c := z) (u := partV u) hx hv hk ((List.size_toArray).trans (partC_len u)) (by omega) (partC_one u)).mono ?_
 rintro _ _ rfl
 rw [part_box, setAll (by rw [partC_len, hz])]
theorem part_read {w0 : World} {S : SS} {r E tot : Nat} {u : PartM} (hm : (r, AO.cells (partC u) E tot) ∈ S.flatten) : ReadsAs w0 S (some 102) ⟨r, 0, none⟩ (partV u) := ⟨partC u, rfl, partC_len u, all_at hm⟩
theorem at_fc {w0 : World} {S : SS} {b : UInt8} {n : Int} : FC Try.prog w0 26 [.int .u8 (b.toNat : Int), .int .i64 n] S (fun v S' => v = vtxV (hb1 b, n) /\ S' = S) := by
 refine FC.ofC Try.known26 (by simp) ?_
 unfold Try.pc26
 simp only [argT]
 refine PW.seqOps ?_
 refine OL.cons trivial OW.al ?_
 rintro _ _ ⟨r4, rfl, rfl⟩
 refine OL.nil ?_
 refine PW.k3 0 1 4 rfl rfl rfl ?_
 refine PW.seqOps ?_
 refine OL.dp rfl ?_
 refine OL.det trivial (.bldA (cs := bytesC (hb1 b).1) rfl) ?_
 refine OL.dp rfl ?_
 refine OL.det trivial (.build (fill_vtx (h := hb1 b) rfl rfl)) ?_
 refine OL.cons trivial (vtx_st (u := (hb1 b, n)) rfl rfl rfl) ?_
 rintro _ _ rfl
 refine OL.nil ?_
 refine PW.k1 4 rfl ?_
 refine PW.ret ?_
 change (Exit.ret = Exit.normal ∨ Exit.ret = Exit.ret) /\ ∃ a v, Go.SL.look _ _ = some (.pointer (some a)) /\ ReadsAs _ _ _ _ _ /\ _
 exact ⟨.inr rfl, _, _, rfl, vtx_read (r := r4) (v := (hb1 b, n)) (E := 32) (tot := 33) (List.Mem.head _), _, Sub.drop (Sub.refl _), rfl, rfl⟩
theorem first_fc {w0 : World} {S : SS} : FC Try.prog w0 23 [] S (fun v S' => ∃ r, v = partV (p1 r) /\ S' = [(r, .cells (strs [str1 97, str1 98]) 9 2)] :: S) := by
 refine FC.ofC Try.known23 (by simp) ?_
 unfold Try.pc23
 simp only [argT]
 refine PW.seqOps ?_
 refine OL.cons trivial OW.al ?_
 rintro _ _ ⟨r0, rfl, rfl⟩
 refine OL.nil ?_
 refine PW.k1 0 rfl ?_
 refine PW.seqOps ?_
 refine OL.det trivial (.bldA (cs := bytesC (hb1 1).1) rfl) ?_
 refine OL.call trivial rfl (rootL_fc) ?_
 rintro _ Sx ⟨rfl, hSx⟩
 rw [hSx]
 clear hSx
 refine OL.call trivial rfl (endL_fc) ?_
 rintro _ Sx ⟨rfl, hSx⟩
 rw [hSx]
 clear hSx
 refine OL.cons trivial (OW.bsl rfl) ?_
 rintro _ _ ⟨r4, rfl, rfl⟩
 refine OL.det trivial (.build (cs := partC (p1 r4)) rfl) ?_
 refine OL.cons trivial (part_stk (k := 1) (u := p1 r4) rfl rfl rfl rfl) ?_
 rintro _ _ rfl
 refine OL.nil ?_
 refine PW.k1 0 rfl ?_
 refine PW.ret ?_
 change (Exit.ret = Exit.normal ∨ Exit.ret = Exit.ret) /\ ∃ a v, Go.SL.look _ _ = some (.pointer (some a)) /\ ReadsAs _ _ _ _ _ /\ _
 exact ⟨.inr rfl, _, _, rfl, part_read (r := r0) (u := p1 r4) (E := 36) (tot := 102) (List.mem_flatten.2 ⟨_, .tail _ (.head _), List.mem_singleton.2 rfl⟩), _, Sub.cons (Sub.drop (Sub.refl _)), r4, rfl, rfl⟩
theorem second_fc {w0 : World} {S : SS} : FC Try.prog w0 24 [] S (fun v S' => ∃ r, v = partV (p2 r) /\ S' = [(r, .cells (strs [str1 120]) 9 1)] :: S) := by
 refine FC.ofC Try.known24 (by simp) ?_
 unfold Try.pc24
 simp only [argT]
 refine PW.seqOps ?_
 refine OL.cons trivial OW.al ?_
 rintro _ _ ⟨r0, rfl, rfl⟩
 refine OL.nil ?_
 refine PW.k1 0 rfl ?_
 refine PW.seqOps ?_
 refine OL.det trivial (.bldA (cs := bytesC (hb1 2).1) rfl) ?_
 refine OL.call trivial rfl (at_fc (b := 1)) ?_
 rintro _ Sx ⟨rfl, hSx⟩
 rw [hSx]
 clear hSx
 refine OL.call trivial rfl (at_fc (b := 1)) ?_
 rintro _ Sx ⟨rfl, hSx⟩
 rw [hSx]
 clear hSx
 refine OL.cons trivial (OW.bsl rfl) ?_
 rintro _ _ ⟨r4, rfl, rfl⟩
 refine OL.det trivial (.build (cs := partC (p2 r4)) rfl) ?_
 refine OL.cons trivial (part_stk (k := 1) (u := p2 r4) rfl rfl rfl rfl) ?_
 rintro _ _ rfl
 refine OL.nil ?_
 refine PW.k1 0 rfl ?_
 refine PW.ret ?_
 change (Exit.ret = Exit.normal ∨ Exit.ret = Exit.ret) /\ ∃ a v, Go.SL.look _ _ = some (.pointer (some a)) /\ ReadsAs _ _ _ _ _ /\ _
 exact ⟨.inr rfl, _, _, rfl, part_read (r := r0) (u := p2 r4) (E := 36) (tot := 102) (List.mem_flatten.2 ⟨_, .tail _ (.head _), List.mem_singleton.2 rfl⟩), _, Sub.cons (Sub.drop (Sub.refl _)), r4, rfl, rfl⟩
theorem third_fc {w0 : World} {S : SS} : FC Try.prog w0 25 [] S (fun v S' => ∃ r g, v = partV (p3 r g) /\ S' = [(g, .cells (vtxs [(hb1 1, 0)]) 32 33)] :: [(r, .cells (strs [str1 121]) 9 1)] :: S) := by
 refine FC.ofC Try.known25 (by simp) ?_
 unfold Try.pc25
 simp only [argT]
 refine PW.seqOps ?_
 refine OL.cons trivial OW.al ?_
 rintro _ _ ⟨r0, rfl, rfl⟩
 refine OL.nil ?_
 refine PW.k1 0 rfl ?_
 refine PW.seqOps ?_
 refine OL.det trivial (.bldA (cs := bytesC (hb1 3).1) rfl) ?_
 refine OL.call trivial rfl (at_fc (b := 1)) ?_
 rintro _ Sx ⟨rfl, hSx⟩
 rw [hSx]
 clear hSx
 refine OL.call trivial rfl (at_fc (b := 1)) ?_
 rintro _ Sx ⟨rfl, hSx⟩
 rw [hSx]
 clear hSx
 refine OL.cons trivial (OW.bsl rfl) ?_
 rintro _ _ ⟨r4, rfl, rfl⟩
 refine OL.call trivial rfl (at_fc (b := 1)) ?_
 rintro _ Sx ⟨rfl, hSx⟩
 rw [hSx]
 clear hSx
 refine OL.cons trivial (OW.bsl (cs := vtxs [(hb1 1, 0)]) rfl) ?_
 rintro _ _ ⟨r6, rfl, rfl⟩
 refine OL.det trivial (.build (cs := partC (p3 r4 r6)) rfl) ?_
 refine OL.cons trivial (part_stk (k := 2) (u := p3 r4 r6) rfl rfl rfl rfl) ?_
 rintro _ _ rfl
 refine OL.nil ?_
 refine PW.k1 0 rfl ?_
 refine PW.ret ?_
 change (Exit.ret = Exit.normal ∨ Exit.ret = Exit.ret) /\ ∃ a v, Go.SL.look _ _ = some (.pointer (some a)) /\ ReadsAs _ _ _ _ _ /\ _
 exact ⟨.inr rfl, _, _, rfl, part_read (r := r0) (u := p3 r4 r6) (E := 36) (tot := 102) (List.mem_flatten.2 ⟨_, .tail _ (.tail _ (.head _)), List.mem_singleton.2 rfl⟩), _, Sub.cons (Sub.cons (Sub.drop (Sub.refl _))), r4, r6, rfl, rfl⟩
end Go.Proofs.Gr

namespace Go.Proofs.Gr
open Go.SL Go.RowKit Go.Proofs Go.GP
set_option maxHeartbeats 1000000
structure ActM where
 rm : Bool
 p : PartM
instance : Inhabited ActM := ⟨⟨false, zPart⟩⟩
def actC (a : ActM) : List Value := .bool a.rm :: partC a.p
def actS (l : List ActM) : List Value := l.flatMap actC
structure Acts (w0 : World) (A : Option Addr) (l : List ActM) : Prop where
 rd : Rd w0 [] A (actS l)
 part : ∀ x ∈ l, PartA w0 x.p
 len : l.length <= 1000000000000000
theorem PartA.rng {W : World} {p : PartM} (h : PartA W p) (h1 : p.lines.length <= 12) (h2 : p.gone.length <= 12) (h3 : p.first <= 1000000) : PartR p :=
 ⟨h.at_, ⟨h.first.1, by omega⟩, by omega, by omega, h.gcap, h.gnil, h.up, h.down, h.gone⟩
theorem Acts.get {w0 : World} {A : Option Addr} {l : List ActM} (h : Acts w0 A l) {k : Nat} (hk : k < l.length) : PartA w0 l[k].p := h.part _ (List.getElem_mem hk)
end Go.Proofs.Gr

namespace Go.Proofs.Gr
open Go.SL Go.RowKit Go.Proofs Go.GP
def stepR (E : List (Vtx × Vtx)) (l : List Vtx) : List Vtx := l ++ (E.filter fun e => decide (e.1 ∈ l) && !decide (e.2 ∈ l)).map (·.2)
def iterR (E : List (Vtx × Vtx)) : Nat -> List Vtx -> List Vtx
 | 0, l => l
 | n + 1, l => iterR E n (stepR E l)
def reachL (E : List (Vtx × Vtx)) (a : Vtx) : List Vtx := iterR E E.length ((E.filter fun e => decide (e.1 = a)).map (·.2))
def closedB (E : List (Vtx × Vtx)) (a : Vtx) : Bool := E.all fun e => !(decide (e.1 = a) || decide (e.1 ∈ reachL E a)) || decide (e.2 ∈ reachL E a)
theorem iterR_sound {E : List (Vtx × Vtx)} {a : Vtx} : ∀ (n : Nat) (l : List Vtx), (∀ v ∈ l, Rch E a v) -> ∀ v ∈ iterR E n l, Rch E a v
 | 0, l, h => h
 | n + 1, l, h => by
  refine iterR_sound n _ fun v hv => ?_
  unfold stepR at hv
  rcases List.mem_append.1 hv with hv | hv
  ·exact h v hv
  obtain ⟨e, he, rfl⟩ := List.mem_map.1 hv
  rw [List.mem_filter, Bool.and_eq_true, decide_eq_true_eq] at he
  exact (h _ he.2.1).snoc he.1
theorem rch_iff {E : List (Vtx × Vtx)} {a b : Vtx} (hc : closedB E a = true) : Rch E a b ↔ b ∈ reachL E a := by
 unfold closedB at hc
 rw [List.all_eq_true] at hc
 have hc' : ∀ e ∈ E, (e.1 = a ∨ e.1 ∈ reachL E a) -> e.2 ∈ reachL E a := by
  intro e he h
  have := hc e he
  rcases h with h | h
  ·simpa [h] using this
  simpa [h] using this
 constructor
 ·have key : ∀ x y, Rch E x y -> (x = a ∨ x ∈ reachL E a) -> y ∈ reachL E a := by
   intro x y h
   induction h with
   | one h => exact fun hx => hc' _ h hx
   | cons h1 h2 ih => exact fun hx => ih (.inr (hc' _ h1 hx))
  exact fun h => key _ _ h (.inl rfl)
 exact iterR_sound _ _ (fun v hv => by
  obtain ⟨e, he, rfl⟩ := List.mem_map.1 hv
  rw [List.mem_filter, decide_eq_true_eq] at he
  obtain ⟨h1, h2⟩ := he
  subst h2
  exact .one h1) b
def hasC (ps : List PartP) (v : Vtx) : Bool := decide (v = rootV) || decide (v = endV) || decide (v ∈ allV ps)
theorem hasC_iff {ps : List PartP} {v : Vtx} : hasC ps v = true ↔ HasV ps v := by
 unfold hasC HasV
 simp [or_assoc]
def befC (ps : List PartP) (a b : Vtx) : Bool := hasC ps a && hasC ps b && !decide (a = b) && !decide (a = endV) && !decide (b = rootV) && (decide (a = rootV) || decide (b = endV) || decide (b ∈ reachL (allE ps) a))
theorem befC_iff {ps : List PartP} {a b : Vtx} (hc : closedB (allE ps) a = true) : befC ps a b = true ↔ Bef ps a b := by
 unfold befC Bef
 rw [rch_iff hc]
 simp only [Bool.and_eq_true, hasC_iff, Bool.or_eq_true, decide_eq_true_eq, Bool.not_eq_true', decide_eq_false_iff_not, and_assoc, ne_eq, or_assoc]
def formedC (p : PartP) : Bool := decide p.gone.Nodup && (p.gone.all fun v => !decide (v = rootV) && !decide (v = endV)) && decide (0 <= p.first) && !decide (p.up = endV) && !decide (p.down = rootV)
theorem formedC_iff {p : PartP} : formedC p = true ↔ Formed p := by
 unfold formedC
 simp only [Bool.and_eq_true, decide_eq_true_eq, Bool.not_eq_true', decide_eq_false_iff_not, List.all_eq_true]
 constructor
 ·rintro ⟨⟨⟨⟨h1, h2⟩, h3⟩, h4⟩, h5⟩
  exact ⟨h1, fun v hv => h2 v hv, h3, h4, h5⟩
 rintro ⟨h1, h2, h3, h4, h5⟩
 exact ⟨⟨⟨⟨h1, fun v hv => h2 v hv⟩, h3⟩, h4⟩, h5⟩
def thereC (ps : List PartP) (p : PartP) : Bool := (ps.any fun q => decide (q.name = p.name)) || (own p).any fun v => decide (v ∈ allV ps)
def addC (ps : List PartP) (p : PartP) : Int :=
 if thereC ps p then 6 else if !formedC p then 4 else if !hasC ps p.up || !hasC ps p.down || (p.gone.any fun v => !decide (v ∈ allV ps)) then 10 else if !befC ps p.up p.down then 4 else 0
theorem thereC_iff {ps : List PartP} {G : Gr} (h : GP.Inv ps G) {p : PartP} : thereC ps p = true ↔ ThereG G p := by
 rw [h.there]
 unfold thereC
 simp only [Bool.or_eq_true, List.any_eq_true, decide_eq_true_eq]
theorem addC_eq {ps : List PartP} {G : Gr} (h : GP.Inv ps G) (hs : Sq ps) {p : PartP} (hc : closedB (allE ps) p.up = true) : addE G p = addC ps p := by
 unfold addC
 by_cases h1 : ThereG G p
 ·rw [addE_there h1, if_pos ((thereC_iff h).2 h1)]
 rw [if_neg (fun k => h1 ((thereC_iff h).1 k))]
 by_cases h2 : ¬ Formed p
 ·rw [addE_form h1 h2, if_pos (by
   cases e : formedC p with
   | false => rfl
   | true => exact absurd (formedC_iff.1 e) h2)]
 have h2 := Classical.not_not.1 h2
 rw [if_neg (by rw [formedC_iff.2 h2]; simp)]
 have hh : ∀ v, hasC ps v = false ↔ ¬ HasG G v := fun v => by
  rw [h.has, <- hasC_iff]; simp
 have hg : (p.gone.any fun v => !decide (v ∈ allV ps)) = true ↔ ∃ v ∈ p.gone, v ∉ mks G.nodes := by
  simp only [List.any_eq_true, Bool.not_eq_true', decide_eq_false_iff_not, h.keys]
 by_cases h3 : ¬ HasG G p.up ∨ ¬ HasG G p.down ∨ ∃ v ∈ p.gone, v ∉ mks G.nodes
 ·rw [addE_dep h1 h2 h3, if_pos]
  simp only [Bool.or_eq_true, Bool.not_eq_true', hh, hg, or_assoc]
  exact h3
 rw [if_neg (by
  simp only [Bool.or_eq_true, Bool.not_eq_true', hh, hg, or_assoc]
  exact h3)]
 have k1 : HasG G p.up := Classical.byContradiction fun k => h3 (.inl k)
 have k2 : HasG G p.down := Classical.byContradiction fun k => h3 (.inr (.inl k))
 have k3 : ∀ v ∈ p.gone, v ∈ mks G.nodes := fun v hv => Classical.byContradiction fun k => h3 (.inr (.inr ⟨v, hv, k⟩))
 rw [addE_bef h1 h2 k1 k2 k3]
 have hb : befB G p.up p.down = befC ps p.up p.down := by
  rw [Bool.eq_iff_iff, befB_iff, h.bef hs, befC_iff hc]
 rw [hb]
 simp only [Bool.not_eq_true']
def newC (ps : List PartP) (p : PartP) : Bool := decide (addC ps p = 0) && closedB (allE ps) p.up
theorem newC_new {ps : List PartP} {p : PartP} (hs : Sq ps) (hi : ∃ G, GP.Inv ps G) (h : newC ps p = true) : New ps p := by
 unfold newC at h
 rw [Bool.and_eq_true, decide_eq_true_eq] at h
 obtain ⟨G, hG⟩ := hi
 exact (addE_zero hG hs).1 ((addC_eq hG hs h.2).trans h.1)
def comesC : List PartP -> List PartP -> Bool
 | _, [] => true
 | ps, p :: r => newC ps p && comesC (p :: ps) r
def Comes : List PartP -> List PartP -> Prop
 | _, [] => True
 | ps, p :: r => New ps p /\ Comes (p :: ps) r
theorem comesC_comes : ∀ {l ps : List PartP} (hs : Sq ps) (hi : ∃ G, GP.Inv ps G) (h : comesC ps l = true), Comes ps l
 | [], _, _, _, _ => trivial
 | p :: r, ps, hs, hi, h => by
  unfold comesC at h
  rw [Bool.and_eq_true] at h
  have hn := newC_new hs hi h.1
  obtain ⟨G, hG⟩ := hi
  exact ⟨hn, comesC_comes (.cons hn hs) ⟨_, hG.add hs hn⟩ h.2⟩
theorem comes_start {l : List PartP} (h : comesC [] l = true) : Comes [] l := comesC_comes .nil ⟨_, GP.Inv.nil⟩ h
end Go.Proofs.Gr

namespace Go.Proofs.Gr
open Go.SL Go.RowKit Go.Proofs Go.GP
set_option maxHeartbeats 1000000
def partS (l : List PartM) : List Value := l.flatMap partC
theorem partS_len (l : List PartM) : (partS l).length = l.length * 102 := by unfold partS; rw [List.length_flatMap]; simp [partC_len, List.map_const']
theorem partS_get {l : List PartM} {k : Nat} (hk : k < l.length) {j : Nat} (hj : j < 102) : (partS l)[k * 102 + j]? = (partC l[k])[j]? := by
 unfold partS
 rw [flat_get partC_len l (k * 102 + j) (by omega), show (k * 102 + j) / 102 = k from by omega, show (k * 102 + j) % 102 = j from by omega, getElem!_pos l k hk]
theorem partS_some {w0 : World} {S : SS} {A : Option Addr} {l : List PartM} (h : Rd w0 S A (partS l)) (hk : 0 < l.length) : ∃ a, A = some a :=
 h.some (fun e => by have := partS_len l; rw [e] at this; simp at this; omega)
theorem partS_at {w0 : World} {S : SS} {a : Addr} {l : List PartM} {k : Nat} (h : Rd w0 S (some a) (partS l)) (hk : k < l.length) : ∀ (j : Nat) (v : Value), (partC l[k])[j]? = some v -> Cell w0 S ((a.add (k * 102)).add j) v := by
 intro j v hj
 have hj2 : j < 102 := by have := (List.getElem?_eq_some_iff.1 hj).1; rwa [partC_len] at this
 rw [addr_add_add]
 exact h.at (by rw [partS_get hk hj2]; exact hj)
structure PartRd (w0 : World) (S : SS) (p : PartM) : Prop where
 rdL : Rd w0 S p.LA (strs p.lines)
 rdG : Rd w0 S p.GA (vtxs p.gone)
 rng : PartR p
 small : p.lines.length <= 100 /\ p.gone.length <= 100
theorem PartRd.mono {w0 : World} {S S' : SS} {p : PartM} (h : PartRd w0 S p) (hs : Over S S') : PartRd w0 S' p := ⟨h.rdL.mono hs, h.rdG.mono hs, h.rng, h.small⟩
theorem Comes.at : ∀ {l : List PartP} {ps : List PartP} {k : Nat} (h : Comes ps l) (hk : k < l.length), New ((l.take k).reverse ++ ps) l[k]
 | [], _, _, _, hk => by simp at hk
 | p :: r, ps, 0, h, _ => by simpa using h.1
 | p :: r, ps, k + 1, h, hk => by
  have := Comes.at (k := k) h.2 (by simpa using hk)
  simpa using this
theorem over_nil {S : SS} : Over [] S := fun q h => by simp at h
def pls (l : List PartM) : List PartP := l.map PartM.pl
theorem pls_take {l : List PartM} {k : Nat} (hk : k < l.length) : (pls (l.take (k + 1))).reverse = l[k].pl :: (pls (l.take k)).reverse := by
 unfold pls
 rw [ltake_snoc hk, List.map_append, List.reverse_append]
 rfl
theorem small_n {l : List PartM} (h : ∀ p ∈ l, p.lines.length <= 100 /\ p.gone.length <= 100) : ∀ k, k <= l.length -> (allV (pls (l.take k)).reverse).length + (pls (l.take k)).reverse.length <= 101 * k
 | 0, _ => by simp [pls, allV]
 | k + 1, hk => by
  have hkl : k < l.length := by omega
  have ih := small_n h k (by omega)
  have h1 := (h _ (List.getElem_mem hkl)).1
  rw [pls_take hkl, allV_cons, List.length_append, List.length_cons, own_len]
  show l[k].lines.length + _ + _ <= _
  omega
theorem made_fc {w0 : World} {S : SS} {A : Option Addr} {c : Nat} {l : List PartM} (h : Rd w0 S A (partS l)) (hp : ∀ p ∈ l, PartRd w0 S p) (hl : l.length <= 100) (hn : Comes [] (pls l)) :
  FC Try.prog w0 22 [.slice A l.length c] S (fun v S' => ∃ m, v = m.ptr /\ S' = GS m ++ S /\ GG w0 [] m (pls l).reverse /\ m.lim <= 100000) := by
 have hsm := small_n (fun p h => (hp p h).small)
 refine FC.ofD Try.known22 (by simp) ?_
 unfold Try.pc22
 simp only [argT]
 refine PW.seqOps ?_
 refine OL.dp rfl ?_
 refine OL.nil ?_
 refine PW.k1 0 rfl ?_
 refine PW.seqOps ?_
 refine OL.call trivial rfl (new_fc (X := [])) ?_
 rintro _ _ ⟨m0, rfl, rfl, hm0, hg0, hl0⟩
 refine OL.dp rfl ?_
 refine OL.nil ?_
 refine PW.k2 0 3 rfl rfl ?_
 refine PW.seq fun K1 hK1 => ?_
 refine PW.seqOps ?_
 refine OL.dp rfl ?_
 refine OL.nil ?_
 refine PW.k3 0 3 4 rfl rfl rfl ?_
 refine PW.block ?_
 refine PW.k3 0 3 4 rfl rfl rfl ?_
 refine PW.loopK (I := fun mm T S' => ∃ (k : Nat) (m : GrM), (k <= l.length /\ mm = l.length - k /\ GG w0 [] m (pls (l.take k)).reverse /\ m.lim <= 303 * k /\ m.r = m0.r) /\ T = ([(0, .slice A l.length c), (3, m0.ptr), (4, .int .i64 k)] : TT) /\ S' = GS m ++ S) (m := l.length) ⟨0, m0, ⟨by omega, by omega, ⟨hm0, by rw [hg0]; exact GP.Inv.nil, Sq.nil, by simp [pls, allV], by omega⟩, by omega, rfl⟩, rfl, rfl⟩ ?_
 rintro mm _ _ ⟨k, m, ⟨hk, hmm, hg, hlim, hr⟩, rfl, rfl⟩
 refine PW.seq fun K2 hK2 => ?_
 refine PW.seqOps ?_
 refine OL.dp rfl ?_
 refine OL.dp rfl ?_
 refine OL.dp rfl ?_
 refine OL.dp rfl ?_
 refine OL.nil ?_
 refine PW.k4 0 3 4 9 rfl rfl rfl rfl ?_
 refine PW.cond rfl (fun c9 => ?_) (fun c9 => ?_)
 ·try simp only [cvS] at c9
  have hkl : k < l.length := by omega
  obtain ⟨a0, ha0⟩ := partS_some h (by omega)
  have hrd2 := h
  rw [ha0] at hrd2
  have hpk := hp _ (List.getElem_mem hkl)
  have hs1 := hsm k (by omega)
  have hsk := hpk.small
  have hnew : New (pls (l.take k)).reverse l[k].pl := by
   have := Comes.at (k := k) hn (by unfold pls; rw [List.length_map]; exact hkl)
   unfold pls at this ⊢
   rw [List.append_nil, List.getElem_map, <- List.map_take] at this
   exact this
  have hz := (addE_zero hg.inv hg.sq).2 hnew
  refine PW.skip ?_
  refine hK2 _ _ ?_
  refine PW.k3 0 3 4 rfl rfl rfl ?_
  refine PW.seq fun K3 hK3 => ?_
  refine PW.block ?_
  refine PW.seqOps ?_
  refine OL.dp rfl ?_
  refine OL.dp rfl ?_
  refine OL.dp rfl ?_
  rw [ha0]
  refine OL.det trivial (.ixN rfl rfl rfl (by omega)) ?_
  refine OL.det trivial (.ldA rfl (partC_len _) (partS_at (hrd2.appR (A := GS m)) hkl)) ?_
  refine OL.call trivial rfl (by rw [<- ptr_eq hr]; exact add2_fc hg over_nil hpk.rng hpk.rdL hpk.rdG (by omega) (by unfold addL; omega)) ?_
  rintro _ _ ⟨m2, rfl, rfl, hg2, hl2, hr2, _⟩
  rw [hz]
  refine OL.dp rfl ?_
  refine OL.nil ?_
  refine PW.k4 0 3 4 18 rfl rfl rfl rfl ?_
  refine PW.cond rfl (fun c18 => ?_) (fun c18 => ?_)
  ·skip
   exfalso; simp at c18
   -- done
  skip
  refine PW.skip ?_
  refine hK3 _ _ ?_
  refine PW.k3 0 3 4 rfl rfl rfl ?_
  refine PW.ops ?_
  refine OL.dp rfl ?_
  refine OL.det trivial (.add64 rfl rfl (by omega) (by omega)) ?_
  refine OL.dp rfl ?_
  refine OL.nil ?_
  repeat rw [inBlk_n]
  try rw [thenK_n]
  refine LoopEnd.mk (T'' := [(0, _), (3, _), (4, _)]) ⟨rfl, rfl, rfl, trivial⟩ ?_
  rw [ha0]
  rw [came_new hnew, <- pls_take hkl] at hg2
  exact ⟨l.length - (k + 1), by omega, k + 1, m2, ⟨by omega, rfl, hg2, by unfold addL at hl2; omega, hr2.trans hr⟩, rfl, rfl⟩
 try simp only [cvS] at c9
 refine PW.exit ?_
 refine hK1 _ _ ?_
 refine PW.k1 3 rfl ?_
 refine PW.seqOps ?_
 refine OL.dp rfl ?_
 refine OL.dp rfl ?_
 refine OL.nil ?_
 refine PW.k1 2 rfl ?_
 refine PW.ret ?_
 change (Exit.ret = Exit.normal ∨ Exit.ret = Exit.ret) /\ ∃ v, resV _ _ = some v /\ _
 have hke : k = l.length := by omega
 rw [hke, List.take_length] at hg
 exact ⟨.inr rfl, _, rfl, _, Sub.refl _, m, (ptr_eq hr).symm, rfl, hg, by omega⟩
theorem fill_part1 {T : TT} {x : PV} {p : PartM} {zero : List Value} (hx : x.val T = some (partV p)) (hz : zero.length = 102) : fillP T zero [(0, 102, x)] = some (partS [p]) := by
 simp only [fillP, hx]
 rw [if_pos ⟨(List.size_toArray).trans (partC_len p), by omega⟩]
 refine congrArg some ((setAll (by rw [hz]; exact (partC_len p).symm)).trans ?_)
 show partC p = partS [p]
 simp [partS]
theorem fill_part2 {T : TT} {x y : PV} {p q : PartM} {zero : List Value} (hx : x.val T = some (partV p)) (hy : y.val T = some (partV q)) (hz : zero.length = 204) : fillP T zero [(0, 102, x), (102, 102, y)] = some (partS [p, q]) := by
 have e1 := partC_len p
 have e2 := partC_len q
 have f1 : (setAt zero 0 (partC p)).length = 204 := by rw [setAt_length]; exact hz
 simp only [fillP, hx, hy]
 rw [if_pos ⟨(List.size_toArray).trans e1, by omega⟩]
 show (if (partV q).cells.size = 102 /\ 102 + 102 <= (setAt zero 0 (partC p)).length then some (setAt (setAt zero 0 (partC p)) 102 (partC q)) else none) = _
 rw [if_pos ⟨(List.size_toArray).trans e2, by omega⟩]
 congr 1
 rw [setAt_eq _ _ _ (by omega), setAt_eq zero 0 _ (by omega)]
 rw [show List.take 0 zero = [] from rfl, List.nil_append, List.take_append_of_le_length (by omega), List.take_of_length_le (by omega), List.drop_eq_nil_of_le (by rw [List.length_append, List.length_drop]; omega)]
 simp [partS]
theorem fill_part3 {T : TT} {x y z : PV} {p q r : PartM} {zero : List Value} (hx : x.val T = some (partV p)) (hy : y.val T = some (partV q)) (hr : z.val T = some (partV r)) (hz : zero.length = 306) : fillP T zero [(0, 102, x), (102, 102, y), (204, 102, z)] = some (partS [p, q, r]) := by
 have e1 := partC_len p
 have e2 := partC_len q
 have e3 := partC_len r
 have f1 : (setAt zero 0 (partC p)).length = 306 := by rw [setAt_length]; exact hz
 have f2 : (setAt (setAt zero 0 (partC p)) 102 (partC q)).length = 306 := by rw [setAt_length]; exact f1
 simp only [fillP, hx, hy, hr]
 rw [if_pos ⟨(List.size_toArray).trans e1, by omega⟩]
 show (if (partV q).cells.size = 102 /\ 102 + 102 <= (setAt zero 0 (partC p)).length then (if (partV r).cells.size = 102 /\ 204 + 102 <= (setAt (setAt zero 0 (partC p)) 102 (partC q)).length then some (setAt (setAt (setAt zero 0 (partC p)) 102 (partC q)) 204 (partC r)) else none) else none) = _
 rw [if_pos ⟨(List.size_toArray).trans e2, by omega⟩, if_pos ⟨(List.size_toArray).trans e3, by omega⟩]
 congr 1
 have g1 : setAt zero 0 (partC p) = partC p ++ zero.drop 102 := by
  rw [setAt_eq zero 0 _ (by omega), show List.take 0 zero = [] from rfl, List.nil_append, Nat.zero_add, e1]
 have g2 : setAt (partC p ++ zero.drop 102) 102 (partC q) = partC p ++ (partC q ++ zero.drop 204) := by
  rw [setAt_eq _ _ _ (by rw [List.length_append, List.length_drop]; omega), List.take_append_of_le_length (by omega), List.take_of_length_le (by omega), List.drop_append, List.drop_eq_nil_of_le (by omega), e1, e2, List.drop_drop, List.nil_append, List.append_assoc]
 have g3 : setAt (partC p ++ (partC q ++ zero.drop 204)) 204 (partC r) = partC p ++ (partC q ++ partC r) := by
  have h1 : (partC p ++ partC q).length = 204 := by rw [List.length_append]; omega
  have h2 : (zero.drop 204).length = 102 := by rw [List.length_drop]; omega
  rw [<- List.append_assoc, setAt_eq _ _ _ (by rw [List.length_append]; omega), List.take_append_of_le_length (by omega), List.take_of_length_le (by omega), List.drop_eq_nil_of_le (by rw [List.length_append]; omega)]
  simp
 rw [g1, g2, g3]
 simp [partS]
def q1 : PartP := (p1 0).pl
def q2 : PartP := (p2 0).pl
def q3 : PartP := (p3 0 0).pl
def rngC (p : PartP) : Bool := decide (-9223372036854775808 <= p.at_ /\ p.at_ <= 9223372036854775807) && decide (-9223372036854775808 <= p.first /\ p.first <= 4611686018427387904) && decide (p.lines.length <= 100) && decide (p.gone.length <= 100) && decide (-9223372036854775808 <= p.up.2 /\ p.up.2 <= 9223372036854775807) && decide (-9223372036854775808 <= p.down.2 /\ p.down.2 <= 9223372036854775807) && p.gone.all fun v => decide (-9223372036854775808 <= v.2 /\ v.2 <= 9223372036854775807)
theorem rd_of {w0 : World} {S : SS} {p : PartM} (hL : Rd w0 S p.LA (strs p.lines)) (hG : Rd w0 S p.GA (vtxs p.gone)) (h : rngC p.pl = true) (hc : p.gone.length <= p.gc) (hn : p.GA = none -> p.gc = 0) : PartRd w0 S p := by
 unfold rngC at h
 simp only [Bool.and_eq_true, decide_eq_true_eq, List.all_eq_true] at h
 obtain ⟨⟨⟨⟨⟨⟨h1, h2⟩, h3⟩, h4⟩, h5⟩, h6⟩, h7⟩ := h
 have h3' : p.lines.length <= 100 := h3
 have h4' : p.gone.length <= 100 := h4
 exact ⟨hL, hG, ⟨h1, h2, by omega, by omega, hc, hn, h5, h6, h7⟩, h3', h4'⟩
theorem p1_rd {w0 : World} {S : SS} {r : Nat} (h : [(r, AO.cells (strs [str1 97, str1 98]) 9 2)] ∈ S) : PartRd w0 S (p1 r) :=
 rd_of (p := p1 r) (Rd.own (E := 9) (tot := 2) (List.mem_flatten.2 ⟨_, h, List.mem_singleton.2 rfl⟩)) Rd.nil (show rngC q1 = true by decide +kernel) (Nat.le_refl _) (fun _ => rfl)
theorem p2_rd {w0 : World} {S : SS} {r : Nat} (h : [(r, AO.cells (strs [str1 120]) 9 1)] ∈ S) : PartRd w0 S (p2 r) :=
 rd_of (p := p2 r) (Rd.own (E := 9) (tot := 1) (List.mem_flatten.2 ⟨_, h, List.mem_singleton.2 rfl⟩)) Rd.nil (show rngC q2 = true by decide +kernel) (Nat.le_refl _) (fun _ => rfl)
theorem p3_rd {w0 : World} {S : SS} {r g : Nat} (h : [(r, AO.cells (strs [str1 121]) 9 1)] ∈ S) (h2 : [(g, AO.cells (vtxs [(hb1 1, 0)]) 32 33)] ∈ S) : PartRd w0 S (p3 r g) :=
 rd_of (p := p3 r g) (Rd.own (E := 9) (tot := 1) (List.mem_flatten.2 ⟨_, h, List.mem_singleton.2 rfl⟩)) (Rd.own (E := 32) (tot := 33) (List.mem_flatten.2 ⟨_, h2, List.mem_singleton.2 rfl⟩)) (show rngC q3 = true by decide +kernel) (Nat.le_refl _) (fun h => by cases h)
theorem small_txt {ps : List PartP} (h : (ps.all fun p => p.lines.all fun s => decide (s.size <= 140737488351232)) = true) : Txt ps := fun p hp s hs => by
 have := List.all_eq_true.1 (List.all_eq_true.1 h p hp) s hs
 simpa using this
theorem comes1 : Comes [] [q1] := comes_start (by decide +kernel)
theorem comes123 : Comes [] [q1, q2, q3] := comes_start (by decide +kernel)
theorem comes132 : Comes [] [q1, q3, q2] := comes_start (by decide +kernel)
theorem comes12 : Comes [] [q1, q2] := comes_start (by decide +kernel)
theorem text1 : textP (linesP [q1]) = ⟨#[97, 32, 98, 32]⟩ := by decide +kernel
theorem text123 : textP (linesP [q3, q2, q1]) = ⟨#[40, 97, 41, 32, 120, 32, 121, 32, 98, 32]⟩ := by decide +kernel
theorem text132 : textP (linesP [q2, q3, q1]) = ⟨#[40, 97, 41, 32, 120, 32, 121, 32, 98, 32]⟩ := by decide +kernel
set_option maxRecDepth 100000 in
theorem awake_fc {w0 : World} {S : SS} : FC Try.prog w0 13 [] S (fun v S' => v = .bool true /\ S' = S) := by
 refine FC.ofD Try.known13 (by simp) ?_
 unfold Try.pc13
 simp only [argT]
 refine PW.seqOps ?_
 refine OL.dp rfl ?_
 refine OL.nil ?_
 refine PW.keep (T' := []) trivial ?_
 refine PW.seqOps ?_
 refine OL.call trivial rfl (first_fc) ?_
 rintro _ _ ⟨r1, rfl, rfl⟩
 refine OL.cons trivial (OW.bsl (cs := partS [p1 r1]) (fill_part1 rfl rfl)) ?_
 rintro _ _ ⟨r2, rfl, rfl⟩
 refine OL.call trivial rfl (made_fc (l := [p1 r1]) (Rd.own (E := 36) (tot := 102) (List.mem_flatten.2 ⟨_, .head _, List.mem_singleton.2 rfl⟩)) (fun p hp => by simp at hp; subst hp; exact p1_rd (by simp)) (show 1 <= 100 by decide) comes1) ?_
 rintro _ _ ⟨m1, rfl, rfl, hg1, hl1⟩
 change GG w0 [] m1 [q1] at hg1
 refine OL.call trivial rfl (text_fc hg1 over_nil (small_txt (by decide +kernel)) (by decide +kernel)) ?_
 rintro _ Sx ⟨rfl, hSx⟩
 rw [hSx]
 clear hSx
 rw [text1]
 refine OL.det trivial (.to (v' := .bool true) (Yields.pure rfl) (congrArg Value.bool (beq_self_eq_true _))) ?_
 refine OL.dp rfl ?_
 refine OL.call rfl rfl (first_fc) ?_
 rintro _ _ ⟨r7, rfl, rfl⟩
 refine OL.call rfl rfl (second_fc) ?_
 rintro _ _ ⟨r8, rfl, rfl⟩
 refine OL.call rfl rfl (third_fc) ?_
 rintro _ _ ⟨r9, g9, rfl, rfl⟩
 refine OL.cons rfl (OW.bsl (cs := partS [p1 r7, p2 r8, p3 r9 g9]) (fill_part3 rfl rfl rfl rfl)) ?_
 rintro _ _ ⟨r10, rfl, rfl⟩
 refine OL.call rfl rfl (made_fc (l := [p1 r7, p2 r8, p3 r9 g9]) (Rd.own (E := 36) (tot := 306) (List.mem_flatten.2 ⟨_, .head _, List.mem_singleton.2 rfl⟩)) (fun p hp => by simp only [List.mem_cons, List.not_mem_nil, or_false] at hp; rcases hp with rfl | rfl | rfl; exact p1_rd (by simp); exact p2_rd (by simp); exact p3_rd (by simp) (by simp)) (show 3 <= 100 by decide) comes123) ?_
 rintro _ _ ⟨m2, rfl, rfl, hg2, hl2⟩
 change GG w0 [] m2 [q3, q2, q1] at hg2
 refine OL.call rfl rfl (text_fc hg2 over_nil (small_txt (by decide +kernel)) (by decide +kernel)) ?_
 rintro _ Sx ⟨rfl, hSx⟩
 rw [hSx]
 clear hSx
 rw [text123]
 refine OL.det rfl (.to (v' := .bool true) (Yields.pure rfl) (congrArg Value.bool (beq_self_eq_true _))) ?_
 refine OL.dp rfl ?_
 refine OL.dp rfl ?_
 refine OL.nil ?_
 refine PW.k1 0 rfl ?_
 refine PW.ret ?_
 change (Exit.ret = Exit.normal ∨ Exit.ret = Exit.ret) /\ ∃ v, resV _ _ = some v /\ _
 exact ⟨.inr rfl, _, rfl, _, Sub.drop (Sub.drop (Sub.drop (Sub.drop (Sub.drop (Sub.drop (Sub.drop (Sub.drop (Sub.drop (Sub.drop (Sub.drop (Sub.drop (Sub.drop (Sub.drop (Sub.drop (Sub.refl _))))))))))))))), rfl, rfl⟩
end Go.Proofs.Gr

namespace Go.Proofs.Gr
open Go.SL Go.RowKit Go.Proofs Go.GP
set_option maxHeartbeats 1000000
theorem before3_fc {w0 : World} {S X : SS} {m : GrM} {ps : List PartP} {r : Bool} (h : GG w0 X m ps) (hS : Over (GS m ++ X) S) {a b : Vtx} (ha : okV a) (hb : okV b) (e : befP ps a b = r) :
  FC Try.prog w0 18 [m.ptr, vtxV a, vtxV b] S (fun u S' => u = .bool r /\ S' = S) := by
 rw [<- e]
 exact before2_fc h hS ha hb
theorem GG.okV {w0 : World} {X : SS} {m : GrM} {ps : List PartP} (h : GG w0 X m ps) {v : Vtx} (hv : v ∈ allV ps) : Gr.okV v := by
 have hk : mks m.gr.nodes = mks m.nodes := mks_plN _
 have hv2 := (h.inv.keys v).2 hv
 rw [hk] at hv2
 obtain ⟨n, hn⟩ := mem_mks.1 hv2
 exact h.ok.nk _ (mgt_some_mem hn)
end Go.Proofs.Gr

namespace Go.Proofs.Gr
open Go.SL Go.RowKit Go.Proofs Go.GP
theorem _root_.Go.GP.New.more {ps qs : List PartP} {p : PartP} (h : New ps p) (hs : ∀ q ∈ ps, q ∈ qs) (hn : ∀ q ∈ qs, q.name ≠ p.name) (ho : ∀ v ∈ own p, v ∉ allV qs) : New qs p :=
 ⟨hn, ho, h.first, h.upE, h.downR, h.gone0, h.goneR, h.up.mono hs, h.down.mono hs, fun v hv => by
  obtain ⟨q, hq, hvq⟩ := mem_allV.1 (h.gone v hv)
  exact mem_allV.2 ⟨q, hs q hq, hvq⟩, h.bef.mono hs⟩
def Apart (p q : PartP) : Prop := p.name ≠ q.name /\ ∀ v ∈ own p, v ∉ own q
theorem Apart.symm {p q : PartP} (h : Apart p q) : Apart q p := ⟨fun e => h.1 e.symm, fun v hv hm => h.2 v hm hv⟩
theorem _root_.Go.GP.Sq.apart {ps : List PartP} (h : Sq ps) : ps.Pairwise Apart := by
 induction h with
 | nil => exact .nil
 | cons h t ih => exact .cons (fun q hq => ⟨fun e => h.name q hq e.symm, fun v hv hm => h.own v hv (mem_allV.2 ⟨q, hq, hm⟩)⟩) ih
theorem _root_.Go.GP.New.formed {ps : List PartP} {p : PartP} (h : New ps p) : Formed p := ⟨h.gone0, h.goneR, h.first, h.upE, h.downR⟩
theorem _root_.Go.GP.Sq.formed {ps : List PartP} (h : Sq ps) : ∀ p ∈ ps, Formed p := by
 induction h with
 | nil => intro p hp; cases hp
 | cons h t ih =>
  intro p hp
  rcases List.mem_cons.1 hp with rfl | hp
  ·exact h.formed
  exact ih p hp
theorem _root_.Go.GP.Sq.gr {ps : List PartP} (h : Sq ps) : ∃ G, GP.Inv ps G := by
 induction h with
 | nil => exact ⟨_, GP.Inv.nil⟩
 | cons h t ih =>
  obtain ⟨G, hG⟩ := ih
  exact ⟨_, hG.add t h⟩
end Go.Proofs.Gr

namespace Go.Proofs.Gr
open Go.SL Go.RowKit Go.Proofs Go.GP
set_option maxHeartbeats 1000000
section
variable {w0 : World} {S : SS} {a : Addr} {l : List PartM} {k : Nat}
end
theorem GG.hasParts {w0 : World} {X : SS} {m : GrM} {ps : List PartP} (h : GG w0 X m ps) : ∀ q ∈ m.parts, q.1 = q.2.pl.name := by
 intro q hq
 exact h.inv.pname (q.1, q.2.pl) (List.mem_map.2 ⟨q, hq, rfl⟩)
theorem remove2_fc {w0 : World} {S X : SS} {m : GrM} {ps : List PartP} (h : GG w0 X m ps) (hX : Over X S) {p : PartP} (hp : p ∈ ps) (hat : Gr.okV p.name) (hlim : m.lim + 4000000000 <= 500000000000) :
  FC Try.prog w0 21 [m.ptr, hashV p.patch, .int .i64 p.at_] (GS m ++ S) (fun v S' => ∃ m', v = .int .i64 (remE m.gr p.name) /\ S' = GS m' ++ S /\ m'.r = m.r /\ m'.lim <= m.lim + 4000000000 /\ (remE m.gr p.name ≠ 0 -> m' = m) /\ (remE m.gr p.name = 0 -> ∃ A B, ps = A ++ p :: B /\ GG w0 X m' (A ++ B))) := by
 refine (remove_fc h.ok hX hat h.hasParts (by omega)).mono ?_
 rintro v S' ⟨m', h1, h2, h3, h4, h5, h6, h7⟩
 refine ⟨m', h1, h2, h5, h6, h7, fun he => ?_⟩
 obtain ⟨A, B, rfl⟩ := List.append_of_mem hp
 obtain ⟨i, s⟩ := remT_inv h.inv h.sq he
 refine ⟨A, B, rfl, h3, ?_, s, ?_, by omega⟩
 ·have e : m'.gr = remT m.gr p.name := h4
  rw [e]; exact i
 have hn := h.n
 rw [allV_app, allV_cons] at hn
 rw [allV_app]
 simp only [List.length_append, List.length_cons] at hn ⊢
 omega
end Go.Proofs.Gr

namespace Go.Proofs.Gr
open Go.SL Go.RowKit Go.Proofs Go.GP
set_option maxHeartbeats 1000000
theorem gs_a {a : GrM} {s : Seg} {S : SS} : Sub (GS a ++ (s :: S)) (s :: (GS a ++ S)) := Sub.sel [1, 2, 3, 4, 0] 5 (by decide) (s :: (GS a ++ S))
end Go.Proofs.Gr

namespace Go.SL
open Go Go.RowKit
variable {P : Program} {w0 : World} {n : Nat} {T : TT} {S : SS}
end Go.SL

namespace Go.SL
open Go.RowKit
section
variable {P : Program} {w0 : World} {n : Nat} {T : TT} {S : SS} {Ss : SS -> Prop} {K : TT -> SS -> Prop}
theorem OW.cut {po : PO} {K K' : Value -> SS -> Prop} (h : OW P w0 n po T S K) (hk : ∀ v S', K v S' -> ∃ S2, Sub S2 S' /\ K' v S2) : OW P w0 n po T S K' := fun o a w Q hc hs hr =>
 Oper.wp_mono (fun a' w' ⟨v, S', e, r, k⟩ => let ⟨S2, h1, h2⟩ := hk v S' k; ⟨v, S2, e, r.subS h1, h2⟩) (h o a w Q hc hs hr)
theorem OL.cut {po : PO} {d : Option Nat} {g : Option (Nat × Bool)} {r : List PI} {K : TT -> SS -> Prop} {K' : Value -> SS -> Prop} (hg : gOk T g) (h : OW P w0 n po T S K') (hk : ∀ v S', K' v S' -> ∃ S2, Sub S2 S' /\ OL P w0 n r (put d v T) S2 K) : OL P w0 n (⟨d, g, po⟩ :: r) T S K :=
 OL.cons hg (h.cut (K' := fun v S2 => OL P w0 n r (put d v T) S2 K) hk) (fun _ _ h => h)
end
end Go.SL

namespace Go.Proofs.Gr
open Go.SL Go.RowKit Go.Proofs Go.GP
set_option maxHeartbeats 1000000
abbrev zseg (r : Nat) : Seg := [(r, .cells [.bool false, .map none, .map none, .slice none 0 0] 57 4)]
def zptr (r : Nat) : Value := .pointer (some ⟨r, 0, none⟩)
theorem zseg_cell {w0 : World} {S : SS} {r : Nat} (h : Over [zseg r] S) : Cell w0 S ⟨r, 0, none⟩ (.bool false) := own_at (j := 0) (c := [.bool false, .map none, .map none, .slice none 0 0]) (E := 57) (tot := 4) (h _ (by simp)) rfl
theorem isZero_fc {w0 : World} {S : SS} {r : Nat} (h : Over [zseg r] S) : FC Try.prog w0 48 [zptr r] S (fun v S' => v = .bool false /\ S' = S) := by
 refine FC.of Try.known48 (by simp) ?_
 unfold Try.pc48
 simp only [argT]
 refine PW.seqOps ?_
 refine OL.dp rfl ?_
 refine OL.nil ?_
 refine PW.k1 0 rfl ?_
 refine PW.seqOps ?_
 refine OL.dp rfl ?_
 refine OL.det trivial (Yields.eqPn rfl rfl) ?_
 refine OL.dp rfl ?_
 refine OL.det rfl (.pure rfl) ?_
 refine OL.det rfl (Yields.nilc rfl) ?_
 refine OL.det rfl (.pure rfl) ?_
 refine OL.det rfl (.ld rfl (zseg_cell h)) ?_
 refine OL.dp rfl ?_
 refine OL.dp rfl ?_
 refine OL.nil ?_
 refine PW.k1 2 rfl ?_
 refine PW.ret ?_
 change (Exit.ret = Exit.normal ∨ Exit.ret = Exit.ret) /\ ∃ v, resV _ _ = some v /\ _
 exact ⟨.inr rfl, _, rfl, rfl, rfl⟩
theorem hasZero_fc {w0 : World} {S : SS} {r : Nat} (h : Over [zseg r] S) {v : Vtx} : FC Try.prog w0 29 [zptr r, vtxV v] S (fun u S' => u = .bool false /\ S' = S) := by
 refine FC.ofD Try.known29 (by simp) ?_
 unfold Try.pc29
 simp only [argT]
 refine PW.seqOps ?_
 refine OL.cons trivial (OW.bx rfl) ?_
 rintro _ _ ⟨r3, rfl, rfl⟩
 rw [vtx_box, vtxL_len]
 refine OL.dp rfl ?_
 refine OL.nil ?_
 refine PW.k2 0 3 rfl rfl ?_
 refine PW.seq fun K1 hK1 => ?_
 refine PW.quietK Try.mixed ?_
 refine QK.dp rfl ?_
 refine QK.call trivial rfl (isZero_fc h.cons) ?_
 refine QK.dp rfl ?_
 refine QK.off rfl rfl ?_
 refine QK.off rfl rfl ?_
 refine QK.off rfl rfl ?_
 refine QK.off rfl rfl ?_
 refine QK.off rfl rfl ?_
 refine QK.off rfl rfl ?_
 refine QK.off rfl rfl ?_
 refine QK.off rfl rfl ?_
 refine QK.off rfl rfl ?_
 refine QK.off rfl rfl ?_
 refine QK.off rfl rfl ?_
 refine QK.nil ?_
 change OL _ _ _ [_, _, _, _] _ _ _
 refine OL.off rfl rfl ?_
 refine OL.off rfl rfl ?_
 refine OL.dp rfl ?_
 refine OL.dp rfl ?_
 refine OL.nil ?_
 refine hK1 _ _ ?_
 refine PW.k1 4 rfl ?_
 refine PW.ret ?_
 change (Exit.ret = Exit.normal ∨ Exit.ret = Exit.ret) /\ ∃ v, resV _ _ = some v /\ _
 exact ⟨.inr rfl, _, rfl, _, Sub.drop (Sub.refl _), rfl, rfl⟩
theorem removeZero_fc {w0 : World} {S : SS} {r : Nat} (h : Over [zseg r] S) {p : HashB} {i : Int} : FC Try.prog w0 21 [zptr r, hashV p, .int .i64 i] S (fun u S' => u = .int .i64 1 /\ S' = S) := by
 refine FC.ofD Try.known21 (by simp) ?_
 unfold Try.pc21
 simp only [argT]
 refine PW.seqOps ?_
 refine OL.cons trivial (OW.bx rfl) ?_
 rintro _ _ ⟨r4, rfl, rfl⟩
 refine OL.dp rfl ?_
 refine OL.nil ?_
 refine PW.k3 0 2 4 rfl rfl rfl ?_
 refine PW.seq fun K1 hK1 => ?_
 refine PW.seqOps ?_
 refine OL.dp rfl ?_
 refine OL.call trivial rfl (isZero_fc h.cons) ?_
 rintro _ Sx ⟨rfl, hSx⟩
 rw [hSx]
 clear hSx
 refine OL.dp rfl ?_
 refine OL.nil ?_
 refine PW.k4 0 2 4 13 rfl rfl rfl rfl ?_
 refine PW.ite (b := true) rfl ?_
 rw [if_pos rfl]
 refine PW.seqOps ?_
 refine OL.dp rfl ?_
 refine OL.nil ?_
 refine PW.k1 6 rfl ?_
 refine PW.ret ?_
 change (Exit.ret = Exit.normal ∨ Exit.ret = Exit.ret) /\ ∃ v, resV _ _ = some v /\ _
 exact ⟨.inr rfl, _, rfl, _, Sub.drop (Sub.refl _), rfl, rfl⟩
theorem linesZero_fc {w0 : World} {S : SS} {r : Nat} (h : Over [zseg r] S) : FC Try.prog w0 17 [zptr r] S (fun v S' => v = .slice none 0 0 /\ S' = S) := by
 refine FC.ofD Try.known17 (by simp) ?_
 unfold Try.pc17
 simp only [argT]
 refine PW.seqOps ?_
 refine OL.dp rfl ?_
 refine OL.nil ?_
 refine PW.k2 0 2 rfl rfl ?_
 refine PW.seq fun K1 hK1 => ?_
 refine PW.seqOps ?_
 refine OL.dp rfl ?_
 refine OL.call trivial rfl (isZero_fc h) ?_
 rintro _ Sx ⟨rfl, hSx⟩
 rw [hSx]
 clear hSx
 refine OL.dp rfl ?_
 refine OL.nil ?_
 refine PW.k3 0 2 13 rfl rfl rfl ?_
 refine PW.ite (b := true) rfl ?_
 rw [if_pos rfl]
 refine PW.seqOps ?_
 refine OL.dp rfl ?_
 refine OL.nil ?_
 refine PW.k1 2 rfl ?_
 refine PW.ret ?_
 change (Exit.ret = Exit.normal ∨ Exit.ret = Exit.ret) /\ ∃ v, resV _ _ = some v /\ _
 exact ⟨.inr rfl, _, rfl, _, Sub.refl _, rfl, rfl⟩
theorem linesNone_fc {w0 : World} {S : SS} : FC Try.prog w0 17 [.pointer none] S (fun v S' => v = .slice none 0 0 /\ S' = S) := by
 refine FC.ofD Try.known17 (by simp) ?_
 unfold Try.pc17
 simp only [argT]
 refine PW.seqOps ?_
 refine OL.dp rfl ?_
 refine OL.nil ?_
 refine PW.k2 0 2 rfl rfl ?_
 refine PW.seq fun K1 hK1 => ?_
 refine PW.seqOps ?_
 refine OL.dp rfl ?_
 refine OL.call trivial rfl (isNil_fc) ?_
 rintro _ Sx ⟨rfl, hSx⟩
 rw [hSx]
 clear hSx
 refine OL.dp rfl ?_
 refine OL.nil ?_
 refine PW.k3 0 2 13 rfl rfl rfl ?_
 refine PW.ite (b := true) rfl ?_
 rw [if_pos rfl]
 refine PW.seqOps ?_
 refine OL.dp rfl ?_
 refine OL.nil ?_
 refine PW.k1 2 rfl ?_
 refine PW.ret ?_
 change (Exit.ret = Exit.normal ∨ Exit.ret = Exit.ret) /\ ∃ v, resV _ _ = some v /\ _
 exact ⟨.inr rfl, _, rfl, _, Sub.refl _, rfl, rfl⟩
theorem copyNone_fc {w0 : World} {S : SS} : FC Try.prog w0 15 [.pointer none] S (fun v S' => v = .pointer none /\ S' = S) := by
 refine FC.ofD Try.known15 (by simp) ?_
 unfold Try.pc15
 simp only [argT]
 refine PW.seqOps ?_
 refine OL.dp rfl ?_
 refine OL.nil ?_
 refine PW.k1 0 rfl ?_
 refine PW.seq fun K1 hK1 => ?_
 refine PW.seqOps ?_
 refine OL.dp rfl ?_
 refine OL.call trivial rfl (isNil_fc) ?_
 rintro _ Sx ⟨rfl, hSx⟩
 rw [hSx]
 clear hSx
 refine OL.dp rfl ?_
 refine OL.nil ?_
 refine PW.k2 0 5 rfl rfl ?_
 refine PW.ite (b := true) rfl ?_
 rw [if_pos rfl]
 refine PW.seqOps ?_
 refine OL.dp rfl ?_
 refine OL.nil ?_
 refine PW.k1 2 rfl ?_
 refine PW.ret ?_
 change (Exit.ret = Exit.normal ∨ Exit.ret = Exit.ret) /\ ∃ v, resV _ _ = some v /\ _
 exact ⟨.inr rfl, _, rfl, _, Sub.refl _, rfl, rfl⟩
theorem beforeZero_fc {w0 : World} {S : SS} {r : Nat} (h : Over [zseg r] S) {a b : Vtx} : FC Try.prog w0 18 [zptr r, vtxV a, vtxV b] S (fun v S' => v = .bool false /\ S' = S) := by
 refine FC.ofD Try.known18 (by simp) ?_
 unfold Try.pc18
 simp only [argT]
 refine PW.seqOps ?_
 refine OL.cons trivial (OW.bx rfl) ?_
 rintro _ _ ⟨r4, rfl, rfl⟩
 rw [vtx_box, vtxL_len]
 refine OL.cons trivial (OW.bx rfl) ?_
 rintro _ _ ⟨r5, rfl, rfl⟩
 rw [vtx_box, vtxL_len]
 refine OL.dp rfl ?_
 refine OL.nil ?_
 refine PW.k3 0 4 5 rfl rfl rfl ?_
 refine PW.seq fun K1 hK1 => ?_
 refine PW.block ?_
 refine PW.seq fun K2 hK2 => ?_
 refine PW.quietK Try.mixed ?_
 refine QK.dp rfl ?_
 refine QK.det trivial (.ldA rfl (vtxL_len _) (all_at (List.mem_flatten.2 ⟨_, .tail _ (.head _), List.mem_singleton.2 rfl⟩))) ?_
 refine QK.call trivial rfl (hasZero_fc h.cons.cons) ?_
 refine QK.dp rfl ?_
 refine QK.dp rfl ?_
 refine QK.off rfl rfl ?_
 refine QK.off rfl rfl ?_
 refine QK.off rfl rfl ?_
 refine QK.off rfl rfl ?_
 refine QK.dp rfl ?_
 refine QK.dp rfl ?_
 refine QK.off rfl rfl ?_
 refine QK.off rfl rfl ?_
 refine QK.off rfl rfl ?_
 refine QK.dp rfl ?_
 refine QK.dp rfl ?_
 refine QK.off rfl rfl ?_
 refine QK.off rfl rfl ?_
 refine QK.off rfl rfl ?_
 refine QK.dp rfl ?_
 refine QK.dp rfl ?_
 refine QK.off rfl rfl ?_
 refine QK.off rfl rfl ?_
 refine QK.nil ?_
 change OL _ _ _ [_, _, _] _ _ _
 refine OL.off rfl rfl ?_
 refine OL.dp rfl ?_
 refine OL.dp rfl ?_
 refine OL.nil ?_
 refine hK2 _ _ ?_
 refine PW.k4 0 4 5 14 rfl rfl rfl rfl ?_
 refine PW.ite (b := true) rfl ?_
 rw [if_pos rfl]
 refine PW.seqOps ?_
 refine OL.dp rfl ?_
 refine OL.nil ?_
 refine PW.k1 6 rfl ?_
 refine PW.ret ?_
 change (Exit.ret = Exit.normal ∨ Exit.ret = Exit.ret) /\ ∃ v, resV _ _ = some v /\ _
 exact ⟨.inr rfl, _, rfl, _, Sub.drop (Sub.drop (Sub.refl _)), rfl, rfl⟩
theorem addNone_fc {w0 : World} {S : SS} {p : PartM} : FC Try.prog w0 16 [.pointer none, partV p] S (fun v S' => v = .int .i64 1 /\ S' = S) := by
 refine FC.ofD Try.known16 (by simp) ?_
 unfold Try.pc16
 simp only [argT]
 refine PW.seqOps ?_
 refine OL.cons trivial (OW.bx rfl) ?_
 rintro _ _ ⟨r2, rfl, rfl⟩
 refine OL.cons trivial (OW.bx rfl) ?_
 rintro _ _ ⟨r3, rfl, rfl⟩
 refine OL.dp rfl ?_
 refine OL.nil ?_
 refine PW.k2 2 3 rfl rfl ?_
 refine PW.seq fun K1 hK1 => ?_
 refine PW.block ?_
 refine PW.seqOps ?_
 refine OL.det trivial (.ld rfl (own_at (j := 0) (c := [.pointer none]) (E := 25) (tot := 1) (List.mem_flatten.2 ⟨_, .tail _ (.head _), List.mem_singleton.2 rfl⟩) rfl)) ?_
 refine OL.call trivial rfl (isNil_fc) ?_
 rintro _ Sx ⟨rfl, hSx⟩
 rw [hSx]
 clear hSx
 refine OL.dp rfl ?_
 refine OL.dp rfl ?_
 refine OL.nil ?_
 refine PW.k3 2 3 7 rfl rfl rfl ?_
 refine PW.ite (b := true) rfl ?_
 rw [if_pos rfl]
 refine PW.seqOps ?_
 refine OL.dp rfl ?_
 refine OL.nil ?_
 refine PW.k1 4 rfl ?_
 refine PW.ret ?_
 change (Exit.ret = Exit.normal ∨ Exit.ret = Exit.ret) /\ ∃ v, resV _ _ = some v /\ _
 exact ⟨.inr rfl, _, rfl, _, Sub.drop (Sub.drop (Sub.refl _)), rfl, rfl⟩
end Go.Proofs.Gr

namespace Go.Proofs.Gr
open Go.SL Go.RowKit Go.Proofs Go.GP
set_option maxHeartbeats 1000000
theorem okRoot0 : okV rootV := by unfold okV; decide
theorem okEnd0 : okV endV := by unfold okV; decide
theorem over_app {X Y : SS} (A : SS) (h : Over X Y) : Over X (A ++ Y) := fun q hq => by rw [List.flatten_append]; exact List.mem_append_right _ (h q hq)
def p2a (r : Nat) : PartM := ⟨hb1 2, 0, 0, (hb1 1, 1), (hb1 1, 1), some ⟨r, 0, none⟩, 1, [str1 120], none, 0, []⟩
def p2t (r : Nat) : PartM := ⟨hb1 2, 0, 0, (hb1 1, 1), (hb1 1, 0), some ⟨r, 0, none⟩, 1, [str1 120], none, 0, []⟩
def q2t : PartP := (p2t 0).pl
theorem p2t_rd {w0 : World} {S : SS} {r : Nat} (h : [(r, AO.cells (strs [str1 120]) 9 1)] ∈ S) : PartRd w0 S (p2t r) :=
 rd_of (p := p2t r) (Rd.own (E := 9) (tot := 1) (List.mem_flatten.2 ⟨_, h, List.mem_singleton.2 rfl⟩)) Rd.nil (show rngC q2t = true by decide +kernel) (Nat.le_refl _) (fun _ => rfl)
theorem set_up (r : Nat) : setAt (partC (p2 r)) (0 + 34) (vtxV (hb1 1, 1)).cells.toList = partC (p2a r) := rfl
theorem set_down (r : Nat) : setAt (partC (p2a r)) (0 + 67) (vtxV (hb1 1, 0)).cells.toList = partC (p2t r) := rfl
theorem add_dep0 : addC [] q2 = 10 := by decide +kernel
theorem add_there : addC [q2, q1] q1 = 6 := by decide +kernel
theorem add_form : addC [q1] q2t = 4 := by decide +kernel
theorem bef_23 : befC [q3, q2, q1] (hb1 2, 0) (hb1 3, 0) = false := by decide +kernel
theorem bef_32 : befC [q3, q2, q1] (hb1 3, 0) (hb1 2, 0) = false := by decide +kernel
theorem bef_01 : befC [q3, q2, q1] (hb1 1, 0) (hb1 1, 1) = true := by decide +kernel
theorem bef_re : befC [q3, q2, q1] rootV endV = true := by decide +kernel
theorem bef_rr : befC [q3, q2, q1] rootV rootV = false := by decide +kernel
theorem bef_of {ps : List PartP} {a b : Vtx} {r : Bool} (hc : closedB (allE ps) a = true) (h : befC ps a b = r) : befP ps a b = r := by
 rw [Bool.eq_iff_iff, befP_iff, <- befC_iff hc, h]
def looseB (ps : List PartP) (p : PartP) : Bool := ps.all fun q => (names q).all fun v => !decide (v ∈ own p)
theorem looseB_iff {ps : List PartP} {p : PartP} : looseB ps p = true ↔ Loose1 ps p := by
 unfold looseB Loose1
 simp only [List.all_eq_true, Bool.not_eq_true', decide_eq_false_iff_not]
theorem loose_h : looseB [q2, q1] q1 = false := by decide +kernel
theorem loose_g : looseB [q3, q2, q1] q3 = true := by decide +kernel
theorem remE_dep {ps : List PartP} {G : Gr} (h : GP.Inv ps G) {p : PartP} (hp : p ∈ ps) (hl : looseB ps p = false) : remE G p.name = 10 := by
 have h1 : remE G p.name ≠ 0 := fun e => by rw [(looseB_iff).2 ((remE_zero h hp).1 e)] at hl; cases hl
 unfold remE at h1 ⊢
 rw [Inv.get h hp] at h1 ⊢
 simp only at h1 ⊢
 split
 ·rfl
 rename_i k; rw [if_neg k] at h1; exact absurd rfl h1
theorem remE_none {ps : List PartP} {G : Gr} (h : GP.Inv ps G) {nm : HashB × Int} (hn : ∀ p ∈ ps, p.name ≠ nm) : remE G nm = 5 := by
 unfold remE
 have : mgt G.parts nm = none := by
  rw [mgt_none]
  intro hm
  obtain ⟨q, hq⟩ := mem_mks.1 hm
  have e := h.pname _ (mgt_some_mem hq)
  simp only at e
  exact hn q ((h.part q).1 (by rw [<- e]; exact mgt_some_mem hq)) e.symm
 rw [this]
theorem names_h : ∀ p ∈ [q2, q1], p.name ≠ (hb1 9, (0 : Int)) := by
 intro p hp
 have : ([q2, q1].all fun p => !decide (p.name = (hb1 9, (0 : Int)))) = true := by decide +kernel
 simpa using List.all_eq_true.1 this p hp
theorem text_gone : textP (linesP [q2, q1]) = ⟨#[97, 32, 120, 32, 98, 32]⟩ := by decide +kernel
theorem q3_other : decide (q3.patch = q2.patch) = false /\ decide (q3.patch = q1.patch) = false := by decide +kernel
theorem cut_q3 {A B : List PartP} (h : [q3, q2, q1] = A ++ q3 :: B) : A ++ B = [q2, q1] := by
 have h1 : q3 ≠ q2 := fun e => (of_decide_eq_false q3_other.1) (congrArg PartP.patch e)
 have h2 : q3 ≠ q1 := fun e => (of_decide_eq_false q3_other.2) (congrArg PartP.patch e)
 match A, h with
 | [], h => simp at h; rw [h]; rfl
 | [a], h => simp at h; exact absurd h.2.1.symm h1
 | [a, b], h => simp at h; exact absurd h.2.2.1.symm h2
 | a :: b :: c :: A, h => have := congrArg List.length h; simp at this
theorem addCode_fc {w0 : World} {S : SS} {m : GrM} {ps : List PartP} {p : PartM} {e : Int} (h : GG w0 [] m ps) (hp : PartRd w0 S p) (hcl : closedB (allE ps) p.pl.up = true) (he : addC ps p.pl = e) (hc : (allV ps).length + ps.length + p.lines.length + 1 <= 1000000) (hlim : m.lim + addL p <= 500000000000) :
  FC Try.prog w0 16 [m.ptr, partV p] (GS m ++ S) (fun v S' => ∃ m', v = .int .i64 e /\ S' = GS m' ++ S) := by
 refine (add2_fc h over_nil hp.rng hp.rdL hp.rdG hc hlim).mono ?_
 rintro _ _ ⟨m', rfl, rfl, _⟩
 exact ⟨m', by rw [addC_eq h.inv h.sq hcl, he], rfl⟩
theorem GG.zero {w0 : World} {m : GrM} (h : GOk w0 [] m) (hg : m.gr = ⟨[], [], []⟩) (hl : m.lim = 0) : GG w0 [] m [] := ⟨h, by rw [hg]; exact GP.Inv.nil, Sq.nil, by simp [allV], by omega⟩
theorem okB (b : UInt8) {n : Int} (h : 0 <= n /\ n <= 1000) : okV (hb1 b, n) := ⟨by show -9223372036854775808 <= n; omega, by show n <= 9223372036854775807; omega⟩
set_option maxRecDepth 100000 in
theorem graphKnown_fc {w0 : World} {S : SS} : FC Try.prog w0 5 [] S (fun v S' => v = .bool true) := by
 refine FC.ofD Try.known5 (by simp) ?_
 unfold Try.pc5
 simp only [argT]
 refine PW.seqOps ?_
 refine OL.dp rfl ?_
 refine OL.nil ?_
 refine PW.keep (T' := []) trivial ?_
 refine PW.seqOps ?_
 refine OL.call trivial rfl (first_fc) ?_
 rintro _ _ ⟨r6, rfl, rfl⟩
 refine OL.call trivial rfl (second_fc) ?_
 rintro _ _ ⟨r7, rfl, rfl⟩
 refine OL.call trivial rfl (third_fc) ?_
 rintro _ _ ⟨r8, g8, rfl, rfl⟩
 refine OL.cons trivial (OW.bsl (cs := partS [p1 r6, p2 r7, p3 r8 g8]) (fill_part3 rfl rfl rfl rfl)) ?_
 rintro _ _ ⟨r9, rfl, rfl⟩
 refine OL.call trivial rfl (made_fc (l := [p1 r6, p2 r7, p3 r8 g8]) (Rd.own (E := 36) (tot := 306) (List.mem_flatten.2 ⟨_, .head _, List.mem_singleton.2 rfl⟩)) (fun p hp => by simp only [List.mem_cons, List.not_mem_nil, or_false] at hp; rcases hp with rfl | rfl | rfl; exact p1_rd (by simp); exact p2_rd (by simp); exact p3_rd (by simp) (by simp)) (show 3 <= 100 by decide) comes123) ?_
 rintro _ _ ⟨m1, rfl, rfl, hg1, hl1⟩
 change GG w0 [] m1 [q3, q2, q1] at hg1
 refine OL.subS (S' := GS m1 ++ S) (Sub.sel [0, 1, 2, 3] 9 (by decide) (GS m1 ++ (_ :: _ :: _ :: _ :: _ :: S))) ?_
 refine OL.dp rfl ?_
 refine OL.nil ?_
 refine PW.k1 1 rfl ?_
 refine PW.seqOps ?_
 refine OL.call trivial rfl (second_fc) ?_
 rintro _ _ ⟨r11, rfl, rfl⟩
 refine OL.cons trivial OW.al ?_
 rintro _ _ ⟨r2, rfl, rfl⟩
 refine OL.cons trivial (part_stk (k := 0) (u := p2 r11) rfl rfl rfl rfl) ?_
 rintro _ _ rfl
 refine OL.nil ?_
 refine PW.k2 1 2 rfl rfl ?_
 refine PW.seqOps ?_
 refine OL.call trivial rfl (at_fc (b := 1)) ?_
 rintro _ Sx ⟨rfl, hSx⟩
 rw [hSx]
 clear hSx
 refine OL.call trivial rfl (at_fc (b := 1)) ?_
 rintro _ Sx ⟨rfl, hSx⟩
 rw [hSx]
 clear hSx
 refine OL.dp rfl ?_
 refine OL.cons trivial (OW.st (k := 0) (b := r2) (o := 0 + 34) (c := partC (p2 r11)) (u := vtxV (hb1 1, 1)) rfl rfl rfl (List.size_toArray.trans (vtxL_len _)) (by rw [partC_len]; decide) (vtxL_one _)) ?_
 rintro _ _ rfl
 rw [set_up]
 refine OL.dp rfl ?_
 refine OL.cons trivial (OW.st (k := 0) (b := r2) (o := 0 + 67) (c := partC (p2a r11)) (u := vtxV (hb1 1, 0)) rfl rfl rfl (List.size_toArray.trans (vtxL_len _)) (by rw [partC_len]; decide) (vtxL_one _)) ?_
 rintro _ _ rfl
 rw [set_down]
 change OL _ _ _ _ _ (pseg r2 (p2t r11) :: [(r11, .cells (strs [str1 120]) 9 1)] :: (GS m1 ++ S)) _
 refine OL.nil ?_
 refine PW.k2 1 2 rfl rfl ?_
 refine PW.seqOps ?_
 refine OL.call trivial rfl (first_fc) ?_
 rintro _ _ ⟨r16, rfl, rfl⟩
 refine OL.call trivial rfl (second_fc) ?_
 rintro _ _ ⟨r17, rfl, rfl⟩
 refine OL.cons trivial (OW.bsl (cs := partS [p1 r16, p2 r17]) (fill_part2 rfl rfl rfl)) ?_
 rintro _ _ ⟨r18, rfl, rfl⟩
 refine OL.call trivial rfl (made_fc (l := [p1 r16, p2 r17]) (Rd.own (E := 36) (tot := 204) (List.mem_flatten.2 ⟨_, .head _, List.mem_singleton.2 rfl⟩)) (fun p hp => by simp only [List.mem_cons, List.not_mem_nil, or_false] at hp; rcases hp with rfl | rfl; exact p1_rd (by simp); exact p2_rd (by simp)) (show 2 <= 100 by decide) comes12) ?_
 rintro _ _ ⟨m2, rfl, rfl, hg2, hl2⟩
 change GG w0 [] m2 [q2, q1] at hg2
 refine OL.dp rfl ?_
 refine OL.nil ?_
 refine PW.k3 1 2 3 rfl rfl rfl ?_
 refine PW.seqOps ?_
 refine OL.dp rfl ?_
 refine OL.nil ?_
 refine PW.k4 1 2 3 4 rfl rfl rfl rfl ?_
 refine PW.seqOps ?_
 refine OL.det trivial (.build rfl) ?_
 refine OL.cons trivial (OW.bx rfl) ?_
 rintro _ _ ⟨r21, rfl, rfl⟩
 refine OL.subS (S' := GS m1 ++ (GS m2 ++ (zseg r21 :: pseg r2 (p2t r11) :: [(r11, .cells (strs [str1 120]) 9 1)] :: S))) (Sub.sel [10, 11, 12, 13, 1, 2, 3, 4, 0, 8, 9] 14 (by decide) (zseg r21 :: (GS m2 ++ (_ :: _ :: _ :: pseg r2 (p2t r11) :: [(r11, .cells (strs [str1 120]) 9 1)] :: (GS m1 ++ S))))) ?_
 refine OL.dp rfl ?_
 refine OL.nil ?_
 refine PW.k5 1 2 3 4 5 rfl rfl rfl rfl rfl ?_
 refine PW.seq fun K1 hK1 => ?_
 refine PW.seqOps ?_
 refine OL.call trivial rfl (awake_fc) ?_
 rintro _ Sx ⟨rfl, hSx⟩
 rw [hSx]
 clear hSx
 refine OL.dp rfl ?_
 refine OL.dp rfl ?_
 refine OL.det rfl (.pure rfl) ?_
 refine OL.det rfl (Yields.eqPn rfl rfl) ?_
 refine OL.dp rfl ?_
 refine OL.dp rfl ?_
 refine OL.det rfl (.pure rfl) ?_
 refine OL.det rfl (Yields.eqPn rfl rfl) ?_
 refine OL.dp rfl ?_
 refine OL.dp rfl ?_
 refine OL.call rfl rfl (first_fc) ?_
 rintro _ _ ⟨r33, rfl, rfl⟩
 refine OL.call rfl rfl (third_fc) ?_
 rintro _ _ ⟨r34, g34, rfl, rfl⟩
 refine OL.call rfl rfl (second_fc) ?_
 rintro _ _ ⟨r35, rfl, rfl⟩
 refine OL.cons rfl (OW.bsl (cs := partS [p1 r33, p3 r34 g34, p2 r35]) (fill_part3 rfl rfl rfl rfl)) ?_
 rintro _ _ ⟨r36, rfl, rfl⟩
 refine OL.call rfl rfl (made_fc (l := [p1 r33, p3 r34 g34, p2 r35]) (Rd.own (E := 36) (tot := 306) (List.mem_flatten.2 ⟨_, .head _, List.mem_singleton.2 rfl⟩)) (fun p hp => by simp only [List.mem_cons, List.not_mem_nil, or_false] at hp; rcases hp with rfl | rfl | rfl; exact p1_rd (by simp); exact p3_rd (by simp) (by simp); exact p2_rd (by simp)) (show 3 <= 100 by decide) comes132) ?_
 rintro _ _ ⟨m3, rfl, rfl, hg3, hl3⟩
 change GG w0 [] m3 [q2, q3, q1] at hg3
 refine OL.call rfl rfl (text_fc hg3 over_nil (small_txt (by decide +kernel)) (by decide +kernel)) ?_
 rintro _ Sx ⟨rfl, hSx⟩
 rw [hSx]
 clear hSx
 rw [text132]
 refine OL.subS (S' := GS m1 ++ (GS m2 ++ (zseg r21 :: pseg r2 (p2t r11) :: [(r11, .cells (strs [str1 120]) 9 1)] :: S))) (Sub.sel [] 9 (by decide) (GS m3 ++ (_ :: _ :: _ :: _ :: _ :: (GS m1 ++ (GS m2 ++ (zseg r21 :: pseg r2 (p2t r11) :: [(r11, .cells (strs [str1 120]) 9 1)] :: S)))))) ?_
 refine OL.det rfl (.to (v' := .bool false) (Yields.pure rfl) (congrArg Value.bool (by simp))) ?_
 refine OL.dp rfl ?_
 refine OL.dp rfl ?_
 refine OL.det rfl (.pure rfl) ?_
 refine OL.call rfl rfl (at_fc (b := 2)) ?_
 rintro _ Sx ⟨rfl, hSx⟩
 rw [hSx]
 clear hSx
 refine OL.call rfl rfl (at_fc (b := 3)) ?_
 rintro _ Sx ⟨rfl, hSx⟩
 rw [hSx]
 clear hSx
 refine OL.call rfl rfl (before3_fc hg1 (Over.both over_nil) (okB _ (by decide)) (okB _ (by decide)) (bef_of (by decide +kernel) bef_23)) ?_
 rintro _ Sx ⟨rfl, hSx⟩
 rw [hSx]
 clear hSx
 refine OL.dp rfl ?_
 refine OL.dp rfl ?_
 refine OL.det rfl (.pure rfl) ?_
 refine OL.call rfl rfl (at_fc (b := 3)) ?_
 rintro _ Sx ⟨rfl, hSx⟩
 rw [hSx]
 clear hSx
 refine OL.call rfl rfl (at_fc (b := 2)) ?_
 rintro _ Sx ⟨rfl, hSx⟩
 rw [hSx]
 clear hSx
 refine OL.call rfl rfl (before3_fc hg1 (Over.both over_nil) (okB _ (by decide)) (okB _ (by decide)) (bef_of (by decide +kernel) bef_32)) ?_
 rintro _ Sx ⟨rfl, hSx⟩
 rw [hSx]
 clear hSx
 refine OL.dp rfl ?_
 refine OL.dp rfl ?_
 refine OL.det rfl (.pure rfl) ?_
 refine OL.call rfl rfl (at_fc (b := 1)) ?_
 rintro _ Sx ⟨rfl, hSx⟩
 rw [hSx]
 clear hSx
 refine OL.call rfl rfl (at_fc (b := 1)) ?_
 rintro _ Sx ⟨rfl, hSx⟩
 rw [hSx]
 clear hSx
 refine OL.call rfl rfl (before3_fc hg1 (Over.both over_nil) (okB _ (by decide)) (okB _ (by decide)) (bef_of (by decide +kernel) bef_01)) ?_
 rintro _ Sx ⟨rfl, hSx⟩
 rw [hSx]
 clear hSx
 refine OL.det rfl (.pure rfl) ?_
 refine OL.dp rfl ?_
 refine OL.dp rfl ?_
 refine OL.det rfl (.pure rfl) ?_
 refine OL.call rfl rfl (rootL_fc) ?_
 rintro _ Sx ⟨rfl, hSx⟩
 rw [hSx]
 clear hSx
 refine OL.call rfl rfl (endL_fc) ?_
 rintro _ Sx ⟨rfl, hSx⟩
 rw [hSx]
 clear hSx
 refine OL.call rfl rfl (before3_fc hg1 (Over.both over_nil) okRoot0 okEnd0 (bef_of (by decide +kernel) bef_re)) ?_
 rintro _ Sx ⟨rfl, hSx⟩
 rw [hSx]
 clear hSx
 refine OL.det rfl (.pure rfl) ?_
 refine OL.dp rfl ?_
 refine OL.dp rfl ?_
 refine OL.det rfl (.pure rfl) ?_
 refine OL.call rfl rfl (rootL_fc) ?_
 rintro _ Sx ⟨rfl, hSx⟩
 rw [hSx]
 clear hSx
 refine OL.call rfl rfl (rootL_fc) ?_
 rintro _ Sx ⟨rfl, hSx⟩
 rw [hSx]
 clear hSx
 refine OL.call rfl rfl (before3_fc hg1 (Over.both over_nil) okRoot0 okRoot0 (bef_of (by decide +kernel) bef_rr)) ?_
 rintro _ Sx ⟨rfl, hSx⟩
 rw [hSx]
 clear hSx
 refine OL.dp rfl ?_
 refine OL.nil ?_
 refine PW.k6 1 2 3 4 5 72 rfl rfl rfl rfl rfl rfl ?_
 refine PW.ite (b := false) rfl ?_
 rw [if_neg Bool.false_ne_true]
 refine PW.skip ?_
 refine hK1 _ _ ?_
 refine PW.k5 1 2 3 4 5 rfl rfl rfl rfl rfl ?_
 refine PW.seq fun K2 hK2 => ?_
 refine PW.subS (S' := GS m2 ++ (GS m1 ++ (zseg r21 :: pseg r2 (p2t r11) :: [(r11, .cells (strs [str1 120]) 9 1)] :: S))) (Sub.sel [4, 5, 6, 7, 0, 1, 2, 3] 8 (by decide) (GS m1 ++ (GS m2 ++ (zseg r21 :: pseg r2 (p2t r11) :: [(r11, .cells (strs [str1 120]) 9 1)] :: S)))) ?_
 refine PW.quietG (Ss := Over (zseg r21 :: pseg r2 (p2t r11) :: [(r11, .cells (strs [str1 120]) 9 1)] :: S)) (fr := false) [(0, 2), (1, 2), (2, 2), (3, 0), (4, 0), (5, 0), (6, 0), (7, 2), (8, 0), (9, 0), (10, 0), (11, 0), (12, 0), (13, 2), (14, 0), (15, 0), (16, 0), (17, 0), (18, 2), (19, 2), (20, 0), (21, 0), (22, 0), (26, 0), (23, 2), (24, 2), (25, 2), (27, 2), (28, 0), (29, 0), (30, 0), (31, 0), (32, 2), (33, 1), (34, 0), (35, 0), (36, 0), (37, 0), (38, 0), (39, 1), (40, 0), (41, 0), (42, 0), (43, 0), (44, 1), (45, 0), (46, 0), (47, 1), (48, 0), (49, 0), (50, 0), (51, 0), (52, 0), (53, 0), (54, 1), (55, 1), (56, 0), (57, 0), (58, 0), (59, 0), (60, 1), (61, 1), (62, 1), (63, 0), (64, 0), (65, 0), (66, 0), (67, 1), (68, 0), (69, 0), (70, 0), (71, 0), (72, 0)] Try.mixed (by decide +kernel) (over_app (GS m2) (over_app (GS m1) (Over.refl _))) (fun h => by cases h) ?_
 refine GL.lo trivial (OW.mono (OW.call rfl (new_fc (X := []))) ?_)
 rintro _ _ ⟨e0, rfl, rfl, he0, hge0, hle0⟩
 have hgg := GG.zero he0 hge0 hle0
 refine ⟨over_app (GS e0) (over_app (GS m2) (over_app (GS m1) (Over.refl _))), ?_⟩
 refine GL.lo trivial (OW.mono (OW.call rfl second_fc) ?_)
 rintro _ _ ⟨r74, rfl, rfl⟩
 refine ⟨Over.cons (over_app (GS e0) (over_app (GS m2) (over_app (GS m1) (Over.refl _)))), ?_⟩
 refine GL.lo trivial (OW.cut (OW.call rfl (FC.subS gs_a (addCode_fc (p := p2 r74) hgg (p2_rd (by simp)) (show closedB (allE []) q2.up = true by decide +kernel) add_dep0 (show 2 <= 1000000 by decide) (by rw [hle0]; exact (by decide : 0 + 4 <= 500000000000))))) ?_)
 rintro _ _ ⟨e1, rfl, rfl⟩
 refine ⟨_, (show Sub (GS m2 ++ (GS m1 ++ (zseg r21 :: pseg r2 (p2t r11) :: [(r11, .cells (strs [str1 120]) 9 1)] :: S))) (GS e1 ++ ([(r74, .cells (strs [str1 120]) 9 1)] :: (GS m2 ++ (GS m1 ++ (zseg r21 :: pseg r2 (p2t r11) :: [(r11, .cells (strs [str1 120]) 9 1)] :: S))))) from Sub.sel [] 5 (by decide) (GS e1 ++ ([(r74, .cells (strs [str1 120]) 9 1)] :: (GS m2 ++ (GS m1 ++ (zseg r21 :: pseg r2 (p2t r11) :: [(r11, .cells (strs [str1 120]) 9 1)] :: S)))))), (over_app (GS m2) (over_app (GS m1) (Over.refl _))), ?_⟩
 refine GL.det trivial (fun Sx hSx => Yields.to (v' := .bool true) (Yields.pure rfl) (by rfl)) ?_
 refine GL.dp rfl ?_
 refine GL.det rfl (fun Sx hSx => Yields.pure rfl) ?_
 refine GL.det rfl (fun Sx hSx => Yields.bldA (cs := bytesC (hb1 1).1) rfl) ?_
 refine GL.lo rfl (OW.mono (OW.call rfl (remove2_fc (p := q1) hg2 over_nil (by simp) ⟨by decide, by decide⟩ (by omega))) ?_)
 rintro _ Sx ⟨h1, rfl, hSx, _, _, hno, _⟩
 have hr10 : remE m2.gr q1.name = 10 := remE_dep hg2.inv (by simp) loose_h
 rw [hSx, hno (by rw [hr10]; decide), hr10]
 refine ⟨(over_app (GS m2) (over_app (GS m1) (Over.refl _))), ?_⟩
 refine GL.det rfl (fun Sx hSx => Yields.to (v' := .bool true) (Yields.pure rfl) (by rfl)) ?_
 refine GL.dp rfl ?_
 refine GL.dp rfl ?_
 refine GL.det rfl (fun Sx hSx => Yields.pure rfl) ?_
 refine GL.det rfl (fun Sx hSx => Yields.bldA (cs := bytesC (hb1 9).1) rfl) ?_
 refine GL.lo rfl (OW.mono (OW.call rfl (remove_fc (h := hb1 9) (at_ := 0) hg2.ok over_nil ⟨by decide, by decide⟩ hg2.hasParts (by omega))) ?_)
 rintro _ Sx ⟨h2, rfl, hSx, _, _, _, _, hno⟩
 have hr5 : remE m2.gr (hb1 9, 0) = 5 := remE_none hg2.inv names_h
 rw [hSx, hno (by rw [hr5]; decide), hr5]
 refine ⟨(over_app (GS m2) (over_app (GS m1) (Over.refl _))), ?_⟩
 refine GL.det rfl (fun Sx hSx => Yields.to (v' := .bool true) (Yields.pure rfl) (by rfl)) ?_
 refine GL.dp rfl ?_
 refine GL.dp rfl ?_
 refine GL.det rfl (fun Sx hSx => Yields.pure rfl) ?_
 refine GL.lo rfl (OW.mono (OW.call rfl first_fc) ?_)
 rintro _ _ ⟨r91, rfl, rfl⟩
 refine ⟨Over.cons (over_app (GS m2) (over_app (GS m1) (Over.refl _))), ?_⟩
 refine GL.lo rfl (OW.cut (OW.call rfl (FC.subS gs_a (addCode_fc (p := p1 r91) hg2 (p1_rd (by simp)) (show closedB (allE [q2, q1]) q1.up = true by decide +kernel) add_there (show (allV [q2, q1]).length + 2 + 2 + 1 <= 1000000 by decide +kernel) (Nat.le_trans (Nat.add_le_add_right hl2 5) (by decide))))) ?_)
 rintro _ _ ⟨h3, rfl, rfl⟩
 refine ⟨_, (show Sub (GS m1 ++ (zseg r21 :: pseg r2 (p2t r11) :: [(r11, .cells (strs [str1 120]) 9 1)] :: S)) (GS h3 ++ ([(r91, .cells (strs [str1 97, str1 98]) 9 2)] :: (GS m1 ++ (zseg r21 :: pseg r2 (p2t r11) :: [(r11, .cells (strs [str1 120]) 9 1)] :: S)))) from Sub.sel [] 5 (by decide) (GS h3 ++ ([(r91, .cells (strs [str1 97, str1 98]) 9 2)] :: (GS m1 ++ (zseg r21 :: pseg r2 (p2t r11) :: [(r11, .cells (strs [str1 120]) 9 1)] :: S))))), (over_app (GS m1) (Over.refl _)), ?_⟩
 refine GL.det rfl (fun Sx hSx => Yields.to (v' := .bool true) (Yields.pure rfl) (by rfl)) ?_
 refine GL.dp rfl ?_
 refine GL.dp rfl ?_
 refine GL.det rfl (fun Sx hSx => Yields.ldA rfl (partC_len _) (all_at (c := partC (p2t r11)) (E := 36) (tot := 102) (hSx _ (List.mem_flatten.2 ⟨_, .tail _ (.head _), List.mem_singleton.2 rfl⟩)))) ?_
 refine GL.lo rfl (OW.mono (OW.call rfl first_fc) ?_)
 rintro _ _ ⟨r96, rfl, rfl⟩
 refine ⟨Over.cons (over_app (GS m1) (Over.refl _)), ?_⟩
 refine GL.lo rfl (OW.mono (OW.bsl (cs := partS [p1 r96]) (fill_part1 rfl rfl)) ?_)
 rintro _ _ ⟨r97, rfl, rfl⟩
 refine ⟨Over.cons (Over.cons (over_app (GS m1) (Over.refl _))), ?_⟩
 refine GL.lo rfl (OW.mono (OW.call rfl (made_fc (l := [p1 r96]) (Rd.own (E := 36) (tot := 102) (List.mem_flatten.2 ⟨_, .head _, List.mem_singleton.2 rfl⟩)) (fun p hp => by simp at hp; subst hp; exact p1_rd (by simp)) (show 1 <= 100 by decide) comes1)) ?_)
 rintro _ _ ⟨m4, rfl, rfl, hg4, hl4⟩
 change GG w0 [] m4 [q1] at hg4
 refine ⟨over_app (GS m4) (Over.cons (Over.cons (over_app (GS m1) (Over.refl _)))), ?_⟩
 refine GL.lo rfl (OW.cut (OW.call rfl (addCode_fc (p := p2t r11) hg4 (p2t_rd (by simp)) (show closedB (allE [q1]) q2t.up = true by decide +kernel) add_form (show (allV [q1]).length + 1 + 1 + 1 <= 1000000 by decide +kernel) (Nat.le_trans (Nat.add_le_add_right hl4 4) (by decide)))) ?_)
 rintro _ _ ⟨m5, rfl, rfl⟩
 refine ⟨_, (show Sub (GS m1 ++ (zseg r21 :: pseg r2 (p2t r11) :: [(r11, .cells (strs [str1 120]) 9 1)] :: S)) (GS m5 ++ ([(r97, .cells (partS [p1 r96]) 36 102)] :: [(r96, .cells (strs [str1 97, str1 98]) 9 2)] :: (GS m1 ++ (zseg r21 :: pseg r2 (p2t r11) :: [(r11, .cells (strs [str1 120]) 9 1)] :: S)))) from Sub.sel [] 6 (by decide) (GS m5 ++ ([(r97, .cells (partS [p1 r96]) 36 102)] :: [(r96, .cells (strs [str1 97, str1 98]) 9 2)] :: (GS m1 ++ (zseg r21 :: pseg r2 (p2t r11) :: [(r11, .cells (strs [str1 120]) 9 1)] :: S))))), (over_app (GS m1) (Over.refl _)), ?_⟩
 refine GL.det rfl (fun Sx hSx => Yields.to (v' := .bool true) (Yields.pure rfl) (by rfl)) ?_
 refine GL.dp rfl ?_
 refine GL.dp rfl ?_
 refine GL.det rfl (fun Sx hSx => Yields.pure rfl) ?_
 refine GL.lo rfl (OW.mono (OW.call rfl first_fc) ?_)
 rintro _ _ ⟨r105, rfl, rfl⟩
 refine ⟨Over.cons (over_app (GS m1) (Over.refl _)), ?_⟩
 refine GL.call rfl rfl (fun Sx hSx => addNone_fc (p := p1 r105)) ?_
 refine GL.det rfl (fun Sx hSx => Yields.to (v' := .bool true) (Yields.pure rfl) (by rfl)) ?_
 refine GL.dp rfl ?_
 refine GL.dp rfl ?_
 refine GL.det rfl (fun Sx hSx => Yields.pure rfl) ?_
 refine GL.det rfl (fun Sx hSx => Yields.bldA (cs := bytesC h0.1) rfl) ?_
 refine GL.call rfl rfl (fun Sx hSx => removeZero_fc (p := h0) (fun q hq => hSx q (by simp at hq; simp [hq]))) ?_
 refine GL.det rfl (fun Sx hSx => Yields.to (v' := .bool true) (Yields.pure rfl) (by rfl)) ?_
 refine GL.dp rfl ?_
 refine GL.dp rfl ?_
 refine GL.det rfl (fun Sx hSx => Yields.pure rfl) ?_
 refine GL.call rfl rfl (fun Sx hSx => linesNone_fc) ?_
 refine GL.det rfl (fun Sx hSx => Yields.pure rfl) ?_
 refine GL.det rfl (fun Sx hSx => Yields.pure rfl) ?_
 refine GL.call rfl rfl (fun Sx hSx => linesZero_fc (fun q hq => hSx q (by simp at hq; simp [hq]))) ?_
 refine GL.det rfl (fun Sx hSx => Yields.pure rfl) ?_
 refine GL.det rfl (fun Sx hSx => Yields.add64 rfl rfl (by decide) (by decide)) ?_
 refine GL.det rfl (fun Sx hSx => Yields.to (v' := .bool true) (Yields.pure rfl) (by rfl)) ?_
 refine GL.dp rfl ?_
 refine GL.dp rfl ?_
 refine GL.det rfl (fun Sx hSx => Yields.pure rfl) ?_
 refine GL.call rfl rfl (fun Sx hSx => rootL_fc) ?_
 refine GL.call rfl rfl (fun Sx hSx => hasNil_fc) ?_
 refine GL.det rfl (fun Sx hSx => Yields.pure rfl) ?_
 refine GL.dp rfl ?_
 refine GL.dp rfl ?_
 refine GL.det rfl (fun Sx hSx => Yields.pure rfl) ?_
 refine GL.call rfl rfl (fun Sx hSx => rootL_fc) ?_
 refine GL.call rfl rfl (fun Sx hSx => endL_fc) ?_
 refine GL.call rfl rfl (fun Sx hSx => beforeZero_fc (fun q hq => hSx q (by simp at hq; simp [hq]))) ?_
 refine GL.det rfl (fun Sx hSx => Yields.pure rfl) ?_
 refine GL.dp rfl ?_
 refine GL.dp rfl ?_
 refine GL.det rfl (fun Sx hSx => Yields.pure rfl) ?_
 refine GL.call rfl rfl (fun Sx hSx => copyNone_fc) ?_
 refine GL.det rfl (fun Sx hSx => Yields.eqPn rfl rfl) ?_
 refine GL.dp rfl ?_
 refine GL.dp rfl ?_
 refine GL.det rfl (fun Sx hSx => Yields.pure rfl) ?_
 refine GL.det rfl (fun Sx hSx => Yields.bldA (cs := bytesC (hb1 3).1) rfl) ?_
 change OL _ _ _ [_, _, _, _, _, _, _, _, _] _ _ _
 refine OL.call rfl rfl (FC.subS gs_a (remove2_fc (p := q3) hg1 over_nil (by simp) ⟨by decide, by decide⟩ (by omega))) ?_
 rintro _ _ ⟨m6, rfl, rfl, hr6, hl6, _, hyes⟩
 have hr0 : remE m1.gr q3.name = 0 := (remE_zero hg1.inv (by simp)).2 (looseB_iff.1 loose_g)
 obtain ⟨A6, B6, hab, hg6⟩ := hyes hr0
 rw [cut_q3 hab] at hg6
 rw [hr0]
 refine OL.det rfl (.to (v' := .bool true) (Yields.pure rfl) (by rfl)) ?_
 refine OL.dp rfl ?_
 refine OL.dp rfl ?_
 refine OL.det rfl (.pure rfl) ?_
 refine OL.call rfl rfl (by rw [<- ptr_eq hr6]; exact text_fc hg6 over_nil (small_txt (by decide +kernel)) (by decide +kernel)) ?_
 rintro _ Sx ⟨rfl, hSx⟩
 rw [hSx]
 clear hSx
 rw [text_gone]
 refine OL.det rfl (.to (v' := .bool true) (Yields.pure rfl) (congrArg Value.bool (beq_self_eq_true _))) ?_
 refine OL.dp rfl ?_
 refine OL.dp rfl ?_
 refine OL.nil ?_
 refine hK2 _ _ ?_
 refine PW.k1 0 rfl ?_
 refine PW.ret ?_
 change (Exit.ret = Exit.normal ∨ Exit.ret = Exit.ret) /\ ∃ v, resV _ _ = some v /\ _
 exact ⟨.inr rfl, _, rfl, _, Sub.refl _, rfl⟩
end Go.Proofs.Gr
