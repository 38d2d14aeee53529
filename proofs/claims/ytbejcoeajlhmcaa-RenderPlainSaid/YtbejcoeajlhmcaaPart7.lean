/- Walks and plain facts for the laws of this seat: what each function answers, for every input. -/
import Derived.Test.YtbejcoeajlhmcaaPart6

set_option linter.unusedVariables false
set_option linter.unusedSimpArgs false
namespace Go.Proofs.Gr
open Go.SL Go.RowKit Go.Proofs Go.GP
set_option maxHeartbeats 1000000
open Go.HP
theorem kahn_start {w0 : World} {X : SS} {m : GrM} (hm : GOk w0 X m) {left : List (Vtx × Int)} {q : List Vtx} {done : List (Vtx × NodeM)} (hd : done.Perm m.nodes) (hlv : ∀ u, lv left u = inN m.gr.nodes u) (hq : q.Perm ((mks done).filter fun u => decide (lv left u = 0))) :
    Kahn ltV m.gr.nodes m.gr.nodes q (lv left) [] [] := by
  have hk : mks m.gr.nodes = mks m.nodes := mks_plN _
  have hn : (mks m.gr.nodes).Nodup := by rw [hk]; exact hm.nkd
  have hdk : (mks done).Perm (mks m.nodes) := hd.map _
  refine ⟨hn, hn, fun p hp => hp, fun u => by rw [hlv, cntV_nil]; omega, hq.nodup_iff.2 ((hdk.nodup_iff.2 hm.nkd).filter _), fun u => ?_, fun L hL => by simpa using hL, fun u hu => by simp at hu, fun u hu => .inr hu⟩
  rw [hq.mem_iff, List.mem_filter, hdk.mem_iff, hk]
  simp
theorem nd_mem {w0 : World} {X : SS} {m : GrM} (hm : GOk w0 X m) {v : Vtx} (hv : v ∈ mks m.nodes) : (v, ((mgt m.nodes v).getD zM).pl) ∈ m.gr.nodes ∧ nd m.gr.nodes v = ((mgt m.nodes v).getD zM).pl := by
  obtain ⟨n, hn⟩ := mem_mks.1 hv
  refine ⟨?_, nd_plN _ _⟩
  rw [hn]
  exact List.mem_map.2 ⟨(v, n), mgt_some_mem hn, rfl⟩
theorem nodup_le : ∀ {l l' : List Vtx}, l.Nodup → (∀ x ∈ l, x ∈ l') → l.length ≤ l'.length
  | [], l', _, _ => by simp
  | a :: l, l', hn, h => by
    obtain ⟨h1, h2⟩ := List.nodup_cons.1 hn
    have ha : a ∈ l' := h a (by simp)
    have := nodup_le (l := l) (l' := l'.erase a) h2 (fun x hx => by
      have hne : x ≠ a := fun e => h1 (e ▸ hx)
      exact (List.mem_erase_of_ne hne).2 (h x (by simp [hx])))
    rw [List.length_erase_of_mem ha] at this
    have hp : 0 < l'.length := List.length_pos_of_mem ha
    simp only [List.length_cons]
    omega
theorem kahn_qlen {lt : Vtx → Vtx → Bool} {N rem : List (Vtx × NodeP)} {q out pend : List Vtx} {cnt : Vtx → Int} (K : Kahn lt N rem q cnt out pend) : q.length ≤ N.length := by
  have := nodup_le (l' := mks N) K.qn (fun x hx => by
    obtain ⟨p, hp, rfl⟩ := List.mem_map.1 ((K.qm x).1 hx).1
    exact List.mem_map.2 ⟨p, K.sub p hp, rfl⟩)
  unfold mks at this
  rwa [List.length_map] at this
theorem kahn_one {lt : Vtx → Vtx → Bool} {N rem : List (Vtx × NodeP)} {q out pend : List Vtx} {cnt : Vtx → Int} {w : Vtx} (K : Kahn lt N rem q cnt out (w :: pend)) : 1 ≤ cnt w := by
  have := K.ct w
  rw [cntV_hd, if_pos rfl] at this
  have h1 := inN_nonneg rem w
  have h2 := (cntV_le w pend).1
  omega
theorem rem_len {N : List (Vtx × NodeP)} {v : Vtx} (hn : (mks N).Nodup) (hv : v ∈ mks N) : (mdl N v).length + 1 = N.length := by
  have h := mks_mdl_erase hn v
  have := congrArg List.length h
  rw [List.length_erase_of_mem hv] at this
  have hp : 0 < (mks N).length := List.length_pos_of_mem hv
  unfold mks at this hp
  simp only [List.length_map] at this hp
  omega
theorem lines_fc {w0 : World} {S X : SS} {m : GrM} (hm : GOk w0 X m) (hX : Over X S) (hE : (EG m.gr.nodes).length ≤ 1000000000) (hN : m.nodes.length ≤ 1000000000) (hT : ∀ e ∈ EG m.gr.nodes, e.2 ∈ mks m.nodes ∨ e.2 = endV) (hend : endV ∉ mks m.nodes) :
    FC Try.prog w0 17 [m.ptr] (GS m ++ S) (fun v S' => ∃ seg out, S' = seg :: (GS m ++ S) ∧ Topo ltV (EG m.gr.nodes) (mks m.gr.nodes) out ∧ SlV 43 35 v out.length (lines (out.map (lineOf m.gr.nodes))) seg) := by
  have hS : Over (GS m ++ X) (GS m ++ S) := Over.both hX
  obtain ⟨z, hz1, hz2⟩ := zero3
  obtain ⟨y, hy1, hy2⟩ := zero100
  have hml := hm.lim
  have hb00 : ∀ u, inN m.gr.nodes u ≤ 1000000000 := fun u => by unfold inN; have := (cntV_le u (tgts m.gr.nodes)).2; rw [tgts_len] at this; omega
  refine FC.ofD Try.known17 (by simp) ?_
  unfold Try.pc17
  simp only [argT]
  refine PW.seqOps ?_
  refine OL.dp rfl ?_
  refine OL.nil ?_
  refine PW.keep (T' := [(0, _), (2, _)]) ⟨rfl, rfl, trivial⟩ ?_
  refine PW.seq fun K1 hK1 => ?_
  refine PW.seqOps ?_
  refine OL.dp rfl ?_
  refine OL.call trivial rfl (is_fc hS) ?_
  rintro _ Sx ⟨rfl, hSx⟩
  rw [hSx]
  clear hSx
  refine OL.dp rfl ?_
  refine OL.nil ?_
  refine PW.keep (T' := [(0, _), (2, _), (13, _)]) ⟨rfl, rfl, rfl, trivial⟩ ?_
  refine PW.ite (b := false) rfl ?_
  rw [if_neg Bool.false_ne_true]
  refine PW.skip ?_
  refine hK1 _ _ ?_
  refine PW.keep (T' := [(0, _), (2, _)]) ⟨rfl, rfl, trivial⟩ ?_
  refine PW.seqOps ?_
  refine OL.dp rfl ?_
  refine OL.call trivial rfl (ahead_fc hm hX hE) ?_
  rintro _ _ ⟨ra, left, rfl, rfl, hlk, hlv⟩
  have hb0 : ∀ u, lv left u ≤ 1000000000 := fun u => by rw [hlv]; exact hb00 u
  refine OL.dp rfl ?_
  refine OL.nil ?_
  refine PW.keep (T' := [(0, _), (2, _), (3, _)]) ⟨rfl, rfl, rfl, trivial⟩ ?_
  refine PW.seqOps ?_
  refine OL.cons trivial OW.bsl0 ?_
  rintro _ _ ⟨r16, rfl, rfl⟩
  refine OL.cons trivial (OW.bx rfl) ?_
  rintro _ _ ⟨r17, rfl, rfl⟩
  change OL _ _ _ _ _ (wseg r17 (.slice (some ⟨r16, 0, none⟩) 0 0) :: [(r16, .cells [] 32 0)] :: [(ra, .gm (gmL vtxV intV left))] :: (GS m ++ S)) _
  have hs0 : SlV 32 33 (.slice (some ⟨r16, 0, none⟩) 0 0) ([] : List Vtx).length (vtxs []) [(r16, .cells [] 32 0)] := SlV.mk' (cap := 0) rfl (Nat.le_refl 0) (by decide)
  obtain ⟨vq, hvq⟩ : ∃ z : Value, z = .slice (some ⟨r16, 0, none⟩) 0 0 := ⟨_, rfl⟩
  obtain ⟨sgq, hsgq⟩ : ∃ z : Seg, z = [(r16, .cells [] 32 0)] := ⟨_, rfl⟩
  rw [← hvq, ← hsgq] at hs0 ⊢
  refine OL.dp rfl ?_
  refine OL.nil ?_
  refine PW.keep (T' := [(0, _), (2, _), (3, _), (4, _)]) ⟨rfl, rfl, rfl, rfl, trivial⟩ ?_
  refine PW.seq fun K2 hK2 => ?_
  refine PW.seqOps ?_
  refine OL.dp rfl ?_
  refine OL.det trivial (Yields.nilc rfl) ?_
  refine OL.dp rfl ?_
  refine OL.det trivial (Yields.ld rfl (g_nodes hS.cons.cons.cons)) ?_
  refine OL.cons trivial (OW.rngG (j := 5) (l := m.nodes) Try.underlying55 rfl rfl) ?_
  rintro _ _ ⟨ri, en, clk, rfl, hopen, hit0, rfl⟩
  change OL _ _ _ _ _ ([(ri, .obj (.mapIter (some m.nb) clk #[] clk))] :: wseg r17 vq :: sgq :: [(ra, .gm (gmL vtxV intV left))] :: (GO m en clk ++ S)) _
  refine OL.subS (S' := wseg r17 vq :: sgq :: [(ri, .obj (.mapIter (some m.nb) clk #[] clk))] :: [(ra, .gm (gmL vtxV intV left))] :: (GO m en clk ++ S)) (Sub.sel [1, 2, 0] 3 (by decide) ([(ri, .obj (.mapIter (some m.nb) clk #[] clk))] :: wseg r17 vq :: sgq :: [(ra, .gm (gmL vtxV intV left))] :: (GO m en clk ++ S))) ?_
  refine OL.nil ?_
  refine PW.keep (T' := [(0, _), (2, _), (3, _), (4, _), (22, _)]) ⟨rfl, rfl, rfl, rfl, rfl, trivial⟩ ?_
  refine PW.block ?_
  refine PW.keep (T' := [(0, _), (2, _), (3, _), (4, _), (22, _)]) ⟨rfl, rfl, rfl, rfl, rfl, trivial⟩ ?_
  refine PW.loopK (I := fun mm T S' => ∃ (seen : Array Nat) (done rest : List (Vtx × NodeM)) (q : List Vtx) (vq : Value) (sgq : Seg), (It vtxV nodeV en seen m.nodes done rest ∧ SlV 32 33 vq q.length (vtxs q) sgq ∧ Hp ltV q q.length ∧ q.Perm ((mks done).filter fun u => decide (lv left u = 0)) ∧ mm = rest.length) ∧ T = ([(0, m.ptr), (2, .slice none 0 0), (3, .map (some ra)), (4, .pointer (some ⟨r17, 0, none⟩)), (22, .pointer (some ⟨ri, 0, none⟩))] : TT) ∧ S' = wseg r17 vq :: sgq :: [(ri, .obj (.mapIter (some m.nb) clk seen clk))] :: [(ra, .gm (gmL vtxV intV left))] :: (GO m en clk ++ S)) (m := m.nodes.length) ⟨#[], [], m.nodes, [], vq, sgq, ⟨hit0, hs0, (fun k h0 hk => by simp at hk), .nil, rfl⟩, rfl, rfl⟩ ?_
  rintro mm _ _ ⟨seen, done, rest, q, vq, sgq, ⟨hit, hsq, hhp, hqp, hmm⟩, rfl, rfl⟩
  have hql : q.length ≤ done.length := by have h1 := hqp.length_eq; have h2 := List.length_filter_le (fun u => decide (lv left u = 0)) (mks done); unfold mks at h1 h2; rw [List.length_map] at h2; omega
  refine PW.seqOps ?_
  refine OL.cons trivial (OW.nxtG (j := 2) (b := m.nb) (l := m.nodes) (done := done) (rest := rest) rfl rfl (GO_n (en := en) (clk := clk) (Over.app (b := S)).cons.cons.cons.cons) hopen hit) ?_
  refine fun v S' h => Or.elim h.symm ?_ ?_
  · skip
    rintro ⟨ii, p, qq, hri, rfl, hit2, rfl⟩
    refine OL.det trivial (Yields.pure rfl) ?_
    refine OL.nil ?_
    refine PW.keep (T' := [(0, _), (2, _), (3, _), (4, _), (22, _), (24, _)]) ⟨rfl, rfl, rfl, rfl, rfl, rfl, trivial⟩ ?_
    refine PW.seq fun K3 hK3 => ?_
    refine PW.ite (b := true) rfl ?_
    rw [if_pos rfl]
    refine PW.skip ?_
    refine hK3 _ _ ?_
    refine PW.keep (T' := [(0, _), (2, _), (3, _), (4, _), (22, _)]) ⟨rfl, rfl, rfl, rfl, rfl, trivial⟩ ?_
    refine PW.block ?_
    refine PW.seqOps ?_
    refine OL.det trivial (Yields.entG (b := m.nb) rfl (List.mem_flatten.2 ⟨_, .tail _ (.tail _ (.head _)), List.mem_singleton.2 rfl⟩) (GO_n (en := en) (clk := clk) (Over.app (b := S)).cons.cons.cons.cons) hopen hit2) ?_
    refine OL.dp rfl ?_
    refine OL.cons trivial OW.al ?_
    rintro _ _ ⟨r5, rfl, rfl⟩
    refine OL.cons trivial (vtx_st rfl rfl rfl) ?_
    rintro _ _ rfl
    obtain ⟨v, n0⟩ := p
    have hpm := done_get hm hit.perm hri
    have hov : okV v := hm.nk _ hpm
    have hdl : done.length ≤ m.nodes.length := by have := hit.perm.length_eq; rw [List.length_append] at this; omega
    change OL _ _ _ _ _ (vseg r5 v :: wseg r17 vq :: sgq :: [(ri, .obj (.mapIter (some m.nb) clk (seen.push qq) clk))] :: [(ra, .gm (gmL vtxV intV left))] :: (GO m en clk ++ S)) _
    refine OL.nil ?_
    refine PW.keep (T' := [(0, _), (2, _), (3, _), (4, _), (5, _), (22, _)]) ⟨rfl, rfl, rfl, rfl, rfl, rfl, trivial⟩ ?_
    refine PW.seqOps ?_
    refine OL.dp rfl ?_
    refine OL.det trivial (Yields.ldA rfl (vtxL_len _) (all_at (List.mem_flatten.2 ⟨_, .head _, List.mem_singleton.2 rfl⟩))) ?_
    refine OL.det trivial (Yields.lookG (okc := false) (a := v) Try.underlying107 hz1 hz2 keys32 hlk hov rfl rfl (List.mem_flatten.2 ⟨_, .tail _ (.tail _ (.tail _ (.tail _ (.head _)))), List.mem_singleton.2 rfl⟩)) ?_
    refine OL.dp rfl ?_
    refine OL.nil ?_
    refine PW.keep (T' := [(0, _), (2, _), (3, _), (4, _), (5, _), (22, _), (30, _)]) ⟨rfl, rfl, rfl, rfl, rfl, rfl, rfl, trivial⟩ ?_
    refine PW.cond rfl (fun c30 => ?_) (fun c30 => ?_)
    · try simp only [decide_eq_true_eq, decide_eq_false_iff_not, beq_iff_eq, bne_iff_ne, beq_eq_false_iff_ne, bne_eq_false_iff_eq, Bool.not_eq_true', Bool.not_eq_false', Bool.not_eq_true, ne_eq, Decidable.not_not, Bool.false_eq_true, if_false, if_true] at c30
      have hz0 : lv left v = 0 := c30
      refine PW.subS (S' := wseg r17 vq :: sgq :: vseg r5 v :: [(ri, .obj (.mapIter (some m.nb) clk (seen.push qq) clk))] :: [(ra, .gm (gmL vtxV intV left))] :: (GO m en clk ++ S)) (Sub.sel [1, 2, 0] 3 (by decide) (vseg r5 v :: wseg r17 vq :: sgq :: [(ri, .obj (.mapIter (some m.nb) clk (seen.push qq) clk))] :: [(ra, .gm (gmL vtxV intV left))] :: (GO m en clk ++ S))) ?_
      refine PW.ops ?_
      refine OL.dp rfl ?_
      refine OL.det trivial (Yields.mkI rfl) ?_
      refine OL.det trivial (Yields.ldA rfl (vtxL_len _) (all_at (c := vtxL v) (E := 32) (tot := 33) (List.mem_flatten.2 ⟨_, .tail _ (.tail _ (.head _)), List.mem_singleton.2 rfl⟩))) ?_
      refine OL.det trivial (Yields.mkI rfl) ?_
      refine OL.call trivial rfl (hpush_fc (x := v) hsq (by omega)) ?_
      rintro _ _ ⟨rfl, v35, sg35, rfl, hs35⟩
      refine OL.nil ?_
      repeat rw [inBlk_n]
      try rw [thenK_n]
      refine LoopEnd.mkS (Sub.sel [0, 1] 3 (by decide) _) (T'' := [(0, _), (2, _), (3, _), (4, _), (22, _)]) ⟨rfl, rfl, rfl, rfl, rfl, trivial⟩ ?_
      have hil : ii < rest.length := (List.getElem?_eq_some_iff.1 hri).1
      obtain ⟨hp1, hp2⟩ := pushL_spec ltV_ord hhp v
      refine ⟨(rest.eraseIdx ii).length, by rw [List.length_eraseIdx, if_pos hil]; omega, seen.push qq, done ++ [(v, n0)], rest.eraseIdx ii, pushL ltV q v, v35, sg35, ⟨hit2, hs35, hp1, ?_, rfl⟩, rfl, rfl⟩
      rw [filter_snoc, if_pos (by simpa using hz0)]
      exact hp2.trans ((List.Perm.cons v hqp).trans (List.perm_append_singleton v _).symm)
    · try simp only [decide_eq_true_eq, decide_eq_false_iff_not, beq_iff_eq, bne_iff_ne, beq_eq_false_iff_ne, bne_eq_false_iff_eq, Bool.not_eq_true', Bool.not_eq_false', Bool.not_eq_true, ne_eq, Decidable.not_not, Bool.false_eq_true, if_false, if_true] at c30
      have hz0 : ¬ lv left v = 0 := c30
      refine PW.subS (S' := wseg r17 vq :: sgq :: vseg r5 v :: [(ri, .obj (.mapIter (some m.nb) clk (seen.push qq) clk))] :: [(ra, .gm (gmL vtxV intV left))] :: (GO m en clk ++ S)) (Sub.sel [1, 2, 0] 3 (by decide) (vseg r5 v :: wseg r17 vq :: sgq :: [(ri, .obj (.mapIter (some m.nb) clk (seen.push qq) clk))] :: [(ra, .gm (gmL vtxV intV left))] :: (GO m en clk ++ S))) ?_
      refine PW.skip ?_
      repeat rw [inBlk_n]
      try rw [thenK_n]
      refine LoopEnd.mkS (Sub.sel [0, 1] 3 (by decide) _) (T'' := [(0, _), (2, _), (3, _), (4, _), (22, _)]) ⟨rfl, rfl, rfl, rfl, rfl, trivial⟩ ?_
      have hil : ii < rest.length := (List.getElem?_eq_some_iff.1 hri).1
      refine ⟨(rest.eraseIdx ii).length, by rw [List.length_eraseIdx, if_pos hil]; omega, seen.push qq, done ++ [(v, n0)], rest.eraseIdx ii, q, vq, sgq, ⟨hit2, hsq, hhp, ?_, rfl⟩, rfl, rfl⟩
      rw [filter_snoc, if_neg (by simpa using hz0), List.append_nil]
      exact hqp
  · skip
    rintro ⟨hr0, rfl, rfl⟩
    refine OL.tell (k := 6) rfl (fun w hw => hopen.close _ w hw) ?_
    refine OL.subS (S' := wseg r17 vq :: sgq :: [] :: [(ra, .gm (gmL vtxV intV left))] :: (GS m ++ S)) ((Sub.cons (Sub.cons (Sub.nilL (Sub.refl _)))).trans (Sub.sel [0, 1, 3] 4 (by decide) (wseg r17 vq :: sgq :: [(ri, .obj (.mapIter (some m.nb) clk seen clk))] :: [(ra, .gm (gmL vtxV intV left))] :: (GS m ++ S)))) ?_
    refine OL.det trivial (Yields.pure rfl) ?_
    refine OL.nil ?_
    refine PW.keep (T' := [(0, _), (2, _), (3, _), (4, _), (22, _), (24, _)]) ⟨rfl, rfl, rfl, rfl, rfl, rfl, trivial⟩ ?_
    refine PW.seq fun K4 hK4 => ?_
    refine PW.ite (b := false) rfl ?_
    rw [if_neg Bool.false_ne_true]
    refine PW.exit ?_
    refine hK2 _ _ ?_
    refine PW.keep (T' := [(0, _), (2, _), (3, _), (4, _)]) ⟨rfl, rfl, rfl, rfl, trivial⟩ ?_
    refine PW.seq fun K5 hK5 => ?_
    refine PW.block ?_
    refine PW.keep (T' := [(0, _), (2, _), (3, _), (4, _)]) ⟨rfl, rfl, rfl, rfl, trivial⟩ ?_
    refine PW.loopK (I := fun mm T S' => ∃ (q : List Vtx) (vq : Value) (sgq : Seg) (out : List Vtx) (vout : Value) (sgo : Seg) (left : List (Vtx × Int)) (rem : List (Vtx × NodeP)), (Kahn ltV m.gr.nodes rem q (lv left) out [] ∧ Hp ltV q q.length ∧ SlV 32 33 vq q.length (vtxs q) sgq ∧ SlV 43 35 vout out.length (lines (out.map (lineOf m.gr.nodes))) sgo ∧ (∀ q ∈ left, okV q.1) ∧ (∀ u, lv left u ≤ 1000000000) ∧ mm = rem.length ∧ out.length + rem.length ≤ 1000000000) ∧ T = ([(0, m.ptr), (2, vout), (3, .map (some ra)), (4, .pointer (some ⟨r17, 0, none⟩))] : TT) ∧ S' = wseg r17 vq :: sgq :: sgo :: [(ra, .gm (gmL vtxV intV left))] :: (GS m ++ S)) (m := m.nodes.length) ⟨q, vq, sgq, [], _, [], left, m.gr.nodes, ⟨kahn_start hm (by have := hit.perm; rwa [hr0, List.append_nil] at this) hlv hqp, hhp, hsq, SlV.nil 43 35, hlk, hb0, (List.length_map _).symm, by rw [show m.gr.nodes.length = m.nodes.length from List.length_map _]; simpa using hN⟩, rfl, rfl⟩ ?_
    rintro mm _ _ ⟨q, vq, sgq, out, vout, sgo, left, rem, ⟨hK, hhp, hsq, hso, hlk, hb, hmm, hor⟩, rfl, rfl⟩
    obtain ⟨Aq, cq, rfl, -, -, -⟩ := slv_rdL (w0 := w0) hsq
    have hqb : q.length ≤ 1000000000 := by have := kahn_qlen hK; have e : m.gr.nodes.length = m.nodes.length := List.length_map _; omega
    refine PW.seq fun K6 hK6 => ?_
    refine PW.seqOps ?_
    refine OL.dp rfl ?_
    refine OL.det trivial (Yields.nilc rfl) ?_
    refine OL.det trivial (Yields.ld rfl (own_at (j := 0) (c := [.slice Aq q.length cq]) (E := 110) (tot := 1) (List.mem_flatten.2 ⟨_, .head _, List.mem_singleton.2 rfl⟩) rfl)) ?_
    refine OL.call trivial rfl (wlen_fc) ?_
    rintro _ Sx ⟨rfl, hSx⟩
    rw [hSx]
    clear hSx
    refine OL.dp rfl ?_
    refine OL.nil ?_
    refine PW.keep (T' := [(0, _), (2, _), (3, _), (4, _), (40, _)]) ⟨rfl, rfl, rfl, rfl, rfl, trivial⟩ ?_
    refine PW.cond rfl (fun c40 => ?_) (fun c40 => ?_)
    · try simp only [decide_eq_true_eq, decide_eq_false_iff_not, beq_iff_eq, bne_iff_ne, beq_eq_false_iff_ne, bne_eq_false_iff_eq, Bool.not_eq_true', Bool.not_eq_false', Bool.not_eq_true, ne_eq, Decidable.not_not, Bool.false_eq_true, if_false, if_true] at c40
      obtain ⟨rq, capq, eq0, rfl, hc1, hc2⟩ := slv_own hsq (by omega)
      simp only [Value.slice.injEq, true_and] at eq0
      obtain ⟨rfl, rfl⟩ := eq0
      obtain ⟨hp1, hp2, hp3, hp4, hp5⟩ := popL_spec ltV_ord hhp (by omega)
      refine PW.skip ?_
      refine hK6 _ _ ?_
      refine PW.keep (T' := [(0, _), (2, _), (3, _), (4, _)]) ⟨rfl, rfl, rfl, rfl, trivial⟩ ?_
      refine PW.block ?_
      refine PW.seqOps ?_
      refine OL.dp rfl ?_
      refine OL.det trivial (Yields.mkI rfl) ?_
      refine OL.call trivial rfl (hpop_fc (q := q) (by omega) hc1 hc2 (by omega)) ?_
      rintro _ _ ⟨rfl, rfl⟩
      rw [hp3]
      obtain ⟨v, hv⟩ : ∃ z, z = q[0]! := ⟨_, rfl⟩
      rw [← hv] at hp2 hp5 ⊢
      have hvq : v ∈ q := hp2.mem_iff.1 (by simp)
      have hvr := ((hK.qm v).1 hvq).1
      have hvk : v ∈ mks m.nodes := by
        obtain ⟨p, hp, rfl⟩ := List.mem_map.1 hvr
        rw [← mks_plN]
        exact List.mem_map.2 ⟨p, hK.sub p hp, rfl⟩
      have hov : okV v := by
        obtain ⟨n, hn⟩ := mem_mks.1 hvk
        exact hm.nk _ (mgt_some_mem hn)
      have hmin : ∀ x ∈ q, ltV x v = false := by
        intro x hx
        rcases List.mem_cons.1 (hp2.mem_iff.2 hx) with rfl | h
        · cases h : ltV x x with
          | false => rfl
          | true => have := ltV_ord.asymm x x h; rw [h] at this; cases this
        · exact hp5 x h
      obtain ⟨hnm, hnd⟩ := nd_mem hm hvk
      have hK2 := hK.pop hp2 hmin hnm
      have hrl := rem_len hK.nd hvr
      have hs2 : SlV 32 33 (.slice (some ⟨rq, 0, none⟩) (q.length - 1) cq) (popL ltV q).length (vtxs (popL ltV q)) [(rq, .cells (vtxs (popL ltV q)) 32 (cq * 33))] := by
        have := SlV.mk' (E := 32) (sz := 33) (m := (popL ltV q).length) (cap := cq) (r := rq) (xs := vtxs (popL ltV q)) (vtxs_len _) (by omega) hc2
        rw [hp4] at this ⊢
        exact this
      refine OL.det trivial (Yields.tas (ok := true) rfl Try.underlying32 (by intro ms h; cases h)) ?_
      refine OL.dp rfl ?_
      refine OL.dp rfl ?_
      refine OL.dp rfl ?_
      refine OL.cons trivial OW.al ?_
      rintro _ _ ⟨r6, rfl, rfl⟩
      refine OL.cons trivial (vtx_st rfl rfl rfl) ?_
      rintro _ _ rfl
      refine OL.dp rfl ?_
      refine OL.nil ?_
      refine PW.keep (T' := [(0, _), (2, _), (3, _), (4, _), (6, _), (7, _)]) ⟨rfl, rfl, rfl, rfl, rfl, rfl, trivial⟩ ?_
      refine PW.seq fun K7 hK7 => ?_
      refine PW.seqOps ?_
      refine OL.dp rfl ?_
      refine OL.dp rfl ?_
      refine OL.nil ?_
      refine PW.keep (T' := [(0, _), (2, _), (3, _), (4, _), (6, _), (49, _)]) ⟨rfl, rfl, rfl, rfl, rfl, rfl, trivial⟩ ?_
      refine PW.ite (b := false) rfl ?_
      rw [if_neg Bool.false_ne_true]
      refine PW.skip ?_
      refine hK7 _ _ ?_
      refine PW.keep (T' := [(0, _), (2, _), (3, _), (4, _), (6, _)]) ⟨rfl, rfl, rfl, rfl, rfl, trivial⟩ ?_
      refine PW.seq fun K8 hK8 => ?_
      refine PW.quietAlK (p := 6) (al := [(8, 100, [.string ⟨#[]⟩, .int .i64 0, .int .i64 0, .slice none 0 0])]) Try.mixed rfl ?_
      refine QKs.det trivial (fun Sx hSx => Yields.pure rfl) ?_
      refine QKs.det trivial (fun Sx hSx => Yields.nilc rfl) ?_
      refine QKs.det trivial (fun Sx hSx => Yields.pure rfl) ?_
      refine QKs.det trivial (fun Sx hSx => Yields.ld rfl (g_nodes (hS.cons.cons.cons.cons.cons.trans hSx))) ?_
      refine QKs.det trivial (fun Sx hSx => Yields.ldA rfl (vtxL_len _) (all_at (c := vtxL v) (E := 32) (tot := 33) (hSx _ (List.mem_flatten.2 ⟨_, .head _, List.mem_singleton.2 rfl⟩)))) ?_
      refine QKs.det trivial (fun Sx hSx => Yields.lookG (okc := false) (a := v) Try.underlying55 hy1 hy2 keys32 hm.nk hov rfl rfl (GS_mem (hS.cons.cons.cons.cons.cons.trans hSx)).2.2.1) ?_
      refine QKs.nil ?_
      intro rs hrs
      obtain ⟨r8, rfl⟩ : ∃ r8, rs = [r8] := by
        match rs, hrs with
        | [r8], _ => exact ⟨_, rfl⟩
      change OL _ _ _ _ _ ([(r8, .cells [.string ⟨#[]⟩, .int .i64 0, .int .i64 0, .slice none 0 0] 100 4)] :: vseg r6 v :: wseg r17 (.slice (some ⟨rq, 0, none⟩) (q.length - 1) cq) :: qseg rq (cq * 33) (popL ltV q) :: sgo :: [(ra, .gm (gmL vtxV intV left))] :: (GS m ++ S)) _
      change OL _ _ _ [_] _ _ _
      refine OL.cons trivial (node_st rfl rfl _ _ _ _) ?_
      rintro _ _ rfl
      obtain ⟨n0, hn0⟩ : ∃ z, z = (mgt m.nodes v).getD zM := ⟨_, rfl⟩
      rw [← hn0] at hnd hnm hK2 ⊢
      have hno := getD_ok hm v
      rw [← hn0] at hno
      have hnl := hno.len
      refine OL.nil ?_
      refine hK8 _ _ ?_
      refine PW.keep (T' := [(0, _), (2, _), (3, _), (4, _), (6, _), (8, _)]) ⟨rfl, rfl, rfl, rfl, rfl, rfl, trivial⟩ ?_
      refine PW.seqOps ?_
      refine OL.dp rfl ?_
      refine OL.det trivial (Yields.ldA rfl (vtxL_len _) (all_at (List.mem_flatten.2 ⟨_, .tail _ (.head _), List.mem_singleton.2 rfl⟩))) ?_
      refine OL.dp rfl ?_
      refine OL.det trivial (Yields.ld rfl (own_at (j := 0) (c := nodeC n0) (E := 100) (tot := 4) (List.mem_flatten.2 ⟨_, .head _, List.mem_singleton.2 rfl⟩) rfl)) ?_
      refine OL.dp rfl ?_
      refine OL.det trivial (Yields.ld rfl (own_at (j := 1) (c := nodeC n0) (E := 100) (tot := 4) (List.mem_flatten.2 ⟨_, .head _, List.mem_singleton.2 rfl⟩) rfl)) ?_
      refine OL.det trivial (Yields.to (v' := .bool (decide (n0.gone = 0))) (Yields.pure rfl) (congrArg Value.bool (by rw [Bool.eq_iff_iff]; simp))) ?_
      refine OL.det trivial (Yields.build (fill_line rfl rfl rfl)) ?_
      apply OL.app1 (k := 4)
      · rfl
      · rfl
      · exact (List.size_toArray).trans (lineC_len _)
      · rfl
      · rfl
      · rfl
      · exact hso
      · exact lineC_one _
      · omega
      · unfold maxLen; omega
      intro v65 sgo2 hso2
      change OL _ _ _ _ _ ([(r8, .cells (nodeC n0) 100 4)] :: vseg r6 v :: wseg r17 (.slice (some ⟨rq, 0, none⟩) (q.length - 1) cq) :: qseg rq (cq * 33) (popL ltV q) :: sgo2 :: [(ra, .gm (gmL vtxV intV left))] :: (GS m ++ S)) _
      obtain ⟨vout2, hvo2⟩ : ∃ z : Value, z = v65 := ⟨_, rfl⟩
      rw [← hvo2] at hso2 ⊢
      have hso3 : SlV 43 35 vout2 (out ++ [v]).length (lines ((out ++ [v]).map (lineOf m.gr.nodes))) sgo2 := by
        rw [List.map_append, List.map_cons, List.map_nil, lines_snoc, List.length_append]
        have e : lineOf m.gr.nodes v = ⟨v, n0.text, decide (n0.gone = 0)⟩ := by unfold lineOf; rw [hnd]; rfl
        rw [e]
        exact hso2
      refine OL.dp rfl ?_
      refine OL.nil ?_
      refine PW.keep (T' := [(0, _), (2, _), (3, _), (4, _), (8, _)]) ⟨rfl, rfl, rfl, rfl, rfl, trivial⟩ ?_
      refine PW.seqOps ?_
      refine OL.dp rfl ?_
      refine OL.det trivial (Yields.ld rfl (own_at (j := 3) (c := nodeC n0) (E := 100) (tot := 4) (List.mem_flatten.2 ⟨_, .head _, List.mem_singleton.2 rfl⟩) rfl)) ?_
      refine OL.dp rfl ?_
      refine OL.dp rfl ?_
      refine OL.nil ?_
      refine PW.keep (T' := [(0, _), (2, _), (3, _), (4, _), (67, _), (68, _), (69, _)]) ⟨rfl, rfl, rfl, rfl, rfl, rfl, rfl, trivial⟩ ?_
      refine PW.block ?_
      refine PW.keep (T' := [(0, _), (2, _), (3, _), (4, _), (67, _), (68, _), (69, _)]) ⟨rfl, rfl, rfl, rfl, rfl, rfl, rfl, trivial⟩ ?_
      refine PW.loopK (I := fun mi T S' => ∃ (k : Nat) (q2 : List Vtx) (vq2 : Value) (sgq2 : Seg) (left2 : List (Vtx × Int)), (k ≤ n0.next.length ∧ mi = n0.next.length - k ∧ Kahn ltV m.gr.nodes (mdl rem v) q2 (lv left2) (out ++ [v]) (n0.next.drop k) ∧ Hp ltV q2 q2.length ∧ SlV 32 33 vq2 q2.length (vtxs q2) sgq2 ∧ (∀ q ∈ left2, okV q.1) ∧ ∀ u, lv left2 u ≤ 1000000000) ∧ T = ([(0, m.ptr), (2, vout2), (3, .map (some ra)), (4, .pointer (some ⟨r17, 0, none⟩)), (67, .slice n0.A n0.next.length n0.c), (68, .int .i64 (n0.next.length : Int)), (69, .int .i64 k)] : TT) ∧ S' = [(r8, .cells (nodeC n0) 100 4)] :: vseg r6 v :: wseg r17 vq2 :: sgq2 :: sgo2 :: [(ra, .gm (gmL vtxV intV left2))] :: (GS m ++ S)) (m := n0.next.length) ⟨0, popL ltV q, _, _, left, ⟨by omega, by omega, hK2, hp1, hs2, hlk, hb⟩, rfl, rfl⟩ ?_
      rintro mi _ _ ⟨k, q2, vq2, sgq2, left2, ⟨hk, hmi, hK3, hhp2, hsq2, hlk2, hb2⟩, rfl, rfl⟩
      refine PW.seqOps ?_
      refine OL.dp rfl ?_
      refine OL.nil ?_
      refine PW.keep (T' := [(0, _), (2, _), (3, _), (4, _), (67, _), (68, _), (69, _), (70, _)]) ⟨rfl, rfl, rfl, rfl, rfl, rfl, rfl, rfl, trivial⟩ ?_
      refine PW.seq fun K9 hK9 => ?_
      refine PW.cond rfl (fun c70 => ?_) (fun c70 => ?_)
      · try simp only [decide_eq_true_eq, decide_eq_false_iff_not, beq_iff_eq, bne_iff_ne, beq_eq_false_iff_ne, bne_eq_false_iff_eq, Bool.not_eq_true', Bool.not_eq_false', Bool.not_eq_true, ne_eq, Decidable.not_not, Bool.false_eq_true, if_false, if_true] at c70
        have hkl : k < n0.next.length := by omega
        obtain ⟨a0, ha0⟩ := vtxs_some (l := n0.next) hno.rd (by omega)
        have hrd2 : Rd w0 ([(r8, .cells (nodeC n0) 100 4)] :: vseg r6 v :: wseg r17 vq2 :: sgq2 :: sgo2 :: [(ra, .gm (gmL vtxV intV left2))] :: (GS m ++ S)) (some a0) (vtxs n0.next) := by rw [← ha0]; exact hno.rd.junk hS.cons.cons.cons.cons.cons.cons
        refine PW.skip ?_
        refine hK9 _ _ ?_
        refine PW.keep (T' := [(0, _), (2, _), (3, _), (4, _), (67, _), (68, _), (69, _)]) ⟨rfl, rfl, rfl, rfl, rfl, rfl, rfl, trivial⟩ ?_
        refine PW.seq fun K10 hK10 => ?_
        refine PW.block ?_
        refine PW.seqOps ?_
        rw [ha0]
        refine OL.det trivial (Yields.ixN rfl rfl rfl (by omega)) ?_
        refine OL.det trivial (Yields.ldA rfl (vtxL_len _) (vtx_at hrd2 hkl)) ?_
        refine OL.cons trivial OW.al ?_
        rintro _ _ ⟨r10, rfl, rfl⟩
        refine OL.cons trivial (vtx_st rfl rfl rfl) ?_
        rintro _ _ rfl
        obtain ⟨w, hw⟩ : ∃ z, z = n0.next[k] := ⟨_, rfl⟩
        rw [← hw]
        have how : okV w := by rw [hw]; exact hno.ok _ (List.getElem_mem hkl)
        rw [List.drop_eq_getElem_cons hkl, ← hw] at hK3
        have hw1 := kahn_one hK3
        have hb1 := hb2 w
        have hwT := hT (v, w) (by rw [mem_EG hK3.nn, hnd, hw]; exact List.getElem_mem hkl)
        refine OL.nil ?_
        refine PW.keep (T' := [(0, _), (2, _), (3, _), (4, _), (10, _), (67, _), (68, _), (69, _)]) ⟨rfl, rfl, rfl, rfl, rfl, rfl, rfl, rfl, trivial⟩ ?_
        refine PW.seq fun K11 hK11 => ?_
        refine PW.quietRPK (Ss := OpS vtxV intV left2 w 0 ra (vseg r10 w :: [(r8, .cells (nodeC n0) 100 4)] :: vseg r6 v :: wseg r17 vq2 :: sgq2 :: [sgo2]) (GS m ++ S)) Try.mixed (.inl rfl) ?_
        refine QP.det trivial (fun Sx hSx => Yields.pure rfl) ?_
        refine QP.det trivial (fun Sx hSx => Yields.ldA rfl (vtxL_len _) (all_at (c := vtxL w) (E := 32) (tot := 33) (hSx.over _ (by simp)))) ?_
        refine QP.det trivial (fun Sx hSx => Yields.lookOp (u := w) Try.underlying107 hz1 hz2 keys32 hlk2 how how rfl rfl hSx) ?_
        refine QP.det trivial (fun Sx hSx => Yields.to (v' := intV (lv left2 w - 1)) (Yields.sub64 rfl rfl (by show _ ≤ lv left2 w - 1; omega) (by show lv left2 w - 1 ≤ _; omega)) rfl) ?_
        refine QP.hole ?_
        refine QP.hole ?_
        refine QP.nil ⟨rfl, rfl, ordB_of (hp := [4, 5]) rfl (by decide), ?_⟩
        refine ⟨rfl, OW.mono (OW.entry (j := 6) (a := w) (z := (0 : Int)) Try.underlying107 hz1 hz2 keys32 hlk2 how rfl rfl rfl) ?_⟩
        rintro _ _ ⟨en2, clk2, qq2, e2, rfl, hop2, hee2, heb2, hek2, rfl⟩
        refine ⟨.inr ⟨en2, clk2, hop2, rfl⟩, ?_⟩
        refine ⟨rfl, OW.mono (OW.of_yields (Yields.pure rfl)) ?_⟩
        rintro _ _ ⟨rfl, rfl⟩
        refine ⟨.inr ⟨en2, clk2, hop2, rfl⟩, ?_⟩
        change OL _ _ _ [_] _ _ _
        refine OL.cons trivial (OW.store (j := 6) (v := lv left2 w - 1) (fun a b => vtx_inj') rfl rfl rfl hop2 hee2 heb2 hek2 rfl) ?_
        rintro _ _ rfl
        obtain ⟨left3, hl3⟩ : ∃ z, z = mpt (entL left2 w 0) w (lv left2 w - 1) := ⟨_, rfl⟩
        change OL _ _ _ _ _ (vseg r10 w :: [(r8, .cells (nodeC n0) 100 4)] :: vseg r6 v :: wseg r17 vq2 :: sgq2 :: sgo2 :: [(ra, .gm (gmL vtxV intV (mpt (entL left2 w 0) w (lv left2 w - 1))))] :: (GS m ++ S)) _
        rw [← hl3]
        have hlk3 : ∀ q ∈ left3, okV q.1 := by rw [hl3]; exact put_ok hlk2 how
        have hlv3 : ∀ u, lv left3 u = if u = w then lv left2 w - 1 else lv left2 u := fun u => by rw [hl3]; exact lv_put _ _ _ _
        have hlw3 : lv left3 w = lv left2 w - 1 := by rw [hlv3, if_pos rfl]
        have hb3 : ∀ u, lv left3 u ≤ 1000000000 := fun u => by rw [hlv3]; have := hb2 u; split <;> omega
        refine OL.nil ?_
        refine hK11 _ _ ?_
        refine PW.keep (T' := [(0, _), (2, _), (3, _), (4, _), (10, _), (67, _), (68, _), (69, _)]) ⟨rfl, rfl, rfl, rfl, rfl, rfl, rfl, rfl, trivial⟩ ?_
        refine PW.seq fun K12 hK12 => ?_
        refine PW.quiet2QK Try.mixed ?_
        refine QK.det trivial (Yields.ldA rfl (vtxL_len _) (all_at (List.mem_flatten.2 ⟨_, .head _, List.mem_singleton.2 rfl⟩))) ?_
        refine QK.call trivial rfl (end_fc) ?_
        refine QK.det trivial (Yields.eqD (neg := true) rfl rfl (eqL_vtx _ _)) ?_
        refine QK.bool trivial (Yields.pure rfl) (fun g82 => ?_) (fun g82 => ?_)
        · try simp only [decide_eq_true_eq, decide_eq_false_iff_not, beq_iff_eq, bne_iff_ne, beq_eq_false_iff_ne, bne_eq_false_iff_eq, Bool.not_eq_true', Bool.not_eq_false', Bool.not_eq_true, ne_eq, Decidable.not_not, Bool.false_eq_true, if_false, if_true] at g82
          refine QK.det rfl (Yields.pure rfl) ?_
          refine QK.det rfl (Yields.ldA rfl (vtxL_len _) (all_at (List.mem_flatten.2 ⟨_, .head _, List.mem_singleton.2 rfl⟩))) ?_
          refine QK.nil ?_
          change OL _ _ _ [_, _, _] _ _ _
          refine OL.det rfl (Yields.lookG (okc := false) (a := w) Try.underlying107 hz1 hz2 keys32 hlk3 how rfl rfl (List.mem_flatten.2 ⟨_, .tail _ (.tail _ (.tail _ (.tail _ (.tail _ (.tail _ (.head _)))))), List.mem_singleton.2 rfl⟩)) ?_
          refine OL.det rfl (Yields.pure rfl) ?_
          refine OL.dp rfl ?_
          refine OL.nil ?_
          refine hK12 _ _ ?_
          refine PW.keep (T' := [(0, _), (2, _), (3, _), (4, _), (10, _), (67, _), (68, _), (69, _), (87, _)]) ⟨rfl, rfl, rfl, rfl, rfl, rfl, rfl, rfl, rfl, trivial⟩ ?_
          refine PW.cond rfl (fun c87 => ?_) (fun c87 => ?_)
          · try simp only [decide_eq_true_eq, decide_eq_false_iff_not, beq_iff_eq, bne_iff_ne, beq_eq_false_iff_ne, bne_eq_false_iff_eq, Bool.not_eq_true', Bool.not_eq_false', Bool.not_eq_true, ne_eq, Decidable.not_not, Bool.false_eq_true, if_false, if_true] at c87
            refine PW.ops ?_
            refine OL.dp rfl ?_
            refine OL.det trivial (Yields.mkI rfl) ?_
            refine OL.det trivial (Yields.ldA rfl (vtxL_len _) (all_at (List.mem_flatten.2 ⟨_, .head _, List.mem_singleton.2 rfl⟩))) ?_
            refine OL.det trivial (Yields.mkI rfl) ?_
            refine OL.call trivial rfl (FC.subS (Sub.sel [3, 4, 0, 1, 2] 5 (by decide) (vseg r10 w :: [(r8, .cells (nodeC n0) 100 4)] :: vseg r6 v :: wseg r17 vq2 :: sgq2 :: sgo2 :: [(ra, .gm (gmL vtxV intV left3))] :: (GS m ++ S))) (hpush_fc (x := w) hsq2 (by have := kahn_qlen hK3; have e : m.gr.nodes.length = m.nodes.length := List.length_map _; omega))) ?_
            rintro _ _ ⟨rfl, v92, sg92, rfl, hs92⟩
            refine OL.subS (S' := vseg r10 w :: [(r8, .cells (nodeC n0) 100 4)] :: vseg r6 v :: wseg r17 v92 :: sg92 :: sgo2 :: [(ra, .gm (gmL vtxV intV left3))] :: (GS m ++ S)) (Sub.sel [2, 3, 4, 0, 1] 5 (by decide) (wseg r17 v92 :: sg92 :: vseg r10 w :: [(r8, .cells (nodeC n0) 100 4)] :: vseg r6 v :: sgo2 :: [(ra, .gm (gmL vtxV intV left3))] :: (GS m ++ S))) ?_
            refine OL.nil ?_
            refine hK10 _ _ ?_
            refine PW.keep (T' := [(0, _), (2, _), (3, _), (4, _), (67, _), (68, _), (69, _)]) ⟨rfl, rfl, rfl, rfl, rfl, rfl, rfl, trivial⟩ ?_
            refine PW.ops ?_
            refine OL.det trivial (Yields.add64 rfl rfl (by omega) (by omega)) ?_
            refine OL.dp rfl ?_
            refine OL.nil ?_
            repeat rw [inBlk_n]
            try rw [thenK_n]
            refine LoopEnd.mkS (Sub.drop (Sub.refl _)) (T'' := [(0, _), (2, _), (3, _), (4, _), (67, _), (68, _), (69, _)]) ⟨rfl, rfl, rfl, rfl, rfl, rfl, rfl, trivial⟩ ?_
            rw [ha0]
            obtain ⟨hp1', hp2'⟩ := pushL_spec ltV_ord hhp2 w
            refine ⟨n0.next.length - (k + 1), by omega, k + 1, pushL ltV q2 w, v92, sg92, left3, ⟨by omega, rfl, hK3.dec hlv3 ?_, hp1', hs92, hlk3, hb3⟩, rfl, rfl⟩
            rw [if_pos ⟨by rw [show mks m.gr.nodes = mks m.nodes from mks_plN _]; exact hwT.resolve_right g82, by have : lv left3 w = 0 := c87; omega⟩]
            exact hp2'
          · try simp only [decide_eq_true_eq, decide_eq_false_iff_not, beq_iff_eq, bne_iff_ne, beq_eq_false_iff_ne, bne_eq_false_iff_eq, Bool.not_eq_true', Bool.not_eq_false', Bool.not_eq_true, ne_eq, Decidable.not_not, Bool.false_eq_true, if_false, if_true] at c87
            refine PW.skip ?_
            refine hK10 _ _ ?_
            refine PW.keep (T' := [(0, _), (2, _), (3, _), (4, _), (67, _), (68, _), (69, _)]) ⟨rfl, rfl, rfl, rfl, rfl, rfl, rfl, trivial⟩ ?_
            refine PW.ops ?_
            refine OL.det trivial (Yields.add64 rfl rfl (by omega) (by omega)) ?_
            refine OL.dp rfl ?_
            refine OL.nil ?_
            repeat rw [inBlk_n]
            try rw [thenK_n]
            refine LoopEnd.mkS (Sub.drop (Sub.refl _)) (T'' := [(0, _), (2, _), (3, _), (4, _), (67, _), (68, _), (69, _)]) ⟨rfl, rfl, rfl, rfl, rfl, rfl, rfl, trivial⟩ ?_
            rw [ha0]
            refine ⟨n0.next.length - (k + 1), by omega, k + 1, q2, vq2, sgq2, left3, ⟨by omega, rfl, hK3.dec hlv3 ?_, hhp2, hsq2, hlk3, hb3⟩, rfl, rfl⟩
            rw [if_neg (fun h => by have : ¬ lv left3 w = 0 := c87; omega)]
        · try simp only [decide_eq_true_eq, decide_eq_false_iff_not, beq_iff_eq, bne_iff_ne, beq_eq_false_iff_ne, bne_eq_false_iff_eq, Bool.not_eq_true', Bool.not_eq_false', Bool.not_eq_true, ne_eq, Decidable.not_not, Bool.false_eq_true, if_false, if_true] at g82
          refine QK.off rfl rfl ?_
          refine QK.off rfl rfl ?_
          refine QK.nil ?_
          change OL _ _ _ [_, _, _] _ _ _
          refine OL.off rfl rfl ?_
          refine OL.off rfl rfl ?_
          refine OL.dp rfl ?_
          refine OL.nil ?_
          refine hK12 _ _ ?_
          refine PW.keep (T' := [(0, _), (2, _), (3, _), (4, _), (10, _), (67, _), (68, _), (69, _), (87, _)]) ⟨rfl, rfl, rfl, rfl, rfl, rfl, rfl, rfl, rfl, trivial⟩ ?_
          refine PW.ite (b := false) rfl ?_
          rw [if_neg Bool.false_ne_true]
          refine PW.skip ?_
          refine hK10 _ _ ?_
          refine PW.keep (T' := [(0, _), (2, _), (3, _), (4, _), (67, _), (68, _), (69, _)]) ⟨rfl, rfl, rfl, rfl, rfl, rfl, rfl, trivial⟩ ?_
          refine PW.ops ?_
          refine OL.det trivial (Yields.add64 rfl rfl (by omega) (by omega)) ?_
          refine OL.dp rfl ?_
          refine OL.nil ?_
          repeat rw [inBlk_n]
          try rw [thenK_n]
          refine LoopEnd.mkS (Sub.drop (Sub.refl _)) (T'' := [(0, _), (2, _), (3, _), (4, _), (67, _), (68, _), (69, _)]) ⟨rfl, rfl, rfl, rfl, rfl, rfl, rfl, trivial⟩ ?_
          rw [ha0]
          refine ⟨n0.next.length - (k + 1), by omega, k + 1, q2, vq2, sgq2, left3, ⟨by omega, rfl, hK3.dec hlv3 ?_, hhp2, hsq2, hlk3, hb3⟩, rfl, rfl⟩
          rw [if_neg (fun h => hend (by rw [← g82, ← show mks m.gr.nodes = mks m.nodes from mks_plN _]; exact h.1))]
      · try simp only [decide_eq_true_eq, decide_eq_false_iff_not, beq_iff_eq, bne_iff_ne, beq_eq_false_iff_ne, bne_eq_false_iff_eq, Bool.not_eq_true', Bool.not_eq_false', Bool.not_eq_true, ne_eq, Decidable.not_not, Bool.false_eq_true, if_false, if_true] at c70
        refine PW.exit ?_
        repeat rw [inBlk_n]
        try rw [thenK_n]
        refine LoopEnd.mkS (Sub.sel [2, 3, 4] 5 (by decide) _) (T'' := [(0, _), (2, _), (3, _), (4, _)]) ⟨rfl, rfl, rfl, rfl, trivial⟩ ?_
        refine ⟨(mdl rem v).length, by omega, q2, vq2, sgq2, out ++ [v], vout2, sgo2, left2, mdl rem v, ⟨?_, hhp2, hsq2, hso3, hlk2, hb2, rfl, by rw [List.length_append, List.length_singleton]; omega⟩, rfl, rfl⟩
        rw [List.drop_eq_nil_of_le (by omega)] at hK3
        exact hK3
    · try simp only [decide_eq_true_eq, decide_eq_false_iff_not, beq_iff_eq, bne_iff_ne, beq_eq_false_iff_ne, bne_eq_false_iff_eq, Bool.not_eq_true', Bool.not_eq_false', Bool.not_eq_true, ne_eq, Decidable.not_not, Bool.false_eq_true, if_false, if_true] at c40
      refine PW.exit ?_
      refine hK5 _ _ ?_
      refine PW.keep (T' := [(2, _)]) ⟨rfl, trivial⟩ ?_
      refine PW.seqOps ?_
      refine OL.dp rfl ?_
      refine OL.dp rfl ?_
      refine OL.nil ?_
      refine PW.keep (T' := [(2, _)]) ⟨rfl, trivial⟩ ?_
      refine PW.ret ?_
      change (Exit.ret = Exit.normal ∨ Exit.ret = Exit.ret) ∧ ∃ v, resV _ _ = some v ∧ _
      obtain rfl : q = [] := List.eq_nil_of_length_eq_zero (by omega)
      exact ⟨.inr rfl, _, rfl, _, Sub.sel [2] 4 (by decide) _, sgo, out, rfl, hK.fin, hso⟩
end Go.Proofs.Gr

set_option linter.unusedVariables false
namespace Go.GP
open Go.SL
theorem mem_outE {ps : List PartP} {v w : Vtx} : w ∈ outE ps v ↔ (v, w) ∈ allE ps := by
  unfold outE
  simp only [List.mem_map, List.mem_filter, decide_eq_true_eq]
  constructor
  · rintro ⟨e, ⟨h1, h2⟩, rfl⟩; subst h2; exact h1
  · intro h; exact ⟨_, ⟨h, rfl⟩, rfl⟩
theorem Inv.edge {ps : List PartP} {G : Gr} (h : Inv ps G) (hs : Sq ps) {e : Vtx × Vtx} : e ∈ EG G.nodes ↔ e ∈ allE ps ∧ e.1 ≠ rootV := by
  obtain ⟨v, w⟩ := e
  rw [mem_EG h.nk]
  constructor
  · intro hw
    cases hv : mgt G.nodes v with
    | none => unfold nd at hw; rw [hv] at hw; simp [zN] at hw
    | some n =>
      have hn := h.node v n hv
      have hnd : nd G.nodes v = n := by unfold nd; rw [hv]; rfl
      rw [hnd] at hw
      exact ⟨mem_outE.1 (hn.next.mem_iff.1 hw), fun e => h.root hs (e ▸ mem_mks.2 ⟨n, hv⟩)⟩
  · rintro ⟨h1, h2⟩
    have hk : v ∈ mks G.nodes := (h.keys v).2 ((hs.edge h1).1.resolve_left h2)
    have hv := nd_some hk
    exact (h.node v _ hv).next.mem_iff.2 (mem_outE.2 h1)
theorem Inv.noRoot {ps : List PartP} {G : Gr} (h : Inv ps G) (hs : Sq ps) : ∀ e ∈ EG G.nodes, e.2 ≠ rootV := by
  intro e he hr
  rcases (hs.edge ((h.edge hs).1 he).1).2 with h1 | h1
  · exact root_ne_end (hr.symm.trans h1)
  · exact (hs.line h1).1 hr
theorem Inv.tgt {ps : List PartP} {G : Gr} (h : Inv ps G) (hs : Sq ps) : ∀ e ∈ EG G.nodes, e.2 ∈ mks G.nodes ∨ e.2 = endV := by
  intro e he
  rcases (hs.edge ((h.edge hs).1 he).1).2 with h1 | h1
  · exact .inr h1
  · exact .inl ((h.keys _).2 h1)
theorem Inv.noEnd {ps : List PartP} {G : Gr} (h : Inv ps G) (hs : Sq ps) : endV ∉ mks G.nodes := fun hm => (hs.line ((h.keys _).1 hm)).2 rfl
theorem Inv.has {ps : List PartP} {G : Gr} (h : Inv ps G) {v : Vtx} : HasG G v ↔ HasV ps v := by
  unfold HasG HasV
  rw [h.keys]
theorem Inv.rch {ps : List PartP} {G : Gr} (h : Inv ps G) (hs : Sq ps) {a b : Vtx} (ha : a ≠ rootV) : Rch (EG G.nodes) a b ↔ Rch (allE ps) a b := by
  constructor
  · exact fun hr => hr.mono fun e he => ((h.edge hs).1 he).1
  · intro hr
    induction hr with
    | one h1 => exact .one ((h.edge hs).2 ⟨h1, ha⟩)
    | cons h1 _ ih =>
      have h2 := (h.edge hs).2 ⟨h1, ha⟩
      exact .cons h2 (ih (h.noRoot hs _ h2))
theorem Inv.bef {ps : List PartP} {G : Gr} (h : Inv ps G) (hs : Sq ps) {a b : Vtx} : BefG G a b ↔ Bef ps a b := by
  unfold BefG Bef
  rw [h.has, h.has]
  by_cases ha : a = rootV
  · simp [ha]
  · rw [h.rch hs ha]
theorem Inv.there {ps : List PartP} {G : Gr} (h : Inv ps G) {p : PartP} : ThereG G p ↔ (∃ q ∈ ps, q.name = p.name) ∨ ∃ v ∈ own p, v ∈ allV ps := by
  unfold ThereG
  constructor
  · rintro (h1 | ⟨v, h1, h2⟩)
    · obtain ⟨q, hq, hqn⟩ := List.mem_map.1 h1
      have := h.pname q hq
      refine .inl ⟨q.2, (h.part q.2).1 ?_, by rw [← this]; exact hqn⟩
      rw [← this]; exact hq
    · exact .inr ⟨v, h1, (h.keys v).1 h2⟩
  · rintro (⟨q, hq, hqn⟩ | ⟨v, h1, h2⟩)
    · exact .inl (List.mem_map.2 ⟨_, (h.part q).2 hq, hqn⟩)
    · exact .inr ⟨v, h1, (h.keys v).2 h2⟩
/-- a part comes just when it is new -/
theorem Inv.new {ps : List PartP} {G : Gr} (h : Inv ps G) (hs : Sq ps) {p : PartP} : (¬ ThereG G p ∧ Formed p ∧ HasG G p.up ∧ HasG G p.down ∧ (∀ v ∈ p.gone, v ∈ mks G.nodes) ∧ BefG G p.up p.down) ↔ New ps p := by
  constructor
  · rintro ⟨h1, h2, h3, h4, h5, h6⟩
    exact ⟨fun q hq e => h1 (h.there.2 (.inl ⟨q, hq, e⟩)), fun v hv hm => h1 (h.there.2 (.inr ⟨v, hv, hm⟩)), h2.first, h2.upE, h2.downR, h2.gone0, h2.goneR, h.has.1 h3, h.has.1 h4, fun v hv => (h.keys v).1 (h5 v hv), (h.bef hs).1 h6⟩
  · intro n
    refine ⟨fun ht => ?_, ⟨n.gone0, n.goneR, n.first, n.upE, n.downR⟩, h.has.2 n.up, h.has.2 n.down, fun v hv => (h.keys v).2 (n.gone v hv), (h.bef hs).2 n.bef⟩
    rcases h.there.1 ht with ⟨q, hq, e⟩ | ⟨v, hv, hm⟩
    · exact n.name q hq e
    · exact n.own v hv hm
theorem len_le : ∀ {l l' : List Vtx}, l.Nodup → (∀ x ∈ l, x ∈ l') → l.length ≤ l'.length
  | [], l', _, _ => by simp
  | a :: l, l', hn, h => by
    obtain ⟨h1, h2⟩ := List.nodup_cons.1 hn
    have ha : a ∈ l' := h a (by simp)
    have := len_le (l := l) (l' := l'.erase a) h2 (fun x hx => by
      have hne : x ≠ a := fun e => h1 (e ▸ hx)
      exact (List.mem_erase_of_ne hne).2 (h x (by simp [hx])))
    rw [List.length_erase_of_mem ha] at this
    have hp : 0 < l'.length := List.length_pos_of_mem ha
    simp only [List.length_cons]
    omega
theorem Inv.nodesLen {ps : List PartP} {G : Gr} (h : Inv ps G) : G.nodes.length ≤ (allV ps).length := by
  have := len_le h.nk (fun x hx => (h.keys x).1 hx)
  unfold mks at this
  rwa [List.length_map] at this
theorem outs_le (E : List (Vtx × Vtx)) : ∀ {K : List Vtx}, K.Nodup → (K.flatMap fun v => E.filter fun e => decide (e.1 = v)).length ≤ E.length := by
  intro K hK
  induction E with
  | nil =>
    have : (K.flatMap fun v => ([] : List (Vtx × Vtx)).filter fun e => decide (e.1 = v)) = [] := by simp
    rw [this]; simp
  | cons e E ih =>
    have key : ∀ {K : List Vtx}, K.Nodup → (K.flatMap fun v => (e :: E).filter fun x => decide (x.1 = v)).length ≤ (K.flatMap fun v => E.filter fun x => decide (x.1 = v)).length + if e.1 ∈ K then 1 else 0 := by
      intro K hK
      induction K with
      | nil => simp
      | cons a K ih =>
        obtain ⟨h1, h2⟩ := List.nodup_cons.1 hK
        have := ih h2
        rw [List.flatMap_cons, List.flatMap_cons, List.length_append, List.length_append, List.filter_cons]
        by_cases ha : e.1 = a
        · subst ha
          rw [if_neg h1] at this
          simp only [decide_true, if_true, List.length_cons, List.mem_cons, true_or]
          omega
        · have e2 : (e.1 ∈ a :: K) ↔ e.1 ∈ K := by simp [ha]
          simp only [ha, decide_false, Bool.false_eq_true, if_false, e2]
          omega
    have := key hK
    simp only [List.length_cons]
    split at this <;> omega
theorem Inv.edgesLen {ps : List PartP} {G : Gr} (h : Inv ps G) : (EG G.nodes).length ≤ (allE ps).length := by
  refine Nat.le_trans (Nat.le_of_eq ?_) (outs_le (allE ps) h.nk)
  unfold EG mks
  have : ∀ N : List (Vtx × NodeP), (∀ p ∈ N, p ∈ G.nodes) → (N.flatMap fun p => p.2.next.map fun w => (p.1, w)).length = ((N.map (·.1)).flatMap fun v => (allE ps).filter fun e => decide (e.1 = v)).length := by
    intro N hN
    induction N with
    | nil => rfl
    | cons p N ih =>
      have hp := hN p (by simp)
      have hn := h.node p.1 p.2 ((mgt_mem h.nk).2 hp)
      have hl := hn.next.length_eq
      unfold outE at hl
      rw [List.length_map] at hl
      rw [List.flatMap_cons, List.map_cons, List.flatMap_cons, List.length_append, List.length_append, List.length_map, hl, ih fun q hq => hN q (by simp [hq])]
  exact this G.nodes fun p hp => hp
end Go.GP

set_option linter.unusedVariables false
namespace Go.GP
open Go.SL
theorem mem_mid {A B : List PartP} {p q : PartP} : q ∈ A ++ p :: B ↔ q = p ∨ q ∈ A ++ B := by
  simp only [List.mem_append, List.mem_cons]
  constructor
  · rintro (h | h | h)
    · exact .inr (.inl h)
    · exact .inl h
    · exact .inr (.inr h)
  · rintro (h | h | h)
    · exact .inr (.inl h)
    · exact .inl h
    · exact .inr (.inr h)
theorem HasV.less {A B : List PartP} {p : PartP} {v : Vtx} (h : HasV (A ++ p :: B) v) (hn : v ∉ own p) : HasV (A ++ B) v := by
  rcases h with h | h | h
  · exact .inl h
  · exact .inr (.inl h)
  · obtain ⟨q, hq, hv⟩ := mem_allV.1 h
    rcases mem_mid.1 hq with rfl | hq
    · exact absurd hv hn
    · exact .inr (.inr (mem_allV.2 ⟨q, hq, hv⟩))
theorem Sq.at {A B : List PartP} {p : PartP} (h : Sq (A ++ p :: B)) : New B p ∧ Sq B := by
  induction A with
  | nil => cases h with | cons n t => exact ⟨n, t⟩
  | cons a A ih => cases h with | cons n t => exact ih t
theorem Bef.less {A B : List PartP} {p : PartP} (hs : Sq (A ++ p :: B)) (hs' : Sq (A ++ B)) (hd : ∀ q ∈ A ++ B, ∀ v ∈ own q, v ∉ own p) {x y : Vtx} (hx : x ∉ own p) (hy : y ∉ own p) (h : Bef (A ++ p :: B) x y) : Bef (A ++ B) x y := by
  obtain ⟨h1, h2, h3, h4, h5, h6⟩ := h
  obtain ⟨n, t⟩ := hs.at
  obtain ⟨f1, f2⟩ := n.fresh t
  refine ⟨h1.less hx, h2.less hy, h3, h4, h5, ?_⟩
  by_cases hxr : x = rootV
  · exact .inl hxr
  by_cases hye : y = endV
  · exact .inr (.inl hye)
  have h7 := (h6.resolve_left hxr).resolve_left hye
  have hmem : ∀ q, q ∈ A ++ p :: B → q ∈ p :: (A ++ B) := fun q hq => by
    rcases mem_mid.1 hq with rfl | hq
    · simp
    · exact List.mem_cons_of_mem _ hq
  have hmem' : ∀ q, q ∈ p :: (A ++ B) → q ∈ A ++ p :: B := fun q hq => by
    rcases List.mem_cons.1 hq with rfl | hq
    · simp
    · exact mem_mid.2 (.inr hq)
  have hge := ge_ne (v := x)
  have hown : ∀ v ∈ own p, ∀ e ∈ allE (A ++ B), e.1 ≠ v ∧ e.2 ≠ v := fun v hv e he => by
    have hv0 := ge_ne (own_ge n.first hv)
    obtain ⟨e1, e2⟩ := hs'.edge he
    constructor
    · intro ee
      rcases e1 with e1 | e1
      · exact hv0.1 (ee.symm.trans e1)
      · obtain ⟨q, hq, hvq⟩ := mem_allV.1 e1
        exact hd q hq _ hvq (ee ▸ hv)
    · intro ee
      rcases e2 with e2 | e2
      · exact hv0.2 (ee.symm.trans e2)
      · obtain ⟨q, hq, hvq⟩ := mem_allV.1 e2
        exact hd q hq _ hvq (ee ▸ hv)
  have hsubB : ∀ q ∈ B, q ∈ A ++ B := fun q hq => List.mem_append_right _ hq
  refine .inr (.inr ((rch_back hown (f2 _ n.up) (f2 _ n.down) (n.bef.2.2.2.2.2.imp_right fun h => h.imp_right fun h => h.mono (allE_mono hsubB)) (fun e he hr => ?_) (fun e he hr => ?_) (h7.mono (allE_mono hmem)) hy hye).1 hx hxr))
  · rcases (hs.edge (allE_mono hmem' e he)).2 with h8 | h8
    · exact root_ne_end (hr.symm.trans h8)
    · exact (hs.line h8).1 hr
  · rcases (hs.edge (allE_mono hmem' e he)).1 with h8 | h8
    · exact root_ne_end (h8.symm.trans hr)
    · exact (hs.line h8).2 hr
end Go.GP

set_option linter.unusedVariables false
namespace Go.Proofs.Gr
open Go.SL Go.RowKit Go.Proofs Go.GP
theorem befB_iff {G : Gr} {a b : Vtx} : befB G a b = true ↔ BefG G a b := by
  constructor
  · intro h
    exact Classical.byContradiction fun k => by rw [befB_false k] at h; cases h
  · exact befB_true
theorem addE_zero' {G : Gr} {p : PartP} : addE G p = 0 ↔ ¬ ThereG G p ∧ Formed p ∧ HasG G p.up ∧ HasG G p.down ∧ (∀ v ∈ p.gone, v ∈ mks G.nodes) ∧ BefG G p.up p.down := by
  constructor
  · intro h
    by_cases h1 : ThereG G p
    · rw [addE_there h1] at h; omega
    by_cases h2 : Formed p
    · by_cases h3 : ¬ HasG G p.up ∨ ¬ HasG G p.down ∨ ∃ v ∈ p.gone, v ∉ mks G.nodes
      · rw [addE_dep h1 h2 h3] at h; omega
      · have k1 : HasG G p.up := Classical.byContradiction fun k => h3 (.inl k)
        have k2 : HasG G p.down := Classical.byContradiction fun k => h3 (.inr (.inl k))
        have k3 : ∀ v ∈ p.gone, v ∈ mks G.nodes := fun v hv => Classical.byContradiction fun k => h3 (.inr (.inr ⟨v, hv, k⟩))
        rw [addE_bef h1 h2 k1 k2 k3] at h
        split at h
        · omega
        · rename_i h4
          exact ⟨h1, h2, k1, k2, k3, befB_iff.1 (by simpa using h4)⟩
    · rw [addE_form h1 h2] at h; omega
  · rintro ⟨h1, h2, h3, h4, h5, h6⟩
    rw [addE_bef h1 h2 h3 h4 h5, if_neg (by rw [befB_iff.2 h6]; simp)]
theorem addE_zero {ps : List PartP} {G : Gr} (h : Inv ps G) (hs : Sq ps) {p : PartP} : addE G p = 0 ↔ New ps p := addE_zero'.trans (h.new hs)
open Classical in
noncomputable def came (ps : List PartP) (p : PartP) : List PartP := if New ps p then p :: ps else ps
open Classical in
theorem came_new {ps : List PartP} {p : PartP} (h : New ps p) : came ps p = p :: ps := by unfold came; rw [if_pos h]
open Classical in
theorem came_not {ps : List PartP} {p : PartP} (h : ¬ New ps p) : came ps p = ps := by unfold came; rw [if_neg h]
theorem addT_inv {ps : List PartP} {G : Gr} (h : Inv ps G) (hs : Sq ps) (p : PartP) : Inv (came ps p) (addT G p) ∧ Sq (came ps p) := by
  unfold addT
  by_cases hn : New ps p
  · rw [if_pos ((addE_zero h hs).2 hn), came_new hn]
    exact ⟨h.add hs hn, .cons hn hs⟩
  · rw [if_neg (fun e => hn ((addE_zero h hs).1 e)), came_not hn]
    exact ⟨h, hs⟩
theorem Inv.get {ps : List PartP} {G : Gr} (h : Inv ps G) {p : PartP} (hp : p ∈ ps) : mgt G.parts p.name = some p := (mgt_mem h.pk).2 ((h.part p).2 hp)
end Go.Proofs.Gr

set_option linter.unusedVariables false
set_option linter.unusedSimpArgs false
namespace Go.SL
open Go.ChangeShapes Go.WideShapes Go.ChangeAt Go.RowKit
section
variable {H : Type} {enc : TypeId × Value → H} {P : Program} {W : World}
end
end Go.SL

set_option linter.unusedVariables false
set_option linter.unusedSimpArgs false
namespace Go.Proofs.Gr
open Go.SL Go.RowKit Go.Proofs Go.GP
theorem FitsAll.parts : ∀ {s t : List CK} {cs : List Value}, FitsAll (s ++ t) cs → ∃ a b, cs = a ++ b ∧ FitsAll s a ∧ FitsAll t b
  | [], t, cs, h => ⟨[], cs, rfl, trivial, h⟩
  | c :: s, t, [], h => h.elim
  | c :: s, t, v :: cs, h => by
    obtain ⟨h1, h2⟩ := h
    obtain ⟨a, b, rfl, h3, h4⟩ := FitsAll.parts h2
    exact ⟨v :: a, b, rfl, ⟨h1, h3⟩, h4⟩
/-- what is known of a part that an argument holds -/
structure PartA (W : World) (p : PartM) : Prop where
  at_ : -9223372036854775808 ≤ p.at_ ∧ p.at_ ≤ 9223372036854775807
  first : -9223372036854775808 ≤ p.first ∧ p.first ≤ 9223372036854775807
  up : okV p.up
  down : okV p.down
  gone : ∀ v ∈ p.gone, okV v
  text : ∀ s ∈ p.lines, s.size ≤ 140737488351232
  rdL : Rd W [] p.LA (strs p.lines)
  rdG : Rd W [] p.GA (vtxs p.gone)
  gnil : p.GA = none → p.gc = 0
  gcap : p.gone.length ≤ p.gc
  len : p.lines.length ≤ 1000000000000000 ∧ p.gone.length ≤ 1000000000000000
end Go.Proofs.Gr

set_option linter.unusedVariables false
set_option linter.unusedSectionVars false
namespace Go.Proofs.Gr
open Go.SL Go.RowKit Go.Proofs Go.GP Go.HP
section
variable {V : Type} [DecidableEq V] {lt : V → V → Bool}
theorem Ord.irr (hO : Ord lt) (a : V) : lt a a = false := by
  cases h : lt a a with
  | false => rfl
  | true => have := hO.asymm a a h; rw [h] at this; cases this
def freeB (E : List (V × V)) (left : List V) (v : V) : Bool := E.all fun e => !(decide (e.2 = v) && decide (e.1 ∈ left))
theorem freeB_iff {E : List (V × V)} {left : List V} {v : V} : freeB E left v = true ↔ Free E left v := by
  unfold freeB Free
  rw [List.all_eq_true]
  constructor
  · intro h e he h2 h1
    have := h e he
    simp [h1, h2] at this
  · intro h e he
    by_cases h2 : e.2 = v
    · have := h e he h2
      simp [this]
    · simp [h2]
def leastL (lt : V → V → Bool) : List V → Option V
  | [] => none
  | v :: l => match leastL lt l with | none => some v | some w => if lt w v then some w else some v
theorem leastL_none {l : List V} (h : leastL lt l = none) : l = [] := by
  cases l with
  | nil => rfl
  | cons v l =>
    unfold leastL at h
    cases e : leastL lt l with
    | none => rw [e] at h; cases h
    | some w => rw [e] at h; simp only at h; split at h <;> cases h
theorem leastL_some (hO : Ord lt) : ∀ {l : List V} {v : V}, leastL lt l = some v → v ∈ l ∧ ∀ u ∈ l, lt u v = false
  | [], v, h => by cases h
  | a :: l, v, h => by
    unfold leastL at h
    cases e : leastL lt l with
    | none =>
      rw [e] at h
      obtain rfl := Option.some.inj h
      rw [leastL_none e]
      exact ⟨by simp, fun u hu => by simp at hu; subst hu; exact Ord.irr hO u⟩
    | some w =>
      rw [e] at h
      obtain ⟨h1, h2⟩ := leastL_some hO e
      simp only at h
      split at h
      · rename_i h3
        obtain rfl := Option.some.inj h
        refine ⟨by simp [h1], fun u hu => ?_⟩
        rcases List.mem_cons.1 hu with rfl | hu
        · exact hO.asymm _ _ h3
        · exact h2 u hu
      · rename_i h3
        obtain rfl := Option.some.inj h
        refine ⟨by simp, fun u hu => ?_⟩
        rcases List.mem_cons.1 hu with rfl | hu
        · exact Ord.irr hO u
        · have h4 := h2 u hu
          cases h5 : lt u a with
          | false => rfl
          | true =>
            exfalso
            have h6 : lt w a = false := by simpa using h3
            have := hO.trans _ _ _ h6 h4
            rw [this] at h5; cases h5
def kahnF (lt : V → V → Bool) (E : List (V × V)) : Nat → List V → List V
  | 0, _ => []
  | n + 1, left => match leastL lt (left.filter (freeB E left)) with | none => [] | some v => v :: kahnF lt E n (left.erase v)
theorem kahnF_topo (hO : Ord lt) {E : List (V × V)} : ∀ (n : Nat) (left : List V), left.length ≤ n → Topo lt E left (kahnF lt E n left)
  | 0, left, h => by
    have : left = [] := List.eq_nil_of_length_eq_zero (by omega)
    subst this
    exact .nil fun v hv => by cases hv
  | n + 1, left, h => by
    unfold kahnF
    cases e : leastL lt (left.filter (freeB E left)) with
    | none =>
      have h0 := leastL_none e
      refine .nil fun v hv hf => ?_
      have : v ∈ left.filter (freeB E left) := List.mem_filter.2 ⟨hv, freeB_iff.2 hf⟩
      rw [h0] at this
      cases this
    | some v =>
      obtain ⟨h1, h2⟩ := leastL_some hO e
      rw [List.mem_filter] at h1
      refine .cons h1.1 (freeB_iff.1 h1.2) (fun u hu hf => h2 u (List.mem_filter.2 ⟨hu, freeB_iff.2 hf⟩)) (kahnF_topo hO n _ ?_)
      rw [List.length_erase_of_mem h1.1]
      omega
theorem Topo.congr {E : List (V × V)} {left L : List V} (h : Topo lt E left L) : ∀ {E' : List (V × V)} {left' : List V}, (∀ e, e.1 ∈ left → (e ∈ E ↔ e ∈ E')) → left.Perm left' → Topo lt E' left' L := by
  have fr : ∀ {E E' : List (V × V)} {left left' : List V} {v : V}, (∀ e, e.1 ∈ left → (e ∈ E ↔ e ∈ E')) → left.Perm left' → Free E left v → Free E' left' v := fun hE hp hf e he hv hm => by
    have hm' := hp.mem_iff.2 hm
    exact hf e ((hE e hm').2 he) hv hm'
  have fr' : ∀ {E E' : List (V × V)} {left left' : List V} {v : V}, (∀ e, e.1 ∈ left → (e ∈ E ↔ e ∈ E')) → left.Perm left' → Free E' left' v → Free E left v := fun hE hp hf e he hv hm => by
    exact hf e ((hE e hm).1 he) hv (hp.mem_iff.1 hm)
  induction h with
  | nil h =>
    intro E' left' hE hp
    exact .nil fun v hv hf => h v (hp.mem_iff.2 hv) (fr' hE hp hf)
  | cons h1 h2 h3 h4 ih =>
    intro E' left' hE hp
    exact .cons (hp.mem_iff.1 h1) (fr hE hp h2) (fun u hu hf => h3 u (hp.mem_iff.2 hu) (fr' hE hp hf)) (ih (fun e he => hE e (List.mem_of_mem_erase he)) (hp.erase _))
end
/-- the vertices of the lines, in their order -/
def topoF (ps : List PartP) : List Vtx := kahnF ltV (allE ps) (allV ps).length (allV ps)
theorem topoF_topo (ps : List PartP) : Topo ltV (allE ps) (allV ps) (topoF ps) := kahnF_topo ltV_ord _ _ (Nat.le_refl _)
theorem _root_.Go.GP.Sq.nodup {ps : List PartP} (h : Sq ps) : (allV ps).Nodup := by
  induction h with
  | nil => exact List.nodup_nil
  | @cons p ps h t ih =>
    rw [allV_cons, List.nodup_append]
    exact ⟨own_nodup p, ih, fun a ha b hb e => h.own a ha (e ▸ hb)⟩
theorem _root_.Go.GP.Inv.nodes_perm {ps : List PartP} {G : Gr} (h : Inv ps G) (hs : Sq ps) : (mks G.nodes).Perm (allV ps) := by
  rw [List.perm_iff_count]
  intro v
  rw [List.Nodup.count h.nk, List.Nodup.count (Sq.nodup hs)]
  simp only [h.keys]
theorem _root_.Go.GP.Inv.told {ps : List PartP} {G : Gr} (h : Inv ps G) (hs : Sq ps) {out : List Vtx} (ht : Topo ltV (EG G.nodes) (mks G.nodes) out) : out = topoF ps := by
  refine Topo.unique ltV_tot (Topo.congr ht (E' := allE ps) (fun e he => ?_) (h.nodes_perm hs)) (fun e => Iff.rfl) (List.Perm.refl _) (topoF_topo ps)
  rw [h.edge hs]
  constructor
  · exact fun h => h.1
  · intro h2
    exact ⟨h2, fun e2 => (Sq.line hs ((h.keys _).1 he)).1 e2⟩
def textV (ps : List PartP) (v : Vtx) : ByteArray := (((ps.flatMap fun p => (own p).zip p.lines).find? fun q => decide (q.1 = v)).map (·.2)).getD ⟨#[]⟩
def aliveV (ps : List PartP) (v : Vtx) : Bool := !((ps.flatMap (·.gone)).contains v)
def lineP (ps : List PartP) (v : Vtx) : LineP := ⟨v, textV ps v, aliveV ps v⟩
def linesP (ps : List PartP) : List LineP := (topoF ps).map (lineP ps)
theorem zip_mem {p : PartP} {q : Vtx × ByteArray} : q ∈ (own p).zip p.lines ↔ ∃ i, p.lines[i]? = some q.2 ∧ p.vtx i = q.1 := by
  obtain ⟨v, s⟩ := q
  rw [List.mem_iff_getElem?]
  constructor
  · rintro ⟨i, hi⟩
    rw [List.getElem?_zip_eq_some] at hi
    obtain ⟨h1, h2⟩ := hi
    refine ⟨i, h2, ?_⟩
    unfold own at h1
    rw [List.getElem?_map] at h1
    obtain ⟨k, hk, e⟩ := Option.map_eq_some_iff.1 h1
    rw [List.getElem?_range (by have := (List.getElem?_eq_some_iff.1 h2).1; omega)] at hk
    obtain rfl := Option.some.inj hk
    exact e
  · rintro ⟨i, h1, h2⟩
    have hl := (List.getElem?_eq_some_iff.1 h1).1
    refine ⟨i, ?_⟩
    rw [List.getElem?_zip_eq_some]
    refine ⟨?_, h1⟩
    unfold own
    rw [List.getElem?_map, List.getElem?_range hl]
    exact congrArg some h2
theorem _root_.Go.GP.Inv.textV {ps : List PartP} {G : Gr} (h : Inv ps G) {v : Vtx} (hv : v ∈ allV ps) : Gr.textV ps v = (nd G.nodes v).text := by
  unfold Gr.textV
  obtain ⟨p, hp, hvo⟩ := mem_allV.1 hv
  obtain ⟨i, hi, rfl⟩ := mem_own.1 hvo
  have hm : (p.vtx i, p.lines[i]) ∈ ps.flatMap fun p => (own p).zip p.lines := List.mem_flatMap.2 ⟨p, hp, zip_mem.2 ⟨i, List.getElem?_eq_getElem hi, rfl⟩⟩
  cases e : (ps.flatMap fun p => (own p).zip p.lines).find? fun q => decide (q.1 = p.vtx i) with
  | none =>
    have := List.find?_eq_none.1 e _ hm
    simp at this
  | some q =>
    have h1 := List.find?_some e
    have h2 := List.mem_of_find?_eq_some e
    simp only [decide_eq_true_eq] at h1
    obtain ⟨p', hp', hz⟩ := List.mem_flatMap.1 h2
    obtain ⟨j, hj, hj2⟩ := zip_mem.1 hz
    have := h.text p' hp' j _ hj
    rw [hj2, h1] at this
    exact this.symm
theorem _root_.Go.GP.Inv.lineP {ps : List PartP} {G : Gr} (h : Inv ps G) {v : Vtx} (hv : v ∈ allV ps) : lineOf G.nodes v = Gr.lineP ps v := by
  unfold lineOf Gr.lineP
  rw [h.textV hv]
  have hn := (h.node v _ (nd_some ((h.keys v).2 hv))).gone
  rw [hn]
  congr 1
  unfold aliveV cntV
  rw [Bool.eq_iff_iff]
  simp only [decide_eq_true_eq, Bool.not_eq_true', List.contains_eq_mem, decide_eq_false_iff_not]
  rw [show (((ps.flatMap (·.gone)).count v : Nat) : Int) = 0 ↔ (ps.flatMap (·.gone)).count v = 0 by omega, List.count_eq_zero]
theorem topoF_mem {ps : List PartP} {v : Vtx} (h : v ∈ topoF ps) : v ∈ allV ps := Topo.sub (topoF_topo ps) v h
theorem _root_.Go.GP.Inv.lines {ps : List PartP} {G : Gr} (h : Inv ps G) : (topoF ps).map (lineOf G.nodes) = linesP ps := List.map_congr_left fun v hv => h.lineP (topoF_mem hv)
theorem topoF_perm_all {ps : List PartP} (hs : Sq ps) : (topoF ps).Perm (allV ps) := by
  obtain ⟨r, hr, _⟩ := hs.rank
  exact Topo.perm (topoF_topo ps) r fun e he _ _ => hr e he
theorem topoF_nodup {ps : List PartP} (hs : Sq ps) : (topoF ps).Nodup := (topoF_perm_all hs).nodup_iff.2 (Sq.nodup hs)
/-- the lines' order goes with what is before what -/
theorem topoF_order {ps : List PartP} (hs : Sq ps) {i k : Nat} (hi : i < (topoF ps).length) (hk : k ≤ i) : ¬ Bef ps (topoF ps)[i] (topoF ps)[k] := by
  intro h
  have hkl : k < (topoF ps).length := by omega
  obtain ⟨h1, h2⟩ := Topo.order (topoF_topo ps) (Sq.nodup hs)
  have hnr := (Sq.line hs (topoF_mem (List.getElem_mem hi))).1
  have hne := (Sq.line hs (topoF_mem (List.getElem_mem hkl))).2
  have hr := (h.2.2.2.2.2.resolve_left hnr).resolve_left hne
  have key : ∀ a b : Vtx, Rch (allE ps) a b → ∀ (i k : Nat) (hi : i < (topoF ps).length) (hk : k < (topoF ps).length), (topoF ps)[i] = a → (topoF ps)[k] = b → i < k := by
    intro a b hab
    induction hab with
    | one he =>
      intro i k hi hk ha hb
      refine Classical.byContradiction fun hc => ?_
      by_cases e : k = i
      · subst e
        rw [← ha, ← hb] at he
        exact hs.irrefl (.one he)
      · have := (List.pairwise_iff_getElem.1 h1) k i hk hi (by omega)
        rw [ha, hb] at this
        exact this he
    | @cons a c b he hcb ih =>
      intro i k hi hk ha hb
      obtain ⟨d, hd⟩ := hcb.src
      have hcs := (hs.edge hd).1
      have hct := (hs.edge he).2
      have hcv : c ∈ allV ps := by
        rcases hct with e | h3
        · exfalso
          subst e
          exact hs.noEnd hcb
        · exact h3
      obtain ⟨j, hj, hjc⟩ := List.mem_iff_getElem.1 ((topoF_perm_all hs).mem_iff.2 hcv)
      have hjk := ih j k hj hk hjc hb
      refine Classical.byContradiction fun hc => ?_
      by_cases e : j = i
      · subst e
        rw [hjc] at ha
        rw [ha] at he
        exact hs.irrefl (.one he)
      · have := (List.pairwise_iff_getElem.1 h1) j i hj hi (by omega)
        rw [ha, hjc] at this
        exact this he
  have := key _ _ hr i k hi hkl rfl rfl
  omega
end Go.Proofs.Gr

set_option linter.unusedVariables false
set_option linter.unusedSimpArgs false
namespace Go.Proofs.Gr
open Go.SL Go.RowKit Go.Proofs Go.GP
set_option maxHeartbeats 1000000
/-- a graph in memory, and the parts that came to it (the last one ahead) -/
structure GG (w0 : World) (X : SS) (m : GrM) (ps : List PartP) : Prop where
  ok : GOk w0 X m
  inv : GP.Inv ps m.gr
  sq : Sq ps
  n : (allV ps).length + ps.length ≤ 1000000
  lim : m.lim ≤ 500000000000
theorem edges_len (p : PartP) : (edges p).length ≤ (own p).length + 2 := by
  unfold edges
  split
  · simp
  · rw [edgeL_len]
    unfold way
    simp
theorem allE_len (ps : List PartP) : (allE ps).length ≤ (allV ps).length + 2 * ps.length := by
  induction ps with
  | nil => simp [allE]
  | cons p ps ih =>
    have := edges_len p
    unfold allE allV at ih ⊢
    rw [List.flatMap_cons, List.flatMap_cons, List.length_append, List.length_append, List.length_cons]
    omega
theorem GG.nE {w0 : World} {X : SS} {m : GrM} {ps : List PartP} (h : GG w0 X m ps) : (EG m.gr.nodes).length ≤ 1000000000 := by
  have := h.inv.edgesLen
  have := allE_len ps
  have := h.n
  omega
theorem GG.nN {w0 : World} {X : SS} {m : GrM} {ps : List PartP} (h : GG w0 X m ps) : m.nodes.length ≤ 1000000000 := by
  have h1 := h.inv.nodesLen
  have h2 : m.gr.nodes.length = m.nodes.length := List.length_map _
  have := h.n
  omega
theorem GG.over {w0 : World} {X Y : SS} {m : GrM} {ps : List PartP} (h : GG w0 X m ps) (ho : Over X Y) : GG w0 Y m ps := ⟨h.ok.over ho, h.inv, h.sq, h.n, h.lim⟩
theorem lines2_fc {w0 : World} {S X : SS} {m : GrM} {ps : List PartP} (h : GG w0 X m ps) (hX : Over X S) :
    FC Try.prog w0 17 [m.ptr] (GS m ++ S) (fun v S' => ∃ seg, S' = seg :: (GS m ++ S) ∧ SlV 43 35 v (linesP ps).length (lines (linesP ps)) seg) := by
  have hk : mks m.gr.nodes = mks m.nodes := mks_plN _
  refine (lines_fc h.ok hX h.nE h.nN (fun e he => ?_) (fun he => ?_)).mono ?_
  · rw [← hk]; exact h.inv.tgt h.sq e he
  · rw [← hk] at he; exact h.inv.noEnd h.sq he
  · rintro v S' ⟨seg, out, rfl, ht, hs⟩
    have e := h.inv.told h.sq ht
    subst e
    refine ⟨seg, rfl, ?_⟩
    rw [h.inv.lines] at hs
    have : (topoF ps).length = (linesP ps).length := (List.length_map _).symm
    rwa [this] at hs
open Classical in
noncomputable def befP (ps : List PartP) (a b : Vtx) : Bool := decide (Bef ps a b)
open Classical in
theorem befP_iff {ps : List PartP} {a b : Vtx} : befP ps a b = true ↔ Bef ps a b := by unfold befP; exact decide_eq_true_iff
theorem GG.bef {w0 : World} {X : SS} {m : GrM} {ps : List PartP} (h : GG w0 X m ps) {a b : Vtx} : befB m.gr a b = befP ps a b := by
  rw [Bool.eq_iff_iff, befB_iff, befP_iff, h.inv.bef h.sq]
theorem before2_fc {w0 : World} {S X : SS} {m : GrM} {ps : List PartP} (h : GG w0 X m ps) (hS : Over (GS m ++ X) S) {a b : Vtx} (ha : okV a) (hb : okV b) :
    FC Try.prog w0 18 [m.ptr, vtxV a, vtxV b] S (fun u S' => u = .bool (befP ps a b) ∧ S' = S) := by
  rw [← h.bef]
  exact before_fc h.ok hS ha hb (h.inv.noRoot h.sq) h.nE
theorem came_n (ps : List PartP) (p : PartP) : (allV (came ps p)).length + (came ps p).length ≤ (allV ps).length + ps.length + p.lines.length + 1 := by
  by_cases h : New ps p
  · rw [came_new h, allV_cons, List.length_append, own_len, List.length_cons]
    omega
  · rw [came_not h]; omega
theorem add2_fc {w0 : World} {S X : SS} {m : GrM} {ps : List PartP} (h : GG w0 X m ps) (hX : Over X S) {p : PartM} (hp : PartR p) (hrL : Rd w0 S p.LA (strs p.lines)) (hrG : Rd w0 S p.GA (vtxs p.gone))
    (hn : (allV ps).length + ps.length + p.lines.length + 1 ≤ 1000000) (hlim : m.lim + addL p ≤ 500000000000) :
    FC Try.prog w0 16 [m.ptr, partV p] (GS m ++ S) (fun v S' => ∃ m', v = .int .i64 (addE m.gr p.pl) ∧ S' = GS m' ++ S ∧ GG w0 X m' (came ps p.pl) ∧ m'.lim ≤ m.lim + addL p ∧ m'.r = m.r ∧ ∀ x ∈ m.junk, x ∈ m'.junk) := by
  refine (add_fc h.ok hX hp hrL hrG (h.inv.noRoot h.sq) h.nE (by omega)).mono ?_
  rintro v S' ⟨m', h1, h2, h3, h4, h5, h6, h7⟩
  obtain ⟨i, s⟩ := addT_inv h.inv h.sq p.pl
  have hc := came_n ps p.pl
  have hl : p.pl.lines.length = p.lines.length := rfl
  exact ⟨m', h1, h2, ⟨h3, h4 ▸ i, s, by omega, by omega⟩, h6, h5, h7⟩
instance : Inhabited LineP := ⟨⟨v0, ⟨#[]⟩, false⟩⟩
theorem lines_get {l : List LineP} {k : Nat} (hk : k < l.length) {j : Nat} (hj : j < 35) : (lines l)[k * 35 + j]? = (lineC l[k])[j]? := by
  unfold lines
  rw [flat_get lineC_len l (k * 35 + j) (by omega), show (k * 35 + j) / 35 = k from by omega, show (k * 35 + j) % 35 = j from by omega, getElem!_pos l k hk]
theorem lines_some {w0 : World} {S : SS} {A : Option Addr} {l : List LineP} (h : Rd w0 S A (lines l)) (hk : 0 < l.length) : ∃ a, A = some a :=
  h.some (fun e => by have := lines_len l; rw [e] at this; simp at this; omega)
section
variable {w0 : World} {S : SS} {a : Addr} {l : List LineP} {k : Nat}
theorem line_at (h : Rd w0 S (some a) (lines l)) (hk : k < l.length) : ∀ (j : Nat) (v : Value), (lineC l[k])[j]? = some v → Cell w0 S ((a.add (k * 35)).add j) v := by
  intro j v hj
  have hj2 : j < 35 := by have := (List.getElem?_eq_some_iff.1 hj).1; rwa [lineC_len] at this
  rw [addr_add_add]
  exact h.at (by rw [lines_get hk hj2]; exact hj)
theorem lineC_text (l : LineP) : (lineC l)[33]? = some (.string l.text) ∧ (lineC l)[34]? = some (.bool l.alive) := by
  have h := vtxL_len l.v
  unfold lineC
  constructor
  · rw [List.getElem?_append_right (by omega), h]; rfl
  · rw [List.getElem?_append_right (by omega), h]; rfl
end
theorem ltake_snoc {α : Type} {l : List α} {k : Nat} (hk : k < l.length) : l.take (k + 1) = l.take k ++ [l[k]] := by
  rw [List.take_add_one, List.getElem?_eq_getElem hk]; rfl
theorem linesP_len {ps : List PartP} (hs : Sq ps) : (linesP ps).length = (allV ps).length := by
  unfold linesP
  rw [List.length_map, (topoF_perm_all hs).length_eq]
end Go.Proofs.Gr

set_option linter.unusedVariables false
set_option linter.unusedSimpArgs false
namespace Go.Proofs.Gr
open Go.SL Go.RowKit Go.Proofs Go.GP
set_option maxHeartbeats 1000000
def hb1 (b : UInt8) : HashB := ⟨b :: List.replicate 31 0, by simp⟩
def str1 (b : UInt8) : ByteArray := ⟨#[b]⟩
def p1 (r : Nat) : PartM := ⟨hb1 1, 0, 0, rootV, endV, some ⟨r, 0, none⟩, 2, [str1 97, str1 98], none, 0, []⟩
def p2 (r : Nat) : PartM := ⟨hb1 2, 0, 0, (hb1 1, 0), (hb1 1, 1), some ⟨r, 0, none⟩, 1, [str1 120], none, 0, []⟩
def p3 (r g : Nat) : PartM := ⟨hb1 3, 0, 0, (hb1 1, 0), (hb1 1, 1), some ⟨r, 0, none⟩, 1, [str1 121], some ⟨g, 0, none⟩, 1, [(hb1 1, 0)]⟩
theorem part_stk {w0 : World} {S : SS} {P : Program} {n r k : Nat} {T : TT} {x v : PV} {u : PartM} {z : List Value} (hk : S[k]? = some [(r, .cells z 36 102)]) (hx : x.val T = some (.pointer (some ⟨r, 0, none⟩))) (hv : v.val T = some (partV u)) (hz : z.length = 102) :
    OW P w0 n (.st 102 x v) T S (fun _ S' => S' = S.set k (pseg r u)) := by
  refine (OW.st (k := k) (c := z) (u := partV u) hx hv hk ((List.size_toArray).trans (partC_len u)) (by omega) (partC_one u)).mono ?_
  rintro _ _ rfl
  rw [part_box, setAll (by rw [partC_len, hz])]
theorem part_read {w0 : World} {S : SS} {r E tot : Nat} {u : PartM} (hm : (r, AO.cells (partC u) E tot) ∈ S.flatten) : ReadsAs w0 S (some 102) ⟨r, 0, none⟩ (partV u) := ⟨partC u, rfl, partC_len u, all_at hm⟩
end Go.Proofs.Gr

set_option linter.unusedVariables false
set_option linter.unusedSimpArgs false
namespace Go.Proofs.Gr
open Go.SL Go.RowKit Go.Proofs Go.GP
set_option maxHeartbeats 1000000
structure ActM where
  rm : Bool
  p : PartM
instance : Inhabited ActM := ⟨⟨false, zPart⟩⟩
def actC (a : ActM) : List Value := .bool a.rm :: partC a.p
def actS (l : List ActM) : List Value := l.flatMap actC
/-- what the arguments' acts are -/
structure Acts (w0 : World) (A : Option Addr) (l : List ActM) : Prop where
  rd : Rd w0 [] A (actS l)
  part : ∀ x ∈ l, PartA w0 x.p
  len : l.length ≤ 1000000000000000
theorem PartA.rng {W : World} {p : PartM} (h : PartA W p) (h1 : p.lines.length ≤ 12) (h2 : p.gone.length ≤ 12) (h3 : p.first ≤ 1000000) : PartR p :=
  ⟨h.at_, ⟨h.first.1, by omega⟩, by omega, by omega, h.gcap, h.gnil, h.up, h.down, h.gone⟩
theorem Acts.get {w0 : World} {A : Option Addr} {l : List ActM} (h : Acts w0 A l) {k : Nat} (hk : k < l.length) : PartA w0 l[k].p := h.part _ (List.getElem_mem hk)
end Go.Proofs.Gr

set_option linter.unusedVariables false
namespace Go.Proofs.Gr
open Go.SL Go.RowKit Go.Proofs Go.GP
def stepR (E : List (Vtx × Vtx)) (l : List Vtx) : List Vtx := l ++ (E.filter fun e => decide (e.1 ∈ l) && !decide (e.2 ∈ l)).map (·.2)
def iterR (E : List (Vtx × Vtx)) : Nat → List Vtx → List Vtx
  | 0, l => l
  | n + 1, l => iterR E n (stepR E l)
def reachL (E : List (Vtx × Vtx)) (a : Vtx) : List Vtx := iterR E E.length ((E.filter fun e => decide (e.1 = a)).map (·.2))
def closedB (E : List (Vtx × Vtx)) (a : Vtx) : Bool := E.all fun e => !(decide (e.1 = a) || decide (e.1 ∈ reachL E a)) || decide (e.2 ∈ reachL E a)
theorem iterR_sound {E : List (Vtx × Vtx)} {a : Vtx} : ∀ (n : Nat) (l : List Vtx), (∀ v ∈ l, Rch E a v) → ∀ v ∈ iterR E n l, Rch E a v
  | 0, l, h => h
  | n + 1, l, h => by
    refine iterR_sound n _ fun v hv => ?_
    unfold stepR at hv
    rcases List.mem_append.1 hv with hv | hv
    · exact h v hv
    · obtain ⟨e, he, rfl⟩ := List.mem_map.1 hv
      rw [List.mem_filter, Bool.and_eq_true, decide_eq_true_eq] at he
      exact (h _ he.2.1).snoc he.1
theorem rch_iff {E : List (Vtx × Vtx)} {a b : Vtx} (hc : closedB E a = true) : Rch E a b ↔ b ∈ reachL E a := by
  unfold closedB at hc
  rw [List.all_eq_true] at hc
  have hc' : ∀ e ∈ E, (e.1 = a ∨ e.1 ∈ reachL E a) → e.2 ∈ reachL E a := by
    intro e he h
    have := hc e he
    rcases h with h | h
    · simpa [h] using this
    · simpa [h] using this
  constructor
  · have key : ∀ x y, Rch E x y → (x = a ∨ x ∈ reachL E a) → y ∈ reachL E a := by
      intro x y h
      induction h with
      | one h => exact fun hx => hc' _ h hx
      | cons h1 h2 ih => exact fun hx => ih (.inr (hc' _ h1 hx))
    exact fun h => key _ _ h (.inl rfl)
  · exact iterR_sound _ _ (fun v hv => by
      obtain ⟨e, he, rfl⟩ := List.mem_map.1 hv
      rw [List.mem_filter, decide_eq_true_eq] at he
      obtain ⟨h1, h2⟩ := he
      subst h2
      exact .one h1) b
def hasC (ps : List PartP) (v : Vtx) : Bool := decide (v = rootV) || decide (v = endV) || decide (v ∈ allV ps)
theorem hasC_iff {ps : List PartP} {v : Vtx} : hasC ps v = true ↔ HasV ps v := by
  unfold hasC HasV
  simp [or_assoc]
def befC (ps : List PartP) (a b : Vtx) : Bool := hasC ps a && hasC ps b && !decide (a = b) && !decide (a = endV) && !decide (b = rootV) && (decide (a = rootV) || decide (b = endV) || decide (b ∈ reachL (allE ps) a))
theorem befC_iff {ps : List PartP} {a b : Vtx} (hc : closedB (allE ps) a = true) : befC ps a b = true ↔ Bef ps a b := by
  unfold befC Bef
  rw [rch_iff hc]
  simp only [Bool.and_eq_true, hasC_iff, Bool.or_eq_true, decide_eq_true_eq, Bool.not_eq_true', decide_eq_false_iff_not, and_assoc, ne_eq, or_assoc]
def formedC (p : PartP) : Bool := decide p.gone.Nodup && (p.gone.all fun v => !decide (v = rootV) && !decide (v = endV)) && decide (0 ≤ p.first) && !decide (p.up = endV) && !decide (p.down = rootV)
theorem formedC_iff {p : PartP} : formedC p = true ↔ Formed p := by
  unfold formedC
  simp only [Bool.and_eq_true, decide_eq_true_eq, Bool.not_eq_true', decide_eq_false_iff_not, List.all_eq_true]
  constructor
  · rintro ⟨⟨⟨⟨h1, h2⟩, h3⟩, h4⟩, h5⟩
    exact ⟨h1, fun v hv => h2 v hv, h3, h4, h5⟩
  · rintro ⟨h1, h2, h3, h4, h5⟩
    exact ⟨⟨⟨⟨h1, fun v hv => h2 v hv⟩, h3⟩, h4⟩, h5⟩
def thereC (ps : List PartP) (p : PartP) : Bool := (ps.any fun q => decide (q.name = p.name)) || (own p).any fun v => decide (v ∈ allV ps)
def addC (ps : List PartP) (p : PartP) : Int :=
  if thereC ps p then 6 else if !formedC p then 4 else if !hasC ps p.up || !hasC ps p.down || (p.gone.any fun v => !decide (v ∈ allV ps)) then 10 else if !befC ps p.up p.down then 4 else 0
theorem thereC_iff {ps : List PartP} {G : Gr} (h : GP.Inv ps G) {p : PartP} : thereC ps p = true ↔ ThereG G p := by
  rw [h.there]
  unfold thereC
  simp only [Bool.or_eq_true, List.any_eq_true, decide_eq_true_eq]
theorem addC_eq {ps : List PartP} {G : Gr} (h : GP.Inv ps G) (hs : Sq ps) {p : PartP} (hc : closedB (allE ps) p.up = true) : addE G p = addC ps p := by
  unfold addC
  by_cases h1 : ThereG G p
  · rw [addE_there h1, if_pos ((thereC_iff h).2 h1)]
  rw [if_neg (fun k => h1 ((thereC_iff h).1 k))]
  by_cases h2 : ¬ Formed p
  · rw [addE_form h1 h2, if_pos (by
      cases e : formedC p with
      | false => rfl
      | true => exact absurd (formedC_iff.1 e) h2)]
  have h2 := Classical.not_not.1 h2
  rw [if_neg (by rw [formedC_iff.2 h2]; simp)]
  have hh : ∀ v, hasC ps v = false ↔ ¬ HasG G v := fun v => by
    rw [h.has, ← hasC_iff]; simp
  have hg : (p.gone.any fun v => !decide (v ∈ allV ps)) = true ↔ ∃ v ∈ p.gone, v ∉ mks G.nodes := by
    simp only [List.any_eq_true, Bool.not_eq_true', decide_eq_false_iff_not, h.keys]
  by_cases h3 : ¬ HasG G p.up ∨ ¬ HasG G p.down ∨ ∃ v ∈ p.gone, v ∉ mks G.nodes
  · rw [addE_dep h1 h2 h3, if_pos]
    simp only [Bool.or_eq_true, Bool.not_eq_true', hh, hg, or_assoc]
    exact h3
  rw [if_neg (by
    simp only [Bool.or_eq_true, Bool.not_eq_true', hh, hg, or_assoc]
    exact h3)]
  have k1 : HasG G p.up := Classical.byContradiction fun k => h3 (.inl k)
  have k2 : HasG G p.down := Classical.byContradiction fun k => h3 (.inr (.inl k))
  have k3 : ∀ v ∈ p.gone, v ∈ mks G.nodes := fun v hv => Classical.byContradiction fun k => h3 (.inr (.inr ⟨v, hv, k⟩))
  rw [addE_bef h1 h2 k1 k2 k3]
  have hb : befB G p.up p.down = befC ps p.up p.down := by
    rw [Bool.eq_iff_iff, befB_iff, h.bef hs, befC_iff hc]
  rw [hb]
  simp only [Bool.not_eq_true']
/-- this part can come -/
def newC (ps : List PartP) (p : PartP) : Bool := decide (addC ps p = 0) && closedB (allE ps) p.up
theorem newC_new {ps : List PartP} {p : PartP} (hs : Sq ps) (hi : ∃ G, GP.Inv ps G) (h : newC ps p = true) : New ps p := by
  unfold newC at h
  rw [Bool.and_eq_true, decide_eq_true_eq] at h
  obtain ⟨G, hG⟩ := hi
  exact (addE_zero hG hs).1 ((addC_eq hG hs h.2).trans h.1)
def Comes : List PartP → List PartP → Prop
  | _, [] => True
  | ps, p :: r => New ps p ∧ Comes (p :: ps) r
end Go.Proofs.Gr

set_option linter.unusedVariables false
set_option linter.unusedSimpArgs false
namespace Go.Proofs.Gr
open Go.SL Go.RowKit Go.Proofs Go.GP
set_option maxHeartbeats 1000000
/-- a part's rows read so -/
structure PartRd (w0 : World) (S : SS) (p : PartM) : Prop where
  rdL : Rd w0 S p.LA (strs p.lines)
  rdG : Rd w0 S p.GA (vtxs p.gone)
  rng : PartR p
  small : p.lines.length ≤ 100 ∧ p.gone.length ≤ 100
theorem PartRd.mono {w0 : World} {S S' : SS} {p : PartM} (h : PartRd w0 S p) (hs : Over S S') : PartRd w0 S' p := ⟨h.rdL.mono hs, h.rdG.mono hs, h.rng, h.small⟩
theorem Comes.at : ∀ {l : List PartP} {ps : List PartP} {k : Nat} (h : Comes ps l) (hk : k < l.length), New ((l.take k).reverse ++ ps) l[k]
  | [], _, _, _, hk => by simp at hk
  | p :: r, ps, 0, h, _ => by simpa using h.1
  | p :: r, ps, k + 1, h, hk => by
    have := Comes.at (k := k) h.2 (by simpa using hk)
    simpa using this
theorem over_nil {S : SS} : Over [] S := fun q h => by simp at h
def q1 : PartP := (p1 0).pl
def q2 : PartP := (p2 0).pl
def q3 : PartP := (p3 0 0).pl
end Go.Proofs.Gr

set_option linter.unusedVariables false
set_option linter.unusedSimpArgs false
namespace Go.Proofs.Gr
open Go.SL Go.RowKit Go.Proofs Go.GP
set_option maxHeartbeats 1000000
theorem GG.okV {w0 : World} {X : SS} {m : GrM} {ps : List PartP} (h : GG w0 X m ps) {v : Vtx} (hv : v ∈ allV ps) : Gr.okV v := by
  have hk : mks m.gr.nodes = mks m.nodes := mks_plN _
  have hv2 := (h.inv.keys v).2 hv
  rw [hk] at hv2
  obtain ⟨n, hn⟩ := mem_mks.1 hv2
  exact h.ok.nk _ (mgt_some_mem hn)
end Go.Proofs.Gr

set_option linter.unusedVariables false
set_option linter.unusedSimpArgs false
namespace Go.Proofs.Gr
open Go.SL Go.RowKit Go.Proofs Go.GP
set_option maxHeartbeats 1000000
def gidx {α : Type} (q : α → Bool) (l : List α) : Int := match l.findIdx? q with | some k => (k : Int) | none => -1
theorem gidx_take {α : Type} {q : α → Bool} {l : List α} {k : Nat} (hk : k < l.length) (h : ∀ x ∈ l.take k, q x = false) (hq : q l[k] = true) : gidx q l = (k : Int) := by
  unfold gidx
  have : l.findIdx? q = some k := by
    rw [List.findIdx?_eq_some_iff_getElem]
    refine ⟨hk, hq, fun j hj => ?_⟩
    have := h l[j] (List.mem_take_iff_getElem.2 ⟨j, by omega, rfl⟩)
    simp [this]
  rw [this]
theorem gidx_no {α : Type} {q : α → Bool} {l : List α} (h : ∀ x ∈ l, q x = false) : gidx q l = -1 := by
  unfold gidx
  have : l.findIdx? q = none := by rw [List.findIdx?_eq_none_iff]; exact h
  rw [this]
theorem gidx_any {α : Type} {q : α → Bool} {l : List α} : (gidx q l ≥ 0) = (l.any q = true) := by
  unfold gidx
  apply propext
  cases h : l.findIdx? q with
  | none =>
    have := List.findIdx?_eq_none_iff.1 h
    simp only [List.any_eq_true]
    constructor
    · intro h; omega
    · rintro ⟨x, hx, hq⟩; rw [this x hx] at hq; cases hq
  | some k =>
    obtain ⟨h1, h2, _⟩ := List.findIdx?_eq_some_iff_getElem.1 h
    simp only [List.any_eq_true]
    exact ⟨fun _ => ⟨_, List.getElem_mem h1, h2⟩, fun _ => by omega⟩
theorem gidx_cases {α : Type} (q : α → Bool) (l : List α) : (gidx q l = -1 ∧ ∀ x ∈ l, q x = false) ∨ ∃ k, ∃ h : k < l.length, gidx q l = (k : Int) ∧ q l[k] = true ∧ ∀ x ∈ l.take k, q x = false := by
  unfold gidx
  cases h : l.findIdx? q with
  | none => exact .inl ⟨rfl, List.findIdx?_eq_none_iff.1 h⟩
  | some k =>
    obtain ⟨h1, h2, h3⟩ := List.findIdx?_eq_some_iff_getElem.1 h
    refine .inr ⟨k, h1, rfl, h2, fun x hx => ?_⟩
    obtain ⟨j, hj, rfl⟩ := List.mem_take_iff_getElem.1 hx
    have := h3 j (by omega)
    simpa using this
theorem lineV_box (x : LineP) : (lineV x).cells.toList = lineC x := rfl
abbrev lseg (r : Nat) (x : LineP) : Seg := [(r, .cells (lineC x) 43 35)]
theorem line_st {w0 : World} {S : SS} {P : Program} {n r : Nat} {T : TT} {x v : PV} {u : LineP} {z : List Value} (hx : x.val T = some (.pointer (some ⟨r, 0, none⟩))) (hv : v.val T = some (lineV u)) (hz : z.length = 35) :
    OW P w0 n (.st 35 x v) T ([(r, .cells z 43 35)] :: S) (fun _ S' => S' = lseg r u :: S) := by
  refine (OW.st (k := 0) (c := z) (u := lineV u) hx hv rfl ((List.size_toArray).trans (lineC_len u)) (by omega) (lineC_one u)).mono ?_
  rintro _ _ rfl
  rw [lineV_box, setAll (by rw [lineC_len, hz])]
  rfl
section
variable {w0 : World} {S : SS} {r E tot : Nat} {x : LineP}
theorem lcell (hm : (r, AO.cells (lineC x) E tot) ∈ S.flatten) : ∀ (j : Nat) (v : Value), (lineC x)[j]? = some v → Cell w0 S ((⟨r, 0, none⟩ : Addr).add j) v := all_at hm
theorem lcell_vtx (hm : (r, AO.cells (lineC x) E tot) ∈ S.flatten) : ∀ (j : Nat) (v : Value), (vtxL x.v)[j]? = some v → Cell w0 S (((⟨r, 0, none⟩ : Addr).add 0).add j) v := fun j v hj => by
  have := lcell (w0 := w0) hm j v (by unfold lineC; rw [List.getElem?_append_left (List.getElem?_eq_some_iff.1 hj).1]; exact hj)
  simpa [Addr.add_lit] using this
theorem lcell_text (hm : (r, AO.cells (lineC x) E tot) ∈ S.flatten) : Cell w0 S ((⟨r, 0, none⟩ : Addr).add 33) (.string x.text) := lcell hm _ _ (lineC_text x).1
theorem lcell_alive (hm : (r, AO.cells (lineC x) E tot) ∈ S.flatten) : Cell w0 S ((⟨r, 0, none⟩ : Addr).add 34) (.bool x.alive) := lcell hm _ _ (lineC_text x).2
end
theorem lines_app (a b : List LineP) : lines (a ++ b) = lines a ++ lines b := by unfold lines; rw [List.flatMap_append]
theorem lines_set {q : List LineP} {i : Nat} (hi : i < q.length) (v : LineP) : setAt (lines q) (i * 35) (lineC v) = lines (q.set i v) := by
  have hl := lines_len q
  have hv := lineC_len v
  have e : q = q.take i ++ q[i] :: q.drop (i + 1) := by rw [List.getElem_cons_drop, List.take_append_drop]
  have e1 : (lines (q.take i)).length = i * 35 := by rw [lines_len, List.length_take, Nat.min_eq_left (by omega)]
  have e2 : lines q = lines (q.take i) ++ (lineC q[i] ++ lines (q.drop (i + 1))) := by
    have : lines (q[i] :: q.drop (i + 1)) = lineC q[i] ++ lines (q.drop (i + 1)) := by unfold lines; rw [List.flatMap_cons]
    rw [← this, ← lines_app, ← e]
  have hq := lineC_len q[i]
  rw [setAt_eq _ _ _ (by omega), e2, List.take_append_of_le_length (by omega), List.take_of_length_le (by omega), hv, List.drop_append, List.drop_eq_nil_of_le (by omega), e1, show i * 35 + 35 - i * 35 = 35 by omega, List.drop_append, List.drop_eq_nil_of_le (by omega), hq, List.set_eq_take_append_cons_drop, if_pos hi, lines_app]
  unfold lines
  simp
theorem madeL_len (z : List Value) (n : Nat) : (madeL z n).length = n := by simp [madeL]
theorem made_one {z : List Value} (hz : z.all (·.oneCell') = true) (h0 : 0 < z.length) (n : Nat) : (madeL z n).all (·.oneCell') = true := by
  rw [List.all_eq_true]
  intro v hv
  obtain ⟨i, _, rfl⟩ := List.mem_map.1 hv
  have hlt := Nat.mod_lt i h0
  have : z.getD (i % z.length) undef = z[i % z.length] := by simp [List.getD, List.getElem?_eq_getElem hlt]
  rw [this]
  exact List.all_eq_true.1 hz _ (List.getElem_mem hlt)
theorem indexFuncL_fc {w0 : World} {S : SS} {A : Option Addr} {c : Nat} {l : List LineP} {g : FuncId} {ca : List Value} {q : LineP → Bool} (hx : Rd w0 S A (lines l)) (hb : l.length ≤ 1000000000000) (hok : fnOk Try.prog g = true)
    (hq : ∀ x ∈ l, FC Try.prog w0 g ([] ++ [lineV x] ++ ca) S (fun u S' => u = .bool (q x) ∧ S' = S)) :
    FC Try.prog w0 96 [.slice A l.length c, .func (.func g) #[] ca.toArray] S (fun u S' => u = .int .i64 (gidx q l) ∧ S' = S) := by
  refine FC.of Try.known96 (by simp) ?_
  unfold Try.pc96
  simp only [argT]
  refine PW.seqOps ?_
  refine OL.dp rfl ?_
  refine OL.nil ?_
  refine PW.keep (T' := [(0, _), (1, _)]) ⟨rfl, rfl, trivial⟩ ?_
  refine PW.seq fun K1 hK1 => ?_
  refine PW.seqOps ?_
  refine OL.dp rfl ?_
  refine OL.dp rfl ?_
  refine OL.dp rfl ?_
  refine OL.nil ?_
  refine PW.keep (T' := [(0, _), (1, _), (7, _), (8, _)]) ⟨rfl, rfl, rfl, rfl, trivial⟩ ?_
  refine PW.block ?_
  refine PW.keep (T' := [(0, _), (1, _), (7, _), (8, _)]) ⟨rfl, rfl, rfl, rfl, trivial⟩ ?_
  refine PW.loopK (I := fun m T S' => ∃ (k : Nat), (k ≤ l.length ∧ m = l.length - k ∧ ∀ x ∈ l.take k, q x = false) ∧ T = ([(0, .slice A l.length c), (1, .func (.func g) #[] ca.toArray), (7, .int .i64 (l.length : Int)), (8, .int .i64 k)] : TT) ∧ S' = S) (m := l.length) ⟨0, ⟨by omega, by omega, by simp⟩, rfl, rfl⟩ ?_
  rintro m _ _ ⟨k, ⟨hk, hm, hall⟩, rfl, rfl⟩
  refine PW.seqOps ?_
  refine OL.dp rfl ?_
  refine OL.nil ?_
  refine PW.keep (T' := [(0, _), (1, _), (7, _), (8, _), (9, _)]) ⟨rfl, rfl, rfl, rfl, rfl, trivial⟩ ?_
  refine PW.seq fun K2 hK2 => ?_
  refine PW.cond rfl (fun c9 => ?_) (fun c9 => ?_)
  · try simp only [decide_eq_true_eq, decide_eq_false_iff_not, beq_iff_eq, bne_iff_ne, beq_eq_false_iff_ne, bne_eq_false_iff_eq, Bool.not_eq_true', Bool.not_eq_false', Bool.not_eq_true, ne_eq, Decidable.not_not, Bool.false_eq_true, if_false, if_true] at c9
    have hkl : k < l.length := by omega
    obtain ⟨a0, rfl⟩ := lines_some hx (by omega)
    refine PW.skip ?_
    refine hK2 _ _ ?_
    refine PW.keep (T' := [(0, _), (1, _), (7, _), (8, _)]) ⟨rfl, rfl, rfl, rfl, trivial⟩ ?_
    refine PW.seq fun K3 hK3 => ?_
    refine PW.block ?_
    refine PW.seqOps ?_
    refine OL.dp rfl ?_
    refine OL.dp rfl ?_
    refine OL.nil ?_
    refine PW.keep (T' := [(0, _), (1, _), (5, _), (7, _), (8, _)]) ⟨rfl, rfl, rfl, rfl, rfl, trivial⟩ ?_
    refine PW.seqOps ?_
    refine OL.dp rfl ?_
    refine OL.dp rfl ?_
    refine OL.dp rfl ?_
    refine OL.det trivial (Yields.ixN rfl rfl rfl (by omega)) ?_
    refine OL.det trivial (Yields.ldA rfl (lineC_len _) (line_at hx hkl)) ?_
    refine OL.cons trivial (OW.callv (fi := []) (ca := ca) rfl hok rfl (hq _ (List.getElem_mem hkl))) ?_
    rintro _ Sx ⟨rfl, hSx⟩
    rw [hSx]
    clear hSx
    refine OL.nil ?_
    refine PW.keep (T' := [(0, _), (1, _), (5, _), (7, _), (8, _), (16, _)]) ⟨rfl, rfl, rfl, rfl, rfl, rfl, trivial⟩ ?_
    refine PW.cond rfl (fun c16 => ?_) (fun c16 => ?_)
    · skip
      have hqt : q l[k] = true := by simpa using c16
      refine PW.seqOps ?_
      refine OL.dp rfl ?_
      refine OL.dp rfl ?_
      refine OL.nil ?_
      refine PW.keep (T' := [(4, _)]) ⟨rfl, trivial⟩ ?_
      refine PW.ret ?_
      change (Exit.ret = Exit.normal ∨ Exit.ret = Exit.ret) ∧ ∃ v, resV _ _ = some v ∧ _
      exact ⟨.inr rfl, _, rfl, by rw [gidx_take hkl hall hqt], rfl⟩
    · skip
      refine PW.skip ?_
      refine hK3 _ _ ?_
      refine PW.keep (T' := [(0, _), (1, _), (7, _), (8, _)]) ⟨rfl, rfl, rfl, rfl, trivial⟩ ?_
      refine PW.ops ?_
      refine OL.det trivial (Yields.add64 rfl rfl (by omega) (by omega)) ?_
      refine OL.dp rfl ?_
      refine OL.nil ?_
      repeat rw [inBlk_n]
      try rw [thenK_n]
      refine LoopEnd.mk (T'' := [(0, _), (1, _), (7, _), (8, _)]) ⟨rfl, rfl, rfl, rfl, trivial⟩ ?_
      refine ⟨l.length - (k + 1), by omega, k + 1, ⟨by omega, rfl, fun x hx => ?_⟩, rfl, rfl⟩
      rw [ltake_snoc hkl] at hx
      rcases List.mem_append.1 hx with h | h
      · exact hall x h
      · rw [List.mem_singleton] at h; subst h; simpa using c16
  · try simp only [decide_eq_true_eq, decide_eq_false_iff_not, beq_iff_eq, bne_iff_ne, beq_eq_false_iff_ne, bne_eq_false_iff_eq, Bool.not_eq_true', Bool.not_eq_false', Bool.not_eq_true, ne_eq, Decidable.not_not, Bool.false_eq_true, if_false, if_true] at c9
    refine PW.exit ?_
    refine hK1 _ _ ?_
    refine PW.keep (T' := []) trivial ?_
    refine PW.seqOps ?_
    refine OL.dp rfl ?_
    refine OL.nil ?_
    refine PW.keep (T' := [(4, _)]) ⟨rfl, trivial⟩ ?_
    refine PW.ret ?_
    change (Exit.ret = Exit.normal ∨ Exit.ret = Exit.ret) ∧ ∃ v, resV _ _ = some v ∧ _
    exact ⟨.inr rfl, _, rfl, by rw [gidx_no (fun x hx => hall x (by rw [List.take_of_length_le (by omega)]; exact hx))], rfl⟩
theorem dead_fc {w0 : World} {S : SS} {x : LineP} : FC Try.prog w0 70 [lineV x] S (fun v S' => v = .bool (!x.alive) ∧ S' = S) := by
  refine FC.ofD Try.known70 (by simp) ?_
  unfold Try.pc70
  simp only [argT]
  refine PW.seqOps ?_
  refine OL.cons trivial (OW.bx rfl) ?_
  rintro _ _ ⟨r1, rfl, rfl⟩
  rw [lineV_box, lineC_len]
  refine OL.dp rfl ?_
  refine OL.nil ?_
  refine PW.keep (T' := [(1, _)]) ⟨rfl, trivial⟩ ?_
  refine PW.seqOps ?_
  refine OL.dp rfl ?_
  refine OL.det trivial (Yields.ld rfl (lcell_alive (x := x) (E := 43) (tot := 35) (List.mem_flatten.2 ⟨_, .head _, List.mem_singleton.2 rfl⟩))) ?_
  refine OL.dp rfl ?_
  refine OL.dp rfl ?_
  refine OL.nil ?_
  refine PW.keep (T' := [(2, _)]) ⟨rfl, trivial⟩ ?_
  refine PW.ret ?_
  change (Exit.ret = Exit.normal ∨ Exit.ret = Exit.ret) ∧ ∃ v, resV _ _ = some v ∧ _
  exact ⟨.inr rfl, _, rfl, _, Sub.drop (Sub.refl _), rfl, rfl⟩
def live (l : List LineP) : List LineP := l.filter (·.alive)
theorem live_snoc {l : List LineP} {j : Nat} (hj : j < l.length) : live (l.take (j + 1)) = if l[j].alive then live (l.take j) ++ [l[j]] else live (l.take j) := by
  unfold live
  rw [ltake_snoc hj, List.filter_append, List.filter_cons, List.filter_nil]
  split <;> simp
theorem live_len (l : List LineP) : (live l).length ≤ l.length := List.length_filter_le _ _
structure Pack (l R : List LineP) (i j : Nat) : Prop where
  jl : j ≤ l.length
  n : R.length = l.length
  ij : i < j
  pre : R.take i = live (l.take j)
  suf : R.drop j = l.drop j
theorem Pack.at {l R : List LineP} {i j : Nat} (h : Pack l R i j) (hj : j < l.length) : R[j]'(by have := h.n; omega) = l[j] := by
  have h1 := h.suf
  have hR : j < R.length := by have := h.n; omega
  have h2 : (R.drop j)[0]? = (l.drop j)[0]? := by rw [h1]
  rw [List.getElem?_drop, List.getElem?_drop, Nat.add_zero, List.getElem?_eq_getElem hR, List.getElem?_eq_getElem hj] at h2
  exact Option.some.inj h2
theorem Pack.keep {l R : List LineP} {i j : Nat} (h : Pack l R i j) (hj : j < l.length) (ha : l[j].alive = true) : Pack l (R.set i l[j]) (i + 1) (j + 1) where
  jl := by omega
  n := by rw [List.length_set]; exact h.n
  ij := by have := h.ij; omega
  pre := by
    have hi := h.ij
    have hR := h.n
    rw [live_snoc hj, if_pos ha, ← h.pre, ltake_snoc (by rw [List.length_set]; omega), List.getElem_set_self, List.take_set_of_le (Nat.le_refl i)]
  suf := by
    have hi := h.ij
    have h1 : R.drop (j + 1) = l.drop (j + 1) := by
      have := congrArg (List.drop 1) h.suf
      simpa [List.drop_drop] using this
    rw [List.drop_set_of_lt (by omega)]
    exact h1
theorem Pack.skip {l R : List LineP} {i j : Nat} (h : Pack l R i j) (hj : j < l.length) (ha : l[j].alive = false) : Pack l R i (j + 1) where
  jl := by omega
  n := h.n
  ij := by have := h.ij; omega
  pre := by rw [live_snoc hj, if_neg (by rw [ha]; simp)]; exact h.pre
  suf := by
    have := congrArg (List.drop 1) h.suf
    simpa [List.drop_drop] using this
theorem lines_take {l : List LineP} {i : Nat} (hi : i ≤ l.length) : (lines l).take (i * 35) = lines (l.take i) := by
  have e : lines l = lines (l.take i) ++ lines (l.drop i) := by rw [← lines_app, List.take_append_drop]
  have e1 : (lines (l.take i)).length = i * 35 := by rw [lines_len, List.length_take, Nat.min_eq_left hi]
  rw [e, List.take_append_of_le_length (by omega), List.take_of_length_le (by omega)]
theorem setAt_take {c d : List Value} {o : Nat} (h : o + d.length ≤ c.length) : (setAt c o d).take o = c.take o := by
  rw [setAt_eq _ _ _ h, List.append_assoc, List.take_append_of_le_length (by rw [List.length_take]; omega), List.take_take, Nat.min_self]
def zLine : LineP := ⟨v0, ⟨#[]⟩, false⟩
theorem deleteDead_fc {w0 : World} {S : SS} {A : Option Addr} {c : Nat} {l : List LineP} {seg : Seg} (h : SlV 43 35 (.slice A l.length c) l.length (lines l) seg) (hb : l.length ≤ 1000000000) :
    FC Try.prog w0 69 [.slice A l.length c, .func (.func 70) #[] #[]] (seg :: S) (fun v S' => ∃ seg', S' = seg' :: S ∧ SlV 43 35 v (live l).length (lines (live l)) seg') := by
  obtain ⟨A2, c2, e2, hnA, hcA, hrd0⟩ := slv_rdL (w0 := w0) h
  obtain ⟨rfl, rfl⟩ : A = A2 ∧ c = c2 := by simpa using e2
  have hrd := hrd0 S
  refine FC.ofD Try.known69 (by simp) ?_
  unfold Try.pc69
  simp only [argT]
  refine PW.seqOps ?_
  refine OL.dp rfl ?_
  refine OL.nil ?_
  refine PW.keep (T' := [(0, _), (1, _)]) ⟨rfl, rfl, trivial⟩ ?_
  refine PW.seqOps ?_
  refine OL.dp rfl ?_
  refine OL.dp rfl ?_
  refine OL.call trivial rfl (indexFuncL_fc (g := 70) (ca := []) (q := fun x => !x.alive) hrd (by omega) (by kernel_rfl) (fun x _ => dead_fc)) ?_
  rintro _ Sx ⟨rfl, hSx⟩
  rw [hSx]
  clear hSx
  obtain ⟨iz, hiz⟩ : ∃ z, z = gidx (fun x : LineP => !x.alive) l := ⟨_, rfl⟩
  have hcs := gidx_cases (fun x : LineP => !x.alive) l
  rw [← hiz] at hcs ⊢
  refine OL.dp rfl ?_
  refine OL.nil ?_
  refine PW.keep (T' := [(0, _), (1, _), (5, _)]) ⟨rfl, rfl, rfl, trivial⟩ ?_
  refine PW.seq fun K1 hK1 => ?_
  refine PW.seqOps ?_
  refine OL.dp rfl ?_
  refine OL.dp rfl ?_
  refine OL.nil ?_
  refine PW.keep (T' := [(0, _), (1, _), (5, _), (12, _)]) ⟨rfl, rfl, rfl, rfl, trivial⟩ ?_
  refine PW.cond rfl (fun c12 => ?_) (fun c12 => ?_)
  · skip
    have hi1 : iz = -1 := by simpa using c12
    have hall : ∀ x ∈ l, (!x.alive) = false := by
      rcases hcs with ⟨_, h⟩ | ⟨k, hk, e, _⟩
      · exact h
      · omega
    have hlv : live l = l := List.filter_eq_self.2 fun x hx => by have := hall x hx; simpa using this
    refine PW.seqOps ?_
    refine OL.dp rfl ?_
    refine OL.dp rfl ?_
    refine OL.nil ?_
    refine PW.keep (T' := [(4, _)]) ⟨rfl, trivial⟩ ?_
    refine PW.ret ?_
    change (Exit.ret = Exit.normal ∨ Exit.ret = Exit.ret) ∧ ∃ v, resV _ _ = some v ∧ _
    rw [← hlv] at h
    exact ⟨.inr rfl, _, rfl, _, Sub.refl _, seg, rfl, by rw [hlv] at h ⊢; exact h⟩
  · skip
    have hi1 : iz ≠ -1 := by simpa using c12
    obtain ⟨i0, hi0, rfl, hdead, hpre⟩ : ∃ k, ∃ h : k < l.length, iz = (k : Int) ∧ l[k].alive = false ∧ ∀ x ∈ l.take k, x.alive = true := by
      rcases hcs with ⟨e, _⟩ | ⟨k, hk, e, h1, h2⟩
      · exact absurd e hi1
      · exact ⟨k, hk, e, by simpa using h1, fun x hx => by have := h2 x hx; simpa using this⟩
    obtain ⟨r, c3, e3, rfl, hlc, hcm⟩ := slv_own h (by omega)
    obtain ⟨rfl, rfl⟩ : A = some ⟨r, 0, none⟩ ∧ c = c3 := by simpa using e3
    have hp0 : Pack l l i0 (i0 + 1) := ⟨by omega, rfl, by omega, by
      rw [live_snoc hi0, if_neg (by rw [hdead]; simp)]
      exact (List.filter_eq_self.2 hpre).symm, rfl⟩
    refine PW.skip ?_
    refine hK1 _ _ ?_
    refine PW.keep (T' := [(0, _), (1, _), (5, _)]) ⟨rfl, rfl, rfl, trivial⟩ ?_
    refine PW.seq fun K2 hK2 => ?_
    refine PW.seqOps ?_
    refine OL.dp rfl ?_
    refine OL.det trivial (Yields.to (v' := .int .i64 ((i0 + 1 : Nat) : Int)) (Yields.add64 rfl rfl (by omega) (by omega)) rfl) ?_
    refine OL.dp rfl ?_
    refine OL.nil ?_
    refine PW.keep (T' := [(0, _), (1, _), (5, _), (6, _)]) ⟨rfl, rfl, rfl, rfl, trivial⟩ ?_
    refine PW.block ?_
    refine PW.keep (T' := [(0, _), (1, _), (5, _), (6, _)]) ⟨rfl, rfl, rfl, rfl, trivial⟩ ?_
    refine PW.loopK (I := fun mm T S' => ∃ (i j : Nat) (R : List LineP), (Pack l R i j ∧ mm = l.length - j) ∧ T = ([(0, .slice (some ⟨r, 0, none⟩) l.length c), (1, .func (.func 70) #[] #[]), (5, .int .i64 i), (6, .int .i64 j)] : TT) ∧ S' = [(r, .cells (lines R) 43 (c * 35))] :: S) (m := l.length - (i0 + 1)) ⟨i0, i0 + 1, l, ⟨hp0, by omega⟩, rfl, rfl⟩ ?_
    rintro mm _ _ ⟨i, j, R, ⟨hp, hmm⟩, rfl, rfl⟩
    refine PW.seq fun K3 hK3 => ?_
    refine PW.seqOps ?_
    refine OL.dp rfl ?_
    refine OL.dp rfl ?_
    refine OL.dp rfl ?_
    refine OL.dp rfl ?_
    refine OL.nil ?_
    refine PW.keep (T' := [(0, _), (1, _), (5, _), (6, _), (19, _)]) ⟨rfl, rfl, rfl, rfl, rfl, trivial⟩ ?_
    refine PW.cond rfl (fun c19 => ?_) (fun c19 => ?_)
    · try simp only [decide_eq_true_eq, decide_eq_false_iff_not, beq_iff_eq, bne_iff_ne, beq_eq_false_iff_ne, bne_eq_false_iff_eq, Bool.not_eq_true', Bool.not_eq_false', Bool.not_eq_true, ne_eq, Decidable.not_not, Bool.false_eq_true, if_false, if_true] at c19
      have hjl : j < l.length := by omega
      have hRn := hp.n
      have hpi := hp.ij
      have hrdR : Rd w0 ([(r, .cells (lines R) 43 (c * 35))] :: S) (some ⟨r, 0, none⟩) (lines R) := Rd.own (E := 43) (tot := c * 35) (by simp)
      refine PW.skip ?_
      refine hK3 _ _ ?_
      refine PW.keep (T' := [(0, _), (1, _), (5, _), (6, _)]) ⟨rfl, rfl, rfl, rfl, trivial⟩ ?_
      refine PW.seq fun K4 hK4 => ?_
      refine PW.block ?_
      refine PW.seqOps ?_
      refine OL.dp rfl ?_
      refine OL.dp rfl ?_
      refine OL.det trivial (Yields.ixO rfl rfl rfl hjl) ?_
      refine OL.det trivial (Yields.ldA rfl (lineC_len _) ((fun i v hv => by have := line_at (k := j) hrdR (by omega) i v hv; simpa [Addr.add_lit] using this : ∀ (i : Nat) (v : Value), (lineC (R[j]'(by omega)))[i]? = some v → Cell w0 ([(r, .cells (lines R) 43 (c * 35))] :: S) ((⟨r, j * 35, none⟩ : Addr).add i) v))) ?_
      refine OL.cons trivial OW.al ?_
      rintro _ _ ⟨r7, rfl, rfl⟩
      rw [hp.at hjl]
      refine OL.cons trivial (line_st rfl rfl rfl) ?_
      rintro _ _ rfl
      refine OL.nil ?_
      refine PW.keep (T' := [(0, _), (1, _), (5, _), (6, _), (7, _)]) ⟨rfl, rfl, rfl, rfl, rfl, trivial⟩ ?_
      refine PW.seqOps ?_
      refine OL.dp rfl ?_
      refine OL.det trivial (Yields.ldA rfl (lineC_len _) (lcell (x := l[j]) (E := 43) (tot := 35) (List.mem_flatten.2 ⟨_, .head _, List.mem_singleton.2 rfl⟩))) ?_
      refine OL.cons trivial (OW.callv (fi := []) (ca := []) rfl (by kernel_rfl) rfl dead_fc) ?_
      rintro _ Sx ⟨rfl, hSx⟩
      rw [hSx]
      clear hSx
      refine OL.dp rfl ?_
      refine OL.nil ?_
      refine PW.keep (T' := [(0, _), (1, _), (5, _), (6, _), (7, _), (29, _)]) ⟨rfl, rfl, rfl, rfl, rfl, rfl, trivial⟩ ?_
      refine PW.cond rfl (fun c29 => ?_) (fun c29 => ?_)
      · skip
        have hal : l[j].alive = true := by simpa using c29
        refine PW.seqOps ?_
        refine OL.dp rfl ?_
        refine OL.dp rfl ?_
        refine OL.det trivial (Yields.ldA rfl (lineC_len _) (lcell (x := l[j]) (E := 43) (tot := 35) (List.mem_flatten.2 ⟨_, .head _, List.mem_singleton.2 rfl⟩))) ?_
        refine OL.det trivial (Yields.ixO rfl rfl rfl (by omega)) ?_
        refine OL.cons trivial (OW.st (k := 1) (c := lines R) (u := lineV l[j]) rfl rfl rfl ((List.size_toArray).trans (lineC_len _)) (by rw [lines_len]; omega) (lineC_one _)) ?_
        rintro _ _ rfl
        rw [lineV_box, lines_set (by omega)]
        refine OL.nil ?_
        refine PW.keep (T' := [(0, _), (1, _), (5, _), (6, _)]) ⟨rfl, rfl, rfl, rfl, trivial⟩ ?_
        refine PW.ops ?_
        refine OL.dp rfl ?_
        refine OL.det trivial (Yields.add64 rfl rfl (by omega) (by omega)) ?_
        refine OL.dp rfl ?_
        refine OL.nil ?_
        refine hK4 _ _ ?_
        refine PW.keep (T' := [(0, _), (1, _), (5, _), (6, _)]) ⟨rfl, rfl, rfl, rfl, trivial⟩ ?_
        refine PW.ops ?_
        refine OL.dp rfl ?_
        refine OL.det trivial (Yields.add64 rfl rfl (by omega) (by omega)) ?_
        refine OL.dp rfl ?_
        refine OL.nil ?_
        repeat rw [inBlk_n]
        try rw [thenK_n]
        refine LoopEnd.mkS (Sub.drop (Sub.refl _)) (T'' := [(0, _), (1, _), (5, _), (6, _)]) ⟨rfl, rfl, rfl, rfl, trivial⟩ ?_
        first
          | exact ⟨l.length - (j + 1), by omega, i + 1, j + 1, R.set i l[j], ⟨hp.keep hjl hal, rfl⟩, rfl, rfl⟩
          | exact ⟨l.length - (j + 1), by omega, i, j + 1, R, ⟨hp.skip hjl hal, rfl⟩, rfl, rfl⟩
      · skip
        have hal : l[j].alive = false := by simpa using c29
        refine PW.skip ?_
        refine hK4 _ _ ?_
        refine PW.keep (T' := [(0, _), (1, _), (5, _), (6, _)]) ⟨rfl, rfl, rfl, rfl, trivial⟩ ?_
        refine PW.ops ?_
        refine OL.dp rfl ?_
        refine OL.det trivial (Yields.add64 rfl rfl (by omega) (by omega)) ?_
        refine OL.dp rfl ?_
        refine OL.nil ?_
        repeat rw [inBlk_n]
        try rw [thenK_n]
        refine LoopEnd.mkS (Sub.drop (Sub.refl _)) (T'' := [(0, _), (1, _), (5, _), (6, _)]) ⟨rfl, rfl, rfl, rfl, trivial⟩ ?_
        first
          | exact ⟨l.length - (j + 1), by omega, i + 1, j + 1, R.set i l[j], ⟨hp.keep hjl hal, rfl⟩, rfl, rfl⟩
          | exact ⟨l.length - (j + 1), by omega, i, j + 1, R, ⟨hp.skip hjl hal, rfl⟩, rfl, rfl⟩
    · try simp only [decide_eq_true_eq, decide_eq_false_iff_not, beq_iff_eq, bne_iff_ne, beq_eq_false_iff_ne, bne_eq_false_iff_eq, Bool.not_eq_true', Bool.not_eq_false', Bool.not_eq_true, ne_eq, Decidable.not_not, Bool.false_eq_true, if_false, if_true] at c19
      have hpi := hp.ij
      have hRn := hp.n
      have hpj := hp.jl
      obtain rfl : j = l.length := by omega
      have hpp := hp.pre
      rw [List.take_length] at hpp
      refine PW.exit ?_
      refine hK2 _ _ ?_
      refine PW.keep (T' := [(0, _), (5, _)]) ⟨rfl, rfl, trivial⟩ ?_
      refine PW.seqOps ?_
      refine OL.dp rfl ?_
      refine OL.dp rfl ?_
      refine OL.det trivial (Yields.to (v' := .slice (some ⟨r, i * 35, none⟩) (l.length - i) (c - i)) (Yields.slS (A := some ⟨r, 0, none⟩) (len := l.length) (cap := c) (l := i) (h := l.length) rfl rfl rfl (.inl rfl) (.inr ⟨rfl, rfl⟩) (by omega) (by omega)) (by unfold cutV; rw [if_neg (by omega)]; simp [Addr.add_lit])) ?_
      have hz35 : (Value.agg (lineC zLine).toArray).cells.toList = lineC zLine := rfl
      have hzl := lineC_len zLine
      have hml := madeL_len (lineC zLine) ((l.length - i) * 35)
      refine OL.cons trivial (OW.clr (k := 0) (c := lines R) (z := lineV zLine) (news := madeL (lineC zLine) ((l.length - i) * 35)) rfl rfl (by omega) (by decide) rfl (by rw [hml, lines_len]; omega) (made_one (lineC_one _) (by omega) _)) ?_
      rintro _ _ ⟨rfl, rfl⟩
      refine OL.tell (k := 0) rfl (fun w h => owns_take (i * 35) h) ?_
      change OL _ _ _ _ _ ([(r, .cells ((setAt (lines R) (i * 35) (madeL (lineC zLine) ((l.length - i) * 35))).take (i * 35)) 43 (c * 35))] :: S) _
      rw [setAt_take (by rw [hml, lines_len]; omega), lines_take (by omega)]
      refine OL.nil ?_
      refine PW.keep (T' := [(0, _), (5, _)]) ⟨rfl, rfl, trivial⟩ ?_
      refine PW.seqOps ?_
      refine OL.dp rfl ?_
      refine OL.dp rfl ?_
      refine OL.det trivial (Yields.to (v' := .slice (some ⟨r, 0, none⟩) i c) (Yields.slS (A := some ⟨r, 0, none⟩) (len := l.length) (cap := c) (l := 0) (h := i) rfl rfl rfl (.inr ⟨rfl, rfl⟩) (.inl rfl) (by omega) (by omega)) (cutV0 _ _ _ _)) ?_
      refine OL.dp rfl ?_
      refine OL.nil ?_
      refine PW.keep (T' := [(4, _)]) ⟨rfl, trivial⟩ ?_
      refine PW.ret ?_
      change (Exit.ret = Exit.normal ∨ Exit.ret = Exit.ret) ∧ ∃ v, resV _ _ = some v ∧ _
      refine ⟨.inr rfl, _, rfl, _, Sub.refl _, _, rfl, ?_⟩
      have hil : i = (live l).length := by rw [← hpp, List.length_take, hRn, Nat.min_eq_left (by omega)]
      rw [hpp]
      rw [show Value.slice (some ⟨r, 0, none⟩) i c = .slice (some ⟨r, 0, none⟩) (live l).length c from by rw [hil]]
      exact SlV.mk' (by rw [lines_len]) (by omega) hcm
end Go.Proofs.Gr

set_option linter.unusedVariables false
set_option linter.unusedSectionVars false
namespace Go.Proofs.Gr
open Go.SL Go.RowKit Go.Proofs Go.GP
structure ItemP where
  lines : List LineP
  block : Bool
  mids : List Int
noncomputable def ordP (ps : List PartP) (a b : Vtx) : Bool := befP ps a b || befP ps b a
/-- where a block's lines are not in order with the one ahead -/
noncomputable def midsK (ps : List PartP) (l : List LineP) (k : Nat) : List Int := ((List.range k).filter fun i => decide (0 < i) && !ordP ps l[i - 1]!.v l[i]!.v).map Int.ofNat
noncomputable def blockP (ps : List PartP) (l : List LineP) : ItemP := ⟨l, true, midsK ps l l.length⟩
theorem midsK_succ (ps : List PartP) (l : List LineP) (k : Nat) : midsK ps l (k + 1) = if (decide (0 < k) && !ordP ps l[k - 1]!.v l[k]!.v) = true then midsK ps l k ++ [(k : Int)] else midsK ps l k := by
  unfold midsK
  rw [List.range_succ, List.filter_append, List.map_append, List.filter_cons, List.filter_nil]
  split <;> simp
/-- in order with all -/
noncomputable def solidP (ps : List PartP) (l : List LineP) (x : LineP) : Bool := l.all fun y => decide (x.v = y.v) || ordP ps x.v y.v
noncomputable def shut (ps : List PartP) (open_ : List LineP) : List ItemP := if open_ = [] then [] else [blockP ps open_]
noncomputable def stepI (ps : List PartP) (l : List LineP) (st : List ItemP × List LineP) (x : LineP) : List ItemP × List LineP :=
  if solidP ps l x then (st.1 ++ shut ps st.2 ++ [⟨[x], false, []⟩], []) else (st.1, st.2 ++ [x])
noncomputable def foldI (ps : List PartP) (l : List LineP) (k : Nat) : List ItemP × List LineP := (l.take k).foldl (stepI ps l) ([], [])
noncomputable def itemsL (ps : List PartP) (l : List LineP) : List ItemP := (foldI ps l l.length).1 ++ shut ps (foldI ps l l.length).2
/-- the items of parts -/
noncomputable def itemsP (ps : List PartP) : List ItemP := itemsL ps (live (linesP ps))
theorem foldI_succ {ps : List PartP} {l : List LineP} {k : Nat} (hk : k < l.length) : foldI ps l (k + 1) = stepI ps l (foldI ps l k) l[k] := by
  unfold foldI
  rw [ltake_snoc hk, List.foldl_append]
  rfl
end Go.Proofs.Gr
namespace Go.Proofs.Gr
open Go.SL Go.RowKit Go.Proofs Go.GP
def beginB : ByteArray := ⟨#[62, 62, 62, 62, 62, 62, 62]⟩
def middleB : ByteArray := ⟨#[61, 61, 61, 61, 61, 61, 61]⟩
def closeB : ByteArray := ⟨#[60, 60, 60, 60, 60, 60, 60]⟩
def rowsT (x : ItemP) (k : Nat) : List ByteArray := (List.range k).flatMap fun (i : Nat) => (if x.block && x.mids.contains (i : Int) then [middleB] else []) ++ [x.lines[i]!.text]
def oneT (x : ItemP) : List ByteArray := (if x.block then [beginB] else []) ++ rowsT x x.lines.length ++ (if x.block then [closeB] else [])
def textI (l : List ItemP) : List ByteArray := l.flatMap oneT
instance : Inhabited ItemP := ⟨⟨[], false, []⟩⟩
theorem rowsT_succ (x : ItemP) (k : Nat) : rowsT x (k + 1) = rowsT x k ++ ((if x.block && x.mids.contains (k : Int) then [middleB] else []) ++ [x.lines[k]!.text]) := by
  unfold rowsT
  rw [List.range_succ, List.flatMap_append]
  simp
theorem rowsT_len (x : ItemP) : ∀ k, (rowsT x k).length ≤ 2 * k
  | 0 => by simp [rowsT]
  | k + 1 => by
    rw [rowsT_succ, List.length_append, List.length_append]
    have := rowsT_len x k
    split <;> simp <;> omega
theorem textI_snoc {l : List ItemP} {k : Nat} (hk : k < l.length) : textI (l.take (k + 1)) = textI (l.take k) ++ oneT l[k] := by
  unfold textI
  rw [ltake_snoc hk, List.flatMap_append]
  simp
theorem oneT_len (x : ItemP) : (oneT x).length ≤ 2 * x.lines.length + 2 := by
  unfold oneT
  have := rowsT_len x x.lines.length
  simp only [List.length_append]
  split <;> simp <;> omega
theorem textI_len {l : List ItemP} {N : Nat} (h : ∀ x ∈ l, x.lines.length ≤ N) : ∀ k, k ≤ l.length → (textI (l.take k)).length ≤ (2 * N + 2) * k
  | 0, _ => by simp [textI]
  | k + 1, hk => by
    rw [textI_snoc (by omega), List.length_append]
    have h1 := textI_len h k (by omega)
    have h2 := oneT_len l[k]
    have h3 := h _ (List.getElem_mem (show k < l.length by omega))
    rw [Nat.mul_succ]
    omega
end Go.Proofs.Gr

set_option linter.unusedVariables false
set_option linter.unusedSectionVars false
namespace Go.Proofs.Gr
open Go.SL Go.RowKit Go.Proofs Go.GP
section
variable (bf : Vtx → Vtx → Bool)
def ordF (a b : Vtx) : Bool := bf a b || bf b a
def midsF (l : List LineP) (k : Nat) : List Int := ((List.range k).filter fun i => decide (0 < i) && !ordF bf l[i - 1]!.v l[i]!.v).map Int.ofNat
def blockF (l : List LineP) : ItemP := ⟨l, true, midsF bf l l.length⟩
def solidF (l : List LineP) (x : LineP) : Bool := l.all fun y => decide (x.v = y.v) || ordF bf x.v y.v
def shutF (open_ : List LineP) : List ItemP := if open_ = [] then [] else [blockF bf open_]
def stepF (l : List LineP) (st : List ItemP × List LineP) (x : LineP) : List ItemP × List LineP :=
  if solidF bf l x then (st.1 ++ shutF bf st.2 ++ [⟨[x], false, []⟩], []) else (st.1, st.2 ++ [x])
def foldF (l : List LineP) (k : Nat) : List ItemP × List LineP := (l.take k).foldl (stepF bf l) ([], [])
def itemsF (l : List LineP) : List ItemP := (foldF bf l l.length).1 ++ shutF bf (foldF bf l l.length).2
end
theorem itemsF_eq (ps : List PartP) (l : List LineP) : itemsL ps l = itemsF (befP ps) l := by
  have h1 : stepI ps l = stepF (befP ps) l := by
    funext st x
    unfold stepI stepF shut shutF blockP blockF midsK midsF solidP solidF ordP ordF
    rfl
  unfold itemsL itemsF foldI foldF
  rw [h1]
  unfold shut shutF blockP blockF midsK midsF ordP ordF
  rfl
theorem befP_eq {ps : List PartP} (hc : ((allV ps).all fun a => closedB (allE ps) a) = true) : befP ps = befC ps := by
  funext a b
  rw [Bool.eq_iff_iff, befP_iff]
  by_cases ha : a ∈ allV ps
  · exact (befC_iff (List.all_eq_true.1 hc a ha)).symm
  · by_cases hr : a = rootV
    · unfold Bef befC
      simp only [Bool.and_eq_true, hasC_iff, Bool.or_eq_true, decide_eq_true_eq, Bool.not_eq_true', decide_eq_false_iff_not, and_assoc, ne_eq, hr, true_or]
    · have h1 : ¬ Bef ps a b := by
        rintro ⟨h, _, _, h2, _⟩
        rcases h with h | h | h
        · exact hr h
        · exact h2 h
        · exact ha h
      have h2 : befC ps a b = false := by
        unfold befC hasC
        by_cases he : a = endV
        · simp [he]
        · simp [ha, hr, he]
      simp [h1, h2]
theorem items_comp {ps : List PartP} (hc : ((allV ps).all fun a => closedB (allE ps) a) = true) : itemsP ps = itemsF (befC ps) (live (linesP ps)) := by
  unfold itemsP
  rw [itemsF_eq, befP_eq hc]
end Go.Proofs.Gr

set_option linter.unusedVariables false
set_option linter.unusedSimpArgs false
namespace Go.Proofs.Gr
open Go.SL Go.RowKit Go.Proofs Go.GP
set_option maxHeartbeats 1000000
structure ItemM where
  LA : Option Addr
  lc : Nat
  lines : List LineP
  block : Bool
  MA : Option Addr
  mc : Nat
  mids : List Int
instance : Inhabited ItemM := ⟨⟨none, 0, [], false, none, 0, []⟩⟩
def ItemM.pl (x : ItemM) : ItemP := ⟨x.lines, x.block, x.mids⟩
def itemC (x : ItemM) : List Value := [.slice x.LA x.lines.length x.lc, .bool x.block, .slice x.MA x.mids.length x.mc]
def itemV (x : ItemM) : Value := .agg (itemC x).toArray
def itemS (l : List ItemM) : List Value := l.flatMap itemC
theorem itemC_len (x : ItemM) : (itemC x).length = 3 := rfl
theorem itemS_len (l : List ItemM) : (itemS l).length = l.length * 3 := by unfold itemS; rw [List.length_flatMap]; simp [itemC_len, List.map_const']
theorem itemS_app (a b : List ItemM) : itemS (a ++ b) = itemS a ++ itemS b := by unfold itemS; rw [List.flatMap_append]
theorem item_box (x : ItemM) : (itemV x).cells.toList = itemC x := rfl
theorem item_read {w0 : World} {S : SS} {r E tot : Nat} {u : ItemM} (hm : (r, AO.cells (itemC u) E tot) ∈ S.flatten) : ReadsAs w0 S (some 3) ⟨r, 0, none⟩ (itemV u) := ⟨itemC u, rfl, rfl, all_at hm⟩
theorem ints_snoc {v : Value} {l : List Int} {z : Int} {seg : Seg} (h : SlV 3 1 v (l.length + 1) (ints l ++ [Value.int .i64 z]) seg) : SlV 3 1 v (l ++ [z]).length (ints (l ++ [z])) seg := by
  rw [List.length_append]
  unfold ints at h ⊢
  rw [List.map_append]
  exact h
theorem ordered_fc {w0 : World} {S X : SS} {m : GrM} {ps : List PartP} {x y : LineP} (h : GG w0 X m ps) (hS : Over (GS m ++ X) S) (hx : okV x.v) (hy : okV y.v) :
    FC Try.prog w0 71 [m.ptr, lineV x, lineV y] S (fun v S' => v = .bool (ordP ps x.v y.v) ∧ S' = S) := by
  refine FC.ofD Try.known71 (by simp) ?_
  unfold Try.pc71
  simp only [argT]
  refine PW.seqOps ?_
  refine OL.cons trivial (OW.bx rfl) ?_
  rintro _ _ ⟨r4, rfl, rfl⟩
  rw [lineV_box, lineC_len]
  refine OL.cons trivial (OW.bx rfl) ?_
  rintro _ _ ⟨r5, rfl, rfl⟩
  rw [lineV_box, lineC_len]
  refine OL.dp rfl ?_
  refine OL.nil ?_
  refine PW.keep (T' := [(0, _), (4, _), (5, _)]) ⟨rfl, rfl, rfl, trivial⟩ ?_
  refine PW.seqOps ?_
  refine OL.dp rfl ?_
  refine OL.dp rfl ?_
  refine OL.det trivial (Yields.ldA rfl (vtxL_len _) (lcell_vtx (x := x) (E := 43) (tot := 35) (List.mem_flatten.2 ⟨_, .tail _ (.head _), List.mem_singleton.2 rfl⟩))) ?_
  refine OL.dp rfl ?_
  refine OL.det trivial (Yields.ldA rfl (vtxL_len _) (lcell_vtx (x := y) (E := 43) (tot := 35) (List.mem_flatten.2 ⟨_, .head _, List.mem_singleton.2 rfl⟩))) ?_
  refine OL.call trivial rfl (before2_fc h hS.cons.cons hx hy) ?_
  rintro _ Sx ⟨rfl, hSx⟩
  rw [hSx]
  clear hSx
  refine OL.bool trivial (Yields.pure rfl) (fun g13 => ?_) (fun g13 => ?_)
  · try simp only [decide_eq_true_eq, decide_eq_false_iff_not, beq_iff_eq, bne_iff_ne, beq_eq_false_iff_ne, bne_eq_false_iff_eq, Bool.not_eq_true', Bool.not_eq_false', Bool.not_eq_true, ne_eq, Decidable.not_not, Bool.false_eq_true, if_false, if_true] at g13
    refine OL.off rfl rfl ?_
    refine OL.off rfl rfl ?_
    refine OL.off rfl rfl ?_
    refine OL.off rfl rfl ?_
    refine OL.off rfl rfl ?_
    refine OL.off rfl rfl ?_
    refine OL.dp rfl ?_
    refine OL.dp rfl ?_
    refine OL.nil ?_
    refine PW.keep (T' := [(6, _)]) ⟨rfl, trivial⟩ ?_
    refine PW.ret ?_
    change (Exit.ret = Exit.normal ∨ Exit.ret = Exit.ret) ∧ ∃ v, resV _ _ = some v ∧ _
    first
      | exact ⟨.inr rfl, _, rfl, _, Sub.drop (Sub.drop (Sub.refl _)), by unfold ordP; rw [g13]; rfl, rfl⟩
  · try simp only [decide_eq_true_eq, decide_eq_false_iff_not, beq_iff_eq, bne_iff_ne, beq_eq_false_iff_ne, bne_eq_false_iff_eq, Bool.not_eq_true', Bool.not_eq_false', Bool.not_eq_true, ne_eq, Decidable.not_not, Bool.false_eq_true, if_false, if_true] at g13
    refine OL.det rfl (Yields.pure rfl) ?_
    refine OL.det rfl (Yields.pure rfl) ?_
    refine OL.det rfl (Yields.ldA rfl (vtxL_len _) (lcell_vtx (x := y) (E := 43) (tot := 35) (List.mem_flatten.2 ⟨_, .head _, List.mem_singleton.2 rfl⟩))) ?_
    refine OL.det rfl (Yields.pure rfl) ?_
    refine OL.det rfl (Yields.ldA rfl (vtxL_len _) (lcell_vtx (x := x) (E := 43) (tot := 35) (List.mem_flatten.2 ⟨_, .tail _ (.head _), List.mem_singleton.2 rfl⟩))) ?_
    refine OL.call rfl rfl (before2_fc h hS.cons.cons hy hx) ?_
    rintro _ Sx ⟨rfl, hSx⟩
    rw [hSx]
    clear hSx
    refine OL.dp rfl ?_
    refine OL.dp rfl ?_
    refine OL.nil ?_
    refine PW.keep (T' := [(6, _)]) ⟨rfl, trivial⟩ ?_
    refine PW.ret ?_
    change (Exit.ret = Exit.normal ∨ Exit.ret = Exit.ret) ∧ ∃ v, resV _ _ = some v ∧ _
    first
      | exact ⟨.inr rfl, _, rfl, _, Sub.drop (Sub.drop (Sub.refl _)), by unfold ordP; rw [g13]; rfl, rfl⟩
theorem block_fc {w0 : World} {S X : SS} {m : GrM} {ps : List PartP} {A : Option Addr} {c : Nat} {l : List LineP} (h : GG w0 X m ps) (hS : Over (GS m ++ X) S) (hx : Rd w0 S A (lines l)) (hv : ∀ x ∈ l, okV x.v) (hl : l.length ≤ 1000000) :
    FC Try.prog w0 72 [m.ptr, .slice A l.length c] S (fun v S' => ∃ M mc seg, v = itemV ⟨A, c, l, true, M, mc, midsK ps l l.length⟩ ∧ S' = seg :: S ∧ SlV 3 1 (.slice M (midsK ps l l.length).length mc) (midsK ps l l.length).length (ints (midsK ps l l.length)) seg) := by
  refine FC.ofC Try.known72 (by simp) ?_
  unfold Try.pc72
  simp only [argT]
  refine PW.seqOps ?_
  refine OL.cons trivial OW.al ?_
  rintro _ _ ⟨r4, rfl, rfl⟩
  refine OL.nil ?_
  refine PW.keep (T' := [(0, _), (1, _), (4, _)]) ⟨rfl, rfl, rfl, trivial⟩ ?_
  refine PW.seqOps ?_
  refine OL.dp rfl ?_
  refine OL.det trivial (Yields.build rfl) ?_
  refine OL.cons trivial OW.al ?_
  rintro _ _ ⟨r5, rfl, rfl⟩
  refine OL.cons trivial (OW.st (k := 0) (c := [.slice none 0 0, .bool false, .slice none 0 0]) (u := .agg #[.slice A l.length c, .bool true, .slice none 0 0]) rfl rfl rfl rfl (Nat.le_refl 3) rfl) ?_
  rintro _ _ rfl
  refine OL.subS (S' := [] :: [(r5, .cells [.slice A l.length c, .bool true, .slice none 0 0] 73 3)] :: [(r4, .cells [.slice none 0 0, .bool false, .slice none 0 0] 73 3)] :: S) (Sub.nilL (Sub.refl _)) ?_
  refine OL.nil ?_
  refine PW.keep (T' := [(0, _), (1, _), (4, _), (5, _)]) ⟨rfl, rfl, rfl, rfl, trivial⟩ ?_
  refine PW.seq fun K1 hK1 => ?_
  refine PW.seqOps ?_
  refine OL.dp rfl ?_
  refine OL.nil ?_
  refine PW.keep (T' := [(0, _), (1, _), (4, _), (5, _), (6, _)]) ⟨rfl, rfl, rfl, rfl, rfl, trivial⟩ ?_
  refine PW.block ?_
  refine PW.keep (T' := [(0, _), (1, _), (4, _), (5, _), (6, _)]) ⟨rfl, rfl, rfl, rfl, rfl, trivial⟩ ?_
  refine PW.loopK (I := fun mm T S' => ∃ (i : Nat) (vm : Value) (ms : List Int) (segm : Seg), (1 ≤ i ∧ (i ≤ l.length ∨ i = 1) ∧ mm = l.length - i ∧ ms = midsK ps l i ∧ ms.length ≤ i ∧ SlV 3 1 vm ms.length (ints ms) segm) ∧ T = ([(0, m.ptr), (1, .slice A l.length c), (4, .pointer (some ⟨r4, 0, none⟩)), (5, .pointer (some ⟨r5, 0, none⟩)), (6, .int .i64 i)] : TT) ∧ S' = segm :: [(r5, .cells [.slice A l.length c, .bool true, vm] 73 3)] :: [(r4, .cells [.slice none 0 0, .bool false, .slice none 0 0] 73 3)] :: S) (m := l.length - 1) ⟨1, _, [], [], ⟨Nat.le_refl 1, .inr rfl, rfl, by simp [midsK], Nat.zero_le _, SlV.nil 3 1⟩, rfl, rfl⟩ ?_
  rintro mm _ _ ⟨i, vm, ms, segm, ⟨hi1, hil0, hmm, hms, hmsl, hsm⟩, rfl, rfl⟩
  refine PW.seq fun K2 hK2 => ?_
  refine PW.seqOps ?_
  refine OL.dp rfl ?_
  refine OL.dp rfl ?_
  refine OL.dp rfl ?_
  refine OL.dp rfl ?_
  refine OL.nil ?_
  refine PW.keep (T' := [(0, _), (1, _), (4, _), (5, _), (6, _), (12, _)]) ⟨rfl, rfl, rfl, rfl, rfl, rfl, trivial⟩ ?_
  refine PW.cond rfl (fun c12 => ?_) (fun c12 => ?_)
  · try simp only [decide_eq_true_eq, decide_eq_false_iff_not, beq_iff_eq, bne_iff_ne, beq_eq_false_iff_ne, bne_eq_false_iff_eq, Bool.not_eq_true', Bool.not_eq_false', Bool.not_eq_true, ne_eq, Decidable.not_not, Bool.false_eq_true, if_false, if_true] at c12
    have hil : i < l.length := by omega
    have hx2 : Rd w0 (segm :: [(r5, .cells [.slice A l.length c, .bool true, vm] 73 3)] :: [(r4, .cells [.slice none 0 0, .bool false, .slice none 0 0] 73 3)] :: S) A (lines l) := hx.cons.cons.cons
    obtain ⟨a0, rfl⟩ := lines_some hx (by omega)
    refine PW.skip ?_
    refine hK2 _ _ ?_
    refine PW.keep (T' := [(0, _), (1, _), (4, _), (5, _), (6, _)]) ⟨rfl, rfl, rfl, rfl, rfl, trivial⟩ ?_
    refine PW.seq fun K3 hK3 => ?_
    refine PW.block ?_
    refine PW.seq fun K4 hK4 => ?_
    refine PW.quietK Try.mixed ?_
    refine QK.dp rfl ?_
    refine QK.dp rfl ?_
    refine QK.dp rfl ?_
    refine QK.det trivial (Yields.sub64 rfl rfl (by omega) (by omega)) ?_
    refine QK.det trivial (Yields.ixN rfl rfl (show ((i : Nat) : Int) - 1 = ((i - 1 : Nat) : Int) by omega) (by omega)) ?_
    refine QK.det trivial (Yields.ldA rfl (lineC_len _) (line_at (k := i - 1) hx2 (by omega))) ?_
    refine QK.dp rfl ?_
    refine QK.dp rfl ?_
    refine QK.det trivial (Yields.ixN rfl rfl rfl (by omega)) ?_
    refine QK.det trivial (Yields.ldA rfl (lineC_len _) (line_at hx2 hil)) ?_
    refine QK.nil ?_
    change OL _ _ _ [_, _] _ _ _
    refine OL.call trivial rfl (ordered_fc (x := l[i - 1]) (y := l[i]) h hS.cons.cons.cons (hv _ (List.getElem_mem _)) (hv _ (List.getElem_mem _))) ?_
    rintro _ Sx ⟨rfl, hSx⟩
    rw [hSx]
    clear hSx
    refine OL.dp rfl ?_
    refine OL.nil ?_
    refine hK4 _ _ ?_
    refine PW.keep (T' := [(0, _), (1, _), (4, _), (5, _), (6, _), (26, _)]) ⟨rfl, rfl, rfl, rfl, rfl, rfl, trivial⟩ ?_
    refine PW.cond rfl (fun c26 => ?_) (fun c26 => ?_)
    · skip
      refine PW.ops ?_
      refine OL.dp rfl ?_
      refine OL.det trivial (Yields.ld rfl (own_at (j := 2) (c := [.slice (some a0) l.length c, .bool true, vm]) (E := 73) (tot := 3) (List.mem_flatten.2 ⟨_, .tail _ (.head _), List.mem_singleton.2 rfl⟩) rfl)) ?_
      refine OL.dp rfl ?_
      apply OL.app1 (k := 0)
      · rfl
      · rfl
      · rfl
      · rfl
      · rfl
      · rfl
      · exact hsm
      · rfl
      · omega
      · unfold maxLen; omega
      intro v31 segd hsd
      obtain ⟨Ad, cd, rfl, hnd, hcd, hrdd⟩ := slv_rdL (w0 := w0) hsd
      change OL _ _ _ _ _ (segd :: [(r5, .cells [.slice (some a0) l.length c, .bool true, vm] 73 3)] :: [(r4, .cells [.slice none 0 0, .bool false, .slice none 0 0] 73 3)] :: S) _
      refine OL.dp rfl ?_
      refine OL.cons trivial (OW.st (k := 1) (c := [.slice (some a0) l.length c, .bool true, vm]) (u := .slice Ad (ms.length + 1) cd) rfl rfl rfl rfl (Nat.le_refl 3) rfl) ?_
      rintro _ _ rfl
      change OL _ _ _ _ _ (segd :: [(r5, .cells [.slice (some a0) l.length c, .bool true, .slice Ad (ms.length + 1) cd] 73 3)] :: [(r4, .cells [.slice none 0 0, .bool false, .slice none 0 0] 73 3)] :: S) _
      refine OL.nil ?_
      refine hK3 _ _ ?_
      refine PW.keep (T' := [(0, _), (1, _), (4, _), (5, _), (6, _)]) ⟨rfl, rfl, rfl, rfl, rfl, trivial⟩ ?_
      refine PW.ops ?_
      refine OL.dp rfl ?_
      refine OL.det trivial (Yields.add64 rfl rfl (by omega) (by omega)) ?_
      refine OL.dp rfl ?_
      refine OL.nil ?_
      repeat rw [inBlk_n]
      try rw [thenK_n]
      refine LoopEnd.mk (T'' := [(0, _), (1, _), (4, _), (5, _), (6, _)]) ⟨rfl, rfl, rfl, rfl, rfl, trivial⟩ ?_
      have hms2 := midsK_succ ps l i
      rw [getElem!_pos l (i - 1) (by omega), getElem!_pos l i hil, decide_eq_true (show 0 < i by omega), Bool.true_and] at hms2
      first
        | (rw [if_pos c26, ← hms] at hms2
           exact ⟨l.length - (i + 1), by omega, i + 1, _, ms ++ [(i : Int)], segd, ⟨by omega, .inl (by omega), rfl, hms2.symm, by rw [List.length_append]; exact Nat.succ_le_succ hmsl, ints_snoc hsd⟩, rfl, rfl⟩)
        | (rw [if_neg (by rw [c26]; simp), ← hms] at hms2
           exact ⟨l.length - (i + 1), by omega, i + 1, vm, ms, segm, ⟨by omega, .inl (by omega), rfl, hms2.symm, by omega, hsm⟩, rfl, rfl⟩)
    · skip
      refine PW.skip ?_
      refine hK3 _ _ ?_
      refine PW.keep (T' := [(0, _), (1, _), (4, _), (5, _), (6, _)]) ⟨rfl, rfl, rfl, rfl, rfl, trivial⟩ ?_
      refine PW.ops ?_
      refine OL.dp rfl ?_
      refine OL.det trivial (Yields.add64 rfl rfl (by omega) (by omega)) ?_
      refine OL.dp rfl ?_
      refine OL.nil ?_
      repeat rw [inBlk_n]
      try rw [thenK_n]
      refine LoopEnd.mk (T'' := [(0, _), (1, _), (4, _), (5, _), (6, _)]) ⟨rfl, rfl, rfl, rfl, rfl, trivial⟩ ?_
      have hms2 := midsK_succ ps l i
      rw [getElem!_pos l (i - 1) (by omega), getElem!_pos l i hil, decide_eq_true (show 0 < i by omega), Bool.true_and] at hms2
      first
        | (rw [if_pos c26, ← hms] at hms2
           exact ⟨l.length - (i + 1), by omega, i + 1, _, ms ++ [(i : Int)], segd, ⟨by omega, .inl (by omega), rfl, hms2.symm, by rw [List.length_append]; exact Nat.succ_le_succ hmsl, ints_snoc hsd⟩, rfl, rfl⟩)
        | (rw [if_neg (by rw [c26]; simp), ← hms] at hms2
           exact ⟨l.length - (i + 1), by omega, i + 1, vm, ms, segm, ⟨by omega, .inl (by omega), rfl, hms2.symm, by omega, hsm⟩, rfl, rfl⟩)
  · try simp only [decide_eq_true_eq, decide_eq_false_iff_not, beq_iff_eq, bne_iff_ne, beq_eq_false_iff_ne, bne_eq_false_iff_eq, Bool.not_eq_true', Bool.not_eq_false', Bool.not_eq_true, ne_eq, Decidable.not_not, Bool.false_eq_true, if_false, if_true] at c12
    refine PW.exit ?_
    refine hK1 _ _ ?_
    refine PW.keep (T' := [(4, _), (5, _)]) ⟨rfl, rfl, trivial⟩ ?_
    refine PW.seqOps ?_
    have hkm : midsK ps l i = midsK ps l l.length := by
      by_cases h0 : l.length = 0
      · have : i = 1 := by omega
        subst this
        rw [h0, midsK_succ, if_neg (by simp)]
      · rw [show i = l.length by omega]
    rw [hkm] at hms
    obtain ⟨Am, cm, rfl, hnm, hcm, hrdm⟩ := slv_rdL (w0 := w0) hsm
    refine OL.det trivial (Yields.ldA rfl (cs := [.slice A l.length c, .bool true, .slice Am ms.length cm]) rfl (all_at (c := [.slice A l.length c, .bool true, .slice Am ms.length cm]) (E := 73) (tot := 3) (List.mem_flatten.2 ⟨_, .tail _ (.head _), List.mem_singleton.2 rfl⟩))) ?_
    refine OL.cons trivial (OW.st (k := 2) (c := [.slice none 0 0, .bool false, .slice none 0 0]) (u := .agg #[.slice A l.length c, .bool true, .slice Am ms.length cm]) rfl rfl rfl rfl (Nat.le_refl 3) rfl) ?_
    rintro _ _ rfl
    refine OL.nil ?_
    refine PW.keep (T' := [(4, _)]) ⟨rfl, trivial⟩ ?_
    refine PW.ret ?_
    change (Exit.ret = Exit.normal ∨ Exit.ret = Exit.ret) ∧ ∃ a v, Go.SL.look _ _ = some (.pointer (some a)) ∧ ReadsAs _ _ _ _ _ ∧ _
    subst hms
    exact ⟨.inr rfl, _, itemV ⟨A, c, l, true, Am, cm, midsK ps l l.length⟩, rfl, item_read (E := 73) (tot := 3) (List.mem_flatten.2 ⟨_, .tail _ (.tail _ (.head _)), List.mem_singleton.2 rfl⟩), _, Sub.cons (Sub.drop (Sub.drop (Sub.refl _))), Am, cm, segm, rfl, rfl, hsm⟩
end Go.Proofs.Gr

set_option linter.unusedVariables false
set_option linter.unusedSectionVars false
namespace Go.Proofs.Gr
open Go.SL Go.RowKit Go.Proofs Go.GP
theorem _root_.Go.GP.New.more {ps qs : List PartP} {p : PartP} (h : New ps p) (hs : ∀ q ∈ ps, q ∈ qs) (hn : ∀ q ∈ qs, q.name ≠ p.name) (ho : ∀ v ∈ own p, v ∉ allV qs) : New qs p :=
  ⟨hn, ho, h.first, h.upE, h.downR, h.gone0, h.goneR, h.up.mono hs, h.down.mono hs, fun v hv => by
    obtain ⟨q, hq, hvq⟩ := mem_allV.1 (h.gone v hv)
    exact mem_allV.2 ⟨q, hs q hq, hvq⟩, h.bef.mono hs⟩
def Apart (p q : PartP) : Prop := p.name ≠ q.name ∧ ∀ v ∈ own p, v ∉ own q
theorem Apart.symm {p q : PartP} (h : Apart p q) : Apart q p := ⟨fun e => h.1 e.symm, fun v hv hm => h.2 v hm hv⟩
theorem _root_.Go.GP.Sq.apart {ps : List PartP} (h : Sq ps) : ps.Pairwise Apart := by
  induction h with
  | nil => exact .nil
  | cons h t ih => exact .cons (fun q hq => ⟨fun e => h.name q hq e.symm, fun v hv hm => h.own v hv (mem_allV.2 ⟨q, hq, hm⟩)⟩) ih
theorem _root_.Go.GP.New.formed {ps : List PartP} {p : PartP} (h : New ps p) : Formed p := ⟨h.gone0, h.goneR, h.first, h.upE, h.downR⟩
theorem _root_.Go.GP.Sq.formed {ps : List PartP} (h : Sq ps) : ∀ p ∈ ps, Formed p := by
  induction h with
  | nil => intro p hp; cases hp
  | cons h t ih =>
    intro p hp
    rcases List.mem_cons.1 hp with rfl | hp
    · exact h.formed
    · exact ih p hp
theorem _root_.Go.GP.Sq.gr {ps : List PartP} (h : Sq ps) : ∃ G, GP.Inv ps G := by
  induction h with
  | nil => exact ⟨_, GP.Inv.nil⟩
  | cons h t ih =>
    obtain ⟨G, hG⟩ := ih
    exact ⟨_, hG.add t h⟩
end Go.Proofs.Gr

set_option linter.unusedVariables false
set_option linter.unusedSimpArgs false
namespace Go.Proofs.Gr
open Go.SL Go.RowKit Go.Proofs Go.GP
set_option maxHeartbeats 1000000
section
variable {w0 : World} {S : SS} {a : Addr} {l : List PartM} {k : Nat}
end
theorem tmod_nat {x : Int} {n b : Nat} (h : x = (n : Int)) : x.tmod (b : Int) = ((n % b : Nat) : Int) := by
  subst h
  rw [Int.tmod_eq_emod_of_nonneg (by omega)]
  rfl
end Go.Proofs.Gr

set_option linter.unusedVariables false
set_option linter.unusedSimpArgs false
namespace Go.Proofs.Gr
open Go.SL Go.RowKit Go.Proofs Go.GP
set_option maxHeartbeats 1000000
theorem gs_a {a : GrM} {s : Seg} {S : SS} : Sub (GS a ++ (s :: S)) (s :: (GS a ++ S)) := Sub.sel [1, 2, 3, 4, 0] 5 (by decide) (s :: (GS a ++ S))
theorem rd_mem {w0 : World} {S : SS} {s : Seg} {A : Option Addr} {l : List Value} (h : Rd w0 (s :: []) A l) (hm : s ∈ S) : Rd w0 S A l := h.mono fun p hp => List.mem_flatten.2 ⟨s, hm, by simpa using hp⟩
theorem i64_id {x : Int} (h1 : -9223372036854775808 ≤ x) (h2 : x ≤ 9223372036854775807) : IntKind.i64.wrap x = x := IntWalk.i64_in _ ⟨h1, h2⟩
end Go.Proofs.Gr

set_option linter.unusedVariables false
set_option linter.unusedSimpArgs false
namespace Go.Proofs.Gr
open Go.SL Go.RowKit Go.Proofs Go.GP
set_option maxHeartbeats 1000000
/-- an item's rows lie so -/
structure ItemOk (w0 : World) (j : Seg) (x : ItemM) : Prop where
  rdL : Rd w0 (j :: []) x.LA (lines x.lines)
  rdM : Rd w0 (j :: []) x.MA (ints x.mids)
  nL : x.lines.length ≤ 60000
  nM : x.mids.length ≤ 60000
theorem ItemOk.more {w0 : World} {j j' : Seg} {x : ItemM} (h : ItemOk w0 j x) (hs : ∀ p ∈ j, p ∈ j') : ItemOk w0 j' x :=
  ⟨h.rdL.mono fun p hp => by simp at hp ⊢; exact hs p hp, h.rdM.mono fun p hp => by simp at hp ⊢; exact hs p hp, h.nL, h.nM⟩
theorem fill_line1 {T : TT} {x : PV} {u : LineP} {zero : List Value} (hx : x.val T = some (lineV u)) (hz : zero.length = 35) : fillP T zero [(0, 35, x)] = some (lineC u) := by
  simp only [fillP, hx]
  rw [if_pos ⟨(List.size_toArray).trans (lineC_len u), by omega⟩]
  exact congrArg some (setAll (by rw [hz]; exact (lineC_len u).symm))
theorem sub_pack {a b c p j : Seg} {S : SS} : Sub (b :: c :: [] :: (a ++ (p ++ j)) :: S) (a :: b :: c :: p :: j :: S) :=
  (Sub.cons (Sub.cons (Sub.nilL (Sub.refl _)))).trans ((Sub.cons (Sub.cons Sub.join)).trans ((Sub.cons (Sub.cons (Sub.cons Sub.join))).trans (Sub.sel [1, 2, 0, 3, 4] 5 (by decide) (a :: b :: c :: p :: j :: S))))
theorem sub_pack2 {a b c p j : Seg} {S : SS} : Sub (c :: p :: (a ++ j) :: S) (a :: b :: c :: p :: j :: S) :=
  (Sub.cons (Sub.cons Sub.join)).trans (Sub.sel [2, 3, 0, 4] 5 (by decide) (a :: b :: c :: p :: j :: S))
theorem sub_pack3 {a c p j s : Seg} {S : SS} : Sub (c :: (a ++ (p ++ j)) :: S) (a :: c :: p :: j :: s :: S) :=
  (Sub.cons Sub.join).trans ((Sub.cons (Sub.cons Sub.join)).trans (Sub.sel [1, 0, 2, 3] 5 (by decide) (a :: c :: p :: j :: s :: S)))
theorem sub_pack4 {c p j s : Seg} {S : SS} : Sub (c :: j :: S) (c :: p :: j :: s :: S) := Sub.sel [0, 2] 4 (by decide) (c :: p :: j :: s :: S)
theorem item_snoc {v : Value} {l : List ItemM} {x : ItemM} {seg : Seg} (h : SlV 73 3 v (l.length + 1) (itemS l ++ itemC x) seg) : SlV 73 3 v (l ++ [x]).length (itemS (l ++ [x])) seg := by
  rw [List.length_append, itemS_app]
  have : itemS [x] = itemC x := by simp [itemS]
  rw [this]
  exact h
theorem line_snoc {v : Value} {l : List LineP} {x : LineP} {seg : Seg} (h : SlV 43 35 v (l.length + 1) (lines l ++ lineC x) seg) : SlV 43 35 v (l ++ [x]).length (lines (l ++ [x])) seg := by
  rw [List.length_append, lines_app]
  have : lines [x] = lineC x := by simp [lines]
  rw [this]
  exact h
theorem midsK_len (ps : List PartP) (l : List LineP) (k : Nat) : (midsK ps l k).length ≤ k := by
  unfold midsK
  rw [List.length_map]
  exact Nat.le_trans (List.length_filter_le _ _) (by simp)
theorem blockM_ok {w0 : World} {ps : List PartP} {A M : Option Addr} {c mc : Nat} {l : List LineP} {s p j : Seg} (hs : SlV 3 1 (.slice M (midsK ps l l.length).length mc) (midsK ps l l.length).length (ints (midsK ps l l.length)) s) (hp : SlV 43 35 (.slice A l.length c) l.length (lines l) p) (hl : l.length ≤ 60000) :
    ItemOk w0 (s ++ (p ++ j)) ⟨A, c, l, true, M, mc, midsK ps l l.length⟩ := by
  obtain ⟨A1, c1, e1, _, _, r1⟩ := slv_rdL (w0 := w0) hs
  obtain ⟨A2, c2, e2, _, _, r2⟩ := slv_rdL (w0 := w0) hp
  obtain ⟨rfl, rfl⟩ : M = A1 ∧ mc = c1 := by simpa using e1
  obtain ⟨rfl, rfl⟩ : A = A2 ∧ c = c2 := by simpa using e2
  have := midsK_len ps l l.length
  exact ⟨(r2 []).mono fun q hq => by simp at hq ⊢; exact .inr (.inl hq), (r1 []).mono fun q hq => by simp at hq ⊢; exact .inl hq, hl, Nat.le_trans this hl⟩
theorem solidP_iff {ps : List PartP} {l : List LineP} {x : LineP} : solidP ps l x = true ↔ ∀ y ∈ l, (decide (x.v = y.v) || ordP ps x.v y.v) = true := by unfold solidP; rw [List.all_eq_true]
theorem items_fc {w0 : World} {S X : SS} {m : GrM} {ps : List PartP} (h : GG w0 X m ps) (hX : Over X S) (hn : (allV ps).length ≤ 60000) :
    FC Try.prog w0 33 [m.ptr] (GS m ++ S) (fun v S' => ∃ its seg junk, S' = seg :: junk :: (GS m ++ S) ∧ its.map ItemM.pl = itemsP ps ∧ SlV 73 3 v its.length (itemS its) seg ∧ (∀ x ∈ its, ItemOk w0 junk x) ∧ its.length ≤ 120001) := by
  refine FC.ofD Try.known33 (by simp) ?_
  unfold Try.pc33
  simp only [argT]
  refine PW.seqOps ?_
  refine OL.dp rfl ?_
  refine OL.nil ?_
  refine PW.keep (T' := [(0, _)]) ⟨rfl, trivial⟩ ?_
  refine PW.scope ?_
  refine PW.seqOps ?_
  refine OL.dp rfl ?_
  refine OL.call trivial rfl (lines2_fc h hX) ?_
  rintro _ _ ⟨seg0, rfl, hsl0⟩
  obtain ⟨LA, lc, rfl, hLn, hLc, hrd0⟩ := slv_rdL (w0 := w0) hsl0
  have hln := linesP_len h.sq
  refine OL.call trivial rfl (deleteDead_fc hsl0 (by omega)) ?_
  rintro _ _ ⟨segl, rfl, hsl⟩
  obtain ⟨LB, lcB, rfl, hnB, hcB, hrdB⟩ := slv_rdL (w0 := w0) hsl
  have hlv := live_len (linesP ps)
  have hok : ∀ x ∈ live (linesP ps), okV x.v := fun x hx => by
    obtain ⟨v, hv, rfl⟩ := List.mem_map.1 (List.mem_filter.1 hx).1
    exact h.okV (topoF_mem hv)
  obtain ⟨L, hL⟩ : ∃ z, z = live (linesP ps) := ⟨_, rfl⟩
  have hip : itemsP ps = itemsL ps L := by rw [hL]; rfl
  rw [← hL] at hrdB hcB hlv hok ⊢
  have hLn : L.length ≤ 60000 := by omega
  refine OL.dp rfl ?_
  refine OL.nil ?_
  refine PW.keep (T' := [(0, _), (3, _)]) ⟨rfl, rfl, trivial⟩ ?_
  refine PW.seqOps ?_
  refine OL.dp rfl ?_
  refine OL.nil ?_
  refine PW.keep (T' := [(0, _), (3, _), (4, _)]) ⟨rfl, rfl, rfl, trivial⟩ ?_
  refine PW.seqOps ?_
  refine OL.dp rfl ?_
  refine OL.nil ?_
  refine PW.keep (T' := [(0, _), (3, _), (4, _), (5, _)]) ⟨rfl, rfl, rfl, rfl, trivial⟩ ?_
  refine PW.seq fun K1 hK1 => ?_
  refine PW.label ?_
  refine hK1 _ _ ?_
  refine PW.keep (T' := [(0, _), (3, _), (4, _), (5, _)]) ⟨rfl, rfl, rfl, rfl, trivial⟩ ?_
  refine PW.seq fun K2 hK2 => ?_
  refine PW.seqOps ?_
  refine OL.subS (S' := [] :: [] :: [] :: segl :: (GS m ++ S)) (Sub.nilL (Sub.nilL (Sub.nilL (Sub.refl _)))) ?_
  refine OL.dp rfl ?_
  refine OL.dp rfl ?_
  refine OL.dp rfl ?_
  refine OL.nil ?_
  refine PW.keep (T' := [(0, _), (3, _), (4, _), (5, _), (13, _), (14, _), (15, _)]) ⟨rfl, rfl, rfl, rfl, rfl, rfl, rfl, trivial⟩ ?_
  refine PW.block ?_
  refine PW.keep (T' := [(0, _), (3, _), (4, _), (5, _), (13, _), (14, _), (15, _)]) ⟨rfl, rfl, rfl, rfl, rfl, rfl, rfl, trivial⟩ ?_
  refine PW.loopK (I := fun mm T S' => ∃ (k : Nat) (its : List ItemM) (op : List LineP) (vo vp : Value) (sgo sgp junk : Seg), (k ≤ L.length ∧ mm = L.length - k ∧ (its.map ItemM.pl, op) = foldI ps L k ∧ its.length ≤ 2 * k ∧ op.length ≤ k ∧ SlV 73 3 vo its.length (itemS its) sgo ∧ SlV 43 35 vp op.length (lines op) sgp ∧ (∀ x ∈ its, ItemOk w0 junk x) ∧ (∀ x ∈ op, x ∈ L)) ∧ T = ([(0, m.ptr), (3, .slice LB L.length lcB), (4, vo), (5, vp), (13, .slice LB L.length lcB), (14, .int .i64 (L.length : Int)), (15, .int .i64 k)] : TT) ∧ S' = sgo :: sgp :: junk :: segl :: (GS m ++ S)) (m := L.length) ⟨0, [], [], _, _, [], [], [], ⟨by omega, by omega, rfl, Nat.zero_le _, Nat.zero_le _, SlV.nil 73 3, SlV.nil 43 35, (fun x hx => by cases hx), (fun x hx => by cases hx)⟩, rfl, rfl⟩ ?_
  rintro mm _ _ ⟨k, its, op, vo, vp, sgo, sgp, junk, ⟨hk, hmm, hfold, hitl, hopl, hso, hsp, hio, hin⟩, rfl, rfl⟩
  obtain ⟨Ap, cp, rfl, hnp, hcp, hrdp⟩ := slv_rdL (w0 := w0) hsp
  refine PW.seqOps ?_
  refine OL.dp rfl ?_
  refine OL.nil ?_
  refine PW.keep (T' := [(0, _), (3, _), (4, _), (5, _), (13, _), (14, _), (15, _), (16, _)]) ⟨rfl, rfl, rfl, rfl, rfl, rfl, rfl, rfl, trivial⟩ ?_
  refine PW.seq fun K3 hK3 => ?_
  refine PW.cond rfl (fun c16 => ?_) (fun c16 => ?_)
  · try simp only [decide_eq_true_eq, decide_eq_false_iff_not, beq_iff_eq, bne_iff_ne, beq_eq_false_iff_ne, bne_eq_false_iff_eq, Bool.not_eq_true', Bool.not_eq_false', Bool.not_eq_true, ne_eq, Decidable.not_not, Bool.false_eq_true, if_false, if_true] at c16
    have hkl : k < L.length := by omega
    obtain ⟨a0, rfl⟩ := lines_some (hrdB []) (by omega)
    refine PW.skip ?_
    refine hK3 _ _ ?_
    refine PW.keep (T' := [(0, _), (3, _), (4, _), (5, _), (13, _), (14, _), (15, _)]) ⟨rfl, rfl, rfl, rfl, rfl, rfl, rfl, trivial⟩ ?_
    refine PW.seq fun K4 hK4 => ?_
    refine PW.block ?_
    refine PW.seqOps ?_
    refine OL.det trivial (Yields.ixN rfl rfl rfl hkl) ?_
    refine OL.det trivial (Yields.ldA rfl (lineC_len _) (line_at (rd_mem (hrdB []) (by simp)) hkl)) ?_
    refine OL.cons trivial OW.al ?_
    rintro _ _ ⟨r7, rfl, rfl⟩
    refine OL.cons trivial (line_st rfl rfl rfl) ?_
    rintro _ _ rfl
    change OL _ _ _ _ _ (lseg r7 L[k] :: sgo :: sgp :: junk :: segl :: (GS m ++ S)) _
    refine OL.nil ?_
    refine PW.keep (T' := [(0, _), (3, _), (4, _), (5, _), (7, _), (13, _), (14, _), (15, _)]) ⟨rfl, rfl, rfl, rfl, rfl, rfl, rfl, rfl, trivial⟩ ?_
    refine PW.seq fun K5 hK5 => ?_
    refine PW.seqOps ?_
    refine OL.dp rfl ?_
    refine OL.dp rfl ?_
    refine OL.dp rfl ?_
    refine OL.nil ?_
    refine PW.keep (T' := [(0, _), (3, _), (4, _), (5, _), (7, _), (13, _), (14, _), (15, _), (19, _), (20, _), (21, _)]) ⟨rfl, rfl, rfl, rfl, rfl, rfl, rfl, rfl, rfl, rfl, rfl, trivial⟩ ?_
    refine PW.block ?_
    refine PW.keep (T' := [(0, _), (3, _), (4, _), (5, _), (7, _), (13, _), (14, _), (15, _), (19, _), (20, _), (21, _)]) ⟨rfl, rfl, rfl, rfl, rfl, rfl, rfl, rfl, rfl, rfl, rfl, trivial⟩ ?_
    refine PW.loopK (I := fun mj T S' => ∃ j : Nat, (j ≤ L.length ∧ mj = L.length - j ∧ ∀ y ∈ L.take j, (decide (L[k].v = y.v) || ordP ps L[k].v y.v) = true) ∧ T = ([(0, m.ptr), (3, .slice (some a0) L.length lcB), (4, vo), (5, .slice Ap op.length cp), (7, .pointer (some ⟨r7, 0, none⟩)), (13, .slice (some a0) L.length lcB), (14, .int .i64 (L.length : Int)), (15, .int .i64 k), (19, .slice (some a0) L.length lcB), (20, .int .i64 (L.length : Int)), (21, .int .i64 j)] : TT) ∧ S' = lseg r7 L[k] :: sgo :: sgp :: junk :: segl :: (GS m ++ S)) (m := L.length) ⟨0, ⟨by omega, by omega, by simp⟩, rfl, rfl⟩ ?_
    rintro mj _ _ ⟨j, ⟨hj, hmj, hall⟩, rfl, rfl⟩
    refine PW.seqOps ?_
    refine OL.dp rfl ?_
    refine OL.nil ?_
    refine PW.keep (T' := [(0, _), (3, _), (4, _), (5, _), (7, _), (13, _), (14, _), (15, _), (19, _), (20, _), (21, _), (22, _)]) ⟨rfl, rfl, rfl, rfl, rfl, rfl, rfl, rfl, rfl, rfl, rfl, rfl, trivial⟩ ?_
    refine PW.seq fun K6 hK6 => ?_
    refine PW.cond rfl (fun c22 => ?_) (fun c22 => ?_)
    · try simp only [decide_eq_true_eq, decide_eq_false_iff_not, beq_iff_eq, bne_iff_ne, beq_eq_false_iff_ne, bne_eq_false_iff_eq, Bool.not_eq_true', Bool.not_eq_false', Bool.not_eq_true, ne_eq, Decidable.not_not, Bool.false_eq_true, if_false, if_true] at c22
      have hjl : j < L.length := by omega
      refine PW.skip ?_
      refine hK6 _ _ ?_
      refine PW.keep (T' := [(0, _), (3, _), (4, _), (5, _), (7, _), (13, _), (14, _), (15, _), (19, _), (20, _), (21, _)]) ⟨rfl, rfl, rfl, rfl, rfl, rfl, rfl, rfl, rfl, rfl, rfl, trivial⟩ ?_
      refine PW.seq fun K7 hK7 => ?_
      refine PW.block ?_
      refine PW.seqOps ?_
      refine OL.det trivial (Yields.ixN rfl rfl rfl hjl) ?_
      refine OL.det trivial (Yields.ldA rfl (lineC_len _) (line_at (rd_mem (hrdB []) (by simp)) hjl)) ?_
      refine OL.cons trivial OW.al ?_
      rintro _ _ ⟨r9, rfl, rfl⟩
      refine OL.cons trivial (line_st rfl rfl rfl) ?_
      rintro _ _ rfl
      change OL _ _ _ _ _ (lseg r9 L[j] :: lseg r7 L[k] :: sgo :: sgp :: junk :: segl :: (GS m ++ S)) _
      refine OL.nil ?_
      refine PW.keep (T' := [(0, _), (3, _), (4, _), (5, _), (7, _), (9, _), (13, _), (14, _), (15, _), (19, _), (20, _), (21, _)]) ⟨rfl, rfl, rfl, rfl, rfl, rfl, rfl, rfl, rfl, rfl, rfl, rfl, trivial⟩ ?_
      refine PW.seqOps ?_
      refine OL.dp rfl ?_
      refine OL.det trivial (Yields.ldA rfl (vtxL_len _) (lcell_vtx (x := L[k]) (E := 43) (tot := 35) (List.mem_flatten.2 ⟨_, .tail _ (.head _), List.mem_singleton.2 rfl⟩))) ?_
      refine OL.dp rfl ?_
      refine OL.det trivial (Yields.ldA rfl (vtxL_len _) (lcell_vtx (x := L[j]) (E := 43) (tot := 35) (List.mem_flatten.2 ⟨_, .head _, List.mem_singleton.2 rfl⟩))) ?_
      refine OL.det trivial (Yields.eqD (neg := true) rfl rfl (eqL_vtx _ _)) ?_
      refine OL.bool trivial (Yields.pure rfl) (fun g30 => ?_) (fun g30 => ?_)
      · try simp only [decide_eq_true_eq, decide_eq_false_iff_not, beq_iff_eq, bne_iff_ne, beq_eq_false_iff_ne, bne_eq_false_iff_eq, Bool.not_eq_true', Bool.not_eq_false', Bool.not_eq_true, ne_eq, Decidable.not_not, Bool.false_eq_true, if_false, if_true] at g30
        refine OL.det rfl (Yields.pure rfl) ?_
        refine OL.det rfl (Yields.ldA rfl (lineC_len _) (lcell (x := L[k]) (E := 43) (tot := 35) (List.mem_flatten.2 ⟨_, .tail _ (.head _), List.mem_singleton.2 rfl⟩))) ?_
        refine OL.det rfl (Yields.ldA rfl (lineC_len _) (lcell (x := L[j]) (E := 43) (tot := 35) (List.mem_flatten.2 ⟨_, .head _, List.mem_singleton.2 rfl⟩))) ?_
        refine OL.call rfl rfl (ordered_fc (x := L[k]) (y := L[j]) h ((Over.both hX).cons.cons.cons.cons.cons.cons) (hok _ (List.getElem_mem _)) (hok _ (List.getElem_mem _))) ?_
        rintro _ Sx ⟨rfl, hSx⟩
        rw [hSx]
        clear hSx
        refine OL.det rfl (Yields.pure rfl) ?_
        refine OL.dp rfl ?_
        refine OL.nil ?_
        refine PW.keep (T' := [(0, _), (3, _), (4, _), (5, _), (7, _), (13, _), (14, _), (15, _), (19, _), (20, _), (21, _), (36, _)]) ⟨rfl, rfl, rfl, rfl, rfl, rfl, rfl, rfl, rfl, rfl, rfl, rfl, trivial⟩ ?_
        refine PW.cond rfl (fun c36 => ?_) (fun c36 => ?_)
        · skip
          refine PW.seqOps ?_
          refine OL.dp rfl ?_
          refine OL.det trivial (Yields.ldA rfl (lineC_len _) (lcell (x := L[k]) (E := 43) (tot := 35) (List.mem_flatten.2 ⟨_, .tail _ (.head _), List.mem_singleton.2 rfl⟩))) ?_
          apply OL.app1 (k := 3)
          · rfl
          · rfl
          · exact (List.size_toArray).trans (lineC_len _)
          · rfl
          · rfl
          · rfl
          · exact hsp
          · exact lineC_one _
          · omega
          · unfold maxLen; omega
          intro v40 seg40 hsl40
          refine OL.dp rfl ?_
          refine OL.nil ?_
          refine PW.keep (T' := [(0, _), (3, _), (4, _), (5, _), (13, _), (14, _), (15, _)]) ⟨rfl, rfl, rfl, rfl, rfl, rfl, rfl, trivial⟩ ?_
          refine PW.exit ?_
          refine hK4 _ _ ?_
          refine PW.keep (T' := [(0, _), (3, _), (4, _), (5, _), (13, _), (14, _), (15, _)]) ⟨rfl, rfl, rfl, rfl, rfl, rfl, rfl, trivial⟩ ?_
          refine PW.ops ?_
          refine OL.det trivial (Yields.add64 rfl rfl (by omega) (by omega)) ?_
          refine OL.dp rfl ?_
          refine OL.nil ?_
          repeat rw [inBlk_n]
          try rw [thenK_n]
          refine LoopEnd.mkS (Sub.drop (Sub.drop (Sub.refl _))) (T'' := [(0, _), (3, _), (4, _), (5, _), (13, _), (14, _), (15, _)]) ⟨rfl, rfl, rfl, rfl, rfl, rfl, rfl, trivial⟩ ?_
          have hsc := foldI_succ (ps := ps) hkl
          rw [← hfold] at hsc
          unfold stepI at hsc
          have hkl2 : L.length - (k + 1) < mm := by omega
          have hns : ¬ solidP ps L L[k] = true := fun hs => by
            have h1 := solidP_iff.1 hs L[j] (List.getElem_mem hjl)
            simp at g30 c36
            simp [g30, c36] at h1
          rw [if_neg hns] at hsc
          exact ⟨_, hkl2, k + 1, its, op ++ [L[k]], vo, _, sgo, seg40, junk, ⟨by omega, rfl, hsc.symm, by omega, by rw [List.length_append]; exact Nat.succ_le_succ hopl, hso, line_snoc hsl40, hio, fun x hx => by
            rcases List.mem_append.1 hx with h | h
            · exact hin x h
            · rw [List.mem_singleton] at h; subst h; exact List.getElem_mem _⟩, rfl, rfl⟩
        · skip
          refine PW.skip ?_
          refine hK7 _ _ ?_
          refine PW.keep (T' := [(0, _), (3, _), (4, _), (5, _), (7, _), (13, _), (14, _), (15, _), (19, _), (20, _), (21, _)]) ⟨rfl, rfl, rfl, rfl, rfl, rfl, rfl, rfl, rfl, rfl, rfl, trivial⟩ ?_
          refine PW.ops ?_
          refine OL.det trivial (Yields.add64 rfl rfl (by omega) (by omega)) ?_
          refine OL.dp rfl ?_
          refine OL.nil ?_
          repeat rw [inBlk_n]
          try rw [thenK_n]
          refine LoopEnd.mkS (Sub.drop (Sub.refl _)) (T'' := [(0, _), (3, _), (4, _), (5, _), (7, _), (13, _), (14, _), (15, _), (19, _), (20, _), (21, _)]) ⟨rfl, rfl, rfl, rfl, rfl, rfl, rfl, rfl, rfl, rfl, rfl, trivial⟩ ?_
          refine ⟨L.length - (j + 1), by omega, j + 1, ⟨by omega, rfl, fun y hy => ?_⟩, rfl, rfl⟩
          rw [ltake_snoc hjl] at hy
          rcases List.mem_append.1 hy with h | h
          · exact hall y h
          · rw [List.mem_singleton] at h
            subst h
            first
              | (simp [g30]; done)
              | (simp at c36; simp [c36]; done)
              | (simp [c36]; done)
      · try simp only [decide_eq_true_eq, decide_eq_false_iff_not, beq_iff_eq, bne_iff_ne, beq_eq_false_iff_ne, bne_eq_false_iff_eq, Bool.not_eq_true', Bool.not_eq_false', Bool.not_eq_true, ne_eq, Decidable.not_not, Bool.false_eq_true, if_false, if_true] at g30
        refine OL.off rfl rfl ?_
        refine OL.off rfl rfl ?_
        refine OL.off rfl rfl ?_
        refine OL.off rfl rfl ?_
        refine OL.off rfl rfl ?_
        refine OL.dp rfl ?_
        refine OL.nil ?_
        refine PW.keep (T' := [(0, _), (3, _), (4, _), (5, _), (7, _), (13, _), (14, _), (15, _), (19, _), (20, _), (21, _), (36, _)]) ⟨rfl, rfl, rfl, rfl, rfl, rfl, rfl, rfl, rfl, rfl, rfl, rfl, trivial⟩ ?_
        refine PW.ite (b := false) rfl ?_
        rw [if_neg Bool.false_ne_true]
        refine PW.skip ?_
        refine hK7 _ _ ?_
        refine PW.keep (T' := [(0, _), (3, _), (4, _), (5, _), (7, _), (13, _), (14, _), (15, _), (19, _), (20, _), (21, _)]) ⟨rfl, rfl, rfl, rfl, rfl, rfl, rfl, rfl, rfl, rfl, rfl, trivial⟩ ?_
        refine PW.ops ?_
        refine OL.det trivial (Yields.add64 rfl rfl (by omega) (by omega)) ?_
        refine OL.dp rfl ?_
        refine OL.nil ?_
        repeat rw [inBlk_n]
        try rw [thenK_n]
        refine LoopEnd.mkS (Sub.drop (Sub.refl _)) (T'' := [(0, _), (3, _), (4, _), (5, _), (7, _), (13, _), (14, _), (15, _), (19, _), (20, _), (21, _)]) ⟨rfl, rfl, rfl, rfl, rfl, rfl, rfl, rfl, rfl, rfl, rfl, trivial⟩ ?_
        refine ⟨L.length - (j + 1), by omega, j + 1, ⟨by omega, rfl, fun y hy => ?_⟩, rfl, rfl⟩
        rw [ltake_snoc hjl] at hy
        rcases List.mem_append.1 hy with h | h
        · exact hall y h
        · rw [List.mem_singleton] at h
          subst h
          first
            | (simp [g30]; done)
            | (simp at c36; simp [c36]; done)
            | (simp [c36]; done)
    · try simp only [decide_eq_true_eq, decide_eq_false_iff_not, beq_iff_eq, bne_iff_ne, beq_eq_false_iff_ne, bne_eq_false_iff_eq, Bool.not_eq_true', Bool.not_eq_false', Bool.not_eq_true, ne_eq, Decidable.not_not, Bool.false_eq_true, if_false, if_true] at c22
      refine PW.exit ?_
      refine hK5 _ _ ?_
      refine PW.keep (T' := [(0, _), (3, _), (4, _), (5, _), (7, _), (13, _), (14, _), (15, _)]) ⟨rfl, rfl, rfl, rfl, rfl, rfl, rfl, rfl, trivial⟩ ?_
      refine PW.seq fun K8 hK8 => ?_
      refine PW.seqOps ?_
      refine OL.dp rfl ?_
      refine OL.dp rfl ?_
      refine OL.dp rfl ?_
      refine OL.nil ?_
      refine PW.keep (T' := [(0, _), (3, _), (4, _), (5, _), (7, _), (13, _), (14, _), (15, _), (44, _)]) ⟨rfl, rfl, rfl, rfl, rfl, rfl, rfl, rfl, rfl, trivial⟩ ?_
      refine PW.cond rfl (fun c44 => ?_) (fun c44 => ?_)
      · try simp only [decide_eq_true_eq, decide_eq_false_iff_not, beq_iff_eq, bne_iff_ne, beq_eq_false_iff_ne, bne_eq_false_iff_eq, Bool.not_eq_true', Bool.not_eq_false', Bool.not_eq_true, ne_eq, Decidable.not_not, Bool.false_eq_true, if_false, if_true] at c44
        refine PW.seqOps ?_
        refine OL.dp rfl ?_
        refine OL.dp rfl ?_
        refine OL.dp rfl ?_
        refine OL.call trivial rfl (by exact block_fc (X := X) h ((Over.both hX).cons.cons.cons.cons.cons) (rd_mem (hrdp []) (by simp)) (fun x hx => hok x (hin x hx)) (by omega)) ?_
        rintro _ _ ⟨Mb, mcb, segm, rfl, rfl, hsm⟩
        apply OL.app1 (k := 2)
        · rfl
        · rfl
        · rfl
        · rfl
        · rfl
        · rfl
        · exact hso
        · rfl
        · omega
        · unfold maxLen; omega
        intro v50 seg50 hsl50
        refine OL.subS (S' := lseg r7 L[k] :: seg50 :: [] :: (segm ++ (sgp ++ junk)) :: segl :: (GS m ++ S)) sub_pack ?_
        have hok2 := blockM_ok (j := junk) hsm hsp (w0 := w0) (by omega)
        have hso2 := item_snoc (x := ⟨Ap, cp, op, true, Mb, mcb, midsK ps op op.length⟩) hsl50
        refine OL.dp rfl ?_
        refine OL.nil ?_
        refine PW.keep (T' := [(0, _), (3, _), (4, _), (7, _), (13, _), (14, _), (15, _)]) ⟨rfl, rfl, rfl, rfl, rfl, rfl, rfl, trivial⟩ ?_
        refine PW.ops ?_
        refine OL.dp rfl ?_
        refine OL.nil ?_
        refine hK8 _ _ ?_
        refine PW.keep (T' := [(0, _), (3, _), (4, _), (5, _), (7, _), (13, _), (14, _), (15, _)]) ⟨rfl, rfl, rfl, rfl, rfl, rfl, rfl, rfl, trivial⟩ ?_
        refine PW.ops ?_
        refine OL.dp rfl ?_
        refine OL.det trivial (Yields.ldA rfl (lineC_len _) (lcell (x := L[k]) (E := 43) (tot := 35) (List.mem_flatten.2 ⟨_, .head _, List.mem_singleton.2 rfl⟩))) ?_
        refine OL.cons trivial (OW.bsl (cs := lineC L[k]) (fill_line1 rfl rfl)) ?_
        rintro _ _ ⟨r53, rfl, rfl⟩
        rw [lineC_len]
        refine OL.det trivial (Yields.build (cs := itemC ⟨some ⟨r53, 0, none⟩, 1, [L[k]], false, none, 0, []⟩) rfl) ?_
        apply OL.app1 (k := 2)
        · rfl
        · rfl
        · rfl
        · rfl
        · rfl
        · rfl
        · exact (by first | exact hso2 | exact hso)
        · rfl
        · (first | omega | (simp only [List.length_append, List.length_cons, List.length_nil]; omega))
        · unfold maxLen; (first | omega | (simp only [List.length_append, List.length_cons, List.length_nil]; omega))
        intro v56 seg56 hsl56
        refine OL.dp rfl ?_
        refine OL.nil ?_
        refine hK4 _ _ ?_
        refine PW.keep (T' := [(0, _), (3, _), (4, _), (5, _), (13, _), (14, _), (15, _)]) ⟨rfl, rfl, rfl, rfl, rfl, rfl, rfl, trivial⟩ ?_
        refine PW.ops ?_
        refine OL.det trivial (Yields.add64 rfl rfl (by omega) (by omega)) ?_
        refine OL.dp rfl ?_
        refine OL.nil ?_
        repeat rw [inBlk_n]
        try rw [thenK_n]
        refine LoopEnd.mkS (sub_pack2) (T'' := [(0, _), (3, _), (4, _), (5, _), (13, _), (14, _), (15, _)]) ⟨rfl, rfl, rfl, rfl, rfl, rfl, rfl, trivial⟩ ?_
        have hsc := foldI_succ (ps := ps) hkl
        rw [← hfold] at hsc
        unfold stepI at hsc
        have hkl2 : L.length - (k + 1) < mm := by omega
        have hs : solidP ps L L[k] = true := solidP_iff.2 fun y hy => hall y (by rw [List.take_of_length_le (by omega)]; exact hy)
        have hne : op ≠ [] := fun e => by subst e; simp at c44
        rw [if_pos hs] at hsc
        unfold shut at hsc
        rw [if_neg hne] at hsc
        have hrow : ItemOk w0 ([(r53, AO.cells (lineC L[k]) 43 35)] ++ (segm ++ (sgp ++ junk))) ⟨some ⟨r53, 0, none⟩, 1, [L[k]], false, none, 0, []⟩ := ⟨(Rd.own (E := 43) (tot := 35) (by simp [lines])).mono (fun q hq => hq), Rd.nil, Nat.succ_le_succ (Nat.zero_le _), Nat.zero_le _⟩
        exact ⟨_, hkl2, k + 1, its ++ [⟨Ap, cp, op, true, Mb, mcb, midsK ps op op.length⟩] ++ [⟨some ⟨r53, 0, none⟩, 1, [L[k]], false, none, 0, []⟩], [], _, _, seg56, [], [(r53, AO.cells (lineC L[k]) 43 35)] ++ (segm ++ (sgp ++ junk)), ⟨by omega, rfl, by rw [hsc, List.map_append, List.map_append]; rfl, by simp only [List.length_append, List.length_cons, List.length_nil]; omega, Nat.zero_le _, item_snoc hsl56, SlV.nil 43 35, fun x hx => by
          rcases List.mem_append.1 hx with h | h
          · rcases List.mem_append.1 h with h | h
            · exact (hio x h).more fun q hq => by simp [hq]
            · rw [List.mem_singleton] at h; subst h; exact hok2.more fun q hq => List.mem_append_right _ hq
          · rw [List.mem_singleton] at h; subst h; exact hrow, fun x hx => by cases hx⟩, rfl, rfl⟩
      · try simp only [decide_eq_true_eq, decide_eq_false_iff_not, beq_iff_eq, bne_iff_ne, beq_eq_false_iff_ne, bne_eq_false_iff_eq, Bool.not_eq_true', Bool.not_eq_false', Bool.not_eq_true, ne_eq, Decidable.not_not, Bool.false_eq_true, if_false, if_true] at c44
        refine PW.skip ?_
        refine hK8 _ _ ?_
        refine PW.keep (T' := [(0, _), (3, _), (4, _), (5, _), (7, _), (13, _), (14, _), (15, _)]) ⟨rfl, rfl, rfl, rfl, rfl, rfl, rfl, rfl, trivial⟩ ?_
        refine PW.ops ?_
        refine OL.dp rfl ?_
        refine OL.det trivial (Yields.ldA rfl (lineC_len _) (lcell (x := L[k]) (E := 43) (tot := 35) (List.mem_flatten.2 ⟨_, .head _, List.mem_singleton.2 rfl⟩))) ?_
        refine OL.cons trivial (OW.bsl (cs := lineC L[k]) (fill_line1 rfl rfl)) ?_
        rintro _ _ ⟨r53, rfl, rfl⟩
        rw [lineC_len]
        refine OL.det trivial (Yields.build (cs := itemC ⟨some ⟨r53, 0, none⟩, 1, [L[k]], false, none, 0, []⟩) rfl) ?_
        apply OL.app1 (k := 2)
        · rfl
        · rfl
        · rfl
        · rfl
        · rfl
        · rfl
        · exact (by first | exact hso2 | exact hso)
        · rfl
        · (first | omega | (simp only [List.length_append, List.length_cons, List.length_nil]; omega))
        · unfold maxLen; (first | omega | (simp only [List.length_append, List.length_cons, List.length_nil]; omega))
        intro v56 seg56 hsl56
        refine OL.dp rfl ?_
        refine OL.nil ?_
        refine hK4 _ _ ?_
        refine PW.keep (T' := [(0, _), (3, _), (4, _), (5, _), (13, _), (14, _), (15, _)]) ⟨rfl, rfl, rfl, rfl, rfl, rfl, rfl, trivial⟩ ?_
        refine PW.ops ?_
        refine OL.det trivial (Yields.add64 rfl rfl (by omega) (by omega)) ?_
        refine OL.dp rfl ?_
        refine OL.nil ?_
        repeat rw [inBlk_n]
        try rw [thenK_n]
        refine LoopEnd.mkS (sub_pack2) (T'' := [(0, _), (3, _), (4, _), (5, _), (13, _), (14, _), (15, _)]) ⟨rfl, rfl, rfl, rfl, rfl, rfl, rfl, trivial⟩ ?_
        have hsc := foldI_succ (ps := ps) hkl
        rw [← hfold] at hsc
        unfold stepI at hsc
        have hkl2 : L.length - (k + 1) < mm := by omega
        have hs : solidP ps L L[k] = true := solidP_iff.2 fun y hy => hall y (by rw [List.take_of_length_le (by omega)]; exact hy)
        have hne : op = [] := List.eq_nil_of_length_eq_zero (by omega)
        rw [if_pos hs] at hsc
        unfold shut at hsc
        rw [if_pos hne] at hsc
        have hrow : ItemOk w0 ([(r53, AO.cells (lineC L[k]) 43 35)] ++ junk) ⟨some ⟨r53, 0, none⟩, 1, [L[k]], false, none, 0, []⟩ := ⟨(Rd.own (E := 43) (tot := 35) (by simp [lines])).mono (fun q hq => hq), Rd.nil, Nat.succ_le_succ (Nat.zero_le _), Nat.zero_le _⟩
        exact ⟨_, hkl2, k + 1, its ++ [⟨some ⟨r53, 0, none⟩, 1, [L[k]], false, none, 0, []⟩], [], _, _, seg56, sgp, [(r53, AO.cells (lineC L[k]) 43 35)] ++ junk, ⟨by omega, rfl, by rw [hsc, List.map_append]; simp; rfl, by simp only [List.length_append, List.length_cons, List.length_nil]; omega, Nat.zero_le _, item_snoc hsl56, by subst hne; exact hsp, fun x hx => by
          rcases List.mem_append.1 hx with h | h
          · exact (hio x h).more fun q hq => by simp [hq]
          · rw [List.mem_singleton] at h; subst h; exact hrow, fun x hx => by cases hx⟩, rfl, rfl⟩
  · try simp only [decide_eq_true_eq, decide_eq_false_iff_not, beq_iff_eq, bne_iff_ne, beq_eq_false_iff_ne, bne_eq_false_iff_eq, Bool.not_eq_true', Bool.not_eq_false', Bool.not_eq_true, ne_eq, Decidable.not_not, Bool.false_eq_true, if_false, if_true] at c16
    refine PW.exit ?_
    refine hK2 _ _ ?_
    refine PW.keep (T' := [(0, _), (4, _), (5, _)]) ⟨rfl, rfl, rfl, trivial⟩ ?_
    refine PW.seq fun K9 hK9 => ?_
    refine PW.seqOps ?_
    refine OL.dp rfl ?_
    refine OL.dp rfl ?_
    refine OL.dp rfl ?_
    refine OL.nil ?_
    refine PW.keep (T' := [(0, _), (4, _), (5, _), (60, _)]) ⟨rfl, rfl, rfl, rfl, trivial⟩ ?_
    refine PW.cond rfl (fun c60 => ?_) (fun c60 => ?_)
    · try simp only [decide_eq_true_eq, decide_eq_false_iff_not, beq_iff_eq, bne_iff_ne, beq_eq_false_iff_ne, bne_eq_false_iff_eq, Bool.not_eq_true', Bool.not_eq_false', Bool.not_eq_true, ne_eq, Decidable.not_not, Bool.false_eq_true, if_false, if_true] at c60
      refine PW.ops ?_
      refine OL.dp rfl ?_
      refine OL.dp rfl ?_
      refine OL.dp rfl ?_
      refine OL.call trivial rfl (by exact block_fc (X := X) h ((Over.both hX).cons.cons.cons.cons) (rd_mem (hrdp []) (by simp)) (fun x hx => hok x (hin x hx)) (by omega)) ?_
      rintro _ _ ⟨Mb, mcb, segm, rfl, rfl, hsm⟩
      apply OL.app1 (k := 1)
      · rfl
      · rfl
      · rfl
      · rfl
      · rfl
      · rfl
      · exact hso
      · rfl
      · omega
      · unfold maxLen; omega
      intro v66 seg66 hsl66
      have hok2 := blockM_ok (j := junk) hsm hsp (w0 := w0) (by omega)
      have hso2 := item_snoc (x := ⟨Ap, cp, op, true, Mb, mcb, midsK ps op op.length⟩) hsl66
      have hke : k = L.length := by omega
      have hsub : Sub (seg66 :: (segm ++ (sgp ++ junk)) :: (GS m ++ S)) (segm :: seg66 :: sgp :: junk :: segl :: (GS m ++ S)) := sub_pack3
      have hpost : ∃ its2 seg2 junk2, seg66 :: (segm ++ (sgp ++ junk)) :: (GS m ++ S) = seg2 :: junk2 :: (GS m ++ S) ∧ its2.map ItemM.pl = itemsP ps ∧ SlV 73 3 v66 its2.length (itemS its2) seg2 ∧ (∀ x ∈ its2, ItemOk w0 junk2 x) ∧ its2.length ≤ 120001 := ⟨its ++ [⟨Ap, cp, op, true, Mb, mcb, midsK ps op op.length⟩], seg66, segm ++ (sgp ++ junk), rfl, by
        subst hke
        have hne : op ≠ [] := fun e => by subst e; simp at c60
        rw [hip]
        unfold itemsL
        rw [← hfold]
        unfold shut
        rw [if_neg hne, List.map_append]
        rfl, hso2, (fun x hx => by
        rcases List.mem_append.1 hx with h | h
        · exact (hio x h).more fun q hq => by simp [hq]
        · rw [List.mem_singleton] at h; subst h; exact hok2), by rw [List.length_append]; simp only [List.length_cons, List.length_nil]; omega⟩
      refine OL.dp rfl ?_
      refine OL.nil ?_
      refine hK9 _ _ ?_
      refine PW.keep (T' := [(4, _)]) ⟨rfl, trivial⟩ ?_
      refine PW.seqOps ?_
      refine OL.dp rfl ?_
      refine OL.dp rfl ?_
      refine OL.nil ?_
      refine PW.keep (T' := [(2, _)]) ⟨rfl, trivial⟩ ?_
      refine PW.ret ?_
      change (Exit.ret = Exit.normal ∨ Exit.ret = Exit.ret) ∧ ∃ v, resV _ _ = some v ∧ _
      exact ⟨.inr rfl, _, rfl, _, hsub, hpost⟩
    · try simp only [decide_eq_true_eq, decide_eq_false_iff_not, beq_iff_eq, bne_iff_ne, beq_eq_false_iff_ne, bne_eq_false_iff_eq, Bool.not_eq_true', Bool.not_eq_false', Bool.not_eq_true, ne_eq, Decidable.not_not, Bool.false_eq_true, if_false, if_true] at c60
      have hke : k = L.length := by omega
      have hsub : Sub (sgo :: junk :: (GS m ++ S)) (sgo :: sgp :: junk :: segl :: (GS m ++ S)) := sub_pack4
      have hpost : ∃ its2 seg2 junk2, sgo :: junk :: (GS m ++ S) = seg2 :: junk2 :: (GS m ++ S) ∧ its2.map ItemM.pl = itemsP ps ∧ SlV 73 3 vo its2.length (itemS its2) seg2 ∧ (∀ x ∈ its2, ItemOk w0 junk2 x) ∧ its2.length ≤ 120001 := ⟨its, sgo, junk, rfl, by
        subst hke
        have hne : op = [] := List.eq_nil_of_length_eq_zero (by omega)
        rw [hip]
        unfold itemsL
        rw [← hfold]
        unfold shut
        rw [if_pos hne]
        simp, hso, hio, by omega⟩
      refine PW.skip ?_
      refine hK9 _ _ ?_
      refine PW.keep (T' := [(4, _)]) ⟨rfl, trivial⟩ ?_
      refine PW.seqOps ?_
      refine OL.dp rfl ?_
      refine OL.dp rfl ?_
      refine OL.nil ?_
      refine PW.keep (T' := [(2, _)]) ⟨rfl, trivial⟩ ?_
      refine PW.ret ?_
      change (Exit.ret = Exit.normal ∨ Exit.ret = Exit.ret) ∧ ∃ v, resV _ _ = some v ∧ _
      exact ⟨.inr rfl, _, rfl, _, hsub, hpost⟩
end Go.Proofs.Gr

set_option linter.unusedVariables false
set_option linter.unusedSimpArgs false
namespace Go.Proofs.Gr
open Go.SL Go.RowKit Go.Proofs Go.GP
set_option maxHeartbeats 1000000
theorem ints_at {w0 : World} {S : SS} {a : Addr} {l : List Int} (h : Rd w0 S (some a) (ints l)) {k : Nat} (hk : k < l.length) : Cell w0 S (a.add k) (.int .i64 l[k]) := h.at (by unfold ints; rw [List.getElem?_map, List.getElem?_eq_getElem hk]; rfl)
theorem ints_some {w0 : World} {S : SS} {A : Option Addr} {l : List Int} (h : Rd w0 S A (ints l)) (hk : 0 < l.length) : ∃ a, A = some a :=
  h.some (fun e => by have := congrArg List.length e; simp [ints] at this; subst this; simp at hk)
theorem itemS_get {l : List ItemM} {k : Nat} (hk : k < l.length) {j : Nat} (hj : j < 3) : (itemS l)[k * 3 + j]? = (itemC l[k])[j]? := by
  unfold itemS
  rw [flat_get itemC_len l (k * 3 + j) (by omega), show (k * 3 + j) / 3 = k from by omega, show (k * 3 + j) % 3 = j from by omega, getElem!_pos l k hk]
theorem itemS_some {w0 : World} {S : SS} {A : Option Addr} {l : List ItemM} (h : Rd w0 S A (itemS l)) (hk : 0 < l.length) : ∃ a, A = some a :=
  h.some (fun e => by have := itemS_len l; rw [e] at this; simp at this; omega)
theorem item_at {w0 : World} {S : SS} {a : Addr} {l : List ItemM} (h : Rd w0 S (some a) (itemS l)) {k : Nat} (hk : k < l.length) : ∀ (j : Nat) (v : Value), (itemC l[k])[j]? = some v → Cell w0 S ((a.add (k * 3)).add j) v := by
  intro j v hj
  have hj2 : j < 3 := by have := (List.getElem?_eq_some_iff.1 hj).1; rwa [itemC_len] at this
  rw [addr_add_add]
  exact h.at (by rw [itemS_get hk hj2]; exact hj)
theorem toL_inj {a b : ByteArray} : a.toList = b.toList ↔ a = b := by
  constructor
  · intro h; rw [ByteArray.toList_eq, ByteArray.toList_eq] at h; cases a; cases b; congr 1; exact Array.toList_inj.1 h
  · rintro rfl; rfl
theorem item_st {w0 : World} {S : SS} {P : Program} {n r : Nat} {T : TT} {x v : PV} {u : ItemM} {z : List Value} (hx : x.val T = some (.pointer (some ⟨r, 0, none⟩))) (hv : v.val T = some (itemV u)) (hz : z.length = 3) :
    OW P w0 n (.st 3 x v) T ([(r, .cells z 73 3)] :: S) (fun _ S' => S' = [(r, .cells (itemC u) 73 3)] :: S) := by
  refine (OW.st (k := 0) (c := z) (u := itemV u) hx hv rfl (show (itemV u).cells.size = 3 from rfl) (by omega) rfl).mono ?_
  rintro _ _ rfl
  rw [item_box, setAll (by rw [itemC_len, hz])]
  rfl
theorem indexI_fc {w0 : World} {S : SS} {A : Option Addr} {c : Nat} {l : List Int} {z : Int} {q : Int → Bool} (hqd : q = fun x => decide (z = x)) (hx : Rd w0 S A (ints l)) (hb : l.length ≤ 1000000000000) :
    FC Try.prog w0 98 [.slice A l.length c, .int .i64 z] S (fun u S' => u = .int .i64 (gidx q l) ∧ S' = S) := by
  refine FC.of Try.known98 (by simp) ?_
  unfold Try.pc98
  simp only [argT]
  refine PW.seqOps ?_
  refine OL.dp rfl ?_
  refine OL.nil ?_
  refine PW.keep (T' := [(0, _), (1, _)]) ⟨rfl, rfl, trivial⟩ ?_
  refine PW.seq fun K1 hK1 => ?_
  refine PW.seqOps ?_
  refine OL.dp rfl ?_
  refine OL.dp rfl ?_
  refine OL.dp rfl ?_
  refine OL.nil ?_
  refine PW.keep (T' := [(0, _), (1, _), (7, _), (8, _)]) ⟨rfl, rfl, rfl, rfl, trivial⟩ ?_
  refine PW.block ?_
  refine PW.keep (T' := [(0, _), (1, _), (7, _), (8, _)]) ⟨rfl, rfl, rfl, rfl, trivial⟩ ?_
  refine PW.loopK (I := fun m T S' => ∃ (k : Nat), (k ≤ l.length ∧ m = l.length - k ∧ ∀ x ∈ l.take k, q x = false) ∧ T = ([(0, .slice A l.length c), (1, .int .i64 z), (7, .int .i64 (l.length : Int)), (8, .int .i64 k)] : TT) ∧ S' = S) (m := l.length) ⟨0, ⟨by omega, by omega, by simp⟩, rfl, rfl⟩ ?_
  rintro m _ _ ⟨k, ⟨hk, hm, hall⟩, rfl, rfl⟩
  refine PW.seqOps ?_
  refine OL.dp rfl ?_
  refine OL.nil ?_
  refine PW.keep (T' := [(0, _), (1, _), (7, _), (8, _), (9, _)]) ⟨rfl, rfl, rfl, rfl, rfl, trivial⟩ ?_
  refine PW.seq fun K2 hK2 => ?_
  refine PW.cond rfl (fun c9 => ?_) (fun c9 => ?_)
  · try simp only [decide_eq_true_eq, decide_eq_false_iff_not, beq_iff_eq, bne_iff_ne, beq_eq_false_iff_ne, bne_eq_false_iff_eq, Bool.not_eq_true', Bool.not_eq_false', Bool.not_eq_true, ne_eq, Decidable.not_not, Bool.false_eq_true, if_false, if_true] at c9
    have hkl : k < l.length := by omega
    obtain ⟨a0, rfl⟩ := ints_some hx (by omega)
    refine PW.skip ?_
    refine hK2 _ _ ?_
    refine PW.keep (T' := [(0, _), (1, _), (7, _), (8, _)]) ⟨rfl, rfl, rfl, rfl, trivial⟩ ?_
    refine PW.seq fun K3 hK3 => ?_
    refine PW.block ?_
    refine PW.seqOps ?_
    refine OL.dp rfl ?_
    refine OL.dp rfl ?_
    refine OL.nil ?_
    refine PW.keep (T' := [(0, _), (1, _), (5, _), (7, _), (8, _)]) ⟨rfl, rfl, rfl, rfl, rfl, trivial⟩ ?_
    refine PW.seqOps ?_
    refine OL.dp rfl ?_
    refine OL.dp rfl ?_
    refine OL.dp rfl ?_
    refine OL.det trivial (Yields.ixN1 rfl rfl rfl (by omega)) ?_
    refine OL.det trivial (Yields.ld rfl (ints_at hx hkl)) ?_
    refine OL.dp rfl ?_
    refine OL.nil ?_
    refine PW.keep (T' := [(0, _), (1, _), (5, _), (7, _), (8, _), (16, _)]) ⟨rfl, rfl, rfl, rfl, rfl, rfl, trivial⟩ ?_
    refine PW.cond rfl (fun c16 => ?_) (fun c16 => ?_)
    · skip
      have hqt : q l[k] = true := by rw [hqd]; simpa using c16
      refine PW.seqOps ?_
      refine OL.dp rfl ?_
      refine OL.dp rfl ?_
      refine OL.nil ?_
      refine PW.keep (T' := [(4, _)]) ⟨rfl, trivial⟩ ?_
      refine PW.ret ?_
      change (Exit.ret = Exit.normal ∨ Exit.ret = Exit.ret) ∧ ∃ v, resV _ _ = some v ∧ _
      exact ⟨.inr rfl, _, rfl, by rw [gidx_take hkl hall hqt], rfl⟩
    · skip
      refine PW.skip ?_
      refine hK3 _ _ ?_
      refine PW.keep (T' := [(0, _), (1, _), (7, _), (8, _)]) ⟨rfl, rfl, rfl, rfl, trivial⟩ ?_
      refine PW.ops ?_
      refine OL.det trivial (Yields.add64 rfl rfl (by omega) (by omega)) ?_
      refine OL.dp rfl ?_
      refine OL.nil ?_
      repeat rw [inBlk_n]
      try rw [thenK_n]
      refine LoopEnd.mk (T'' := [(0, _), (1, _), (7, _), (8, _)]) ⟨rfl, rfl, rfl, rfl, trivial⟩ ?_
      refine ⟨l.length - (k + 1), by omega, k + 1, ⟨by omega, rfl, fun x hx => ?_⟩, rfl, rfl⟩
      rw [ltake_snoc hkl] at hx
      rcases List.mem_append.1 hx with h | h
      · exact hall x h
      · rw [List.mem_singleton] at h; subst h; simpa [hqd] using c16
  · try simp only [decide_eq_true_eq, decide_eq_false_iff_not, beq_iff_eq, bne_iff_ne, beq_eq_false_iff_ne, bne_eq_false_iff_eq, Bool.not_eq_true', Bool.not_eq_false', Bool.not_eq_true, ne_eq, Decidable.not_not, Bool.false_eq_true, if_false, if_true] at c9
    refine PW.exit ?_
    refine hK1 _ _ ?_
    refine PW.keep (T' := []) trivial ?_
    refine PW.seqOps ?_
    refine OL.dp rfl ?_
    refine OL.nil ?_
    refine PW.keep (T' := [(4, _)]) ⟨rfl, trivial⟩ ?_
    refine PW.ret ?_
    change (Exit.ret = Exit.normal ∨ Exit.ret = Exit.ret) ∧ ∃ v, resV _ _ = some v ∧ _
    exact ⟨.inr rfl, _, rfl, by rw [gidx_no (fun x hx => hall x (by rw [List.take_of_length_le (by omega)]; exact hx))], rfl⟩
theorem containsI_fc {w0 : World} {S : SS} {A : Option Addr} {c : Nat} {l : List Int} {z : Int} (hx : Rd w0 S A (ints l)) (hb : l.length ≤ 1000000000000) :
    FC Try.prog w0 76 [.slice A l.length c, .int .i64 z] S (fun u S' => u = .bool (l.contains z) ∧ S' = S) := by
  refine FC.of Try.known76 (by simp) ?_
  unfold Try.pc76
  simp only [argT]
  refine PW.seqOps ?_
  refine OL.dp rfl ?_
  refine OL.nil ?_
  refine PW.keep (T' := [(0, _), (1, _)]) ⟨rfl, rfl, trivial⟩ ?_
  refine PW.seqOps ?_
  refine OL.dp rfl ?_
  refine OL.dp rfl ?_
  refine OL.call trivial rfl (indexI_fc (q := fun x => decide (z = x)) rfl hx hb) ?_
  rintro _ Sx ⟨rfl, hSx⟩
  rw [hSx]
  clear hSx
  refine OL.dp rfl ?_
  refine OL.dp rfl ?_
  refine OL.nil ?_
  refine PW.keep (T' := [(4, _)]) ⟨rfl, trivial⟩ ?_
  refine PW.ret ?_
  change (Exit.ret = Exit.normal ∨ Exit.ret = Exit.ret) ∧ ∃ v, resV _ _ = some v ∧ _
  refine ⟨.inr rfl, _, rfl, congrArg Value.bool ?_, rfl⟩
  rw [Bool.eq_iff_iff, decide_eq_true_eq, iff_of_eq gidx_any, List.any_eq_true, List.contains_iff_mem]
  constructor
  · rintro ⟨x, hx, h⟩
    obtain rfl := of_decide_eq_true h
    exact hx
  · exact fun h => ⟨z, h, by simp⟩
theorem isBlock_fc {w0 : World} {S : SS} {x : ItemM} : FC Try.prog w0 79 [itemV x] S (fun v S' => v = .bool x.block ∧ S' = S) := by
  refine FC.ofD Try.known79 (by simp) ?_
  unfold Try.pc79
  simp only [argT]
  refine PW.seqOps ?_
  refine OL.cons trivial (OW.bx rfl) ?_
  rintro _ _ ⟨r1, rfl, rfl⟩
  rw [item_box, itemC_len]
  refine OL.dp rfl ?_
  refine OL.nil ?_
  refine PW.keep (T' := [(1, _)]) ⟨rfl, trivial⟩ ?_
  refine PW.seqOps ?_
  refine OL.dp rfl ?_
  refine OL.det trivial (Yields.ld rfl (own_at (j := 1) (c := itemC x) (E := 73) (tot := 3) (List.mem_flatten.2 ⟨_, .head _, List.mem_singleton.2 rfl⟩) rfl)) ?_
  refine OL.dp rfl ?_
  refine OL.nil ?_
  refine PW.keep (T' := [(2, _)]) ⟨rfl, trivial⟩ ?_
  refine PW.ret ?_
  change (Exit.ret = Exit.normal ∨ Exit.ret = Exit.ret) ∧ ∃ v, resV _ _ = some v ∧ _
  exact ⟨.inr rfl, _, rfl, _, Sub.drop (Sub.refl _), rfl, rfl⟩
theorem indexFuncI_fc {w0 : World} {S : SS} {A : Option Addr} {c : Nat} {l : List ItemM} {g : FuncId} {ca : List Value} {q : ItemM → Bool} (hx : Rd w0 S A (itemS l)) (hb : l.length ≤ 1000000000000) (hok : fnOk Try.prog g = true)
    (hq : ∀ x ∈ l, FC Try.prog w0 g ([] ++ [itemV x] ++ ca) S (fun u S' => u = .bool (q x) ∧ S' = S)) :
    FC Try.prog w0 99 [.slice A l.length c, .func (.func g) #[] ca.toArray] S (fun u S' => u = .int .i64 (gidx q l) ∧ S' = S) := by
  refine FC.of Try.known99 (by simp) ?_
  unfold Try.pc99
  simp only [argT]
  refine PW.seqOps ?_
  refine OL.dp rfl ?_
  refine OL.nil ?_
  refine PW.keep (T' := [(0, _), (1, _)]) ⟨rfl, rfl, trivial⟩ ?_
  refine PW.seq fun K1 hK1 => ?_
  refine PW.seqOps ?_
  refine OL.dp rfl ?_
  refine OL.dp rfl ?_
  refine OL.dp rfl ?_
  refine OL.nil ?_
  refine PW.keep (T' := [(0, _), (1, _), (7, _), (8, _)]) ⟨rfl, rfl, rfl, rfl, trivial⟩ ?_
  refine PW.block ?_
  refine PW.keep (T' := [(0, _), (1, _), (7, _), (8, _)]) ⟨rfl, rfl, rfl, rfl, trivial⟩ ?_
  refine PW.loopK (I := fun m T S' => ∃ (k : Nat), (k ≤ l.length ∧ m = l.length - k ∧ ∀ x ∈ l.take k, q x = false) ∧ T = ([(0, .slice A l.length c), (1, .func (.func g) #[] ca.toArray), (7, .int .i64 (l.length : Int)), (8, .int .i64 k)] : TT) ∧ S' = S) (m := l.length) ⟨0, ⟨by omega, by omega, by simp⟩, rfl, rfl⟩ ?_
  rintro m _ _ ⟨k, ⟨hk, hm, hall⟩, rfl, rfl⟩
  refine PW.seqOps ?_
  refine OL.dp rfl ?_
  refine OL.nil ?_
  refine PW.keep (T' := [(0, _), (1, _), (7, _), (8, _), (9, _)]) ⟨rfl, rfl, rfl, rfl, rfl, trivial⟩ ?_
  refine PW.seq fun K2 hK2 => ?_
  refine PW.cond rfl (fun c9 => ?_) (fun c9 => ?_)
  · try simp only [decide_eq_true_eq, decide_eq_false_iff_not, beq_iff_eq, bne_iff_ne, beq_eq_false_iff_ne, bne_eq_false_iff_eq, Bool.not_eq_true', Bool.not_eq_false', Bool.not_eq_true, ne_eq, Decidable.not_not, Bool.false_eq_true, if_false, if_true] at c9
    have hkl : k < l.length := by omega
    obtain ⟨a0, rfl⟩ := itemS_some hx (by omega)
    refine PW.skip ?_
    refine hK2 _ _ ?_
    refine PW.keep (T' := [(0, _), (1, _), (7, _), (8, _)]) ⟨rfl, rfl, rfl, rfl, trivial⟩ ?_
    refine PW.seq fun K3 hK3 => ?_
    refine PW.block ?_
    refine PW.seqOps ?_
    refine OL.dp rfl ?_
    refine OL.dp rfl ?_
    refine OL.nil ?_
    refine PW.keep (T' := [(0, _), (1, _), (5, _), (7, _), (8, _)]) ⟨rfl, rfl, rfl, rfl, rfl, trivial⟩ ?_
    refine PW.seqOps ?_
    refine OL.dp rfl ?_
    refine OL.dp rfl ?_
    refine OL.dp rfl ?_
    refine OL.det trivial (Yields.ixN rfl rfl rfl (by omega)) ?_
    refine OL.det trivial (Yields.ldA rfl (itemC_len _) (item_at hx hkl)) ?_
    refine OL.cons trivial (OW.callv (fi := []) (ca := ca) rfl hok rfl (hq _ (List.getElem_mem hkl))) ?_
    rintro _ Sx ⟨rfl, hSx⟩
    rw [hSx]
    clear hSx
    refine OL.nil ?_
    refine PW.keep (T' := [(0, _), (1, _), (5, _), (7, _), (8, _), (16, _)]) ⟨rfl, rfl, rfl, rfl, rfl, rfl, trivial⟩ ?_
    refine PW.cond rfl (fun c16 => ?_) (fun c16 => ?_)
    · skip
      have hqt : q l[k] = true := by simpa using c16
      refine PW.seqOps ?_
      refine OL.dp rfl ?_
      refine OL.dp rfl ?_
      refine OL.nil ?_
      refine PW.keep (T' := [(4, _)]) ⟨rfl, trivial⟩ ?_
      refine PW.ret ?_
      change (Exit.ret = Exit.normal ∨ Exit.ret = Exit.ret) ∧ ∃ v, resV _ _ = some v ∧ _
      exact ⟨.inr rfl, _, rfl, by rw [gidx_take hkl hall hqt], rfl⟩
    · skip
      refine PW.skip ?_
      refine hK3 _ _ ?_
      refine PW.keep (T' := [(0, _), (1, _), (7, _), (8, _)]) ⟨rfl, rfl, rfl, rfl, trivial⟩ ?_
      refine PW.ops ?_
      refine OL.det trivial (Yields.add64 rfl rfl (by omega) (by omega)) ?_
      refine OL.dp rfl ?_
      refine OL.nil ?_
      repeat rw [inBlk_n]
      try rw [thenK_n]
      refine LoopEnd.mk (T'' := [(0, _), (1, _), (7, _), (8, _)]) ⟨rfl, rfl, rfl, rfl, trivial⟩ ?_
      refine ⟨l.length - (k + 1), by omega, k + 1, ⟨by omega, rfl, fun x hx => ?_⟩, rfl, rfl⟩
      rw [ltake_snoc hkl] at hx
      rcases List.mem_append.1 hx with h | h
      · exact hall x h
      · rw [List.mem_singleton] at h; subst h; simpa using c16
  · try simp only [decide_eq_true_eq, decide_eq_false_iff_not, beq_iff_eq, bne_iff_ne, beq_eq_false_iff_ne, bne_eq_false_iff_eq, Bool.not_eq_true', Bool.not_eq_false', Bool.not_eq_true, ne_eq, Decidable.not_not, Bool.false_eq_true, if_false, if_true] at c9
    refine PW.exit ?_
    refine hK1 _ _ ?_
    refine PW.keep (T' := []) trivial ?_
    refine PW.seqOps ?_
    refine OL.dp rfl ?_
    refine OL.nil ?_
    refine PW.keep (T' := [(4, _)]) ⟨rfl, trivial⟩ ?_
    refine PW.ret ?_
    change (Exit.ret = Exit.normal ∨ Exit.ret = Exit.ret) ∧ ∃ v, resV _ _ = some v ∧ _
    exact ⟨.inr rfl, _, rfl, by rw [gidx_no (fun x hx => hall x (by rw [List.take_of_length_le (by omega)]; exact hx))], rfl⟩
theorem containsFuncI_fc {w0 : World} {S : SS} {A : Option Addr} {c : Nat} {l : List ItemM} {g : FuncId} {ca : List Value} {q : ItemM → Bool} (hx : Rd w0 S A (itemS l)) (hb : l.length ≤ 1000000000000) (hok : fnOk Try.prog g = true)
    (hq : ∀ x ∈ l, FC Try.prog w0 g ([] ++ [itemV x] ++ ca) S (fun u S' => u = .bool (q x) ∧ S' = S)) :
    FC Try.prog w0 78 [.slice A l.length c, .func (.func g) #[] ca.toArray] S (fun u S' => u = .bool (l.any q) ∧ S' = S) := by
  refine FC.of Try.known78 (by simp) ?_
  unfold Try.pc78
  simp only [argT]
  refine PW.seqOps ?_
  refine OL.dp rfl ?_
  refine OL.nil ?_
  refine PW.keep (T' := [(0, _), (1, _)]) ⟨rfl, rfl, trivial⟩ ?_
  refine PW.seqOps ?_
  refine OL.dp rfl ?_
  refine OL.dp rfl ?_
  refine OL.call trivial rfl (indexFuncI_fc (q := q) hx hb hok hq) ?_
  rintro _ Sx ⟨rfl, hSx⟩
  rw [hSx]
  clear hSx
  refine OL.dp rfl ?_
  refine OL.dp rfl ?_
  refine OL.nil ?_
  refine PW.keep (T' := [(4, _)]) ⟨rfl, trivial⟩ ?_
  refine PW.ret ?_
  change (Exit.ret = Exit.normal ∨ Exit.ret = Exit.ret) ∧ ∃ v, resV _ _ = some v ∧ _
  exact ⟨.inr rfl, _, rfl, congrArg Value.bool (by rw [Bool.eq_iff_iff, decide_eq_true_eq, iff_of_eq gidx_any]), rfl⟩
theorem conflict_fc {w0 : World} {S : SS} {A : Option Addr} {c : Nat} {l : List ItemM} (hx : Rd w0 S A (itemS l)) (hb : l.length ≤ 1000000000000) :
    FC Try.prog w0 39 [.slice A l.length c] S (fun u S' => u = .bool (l.any (·.block)) ∧ S' = S) := by
  refine FC.of Try.known39 (by simp) ?_
  unfold Try.pc39
  simp only [argT]
  refine PW.seqOps ?_
  refine OL.dp rfl ?_
  refine OL.nil ?_
  refine PW.keep (T' := [(0, _)]) ⟨rfl, trivial⟩ ?_
  refine PW.seqOps ?_
  refine OL.dp rfl ?_
  refine OL.call trivial rfl (containsFuncI_fc (g := 79) (ca := []) (q := fun x => x.block) hx hb (by kernel_rfl) (fun x _ => isBlock_fc)) ?_
  rintro _ Sx ⟨rfl, hSx⟩
  rw [hSx]
  clear hSx
  refine OL.dp rfl ?_
  refine OL.nil ?_
  refine PW.keep (T' := [(2, _)]) ⟨rfl, trivial⟩ ?_
  refine PW.ret ?_
  change (Exit.ret = Exit.normal ∨ Exit.ret = Exit.ret) ∧ ∃ v, resV _ _ = some v ∧ _
  exact ⟨.inr rfl, _, rfl, rfl, rfl⟩
theorem sameS_fc {w0 : World} {S : SS} {A B : Option Addr} {c d : Nat} {a b : List ByteArray} (hx : Rd w0 S A (strs a)) (hy : Rd w0 S B (strs b)) (ha : a.length ≤ 1000000000000) (hb : b.length ≤ 1000000000000) :
    FC Try.prog w0 35 [.slice A a.length c, .slice B b.length d] S (fun u S' => u = .bool (decide (a = b)) ∧ S' = S) := by
  refine FC.of Try.known35 (by simp) ?_
  unfold Try.pc35
  simp only [argT]
  refine PW.seqOps ?_
  refine OL.dp rfl ?_
  refine OL.nil ?_
  refine PW.keep (T' := [(0, _), (1, _)]) ⟨rfl, rfl, trivial⟩ ?_
  refine PW.seq fun K1 hK1 => ?_
  refine PW.seqOps ?_
  refine OL.dp rfl ?_
  refine OL.dp rfl ?_
  refine OL.dp rfl ?_
  refine OL.dp rfl ?_
  refine OL.dp rfl ?_
  refine OL.nil ?_
  refine PW.keep (T' := [(0, _), (1, _), (10, _)]) ⟨rfl, rfl, rfl, trivial⟩ ?_
  refine PW.cond rfl (fun c10 => ?_) (fun c10 => ?_)
  · try simp only [decide_eq_true_eq, decide_eq_false_iff_not, beq_iff_eq, bne_iff_ne, beq_eq_false_iff_ne, bne_eq_false_iff_eq, Bool.not_eq_true', Bool.not_eq_false', Bool.not_eq_true, ne_eq, Decidable.not_not, Bool.false_eq_true, if_false, if_true] at c10
    refine PW.seqOps ?_
    refine OL.dp rfl ?_
    refine OL.nil ?_
    refine PW.keep (T' := [(4, _)]) ⟨rfl, trivial⟩ ?_
    refine PW.ret ?_
    change (Exit.ret = Exit.normal ∨ Exit.ret = Exit.ret) ∧ ∃ v, resV _ _ = some v ∧ _
    refine ⟨.inr rfl, _, rfl, congrArg Value.bool (Eq.symm (decide_eq_false fun e => ?_)), rfl⟩
    subst e
    exact absurd rfl c10
  · try simp only [decide_eq_true_eq, decide_eq_false_iff_not, beq_iff_eq, bne_iff_ne, beq_eq_false_iff_ne, bne_eq_false_iff_eq, Bool.not_eq_true', Bool.not_eq_false', Bool.not_eq_true, ne_eq, Decidable.not_not, Bool.false_eq_true, if_false, if_true] at c10
    refine PW.skip ?_
    refine hK1 _ _ ?_
    refine PW.keep (T' := [(0, _), (1, _)]) ⟨rfl, rfl, trivial⟩ ?_
    refine PW.seq fun K2 hK2 => ?_
    refine PW.seqOps ?_
    refine OL.dp rfl ?_
    refine OL.nil ?_
    refine PW.keep (T' := [(0, _), (1, _), (5, _)]) ⟨rfl, rfl, rfl, trivial⟩ ?_
    refine PW.block ?_
    refine PW.keep (T' := [(0, _), (1, _), (5, _)]) ⟨rfl, rfl, rfl, trivial⟩ ?_
    refine PW.loopK (I := fun m T S' => ∃ (k : Nat), (k ≤ a.length ∧ a.length = b.length ∧ m = a.length - k ∧ a.take k = b.take k) ∧ T = ([(0, .slice A a.length c), (1, .slice B b.length d), (5, .int .i64 k)] : TT) ∧ S' = S) (m := a.length) ⟨0, ⟨by omega, by omega, by omega, rfl⟩, rfl, rfl⟩ ?_
    rintro m _ _ ⟨k, ⟨hk, hab, hm, ht⟩, rfl, rfl⟩
    refine PW.seq fun K3 hK3 => ?_
    refine PW.seqOps ?_
    refine OL.dp rfl ?_
    refine OL.dp rfl ?_
    refine OL.dp rfl ?_
    refine OL.dp rfl ?_
    refine OL.nil ?_
    refine PW.keep (T' := [(0, _), (1, _), (5, _), (14, _)]) ⟨rfl, rfl, rfl, rfl, trivial⟩ ?_
    refine PW.cond rfl (fun c14 => ?_) (fun c14 => ?_)
    · try simp only [decide_eq_true_eq, decide_eq_false_iff_not, beq_iff_eq, bne_iff_ne, beq_eq_false_iff_ne, bne_eq_false_iff_eq, Bool.not_eq_true', Bool.not_eq_false', Bool.not_eq_true, ne_eq, Decidable.not_not, Bool.false_eq_true, if_false, if_true] at c14
      have hkl : k < a.length := by omega
      obtain ⟨a0, rfl⟩ := strs_some hx (by omega)
      obtain ⟨b0, rfl⟩ := strs_some hy (by omega)
      have hx2 := hx
      have hy2 := hy
      refine PW.skip ?_
      refine hK3 _ _ ?_
      refine PW.keep (T' := [(0, _), (1, _), (5, _)]) ⟨rfl, rfl, rfl, trivial⟩ ?_
      refine PW.seq fun K4 hK4 => ?_
      refine PW.block ?_
      refine PW.seq fun K5 hK5 => ?_
      refine PW.quietK Try.mixed ?_
      refine QK.dp rfl ?_
      refine QK.dp rfl ?_
      refine QK.det trivial (Yields.ixN1 rfl rfl rfl (by omega)) ?_
      refine QK.det trivial (Yields.ld rfl (str_at hx2 hkl)) ?_
      refine QK.dp rfl ?_
      refine QK.dp rfl ?_
      refine QK.det trivial (Yields.ixN1 rfl rfl rfl (by omega)) ?_
      refine QK.det trivial (Yields.ld rfl (str_at hy2 (by omega))) ?_
      refine QK.nil ?_
      change OL _ _ _ [_] _ _ _
      refine OL.dp rfl ?_
      refine OL.nil ?_
      refine hK5 _ _ ?_
      refine PW.keep (T' := [(0, _), (1, _), (5, _), (25, _)]) ⟨rfl, rfl, rfl, rfl, trivial⟩ ?_
      refine PW.cond rfl (fun c25 => ?_) (fun c25 => ?_)
      · skip
        refine PW.seqOps ?_
        refine OL.dp rfl ?_
        refine OL.nil ?_
        refine PW.keep (T' := [(4, _)]) ⟨rfl, trivial⟩ ?_
        refine PW.ret ?_
        change (Exit.ret = Exit.normal ∨ Exit.ret = Exit.ret) ∧ ∃ v, resV _ _ = some v ∧ _
        refine ⟨.inr rfl, _, rfl, congrArg Value.bool (Eq.symm (decide_eq_false fun e => ?_)), rfl⟩
        subst e
        simp at c25
      · skip
        refine PW.skip ?_
        refine hK4 _ _ ?_
        refine PW.keep (T' := [(0, _), (1, _), (5, _)]) ⟨rfl, rfl, rfl, trivial⟩ ?_
        refine PW.ops ?_
        refine OL.dp rfl ?_
        refine OL.det trivial (Yields.add64 rfl rfl (by omega) (by omega)) ?_
        refine OL.dp rfl ?_
        refine OL.nil ?_
        repeat rw [inBlk_n]
        try rw [thenK_n]
        refine LoopEnd.mk (T'' := [(0, _), (1, _), (5, _)]) ⟨rfl, rfl, rfl, trivial⟩ ?_
        have he : a[k] = b[k]'(by omega) := by
          have h1 : a[k].toList = (b[k]'(by omega)).toList := by simpa using c25
          exact toL_inj.1 h1
        exact ⟨a.length - (k + 1), by omega, k + 1, ⟨by omega, hab, rfl, by rw [ltake_snoc hkl, ltake_snoc (show k < b.length by omega), ht, he]⟩, rfl, rfl⟩
    · try simp only [decide_eq_true_eq, decide_eq_false_iff_not, beq_iff_eq, bne_iff_ne, beq_eq_false_iff_ne, bne_eq_false_iff_eq, Bool.not_eq_true', Bool.not_eq_false', Bool.not_eq_true, ne_eq, Decidable.not_not, Bool.false_eq_true, if_false, if_true] at c14
      refine PW.exit ?_
      refine hK2 _ _ ?_
      refine PW.keep (T' := []) trivial ?_
      refine PW.seqOps ?_
      refine OL.dp rfl ?_
      refine OL.nil ?_
      refine PW.keep (T' := [(4, _)]) ⟨rfl, trivial⟩ ?_
      refine PW.ret ?_
      change (Exit.ret = Exit.normal ∨ Exit.ret = Exit.ret) ∧ ∃ v, resV _ _ = some v ∧ _
      refine ⟨.inr rfl, _, rfl, congrArg Value.bool (Eq.symm (decide_eq_true ?_)), rfl⟩
      have h1 : k = a.length := by omega
      rw [h1, List.take_length] at ht
      rw [ht, hab, List.take_length]
end Go.Proofs.Gr
