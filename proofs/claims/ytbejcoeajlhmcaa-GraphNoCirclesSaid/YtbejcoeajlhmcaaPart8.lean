/- Walks and plain facts for the laws of this seat: what each function answers, for every input. -/
import Derived.Test.YtbejcoeajlhmcaaPart7

set_option linter.unusedVariables false
set_option linter.unusedSimpArgs false
namespace Go.Proofs.Gr
open Go.SL Go.RowKit Go.Proofs Go.GP
set_option maxHeartbeats 1000000
theorem before3_fc {w0 : World} {S X : SS} {m : GrM} {ps : List PartP} {r : Bool} (h : GG w0 X m ps) (hS : Over (GS m ++ X) S) {a b : Vtx} (ha : okV a) (hb : okV b) (e : befP ps a b = r) :
    FC Try.prog w0 18 [m.ptr, vtxV a, vtxV b] S (fun u S' => u = .bool r ∧ S' = S) := by
  rw [← e]
  exact before2_fc h hS ha hb
theorem GG.okV {w0 : World} {X : SS} {m : GrM} {ps : List PartP} (h : GG w0 X m ps) {v : Vtx} (hv : v ∈ allV ps) : Gr.okV v := by
  have hk : mks m.gr.nodes = mks m.nodes := mks_plN _
  have hv2 := (h.inv.keys v).2 hv
  rw [hk] at hv2
  obtain ⟨n, hn⟩ := mem_mks.1 hv2
  exact h.ok.nk _ (mgt_some_mem hn)
theorem linesP_v {ps : List PartP} {k : Nat} (hk : k < (linesP ps).length) : (linesP ps)[k].v ∈ allV ps := by
  obtain ⟨v, hv, e⟩ := List.mem_map.1 (show (linesP ps)[k] ∈ (topoF ps).map (lineP ps) from List.getElem_mem hk)
  rw [← e]
  exact topoF_mem hv
theorem gs_swap {a b : GrM} {S : SS} : Sub (GS b ++ (GS a ++ S)) (GS a ++ (GS b ++ S)) := Sub.sel [4, 5, 6, 7, 0, 1, 2, 3] 8 (by decide) (GS a ++ (GS b ++ S))
theorem linesP_order {ps : List PartP} (hs : Sq ps) {i k : Nat} (hi : i < (linesP ps).length) (hk : k ≤ i) : befP ps (linesP ps)[i].v ((linesP ps)[k]'(by omega)).v = false := by
  cases e : befP ps (linesP ps)[i].v ((linesP ps)[k]'(by omega)).v with
  | false => rfl
  | true =>
    have h := befP_iff.1 e
    have hl : (linesP ps).length = (topoF ps).length := List.length_map _
    have e : ∀ (j : Nat) (hj : j < (linesP ps).length), (linesP ps)[j].v = (topoF ps)[j]'(by omega) := fun j hj => congrArg LineP.v (List.getElem_map (lineP ps) (h := hj))
    rw [e, e] at h
    exact absurd h (topoF_order hs (by omega) hk)
theorem befP_trans {ps : List PartP} (hs : Sq ps) {a b c : Vtx} (h : befP ps a b = true) (k : befP ps b c = true) : befP ps a c = true := befP_iff.2 ((befP_iff.1 h).trans hs (befP_iff.1 k))
theorem befP_came {ps : List PartP} {p : PartP} (hs : Sq ps) {a b : Vtx} (ha : a ∈ allV ps) (hb : b ∈ allV ps) : befP (came ps p) a b = befP ps a b := by
  by_cases hn : New ps p
  · rw [came_new hn, Bool.eq_iff_iff, befP_iff, befP_iff]
    exact Sq.bef_cons hn hs (.inr (.inr ha)) (.inr (.inr hb))
  · rw [came_not hn]
theorem Acts.rngs {w0 : World} {A : Option Addr} {l : List ActM} (h : Acts w0 A l) (hs : Small l) {k : Nat} (hk : k < l.length) : PartR l[k].p ∧ l[k].p.lines.length ≤ 12 ∧ l[k].p.gone.length ≤ 12 := by
  have h1 := h.get hk
  obtain ⟨h2, h3, h4⟩ := hs.part _ (List.getElem_mem hk)
  exact ⟨h1.rng h2 h3 h4, h2, h3⟩
theorem graphNoCircles_fc {w0 : World} {A : Option Addr} {c : Nat} {l : List ActM} (ha : Acts w0 A l) :
    FC Try.prog w0 3 [.slice A l.length c] [] (fun v _ => v = .bool true) := by
  refine FC.ofD Try.known3 (by simp) ?_
  unfold Try.pc3
  simp only [argT]
  refine PW.seqOps ?_
  refine OL.det trivial (Yields.pure rfl) ?_
  refine OL.nil ?_
  refine PW.keep (T' := [(0, _)]) ⟨rfl, trivial⟩ ?_
  refine PW.seq fun K1 hK1 => ?_
  refine PW.seqOps ?_
  refine OL.det trivial (Yields.pure rfl) ?_
  refine OL.call trivial rfl (large_fc ha) ?_
  rintro _ _ ⟨b, rfl, rfl, hb⟩
  refine OL.nil ?_
  refine PW.keep (T' := [(0, _), (14, _)]) ⟨rfl, rfl, trivial⟩ ?_
  refine PW.cond rfl (fun c14 => ?_) (fun c14 => ?_)
  · try simp only [decide_eq_true_eq, decide_eq_false_iff_not, beq_iff_eq, bne_iff_ne, beq_eq_false_iff_ne, bne_eq_false_iff_eq, Bool.not_eq_true', Bool.not_eq_false', Bool.not_eq_true, ne_eq, Decidable.not_not, Bool.false_eq_true, if_false, if_true] at c14
    refine PW.seqOps ?_
    refine OL.call trivial rfl (awake_fc) ?_
    rintro _ Sx ⟨rfl, hSx⟩
    rw [hSx]
    clear hSx
    refine OL.det trivial (Yields.pure rfl) ?_
    refine OL.nil ?_
    refine PW.keep (T' := [(2, _)]) ⟨rfl, trivial⟩ ?_
    refine PW.ret ?_
    change (Exit.ret = Exit.normal ∨ Exit.ret = Exit.ret) ∧ ∃ v, resV _ _ = some v ∧ _
    exact ⟨.inr rfl, _, rfl, _, Sub.refl _, rfl⟩
  · try simp only [decide_eq_true_eq, decide_eq_false_iff_not, beq_iff_eq, bne_iff_ne, beq_eq_false_iff_ne, bne_eq_false_iff_eq, Bool.not_eq_true', Bool.not_eq_false', Bool.not_eq_true, ne_eq, Decidable.not_not, Bool.false_eq_true, if_false, if_true] at c14
    have hsm := hb c14
    have hsl0 := hsm.len
    refine PW.skip ?_
    refine hK1 _ _ ?_
    refine PW.keep (T' := [(0, _)]) ⟨rfl, trivial⟩ ?_
    refine PW.seqOps ?_
    refine OL.call trivial rfl (new_fc (X := [])) ?_
    rintro _ _ ⟨m0, rfl, rfl, hm0, hg0, hl0⟩
    refine OL.det trivial (Yields.pure rfl) ?_
    refine OL.nil ?_
    refine PW.keep (T' := [(0, _), (3, _)]) ⟨rfl, rfl, trivial⟩ ?_
    refine PW.seq fun K2 hK2 => ?_
    refine PW.seqOps ?_
    refine OL.det trivial (Yields.pure rfl) ?_
    refine OL.nil ?_
    refine PW.keep (T' := [(0, _), (3, _), (4, _)]) ⟨rfl, rfl, rfl, trivial⟩ ?_
    refine PW.block ?_
    refine PW.keep (T' := [(0, _), (3, _), (4, _)]) ⟨rfl, rfl, rfl, trivial⟩ ?_
    refine PW.loopK (I := fun mm T S' => ∃ (k : Nat) (m : GrM) (ps : List PartP), (k ≤ l.length ∧ mm = l.length - k ∧ GG w0 [] m ps ∧ (allV ps).length + ps.length ≤ 13 * k ∧ m.lim ≤ 39 * k ∧ m.r = m0.r) ∧ T = ([(0, .slice A l.length c), (3, m0.ptr), (4, .int .i64 k)] : TT) ∧ S' = GS m ++ []) (m := l.length) ⟨0, m0, [], ⟨by omega, by omega, ⟨hm0, by rw [hg0]; exact GP.Inv.nil, Sq.nil, by simp [allV], by omega⟩, by simp [allV], by omega, rfl⟩, rfl, rfl⟩ ?_
    rintro mm _ _ ⟨k, m, ps, ⟨hk, hmm, hg, hn, hlim, hr⟩, rfl, rfl⟩
    refine PW.seq fun K3 hK3 => ?_
    refine PW.seqOps ?_
    refine OL.det trivial (Yields.pure rfl) ?_
    refine OL.det trivial (Yields.pure rfl) ?_
    refine OL.det trivial (Yields.pure rfl) ?_
    refine OL.det trivial (Yields.pure rfl) ?_
    refine OL.nil ?_
    refine PW.keep (T' := [(0, _), (3, _), (4, _), (20, _)]) ⟨rfl, rfl, rfl, rfl, trivial⟩ ?_
    refine PW.cond rfl (fun c20 => ?_) (fun c20 => ?_)
    · try simp only [decide_eq_true_eq, decide_eq_false_iff_not, beq_iff_eq, bne_iff_ne, beq_eq_false_iff_ne, bne_eq_false_iff_eq, Bool.not_eq_true', Bool.not_eq_false', Bool.not_eq_true, ne_eq, Decidable.not_not, Bool.false_eq_true, if_false, if_true] at c20
      have hkl : k < l.length := by omega
      obtain ⟨a0, ha0⟩ := actS_some ha.rd (by omega)
      have hrd := ha.rd
      rw [ha0] at hrd
      have hpa := ha.get hkl
      obtain ⟨hpr, hpl1, hpl2⟩ := ha.rngs hsm hkl
      refine PW.skip ?_
      refine hK3 _ _ ?_
      refine PW.keep (T' := [(0, _), (3, _), (4, _)]) ⟨rfl, rfl, rfl, trivial⟩ ?_
      refine PW.seq fun K4 hK4 => ?_
      refine PW.block ?_
      refine PW.seqOps ?_
      refine OL.det trivial (Yields.pure rfl) ?_
      refine OL.call trivial rfl (by rw [← ptr_eq hr]; exact copy_fc hg.ok over_nil) ?_
      rintro _ _ ⟨m1, rfl, rfl, hm1, hg1, hl1⟩
      refine OL.det trivial (Yields.pure rfl) ?_
      refine OL.nil ?_
      refine PW.keep (T' := [(0, _), (3, _), (4, _), (5, _)]) ⟨rfl, rfl, rfl, rfl, trivial⟩ ?_
      refine PW.seq fun K5 hK5 => ?_
      refine PW.seqOps ?_
      refine OL.det trivial (Yields.pure rfl) ?_
      refine OL.det trivial (Yields.pure rfl) ?_
      refine OL.det trivial (Yields.pure rfl) ?_
      rw [ha0]
      refine OL.det trivial (Yields.ixN rfl rfl rfl (by omega)) ?_
      refine OL.det trivial (Yields.pure rfl) ?_
      refine OL.det trivial (Yields.ldA rfl (partC_len _) (act_part hrd.any hkl)) ?_
      refine OL.call trivial rfl (by rw [← ptr_eq hr]; exact FC.subS (gs_swap (a := m1) (b := m) (S := [])) (add2_fc (S := GS m1 ++ []) hg over_nil hpr hpa.rdL.any hpa.rdG.any (by omega) (by unfold addL; omega))) ?_
      rintro _ _ ⟨m2, rfl, rfl, hg2, hl2, hr2, hj2⟩
      unfold addL at hl2
      have hcn := came_n ps l[k].p.pl
      have hpl : l[k].p.pl.lines.length = l[k].p.lines.length := rfl
      refine OL.det trivial (Yields.pure rfl) ?_
      refine OL.nil ?_
      refine PW.keep (T' := [(0, _), (3, _), (4, _), (5, _), (32, _)]) ⟨rfl, rfl, rfl, rfl, rfl, trivial⟩ ?_
      refine PW.cond rfl (fun c32 => ?_) (fun c32 => ?_)
      · skip
        refine PW.exit ?_
        refine hK4 _ _ ?_
        refine PW.keep (T' := [(0, _), (3, _), (4, _)]) ⟨rfl, rfl, rfl, trivial⟩ ?_
        refine PW.ops ?_
        refine OL.det trivial (Yields.pure rfl) ?_
        refine OL.det trivial (Yields.add64 rfl rfl (by omega) (by omega)) ?_
        refine OL.det trivial (Yields.pure rfl) ?_
        refine OL.nil ?_
        repeat rw [inBlk_n]
        try rw [thenK_n]
        refine LoopEnd.mkS (by first | exact Sub.sel [0, 1, 2, 3] 8 (by decide) (GS m2 ++ (GS m1 ++ [])) | exact Sub.sel [5, 6, 7, 8] 9 (by decide) (seg :: (GS m1 ++ (GS m2 ++ [])))) (T'' := [(0, _), (3, _), (4, _)]) ⟨rfl, rfl, rfl, trivial⟩ ?_
        rw [ha0]
        exact ⟨l.length - (k + 1), by omega, k + 1, m2, came ps l[k].p.pl, ⟨by omega, rfl, hg2, by omega, by omega, hr2.trans hr⟩, rfl, rfl⟩
      · skip
        have hgg1 : GG w0 [m.junk] m1 ps := ⟨hm1, hg1 ▸ hg.inv, hg.sq, hg.n, by have := hg.lim; omega⟩
        have hY : Over [m.junk] (GS m2 ++ []) := fun q hq => by
          have : q ∈ m2.junk := hj2 q (by simpa using hq)
          simp [GS, this]
        refine PW.skip ?_
        refine hK5 _ _ ?_
        refine PW.keep (T' := [(0, _), (3, _), (4, _), (5, _)]) ⟨rfl, rfl, rfl, rfl, trivial⟩ ?_
        refine PW.seqOps ?_
        refine OL.det trivial (Yields.pure rfl) ?_
        refine OL.call trivial rfl (FC.subS (gs_swap (a := m2) (b := m1) (S := [])) (lines2_fc (S := GS m2 ++ []) hgg1 hY)) ?_
        rintro _ _ ⟨seg, rfl, hsl⟩
        obtain ⟨LA, lc, rfl, hLn, hLc, hrd0⟩ := slv_rdL (w0 := w0) hsl
        have hln := linesP_len hg.sq
        have hv := fun (k : Nat) (h : k < (linesP ps).length) => linesP_v h
        obtain ⟨L, hL⟩ : ∃ z, z = linesP ps := ⟨_, rfl⟩
        rw [← hL] at hln hrd0 hLc hv ⊢
        have hrd1 : Rd w0 (seg :: (GS m1 ++ (GS m2 ++ []))) LA (lines L) := hrd0 _
        have hS1 : Over (GS m1 ++ [m.junk]) (seg :: (GS m1 ++ (GS m2 ++ []))) := (Over.both hY).cons
        have hS2 : Over (GS m2 ++ []) (seg :: (GS m1 ++ (GS m2 ++ []))) := Over.trans (Over.appR (b := GS m1) (fun q h => h)) (Over.cons (fun q h => h))
        refine OL.det trivial (Yields.pure rfl) ?_
        refine OL.nil ?_
        refine PW.keep (T' := [(0, _), (3, _), (4, _), (5, _), (6, _)]) ⟨rfl, rfl, rfl, rfl, rfl, trivial⟩ ?_
        refine PW.seqOps ?_
        refine OL.det trivial (Yields.pure rfl) ?_
        refine OL.nil ?_
        refine PW.keep (T' := [(0, _), (3, _), (4, _), (5, _), (6, _), (7, _)]) ⟨rfl, rfl, rfl, rfl, rfl, rfl, trivial⟩ ?_
        refine PW.block ?_
        refine PW.keep (T' := [(0, _), (3, _), (4, _), (5, _), (6, _), (7, _)]) ⟨rfl, rfl, rfl, rfl, rfl, rfl, trivial⟩ ?_
        refine PW.loopK (I := fun mi T S' => ∃ i : Nat, (i ≤ L.length ∧ mi = L.length - i) ∧ T = ([(0, .slice (some a0) l.length c), (3, m0.ptr), (4, .int .i64 k), (5, m1.ptr), (6, .slice LA L.length lc), (7, .int .i64 i)] : TT) ∧ S' = seg :: (GS m1 ++ (GS m2 ++ []))) (m := L.length) ⟨0, ⟨by omega, by omega⟩, rfl, rfl⟩ ?_
        rintro mi _ _ ⟨i, ⟨hi, hmi⟩, rfl, rfl⟩
        refine PW.seq fun K6 hK6 => ?_
        refine PW.seqOps ?_
        refine OL.det trivial (Yields.pure rfl) ?_
        refine OL.det trivial (Yields.pure rfl) ?_
        refine OL.det trivial (Yields.pure rfl) ?_
        refine OL.det trivial (Yields.pure rfl) ?_
        refine OL.bool trivial (Yields.pure rfl) (fun g39 => ?_) (fun g39 => ?_)
        · try simp only [decide_eq_true_eq, decide_eq_false_iff_not, beq_iff_eq, bne_iff_ne, beq_eq_false_iff_ne, bne_eq_false_iff_eq, Bool.not_eq_true', Bool.not_eq_false', Bool.not_eq_true, ne_eq, Decidable.not_not, Bool.false_eq_true, if_false, if_true] at g39
          refine OL.det rfl (Yields.pure rfl) ?_
          refine OL.det rfl (Yields.pure rfl) ?_
          refine OL.det rfl (Yields.pure rfl) ?_
          refine OL.det trivial (Yields.pure rfl) ?_
          refine OL.nil ?_
          refine PW.keep (T' := [(0, _), (3, _), (4, _), (5, _), (6, _), (7, _), (43, _)]) ⟨rfl, rfl, rfl, rfl, rfl, rfl, rfl, trivial⟩ ?_
          refine PW.cond rfl (fun c43 => ?_) (fun c43 => ?_)
          · try simp only [decide_eq_true_eq, decide_eq_false_iff_not, beq_iff_eq, bne_iff_ne, beq_eq_false_iff_ne, bne_eq_false_iff_eq, Bool.not_eq_true', Bool.not_eq_false', Bool.not_eq_true, ne_eq, Decidable.not_not, Bool.false_eq_true, if_false, if_true] at c43
            have hil : i < L.length := by omega
            refine PW.skip ?_
            refine hK6 _ _ ?_
            refine PW.keep (T' := [(0, _), (3, _), (4, _), (5, _), (6, _), (7, _)]) ⟨rfl, rfl, rfl, rfl, rfl, rfl, trivial⟩ ?_
            refine PW.seq fun K7 hK7 => ?_
            refine PW.block ?_
            refine PW.seqOps ?_
            refine OL.det trivial (Yields.pure rfl) ?_
            refine OL.nil ?_
            refine PW.keep (T' := [(0, _), (3, _), (4, _), (5, _), (6, _), (7, _), (8, _)]) ⟨rfl, rfl, rfl, rfl, rfl, rfl, rfl, trivial⟩ ?_
            refine PW.block ?_
            refine PW.keep (T' := [(0, _), (3, _), (4, _), (5, _), (6, _), (7, _), (8, _)]) ⟨rfl, rfl, rfl, rfl, rfl, rfl, rfl, trivial⟩ ?_
            refine PW.loopK (I := fun mj T S' => ∃ j : Nat, (j ≤ L.length ∧ mj = L.length - j) ∧ T = ([(0, .slice (some a0) l.length c), (3, m0.ptr), (4, .int .i64 k), (5, m1.ptr), (6, .slice LA L.length lc), (7, .int .i64 i), (8, .int .i64 j)] : TT) ∧ S' = seg :: (GS m1 ++ (GS m2 ++ []))) (m := L.length) ⟨0, ⟨by omega, by omega⟩, rfl, rfl⟩ ?_
            rintro mj _ _ ⟨j, ⟨hj, hmj⟩, rfl, rfl⟩
            refine PW.seq fun K8 hK8 => ?_
            refine PW.seqOps ?_
            refine OL.det trivial (Yields.pure rfl) ?_
            refine OL.det trivial (Yields.pure rfl) ?_
            refine OL.det trivial (Yields.pure rfl) ?_
            refine OL.det trivial (Yields.pure rfl) ?_
            refine OL.nil ?_
            refine PW.keep (T' := [(0, _), (3, _), (4, _), (5, _), (6, _), (7, _), (8, _), (49, _)]) ⟨rfl, rfl, rfl, rfl, rfl, rfl, rfl, rfl, trivial⟩ ?_
            refine PW.cond rfl (fun c49 => ?_) (fun c49 => ?_)
            · try simp only [decide_eq_true_eq, decide_eq_false_iff_not, beq_iff_eq, bne_iff_ne, beq_eq_false_iff_ne, bne_eq_false_iff_eq, Bool.not_eq_true', Bool.not_eq_false', Bool.not_eq_true, ne_eq, Decidable.not_not, Bool.false_eq_true, if_false, if_true] at c49
              have hjl : j < L.length := by omega
              obtain ⟨b0, hb0⟩ := lines_some hrd1 (by omega)
              have ha0b := ha0
              have hrd2 := hrd1
              rw [hb0] at hrd2
              refine PW.skip ?_
              refine hK8 _ _ ?_
              refine PW.keep (T' := [(0, _), (3, _), (4, _), (5, _), (6, _), (7, _), (8, _)]) ⟨rfl, rfl, rfl, rfl, rfl, rfl, rfl, trivial⟩ ?_
              refine PW.seq fun K9 hK9 => ?_
              refine PW.block ?_
              refine PW.seq fun K10 hK10 => ?_
              refine PW.quietK Try.mixed ?_
              refine QK.det trivial (Yields.pure rfl) ?_
              refine QK.det trivial (Yields.pure rfl) ?_
              refine QK.det trivial (Yields.pure rfl) ?_
              rw [hb0]
              refine QK.det trivial (Yields.ixN rfl rfl rfl (by omega)) ?_
              refine QK.det trivial (Yields.pure rfl) ?_
              refine QK.det trivial (Yields.ldA rfl (vtxL_len _) (line_vtx hrd2 hil)) ?_
              refine QK.det trivial (Yields.pure rfl) ?_
              refine QK.det trivial (Yields.pure rfl) ?_
              refine QK.det trivial (Yields.ixN rfl rfl rfl (by omega)) ?_
              refine QK.det trivial (Yields.pure rfl) ?_
              refine QK.det trivial (Yields.ldA rfl (vtxL_len _) (line_vtx hrd2 hjl)) ?_
              refine QK.call trivial rfl (before3_fc hgg1 hS1 (hgg1.okV (hv _ hil)) (hgg1.okV (hv _ hjl)) rfl) ?_
              refine QK.det trivial (Yields.pure rfl) ?_
              refine QK.det trivial (Yields.pure rfl) ?_
              refine QK.det trivial (Yields.pure rfl) ?_
              refine QK.det trivial (Yields.ixN rfl rfl rfl (by omega)) ?_
              refine QK.det trivial (Yields.pure rfl) ?_
              refine QK.det trivial (Yields.ldA rfl (vtxL_len _) (line_vtx hrd2 hil)) ?_
              refine QK.det trivial (Yields.pure rfl) ?_
              refine QK.det trivial (Yields.pure rfl) ?_
              refine QK.det trivial (Yields.ixN rfl rfl rfl (by omega)) ?_
              refine QK.det trivial (Yields.pure rfl) ?_
              refine QK.det trivial (Yields.ldA rfl (vtxL_len _) (line_vtx hrd2 hjl)) ?_
              refine QK.nil ?_
              change OL _ _ _ [_, _] _ _ _
              refine OL.call trivial rfl (by rw [← ptr_eq (hr2.trans hr)]; exact before3_fc hg2 hS2 (hgg1.okV (hv _ hil)) (hgg1.okV (hv _ hjl)) (befP_came hg.sq (hv _ hil) (hv _ hjl))) ?_
              rintro _ Sx ⟨rfl, hSx⟩
              rw [hSx]
              clear hSx
              refine OL.det trivial (Yields.pure rfl) ?_
              refine OL.nil ?_
              refine hK10 _ _ ?_
              refine PW.keep (T' := [(0, _), (3, _), (4, _), (5, _), (6, _), (7, _), (8, _), (76, _)]) ⟨rfl, rfl, rfl, rfl, rfl, rfl, rfl, rfl, trivial⟩ ?_
              refine PW.cond rfl (fun c76 => ?_) (fun c76 => ?_)
              · try simp only [decide_eq_true_eq, decide_eq_false_iff_not, beq_iff_eq, bne_iff_ne, beq_eq_false_iff_ne, bne_eq_false_iff_eq, Bool.not_eq_true', Bool.not_eq_false', Bool.not_eq_true, ne_eq, Decidable.not_not, Bool.false_eq_true, if_false, if_true] at c76
                exfalso; simp at c76
                -- done
              · try simp only [decide_eq_true_eq, decide_eq_false_iff_not, beq_iff_eq, bne_iff_ne, beq_eq_false_iff_ne, bne_eq_false_iff_eq, Bool.not_eq_true', Bool.not_eq_false', Bool.not_eq_true, ne_eq, Decidable.not_not, Bool.false_eq_true, if_false, if_true] at c76
                refine PW.skip ?_
                refine hK9 _ _ ?_
                refine PW.keep (T' := [(0, _), (3, _), (4, _), (5, _), (6, _), (7, _), (8, _)]) ⟨rfl, rfl, rfl, rfl, rfl, rfl, rfl, trivial⟩ ?_
                refine PW.ops ?_
                refine OL.det trivial (Yields.pure rfl) ?_
                refine OL.det trivial (Yields.add64 rfl rfl (by omega) (by omega)) ?_
                refine OL.det trivial (Yields.pure rfl) ?_
                refine OL.nil ?_
                repeat rw [inBlk_n]
                try rw [thenK_n]
                refine LoopEnd.mk (T'' := [(0, _), (3, _), (4, _), (5, _), (6, _), (7, _), (8, _)]) ⟨rfl, rfl, rfl, rfl, rfl, rfl, rfl, trivial⟩ ?_
                rw [hb0]
                exact ⟨L.length - (j + 1), by omega, j + 1, ⟨by omega, rfl⟩, rfl, rfl⟩
            · try simp only [decide_eq_true_eq, decide_eq_false_iff_not, beq_iff_eq, bne_iff_ne, beq_eq_false_iff_ne, bne_eq_false_iff_eq, Bool.not_eq_true', Bool.not_eq_false', Bool.not_eq_true, ne_eq, Decidable.not_not, Bool.false_eq_true, if_false, if_true] at c49
              refine PW.exit ?_
              refine hK7 _ _ ?_
              refine PW.keep (T' := [(0, _), (3, _), (4, _), (5, _), (6, _), (7, _)]) ⟨rfl, rfl, rfl, rfl, rfl, rfl, trivial⟩ ?_
              refine PW.ops ?_
              refine OL.det trivial (Yields.pure rfl) ?_
              refine OL.det trivial (Yields.add64 rfl rfl (by omega) (by omega)) ?_
              refine OL.det trivial (Yields.pure rfl) ?_
              refine OL.nil ?_
              repeat rw [inBlk_n]
              try rw [thenK_n]
              refine LoopEnd.mk (T'' := [(0, _), (3, _), (4, _), (5, _), (6, _), (7, _)]) ⟨rfl, rfl, rfl, rfl, rfl, rfl, trivial⟩ ?_
              exact ⟨L.length - (i + 1), by omega, i + 1, ⟨by omega, rfl⟩, rfl, rfl⟩
          · try simp only [decide_eq_true_eq, decide_eq_false_iff_not, beq_iff_eq, bne_iff_ne, beq_eq_false_iff_ne, bne_eq_false_iff_eq, Bool.not_eq_true', Bool.not_eq_false', Bool.not_eq_true, ne_eq, Decidable.not_not, Bool.false_eq_true, if_false, if_true] at c43
            refine PW.exit ?_
            refine hK4 _ _ ?_
            refine PW.keep (T' := [(0, _), (3, _), (4, _)]) ⟨rfl, rfl, rfl, trivial⟩ ?_
            refine PW.ops ?_
            refine OL.det trivial (Yields.pure rfl) ?_
            refine OL.det trivial (Yields.add64 rfl rfl (by omega) (by omega)) ?_
            refine OL.det trivial (Yields.pure rfl) ?_
            refine OL.nil ?_
            repeat rw [inBlk_n]
            try rw [thenK_n]
            refine LoopEnd.mkS (by first | exact Sub.sel [0, 1, 2, 3] 8 (by decide) (GS m2 ++ (GS m1 ++ [])) | exact Sub.sel [5, 6, 7, 8] 9 (by decide) (seg :: (GS m1 ++ (GS m2 ++ [])))) (T'' := [(0, _), (3, _), (4, _)]) ⟨rfl, rfl, rfl, trivial⟩ ?_
            rw [ha0]
            exact ⟨l.length - (k + 1), by omega, k + 1, m2, came ps l[k].p.pl, ⟨by omega, rfl, hg2, by omega, by omega, hr2.trans hr⟩, rfl, rfl⟩
        · try simp only [decide_eq_true_eq, decide_eq_false_iff_not, beq_iff_eq, bne_iff_ne, beq_eq_false_iff_ne, bne_eq_false_iff_eq, Bool.not_eq_true', Bool.not_eq_false', Bool.not_eq_true, ne_eq, Decidable.not_not, Bool.false_eq_true, if_false, if_true] at g39
          refine OL.off rfl rfl ?_
          refine OL.off rfl rfl ?_
          refine OL.off rfl rfl ?_
          refine OL.det trivial (Yields.pure rfl) ?_
          refine OL.nil ?_
          refine PW.keep (T' := [(0, _), (3, _), (4, _), (5, _), (6, _), (7, _), (43, _)]) ⟨rfl, rfl, rfl, rfl, rfl, rfl, rfl, trivial⟩ ?_
          refine PW.ite (b := false) rfl ?_
          rw [if_neg Bool.false_ne_true]
          refine PW.exit ?_
          refine hK4 _ _ ?_
          refine PW.keep (T' := [(0, _), (3, _), (4, _)]) ⟨rfl, rfl, rfl, trivial⟩ ?_
          refine PW.ops ?_
          refine OL.det trivial (Yields.pure rfl) ?_
          refine OL.det trivial (Yields.add64 rfl rfl (by omega) (by omega)) ?_
          refine OL.det trivial (Yields.pure rfl) ?_
          refine OL.nil ?_
          repeat rw [inBlk_n]
          try rw [thenK_n]
          refine LoopEnd.mkS (by first | exact Sub.sel [0, 1, 2, 3] 8 (by decide) (GS m2 ++ (GS m1 ++ [])) | exact Sub.sel [5, 6, 7, 8] 9 (by decide) (seg :: (GS m1 ++ (GS m2 ++ [])))) (T'' := [(0, _), (3, _), (4, _)]) ⟨rfl, rfl, rfl, trivial⟩ ?_
          rw [ha0]
          exact ⟨l.length - (k + 1), by omega, k + 1, m2, came ps l[k].p.pl, ⟨by omega, rfl, hg2, by omega, by omega, hr2.trans hr⟩, rfl, rfl⟩
    · try simp only [decide_eq_true_eq, decide_eq_false_iff_not, beq_iff_eq, bne_iff_ne, beq_eq_false_iff_ne, bne_eq_false_iff_eq, Bool.not_eq_true', Bool.not_eq_false', Bool.not_eq_true, ne_eq, Decidable.not_not, Bool.false_eq_true, if_false, if_true] at c20
      refine PW.exit ?_
      refine hK2 _ _ ?_
      refine PW.keep (T' := [(3, _)]) ⟨rfl, trivial⟩ ?_
      refine PW.seqOps ?_
      refine OL.det trivial (Yields.pure rfl) ?_
      refine OL.call trivial rfl (by rw [← ptr_eq hr]; exact lines2_fc (S := []) hg over_nil) ?_
      rintro _ _ ⟨seg, rfl, hsl⟩
      obtain ⟨LA, lc, rfl, hLn, hLc, hrd0⟩ := slv_rdL (w0 := w0) hsl
      have hln := linesP_len hg.sq
      have hv := fun (k : Nat) (h : k < (linesP ps).length) => linesP_v h
      have hno := fun (i k : Nat) (h : i < (linesP ps).length) (hk : k ≤ i) => linesP_order hg.sq h hk
      obtain ⟨L, hL⟩ : ∃ z, z = linesP ps := ⟨_, rfl⟩
      rw [← hL] at hln hrd0 hLc hv ⊢
      have hno : ∀ (i k : Nat) (h : i < L.length) (hk : k ≤ i), befP ps L[i].v (L[k]'(by omega)).v = false := by subst hL; exact hno
      have hrd1 : Rd w0 (seg :: (GS m ++ [])) LA (lines L) := hrd0 _
      have hS : Over (GS m ++ []) (seg :: (GS m ++ [])) := Over.cons (fun q h => h)
      refine OL.det trivial (Yields.pure rfl) ?_
      refine OL.nil ?_
      refine PW.keep (T' := [(3, _), (9, _)]) ⟨rfl, rfl, trivial⟩ ?_
      refine PW.seq fun K11 hK11 => ?_
      refine PW.seqOps ?_
      refine OL.det trivial (Yields.pure rfl) ?_
      refine OL.nil ?_
      refine PW.keep (T' := [(3, _), (9, _), (10, _)]) ⟨rfl, rfl, rfl, trivial⟩ ?_
      refine PW.block ?_
      refine PW.keep (T' := [(3, _), (9, _), (10, _)]) ⟨rfl, rfl, rfl, trivial⟩ ?_
      refine PW.loopK (I := fun mi T S' => ∃ i : Nat, (i ≤ L.length ∧ mi = L.length - i) ∧ T = ([(3, m0.ptr), (9, .slice LA L.length lc), (10, .int .i64 i)] : TT) ∧ S' = seg :: (GS m ++ [])) (m := L.length) ⟨0, ⟨by omega, by omega⟩, rfl, rfl⟩ ?_
      rintro mi _ _ ⟨i, ⟨hi, hmi⟩, rfl, rfl⟩
      refine PW.seq fun K12 hK12 => ?_
      refine PW.seqOps ?_
      refine OL.det trivial (Yields.pure rfl) ?_
      refine OL.det trivial (Yields.pure rfl) ?_
      refine OL.det trivial (Yields.pure rfl) ?_
      refine OL.det trivial (Yields.pure rfl) ?_
      refine OL.bool trivial (Yields.pure rfl) (fun g83 => ?_) (fun g83 => ?_)
      · try simp only [decide_eq_true_eq, decide_eq_false_iff_not, beq_iff_eq, bne_iff_ne, beq_eq_false_iff_ne, bne_eq_false_iff_eq, Bool.not_eq_true', Bool.not_eq_false', Bool.not_eq_true, ne_eq, Decidable.not_not, Bool.false_eq_true, if_false, if_true] at g83
        refine OL.det rfl (Yields.pure rfl) ?_
        refine OL.det rfl (Yields.pure rfl) ?_
        refine OL.det rfl (Yields.pure rfl) ?_
        refine OL.det trivial (Yields.pure rfl) ?_
        refine OL.nil ?_
        refine PW.keep (T' := [(3, _), (9, _), (10, _), (87, _)]) ⟨rfl, rfl, rfl, rfl, trivial⟩ ?_
        refine PW.cond rfl (fun c87 => ?_) (fun c87 => ?_)
        · try simp only [decide_eq_true_eq, decide_eq_false_iff_not, beq_iff_eq, bne_iff_ne, beq_eq_false_iff_ne, bne_eq_false_iff_eq, Bool.not_eq_true', Bool.not_eq_false', Bool.not_eq_true, ne_eq, Decidable.not_not, Bool.false_eq_true, if_false, if_true] at c87
          have hil : i < L.length := by omega
          refine PW.skip ?_
          refine hK12 _ _ ?_
          refine PW.keep (T' := [(3, _), (9, _), (10, _)]) ⟨rfl, rfl, rfl, trivial⟩ ?_
          refine PW.seq fun K13 hK13 => ?_
          refine PW.block ?_
          refine PW.seqOps ?_
          refine OL.det trivial (Yields.pure rfl) ?_
          refine OL.nil ?_
          refine PW.keep (T' := [(3, _), (9, _), (10, _), (11, _)]) ⟨rfl, rfl, rfl, rfl, trivial⟩ ?_
          refine PW.block ?_
          refine PW.keep (T' := [(3, _), (9, _), (10, _), (11, _)]) ⟨rfl, rfl, rfl, rfl, trivial⟩ ?_
          refine PW.loopK (I := fun mj T S' => ∃ j : Nat, (j ≤ i + 1 ∧ mj = i + 1 - j) ∧ T = ([(3, m0.ptr), (9, .slice LA L.length lc), (10, .int .i64 i), (11, .int .i64 j)] : TT) ∧ S' = seg :: (GS m ++ [])) (m := i + 1) ⟨0, ⟨by omega, by omega⟩, rfl, rfl⟩ ?_
          rintro mj _ _ ⟨j, ⟨hj, hmj⟩, rfl, rfl⟩
          refine PW.seq fun K14 hK14 => ?_
          refine PW.seqOps ?_
          refine OL.det trivial (Yields.pure rfl) ?_
          refine OL.det trivial (Yields.pure rfl) ?_
          refine OL.det trivial (Yields.pure rfl) ?_
          refine OL.nil ?_
          refine PW.keep (T' := [(3, _), (9, _), (10, _), (11, _), (92, _)]) ⟨rfl, rfl, rfl, rfl, rfl, trivial⟩ ?_
          refine PW.cond rfl (fun c92 => ?_) (fun c92 => ?_)
          · try simp only [decide_eq_true_eq, decide_eq_false_iff_not, beq_iff_eq, bne_iff_ne, beq_eq_false_iff_ne, bne_eq_false_iff_eq, Bool.not_eq_true', Bool.not_eq_false', Bool.not_eq_true, ne_eq, Decidable.not_not, Bool.false_eq_true, if_false, if_true] at c92
            have hjl : j < L.length := by omega
            obtain ⟨a0, ha0⟩ := lines_some hrd1 (by omega)
            have hrd2 := hrd1
            rw [ha0] at hrd2
            refine PW.skip ?_
            refine hK14 _ _ ?_
            refine PW.keep (T' := [(3, _), (9, _), (10, _), (11, _)]) ⟨rfl, rfl, rfl, rfl, trivial⟩ ?_
            refine PW.seq fun K15 hK15 => ?_
            refine PW.block ?_
            refine PW.seq fun K16 hK16 => ?_
            refine PW.seq fun K17 hK17 => ?_
            refine PW.quietK Try.mixed ?_
            refine QK.det trivial (Yields.pure rfl) ?_
            refine QK.det trivial (Yields.pure rfl) ?_
            refine QK.det trivial (Yields.pure rfl) ?_
            rw [ha0]
            refine QK.det trivial (Yields.ixN rfl rfl rfl (by omega)) ?_
            refine QK.det trivial (Yields.pure rfl) ?_
            refine QK.det trivial (Yields.ldA rfl (vtxL_len _) (line_vtx hrd2 hil)) ?_
            refine QK.det trivial (Yields.pure rfl) ?_
            refine QK.det trivial (Yields.pure rfl) ?_
            refine QK.det trivial (Yields.ixN rfl rfl rfl (by omega)) ?_
            refine QK.det trivial (Yields.pure rfl) ?_
            refine QK.det trivial (Yields.ldA rfl (vtxL_len _) (line_vtx hrd2 hjl)) ?_
            refine QK.nil ?_
            change OL _ _ _ [_] _ _ _
            refine OL.call trivial rfl (by rw [← ptr_eq hr]; exact before3_fc hg hS (hg.okV (hv _ hil)) (hg.okV (hv _ hjl)) (hno _ _ hil (by omega))) ?_
            rintro _ Sx ⟨rfl, hSx⟩
            rw [hSx]
            clear hSx
            refine OL.nil ?_
            refine hK17 _ _ ?_
            refine PW.keep (T' := [(3, _), (9, _), (10, _), (11, _), (106, _)]) ⟨rfl, rfl, rfl, rfl, rfl, trivial⟩ ?_
            refine PW.cond rfl (fun c106 => ?_) (fun c106 => ?_)
            · try simp only [decide_eq_true_eq, decide_eq_false_iff_not, beq_iff_eq, bne_iff_ne, beq_eq_false_iff_ne, bne_eq_false_iff_eq, Bool.not_eq_true', Bool.not_eq_false', Bool.not_eq_true, ne_eq, Decidable.not_not, Bool.false_eq_true, if_false, if_true] at c106
              -- done
            · try simp only [decide_eq_true_eq, decide_eq_false_iff_not, beq_iff_eq, bne_iff_ne, beq_eq_false_iff_ne, bne_eq_false_iff_eq, Bool.not_eq_true', Bool.not_eq_false', Bool.not_eq_true, ne_eq, Decidable.not_not, Bool.false_eq_true, if_false, if_true] at c106
              refine PW.skip ?_
              refine hK16 _ _ ?_
              refine PW.keep (T' := [(3, _), (9, _), (10, _), (11, _)]) ⟨rfl, rfl, rfl, rfl, trivial⟩ ?_
              refine PW.seqOps ?_
              refine OL.det trivial (Yields.pure rfl) ?_
              refine OL.det trivial (Yields.add64 rfl rfl (by omega) (by omega)) ?_
              refine OL.det trivial (Yields.pure rfl) ?_
              refine OL.nil ?_
              refine PW.keep (T' := [(3, _), (9, _), (10, _), (11, _), (12, _)]) ⟨rfl, rfl, rfl, rfl, rfl, trivial⟩ ?_
              refine PW.block ?_
              refine PW.keep (T' := [(3, _), (9, _), (10, _), (11, _), (12, _)]) ⟨rfl, rfl, rfl, rfl, rfl, trivial⟩ ?_
              refine PW.loopK (I := fun mn T S' => ∃ n : Nat, (n ≤ L.length ∧ mn = L.length - n) ∧ T = ([(3, m0.ptr), (9, .slice (some a0) L.length lc), (10, .int .i64 i), (11, .int .i64 j), (12, .int .i64 n)] : TT) ∧ S' = seg :: (GS m ++ [])) (m := L.length - (i + 1)) ⟨i + 1, ⟨by omega, by omega⟩, rfl, rfl⟩ ?_
              rintro mn _ _ ⟨n, ⟨hn1, hmn⟩, rfl, rfl⟩
              refine PW.seq fun K18 hK18 => ?_
              refine PW.seqOps ?_
              refine OL.det trivial (Yields.pure rfl) ?_
              refine OL.det trivial (Yields.pure rfl) ?_
              refine OL.det trivial (Yields.pure rfl) ?_
              refine OL.det trivial (Yields.pure rfl) ?_
              refine OL.nil ?_
              refine PW.keep (T' := [(3, _), (9, _), (10, _), (11, _), (12, _), (112, _)]) ⟨rfl, rfl, rfl, rfl, rfl, rfl, trivial⟩ ?_
              refine PW.cond rfl (fun c112 => ?_) (fun c112 => ?_)
              · try simp only [decide_eq_true_eq, decide_eq_false_iff_not, beq_iff_eq, bne_iff_ne, beq_eq_false_iff_ne, bne_eq_false_iff_eq, Bool.not_eq_true', Bool.not_eq_false', Bool.not_eq_true, ne_eq, Decidable.not_not, Bool.false_eq_true, if_false, if_true] at c112
                have hnl : n < L.length := by omega
                refine PW.skip ?_
                refine hK18 _ _ ?_
                refine PW.keep (T' := [(3, _), (9, _), (10, _), (11, _), (12, _)]) ⟨rfl, rfl, rfl, rfl, rfl, trivial⟩ ?_
                refine PW.seq fun K19 hK19 => ?_
                refine PW.block ?_
                refine PW.seq fun K20 hK20 => ?_
                refine PW.quiet2QK Try.mixed ?_
                refine QK.det trivial (Yields.pure rfl) ?_
                refine QK.det trivial (Yields.pure rfl) ?_
                refine QK.det trivial (Yields.pure rfl) ?_
                rw [ha0]
                refine QK.det trivial (Yields.ixN rfl rfl rfl (by omega)) ?_
                refine QK.det trivial (Yields.pure rfl) ?_
                refine QK.det trivial (Yields.ldA rfl (vtxL_len _) (line_vtx hrd2 hjl)) ?_
                refine QK.det trivial (Yields.pure rfl) ?_
                refine QK.det trivial (Yields.pure rfl) ?_
                refine QK.det trivial (Yields.ixN rfl rfl rfl (by omega)) ?_
                refine QK.det trivial (Yields.pure rfl) ?_
                refine QK.det trivial (Yields.ldA rfl (vtxL_len _) (line_vtx hrd2 hil)) ?_
                refine QK.call trivial rfl (by rw [← ptr_eq hr]; exact before3_fc hg hS (hg.okV (hv _ hjl)) (hg.okV (hv _ hil)) rfl) ?_
                refine QK.bool trivial (Yields.pure rfl) (fun g127 => ?_) (fun g127 => ?_)
                · try simp only [decide_eq_true_eq, decide_eq_false_iff_not, beq_iff_eq, bne_iff_ne, beq_eq_false_iff_ne, bne_eq_false_iff_eq, Bool.not_eq_true', Bool.not_eq_false', Bool.not_eq_true, ne_eq, Decidable.not_not, Bool.false_eq_true, if_false, if_true] at g127
                  refine QK.det rfl (Yields.pure rfl) ?_
                  refine QK.det rfl (Yields.pure rfl) ?_
                  refine QK.det rfl (Yields.pure rfl) ?_
                  refine QK.det rfl (Yields.ixN rfl rfl rfl (by omega)) ?_
                  refine QK.det rfl (Yields.pure rfl) ?_
                  refine QK.det rfl (Yields.ldA rfl (vtxL_len _) (line_vtx hrd2 hil)) ?_
                  refine QK.det rfl (Yields.pure rfl) ?_
                  refine QK.det rfl (Yields.pure rfl) ?_
                  refine QK.det rfl (Yields.ixN rfl rfl rfl (by omega)) ?_
                  refine QK.det rfl (Yields.pure rfl) ?_
                  refine QK.det rfl (Yields.ldA rfl (vtxL_len _) (line_vtx hrd2 hnl)) ?_
                  refine QK.call rfl rfl (by rw [← ptr_eq hr]; exact before3_fc hg hS (hg.okV (hv _ hil)) (hg.okV (hv _ hnl)) rfl) ?_
                  refine QK.det trivial (Yields.pure rfl) ?_
                  refine QK.bool trivial (Yields.pure rfl) (fun g141 => ?_) (fun g141 => ?_)
                  · try simp only [decide_eq_true_eq, decide_eq_false_iff_not, beq_iff_eq, bne_iff_ne, beq_eq_false_iff_ne, bne_eq_false_iff_eq, Bool.not_eq_true', Bool.not_eq_false', Bool.not_eq_true, ne_eq, Decidable.not_not, Bool.false_eq_true, if_false, if_true] at g141
                    refine QK.det rfl (Yields.pure rfl) ?_
                    refine QK.det rfl (Yields.pure rfl) ?_
                    refine QK.det rfl (Yields.pure rfl) ?_
                    refine QK.det rfl (Yields.ixN rfl rfl rfl (by omega)) ?_
                    refine QK.det rfl (Yields.pure rfl) ?_
                    refine QK.det rfl (Yields.ldA rfl (vtxL_len _) (line_vtx hrd2 hjl)) ?_
                    refine QK.det rfl (Yields.pure rfl) ?_
                    refine QK.det rfl (Yields.pure rfl) ?_
                    refine QK.det rfl (Yields.ixN rfl rfl rfl (by omega)) ?_
                    refine QK.det rfl (Yields.pure rfl) ?_
                    refine QK.det rfl (Yields.ldA rfl (vtxL_len _) (line_vtx hrd2 hnl)) ?_
                    refine QK.nil ?_
                    change OL _ _ _ [_, _, _] _ _ _
                    refine OL.call rfl rfl (by rw [← ptr_eq hr]; exact before3_fc hg hS (hg.okV (hv _ hjl)) (hg.okV (hv _ hnl)) (befP_trans hg.sq g127 g141)) ?_
                    rintro _ Sx ⟨rfl, hSx⟩
                    rw [hSx]
                    clear hSx
                    refine OL.det rfl (Yields.pure rfl) ?_
                    refine OL.det trivial (Yields.pure rfl) ?_
                    refine OL.nil ?_
                    refine hK20 _ _ ?_
                    refine PW.keep (T' := [(3, _), (9, _), (10, _), (11, _), (12, _), (155, _)]) ⟨rfl, rfl, rfl, rfl, rfl, rfl, trivial⟩ ?_
                    refine PW.cond rfl (fun c155 => ?_) (fun c155 => ?_)
                    · try simp only [decide_eq_true_eq, decide_eq_false_iff_not, beq_iff_eq, bne_iff_ne, beq_eq_false_iff_ne, bne_eq_false_iff_eq, Bool.not_eq_true', Bool.not_eq_false', Bool.not_eq_true, ne_eq, Decidable.not_not, Bool.false_eq_true, if_false, if_true] at c155
                      exfalso; simp at c155
                      -- done
                    · try simp only [decide_eq_true_eq, decide_eq_false_iff_not, beq_iff_eq, bne_iff_ne, beq_eq_false_iff_ne, bne_eq_false_iff_eq, Bool.not_eq_true', Bool.not_eq_false', Bool.not_eq_true, ne_eq, Decidable.not_not, Bool.false_eq_true, if_false, if_true] at c155
                      refine PW.skip ?_
                      refine hK19 _ _ ?_
                      refine PW.keep (T' := [(3, _), (9, _), (10, _), (11, _), (12, _)]) ⟨rfl, rfl, rfl, rfl, rfl, trivial⟩ ?_
                      refine PW.ops ?_
                      refine OL.det trivial (Yields.pure rfl) ?_
                      refine OL.det trivial (Yields.add64 rfl rfl (by omega) (by omega)) ?_
                      refine OL.det trivial (Yields.pure rfl) ?_
                      refine OL.nil ?_
                      repeat rw [inBlk_n]
                      try rw [thenK_n]
                      refine LoopEnd.mk (T'' := [(3, _), (9, _), (10, _), (11, _), (12, _)]) ⟨rfl, rfl, rfl, rfl, rfl, trivial⟩ ?_
                      exact ⟨L.length - (n + 1), by omega, n + 1, ⟨by omega, rfl⟩, rfl, rfl⟩
                  · try simp only [decide_eq_true_eq, decide_eq_false_iff_not, beq_iff_eq, bne_iff_ne, beq_eq_false_iff_ne, bne_eq_false_iff_eq, Bool.not_eq_true', Bool.not_eq_false', Bool.not_eq_true, ne_eq, Decidable.not_not, Bool.false_eq_true, if_false, if_true] at g141
                    refine QK.off rfl rfl ?_
                    refine QK.off rfl rfl ?_
                    refine QK.off rfl rfl ?_
                    refine QK.off rfl rfl ?_
                    refine QK.off rfl rfl ?_
                    refine QK.off rfl rfl ?_
                    refine QK.off rfl rfl ?_
                    refine QK.off rfl rfl ?_
                    refine QK.off rfl rfl ?_
                    refine QK.off rfl rfl ?_
                    refine QK.off rfl rfl ?_
                    refine QK.nil ?_
                    change OL _ _ _ [_, _, _] _ _ _
                    refine OL.off rfl rfl ?_
                    refine OL.off rfl rfl ?_
                    refine OL.det trivial (Yields.pure rfl) ?_
                    refine OL.nil ?_
                    refine hK20 _ _ ?_
                    refine PW.keep (T' := [(3, _), (9, _), (10, _), (11, _), (12, _), (155, _)]) ⟨rfl, rfl, rfl, rfl, rfl, rfl, trivial⟩ ?_
                    refine PW.ite (b := false) rfl ?_
                    rw [if_neg Bool.false_ne_true]
                    refine PW.skip ?_
                    refine hK19 _ _ ?_
                    refine PW.keep (T' := [(3, _), (9, _), (10, _), (11, _), (12, _)]) ⟨rfl, rfl, rfl, rfl, rfl, trivial⟩ ?_
                    refine PW.ops ?_
                    refine OL.det trivial (Yields.pure rfl) ?_
                    refine OL.det trivial (Yields.add64 rfl rfl (by omega) (by omega)) ?_
                    refine OL.det trivial (Yields.pure rfl) ?_
                    refine OL.nil ?_
                    repeat rw [inBlk_n]
                    try rw [thenK_n]
                    refine LoopEnd.mk (T'' := [(3, _), (9, _), (10, _), (11, _), (12, _)]) ⟨rfl, rfl, rfl, rfl, rfl, trivial⟩ ?_
                    exact ⟨L.length - (n + 1), by omega, n + 1, ⟨by omega, rfl⟩, rfl, rfl⟩
                · try simp only [decide_eq_true_eq, decide_eq_false_iff_not, beq_iff_eq, bne_iff_ne, beq_eq_false_iff_ne, bne_eq_false_iff_eq, Bool.not_eq_true', Bool.not_eq_false', Bool.not_eq_true, ne_eq, Decidable.not_not, Bool.false_eq_true, if_false, if_true] at g127
                  refine QK.off rfl rfl ?_
                  refine QK.off rfl rfl ?_
                  refine QK.off rfl rfl ?_
                  refine QK.off rfl rfl ?_
                  refine QK.off rfl rfl ?_
                  refine QK.off rfl rfl ?_
                  refine QK.off rfl rfl ?_
                  refine QK.off rfl rfl ?_
                  refine QK.off rfl rfl ?_
                  refine QK.off rfl rfl ?_
                  refine QK.off rfl rfl ?_
                  refine QK.off rfl rfl ?_
                  refine QK.det trivial (Yields.pure rfl) ?_
                  refine QK.det trivial (Yields.pure rfl) ?_
                  refine QK.off rfl rfl ?_
                  refine QK.off rfl rfl ?_
                  refine QK.off rfl rfl ?_
                  refine QK.off rfl rfl ?_
                  refine QK.off rfl rfl ?_
                  refine QK.off rfl rfl ?_
                  refine QK.off rfl rfl ?_
                  refine QK.off rfl rfl ?_
                  refine QK.off rfl rfl ?_
                  refine QK.off rfl rfl ?_
                  refine QK.off rfl rfl ?_
                  refine QK.nil ?_
                  change OL _ _ _ [_, _, _] _ _ _
                  refine OL.off rfl rfl ?_
                  refine OL.off rfl rfl ?_
                  refine OL.det trivial (Yields.pure rfl) ?_
                  refine OL.nil ?_
                  refine hK20 _ _ ?_
                  refine PW.keep (T' := [(3, _), (9, _), (10, _), (11, _), (12, _), (155, _)]) ⟨rfl, rfl, rfl, rfl, rfl, rfl, trivial⟩ ?_
                  refine PW.ite (b := false) rfl ?_
                  rw [if_neg Bool.false_ne_true]
                  refine PW.skip ?_
                  refine hK19 _ _ ?_
                  refine PW.keep (T' := [(3, _), (9, _), (10, _), (11, _), (12, _)]) ⟨rfl, rfl, rfl, rfl, rfl, trivial⟩ ?_
                  refine PW.ops ?_
                  refine OL.det trivial (Yields.pure rfl) ?_
                  refine OL.det trivial (Yields.add64 rfl rfl (by omega) (by omega)) ?_
                  refine OL.det trivial (Yields.pure rfl) ?_
                  refine OL.nil ?_
                  repeat rw [inBlk_n]
                  try rw [thenK_n]
                  refine LoopEnd.mk (T'' := [(3, _), (9, _), (10, _), (11, _), (12, _)]) ⟨rfl, rfl, rfl, rfl, rfl, trivial⟩ ?_
                  exact ⟨L.length - (n + 1), by omega, n + 1, ⟨by omega, rfl⟩, rfl, rfl⟩
              · try simp only [decide_eq_true_eq, decide_eq_false_iff_not, beq_iff_eq, bne_iff_ne, beq_eq_false_iff_ne, bne_eq_false_iff_eq, Bool.not_eq_true', Bool.not_eq_false', Bool.not_eq_true, ne_eq, Decidable.not_not, Bool.false_eq_true, if_false, if_true] at c112
                refine PW.exit ?_
                refine hK15 _ _ ?_
                refine PW.keep (T' := [(3, _), (9, _), (10, _), (11, _)]) ⟨rfl, rfl, rfl, rfl, trivial⟩ ?_
                refine PW.ops ?_
                refine OL.det trivial (Yields.pure rfl) ?_
                refine OL.det trivial (Yields.add64 rfl rfl (by omega) (by omega)) ?_
                refine OL.det trivial (Yields.pure rfl) ?_
                refine OL.nil ?_
                repeat rw [inBlk_n]
                try rw [thenK_n]
                refine LoopEnd.mk (T'' := [(3, _), (9, _), (10, _), (11, _)]) ⟨rfl, rfl, rfl, rfl, trivial⟩ ?_
                rw [ha0]
                exact ⟨i + 1 - (j + 1), by omega, j + 1, ⟨by omega, rfl⟩, rfl, rfl⟩
          · try simp only [decide_eq_true_eq, decide_eq_false_iff_not, beq_iff_eq, bne_iff_ne, beq_eq_false_iff_ne, bne_eq_false_iff_eq, Bool.not_eq_true', Bool.not_eq_false', Bool.not_eq_true, ne_eq, Decidable.not_not, Bool.false_eq_true, if_false, if_true] at c92
            refine PW.exit ?_
            refine hK13 _ _ ?_
            refine PW.keep (T' := [(3, _), (9, _), (10, _)]) ⟨rfl, rfl, rfl, trivial⟩ ?_
            refine PW.ops ?_
            refine OL.det trivial (Yields.pure rfl) ?_
            refine OL.det trivial (Yields.add64 rfl rfl (by omega) (by omega)) ?_
            refine OL.det trivial (Yields.pure rfl) ?_
            refine OL.nil ?_
            repeat rw [inBlk_n]
            try rw [thenK_n]
            refine LoopEnd.mk (T'' := [(3, _), (9, _), (10, _)]) ⟨rfl, rfl, rfl, trivial⟩ ?_
            exact ⟨L.length - (i + 1), by omega, i + 1, ⟨by omega, rfl⟩, rfl, rfl⟩
        · try simp only [decide_eq_true_eq, decide_eq_false_iff_not, beq_iff_eq, bne_iff_ne, beq_eq_false_iff_ne, bne_eq_false_iff_eq, Bool.not_eq_true', Bool.not_eq_false', Bool.not_eq_true, ne_eq, Decidable.not_not, Bool.false_eq_true, if_false, if_true] at c87
          refine PW.exit ?_
          refine hK11 _ _ ?_
          refine PW.keep (T' := []) trivial ?_
          refine PW.seqOps ?_
          refine OL.call trivial rfl (awake_fc) ?_
          rintro _ Sx ⟨rfl, hSx⟩
          rw [hSx]
          clear hSx
          refine OL.det trivial (Yields.pure rfl) ?_
          refine OL.nil ?_
          refine PW.keep (T' := [(2, _)]) ⟨rfl, trivial⟩ ?_
          refine PW.ret ?_
          change (Exit.ret = Exit.normal ∨ Exit.ret = Exit.ret) ∧ ∃ v, resV _ _ = some v ∧ _
          exact ⟨.inr rfl, _, rfl, _, Sub.refl _, rfl⟩
      · try simp only [decide_eq_true_eq, decide_eq_false_iff_not, beq_iff_eq, bne_iff_ne, beq_eq_false_iff_ne, bne_eq_false_iff_eq, Bool.not_eq_true', Bool.not_eq_false', Bool.not_eq_true, ne_eq, Decidable.not_not, Bool.false_eq_true, if_false, if_true] at g83
        refine OL.off rfl rfl ?_
        refine OL.off rfl rfl ?_
        refine OL.off rfl rfl ?_
        refine OL.det trivial (Yields.pure rfl) ?_
        refine OL.nil ?_
        refine PW.keep (T' := [(3, _), (9, _), (10, _), (87, _)]) ⟨rfl, rfl, rfl, rfl, trivial⟩ ?_
        refine PW.ite (b := false) rfl ?_
        rw [if_neg Bool.false_ne_true]
        refine PW.exit ?_
        refine hK11 _ _ ?_
        refine PW.keep (T' := []) trivial ?_
        refine PW.seqOps ?_
        refine OL.call trivial rfl (awake_fc) ?_
        rintro _ Sx ⟨rfl, hSx⟩
        rw [hSx]
        clear hSx
        refine OL.det trivial (Yields.pure rfl) ?_
        refine OL.nil ?_
        refine PW.keep (T' := [(2, _)]) ⟨rfl, trivial⟩ ?_
        refine PW.ret ?_
        change (Exit.ret = Exit.normal ∨ Exit.ret = Exit.ret) ∧ ∃ v, resV _ _ = some v ∧ _
        exact ⟨.inr rfl, _, rfl, _, Sub.refl _, rfl⟩
end Go.Proofs.Gr

set_option linter.unusedVariables false
set_option linter.unusedSimpArgs false
namespace Go.Proofs.Gr
open Go.SL Go.RowKit Go.Proofs Go.GP Go.ChangeShapes Go.WideShapes Go.ChangeAt
set_option maxRecDepth 100000 in
theorem act_of {H : Type} {enc : TypeId × Value → H} {W : World} {n : Nat} {cs : List Value} {y : DataW H × List MemPlace} (h : DataW.trod enc Try.prog W 0 (fun _ => true) true n 38 cs = some y) (hw : ∀ k ∈ y.1.weights Try.prog 38, k ≤ reachBytes) : ∃ a : ActM, cs = actC a ∧ PartA W a.p := by
  obtain ⟨m, xs, hl, hsz, hf⟩ := trod_parts Try.underlying38 h hw
  rw [show Try.prog.cellsOf 38 = 103 by kernel_rfl] at hl
  have c4 : Try.prog.cellsOf 4 = 1 := by kernel_rfl
  have c36 : Try.prog.cellsOf 36 = 102 := by kernel_rfl
  obtain ⟨y0, _, t0⟩ := hf 0 _ rfl
  obtain ⟨y1, e1, t1⟩ := hf 1 _ rfl
  have s0 : DataW.trod enc Try.prog W 0 (fun _ => true) true m 4 ((cs.drop 0).take (Try.prog.cellsOf 4)) = some y0 := t0
  rw [c4] at s0
  have s1 : DataW.trod enc Try.prog W 0 (fun _ => true) true m 36 ((cs.drop 1).take (Try.prog.cellsOf 36)) = some y1 := t1
  rw [c36] at s1
  have hsz' : (DataW.weightsEach Try.prog [4, 36] (xs.map (·.1))).all (· ≤ reachBytes) = true := hsz
  have w1 : ∀ k ∈ y1.1.weights Try.prog 36, k ≤ reachBytes := fun k hk => by
    have := List.all_eq_true.1 hsz' _ (DataW.weights_mem_each (j := 1) (t := 36) (d := y1.1) rfl (by rw [List.getElem?_map, e1]; rfl) k hk)
    simpa using this
  obtain ⟨p, ep, hp⟩ := part_of s1 w1
  have f0 := deep_fits 6 m 4 [.bool] _ y0 (by kernel_rfl) s0 (by rw [List.length_take, List.length_drop, hl]; rfl)
  obtain ⟨b, eb⟩ : ∃ b : Bool, (cs.drop 0).take 1 = [.bool b] := by
    cases e : (cs.drop 0).take 1 with
    | nil => rw [e] at f0; exact f0.elim
    | cons v r =>
      rw [e] at f0
      obtain ⟨⟨b, rfl⟩, h2⟩ := f0
      cases r with
      | nil => exact ⟨b, rfl⟩
      | cons _ _ => exact h2.elim
  refine ⟨⟨b, p⟩, ?_, hp⟩
  have e2 : cs = (cs.drop 0).take 1 ++ (cs.drop 1).take 102 := by
    rw [List.drop_zero, List.take_of_length_le (l := cs.drop 1) (by rw [List.length_drop]; omega), List.take_append_drop]
  rw [e2, eb, ep]
  rfl
set_option maxRecDepth 100000 in
theorem acts_arg {H : Type} {enc : TypeId × Value → H} {W : World} {r : Reach} {base j : Nat} {v : Value} {d : DataW H} {ps : List MemPlace} {ts : List TypeId} {ds : List (DataW H)} (hv : Value.okWide Try.prog W r base 22 v)
    (h : DataW.Trod enc Try.prog W 0 (fun _ => true) true 22 v d ps) (hsz : (DataW.weightsEach Try.prog ts ds).all (· ≤ reachBytes) = true) (ht : ts[j]? = some 22) (hd : ds[j]? = some d) :
    ∃ (A : Option Addr) (c : Nat) (l : List ActM), v = .slice A l.length c ∧ Acts W A l := by
  obtain ⟨A, len, cap, rfl⟩ := okWide_slice Try.underlying22 hv
  obtain ⟨l, rfl, hr, hR, hy, hc⟩ := arg_listW (j := j) (f := actC) (R := fun a => PartA W a.p) Try.underlying22 (fun n cs y hh _ hw => act_of hh hw) h hsz ht hd
  rw [show Try.prog.bytesOf 38 = 184 by kernel_rfl] at hy
  simp only [reachBytes] at hy
  exact ⟨A, cap, l, rfl, hr, hR, by omega⟩
end Go.Proofs.Gr
