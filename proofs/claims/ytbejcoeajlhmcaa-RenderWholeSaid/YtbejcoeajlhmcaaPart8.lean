/- Walks and plain facts for the laws of this seat: what each function answers, for every input. -/
import Derived.Test.YtbejcoeajlhmcaaPart7
set_option linter.unusedVariables false
set_option linter.unusedSimpArgs false
set_option linter.unusedSectionVars false

namespace Go.Proofs.Gr
open Go.SL Go.RowKit Go.Proofs Go.GP
set_option maxHeartbeats 1000000
theorem rBef_fc {w0 : World} {S : SS} {A : Option Addr} {c : Nat} {l : List PartM} {a b : Vtx} (h : PartsRd w0 S A l) (hr : ∀ v ∈ allV (pls l), v ≠ rootV ∧ v ≠ endV) (hb : Bef (pls l) a b) :
  FC Try.prog w0 95 [.slice A l.length c, vtxV a, vtxV b] S (fun v S' => v = .bool true ∧ S' = S) := by
 obtain ⟨h1, h2, h3, h4, h5, h6⟩ := hb
 have ha : a = rootV ∨ a ∈ allV (pls l) := h1.imp_right fun h => h.resolve_left h4
 have hb : b = endV ∨ b ∈ allV (pls l) := h2.resolve_left h5
 by_cases e1 : a = rootV
 ·exact rBefB_fc h ha hb h3 h4 h5 (.inl e1)
 by_cases e2 : b = endV
 ·exact rBefB_fc h ha hb h3 h4 h5 (.inr e2)
 exact rBefA_fc h (ha.resolve_left e1) (hb.resolve_left e2) h3 h4 h5 e1 e2 (r := true) ⟨fun _ => (h6.resolve_left e1).resolve_left e2, fun _ => rfl⟩
def KH : List CK := List.replicate 32 (.int .u8)
theorem eqL_hash (a b : HashB) : eqL KH (bytesC a.1) (bytesC b.1) = some (decide (a = b)) := by
 have h := eqL_bytes (x := a.1) (y := b.1) (by rw [a.2, b.2])
 rw [a.2] at h
 rw [show KH = List.replicate 32 (.int .u8) from rfl, h]
 congr 1
 exact decide_eq_decide.2 ⟨fun e => Subtype.ext e, fun e => congrArg _ e⟩
theorem appP2 {P : Program} {w0 : World} {n : Nat} {T : TT} {S : SS} {k m q c : Nat} {z v : Value} {s x : PV} {A : Option Addr} {xs l : List PartM} {seg : Seg} (hs' : s.val T = some v) (hk : S[k]? = some seg) (hv : SlV 123 102 v m (partS xs) seg)
  (hx : x.val T = some (.slice A q c)) (hq : l.length = q) (hrd : Rd w0 S A (partS l)) (hc : A = none → c = 0) (hb : m + q ≤ 1000000) :
  OW P w0 n (.app 61 123 102 176 z s x) T S (fun v' S' => ∃ seg', S' = S.set k seg' ∧ SlV 123 102 v' (m + q) (partS (xs ++ l)) seg') := by
 have h := OW.appL (P := P) (w0 := w0) (n := n) (t := 61) (z := z) (bytes := 176) hs' hk hv hx (by rw [partS_len, hq]) hrd (by decide) hc (partS_one l) (by omega) (by unfold maxLen; omega)
 rw [← partS_app] at h
 exact h
section
variable {w0 : World} {S : SS} {a : Addr} {l : List PartM} {k : Nat}
theorem partS_patch (h : Rd w0 S (some a) (partS l)) (hk : k < l.length) : ∀ (j : Nat) (v : Value), (bytesC l[k].patch.1)[j]? = some v → Cell w0 S (((a.add (k * 102)).add 0).add j) v := by
 intro j v hj
 have hj2 := (List.getElem?_eq_some_iff.1 hj).1
 rw [addr_add_add (a.add (k * 102))]
 refine partS_at h hk (0 + j) v ?_
 rw [Nat.zero_add, partC_split, List.getElem?_append_left hj2]
 exact hj
theorem partS_at32 (h : Rd w0 S (some a) (partS l)) (hk : k < l.length) : Cell w0 S ((a.add (k * 102)).add 32) (.int .i64 l[k].at_) := by
 refine partS_at h hk 32 _ ?_
 have h1 := hb_len l[k].patch
 rw [partC_split, List.getElem?_append_right (by omega), h1]
 rfl
end
theorem nodup_take {l : List Vtx} (h : l.Nodup) {k : Nat} (hk : k < l.length) : l[k] ∉ l.take k := by
 intro hm
 obtain ⟨i, hi, e⟩ := List.getElem_of_mem hm
 rw [List.length_take] at hi
 rw [List.getElem_take] at e
 have := (List.getElem_inj h).1 e
 omega
theorem rAdd_fc {w0 : World} {S : SS} {A : Option Addr} {c : Nat} {l : List PartM} {p : PartM} (h : PartsRd w0 S A l) (hp : PartRd w0 S p) (hcA : A = none → c = 0) (hnew : New (pls l) p.pl) (hline : ∀ v ∈ allV (pls l), v ≠ rootV ∧ v ≠ endV) :
  FC Try.prog w0 68 [.slice A l.length c, partV p] S (fun v S' => ∃ v1 seg, v = .tuple #[v1, .int .i64 0] ∧ S' = seg :: S ∧ SlV 123 102 v1 (l ++ [p]).length (partS (l ++ [p])) seg) := by
 have hll := h.len
 have hrd := h.rd
 have hal : (allV (pls l)).length ≤ 1000000 := by
  have := allV_len (l := l) (fun p hp => (h.part p hp).small.1) l.length (Nat.le_refl _)
  rw [List.take_length] at this
  omega
 have hpl := hp.rng.lines
 have hgn := hp.rng.gones
 have hup : p.up ≠ rootV → p.up ∈ allV (pls l) := fun e => (hnew.up.resolve_left e).resolve_left hnew.upE
 have hdn : p.down ≠ endV → p.down ∈ allV (pls l) := fun e => (hnew.down.resolve_left hnew.downR).resolve_left e
 have hol : (own p.pl).length = p.lines.length := own_len p.pl
 refine FC.ofD Try.known68 (by simp) ?_
 unfold Try.pc68
 simp only [argT]
 refine PW.seqOps ?_
 refine OL.cons trivial (OW.bx rfl) ?_
 rintro _ _ ⟨r3, rfl, rfl⟩
 rw [part_box, partC_len]
 refine OL.dp rfl ?_
 refine OL.dp rfl ?_
 refine OL.nil ?_
 refine PW.keep (T' := [(0, _), (3, _)]) ⟨rfl, rfl, trivial⟩ ?_
 refine PW.seqOps ?_
 refine OL.dp rfl ?_
 refine OL.call trivial rfl (rAll_fc h.cons) ?_
 rintro _ _ ⟨sga, rfl, hsa⟩
 obtain ⟨Aa, ca, rfl, hna, hca, hra⟩ := slv_rdL (w0 := w0) hsa
 refine OL.dp rfl ?_
 refine OL.nil ?_
 refine PW.keep (T' := [(0, _), (3, _), (6, _)]) ⟨rfl, rfl, rfl, trivial⟩ ?_
 refine PW.seqOps ?_
 refine OL.det trivial (Yields.ldA rfl (partC_len _) (all_at (List.mem_flatten.2 ⟨_, .tail _ (.head _), List.mem_singleton.2 rfl⟩))) ?_
 refine OL.call trivial rfl (rOwn_fc hp.rng) ?_
 rintro _ _ ⟨sgo, rfl, hso⟩
 obtain ⟨Ao, co, rfl, hno, hco, hro⟩ := slv_rdL (w0 := w0) hso
 refine OL.dp rfl ?_
 refine OL.nil ?_
 refine PW.keep (T' := [(0, _), (3, _), (6, _), (7, _)]) ⟨rfl, rfl, rfl, rfl, trivial⟩ ?_
 refine PW.seq fun K1 hK1 => ?_
 refine PW.seqOps ?_
 refine OL.dp rfl ?_
 refine OL.nil ?_
 refine PW.keep (T' := [(0, _), (3, _), (6, _), (7, _), (8, _)]) ⟨rfl, rfl, rfl, rfl, rfl, trivial⟩ ?_
 refine PW.block ?_
 refine PW.keep (T' := [(0, _), (3, _), (6, _), (7, _), (8, _)]) ⟨rfl, rfl, rfl, rfl, rfl, trivial⟩ ?_
 refine PW.loopK (I := fun mm T S' => ∃ k : Nat, (k ≤ l.length ∧ mm = l.length - k) ∧ T = ([(0, .slice A l.length c), (3, .pointer (some ⟨r3, 0, none⟩)), (6, .slice Aa (allV (pls l)).length ca), (7, .slice Ao (own p.pl).length co), (8, .int .i64 k)] : TT) ∧ S' = sgo :: sga :: [(r3, .cells (partC p) 123 102)] :: S) (m := l.length) ⟨0, ⟨by omega, by omega⟩, rfl, rfl⟩ ?_
 rintro mm _ _ ⟨k, ⟨hk, hmm⟩, rfl, rfl⟩
 refine PW.seq fun K2 hK2 => ?_
 refine PW.seqOps ?_
 refine OL.dp rfl ?_
 refine OL.dp rfl ?_
 refine OL.dp rfl ?_
 refine OL.dp rfl ?_
 refine OL.nil ?_
 refine PW.keep (T' := [(0, _), (3, _), (6, _), (7, _), (8, _), (20, _)]) ⟨rfl, rfl, rfl, rfl, rfl, rfl, trivial⟩ ?_
 refine PW.cond rfl (fun c20 => ?_) (fun c20 => ?_)
 ·try simp only [cvS, Bool.false_eq_true, if_false, if_true] at c20
  have hkl : k < l.length := by omega
  obtain ⟨a0, rfl⟩ := partS_some hrd (by omega)
  refine PW.skip ?_
  refine hK2 _ _ ?_
  refine PW.keep (T' := [(0, _), (3, _), (6, _), (7, _), (8, _)]) ⟨rfl, rfl, rfl, rfl, rfl, trivial⟩ ?_
  refine PW.seq fun K3 hK3 => ?_
  refine PW.block ?_
  refine PW.seq fun K4 hK4 => ?_
  refine PW.quietK Try.mixed ?_
  refine QK.dp rfl ?_
  refine QK.dp rfl ?_
  refine QK.det trivial (Yields.ixN rfl rfl rfl hkl) ?_
  refine QK.dp rfl ?_
  refine QK.det trivial (Yields.ldA rfl (hb_len _) (partS_patch (hrd.cons.cons.cons) hkl)) ?_
  refine QK.dp rfl ?_
  refine QK.det trivial (Yields.ldA rfl (hb_len _) (part_patch (p := p) (E := 123) (tot := 102) (List.mem_flatten.2 ⟨_, .tail _ (.tail _ (.head _)), List.mem_singleton.2 rfl⟩))) ?_
  refine QK.det trivial (Yields.eqD (neg := false) rfl rfl (eqL_hash _ _)) ?_
  refine QK.bool trivial (Yields.pure rfl) (fun g31 => ?_) (fun g31 => ?_)
  ·try simp only [cvS, Bool.false_eq_true, if_false, if_true] at g31
   refine QK.det rfl (Yields.pure rfl) ?_
   refine QK.det rfl (Yields.pure rfl) ?_
   refine QK.det rfl (Yields.ixN rfl rfl rfl hkl) ?_
   refine QK.det rfl (Yields.pure rfl) ?_
   refine QK.det rfl (Yields.ld rfl (partS_at32 (hrd.cons.cons.cons) hkl)) ?_
   refine QK.det rfl (Yields.pure rfl) ?_
   refine QK.det rfl (Yields.ld rfl (part_at (p := p) (E := 123) (tot := 102) (List.mem_flatten.2 ⟨_, .tail _ (.tail _ (.head _)), List.mem_singleton.2 rfl⟩))) ?_
   refine QK.nil ?_
   change OL _ _ _ [_, _] _ _ _
   refine OL.det rfl (Yields.pure rfl) ?_
   refine OL.dp rfl ?_
   refine OL.nil ?_
   refine hK4 _ _ ?_
   refine PW.keep (T' := [(0, _), (3, _), (6, _), (7, _), (8, _), (40, _)]) ⟨rfl, rfl, rfl, rfl, rfl, rfl, trivial⟩ ?_
   refine PW.cond rfl (fun c40 => ?_) (fun c40 => ?_)
   ·try simp only [cvS, Bool.false_eq_true, if_false, if_true] at c40
    exfalso
    exact hnew.name l[k].pl (List.mem_map.2 ⟨_, List.getElem_mem hkl, rfl⟩) (Prod.ext g31 c40)
    -- done
   ·try simp only [cvS, Bool.false_eq_true, if_false, if_true] at c40
    refine PW.skip ?_
    refine hK3 _ _ ?_
    refine PW.keep (T' := [(0, _), (3, _), (6, _), (7, _), (8, _)]) ⟨rfl, rfl, rfl, rfl, rfl, trivial⟩ ?_
    refine PW.ops ?_
    refine OL.dp rfl ?_
    refine OL.det trivial (Yields.add64 rfl rfl (by omega) (by omega)) ?_
    refine OL.dp rfl ?_
    refine OL.nil ?_
    repeat rw [inBlk_n]
    try rw [thenK_n]
    refine LoopEnd.mk (T'' := [(0, _), (3, _), (6, _), (7, _), (8, _)]) ⟨rfl, rfl, rfl, rfl, rfl, trivial⟩ ?_
    exact ⟨l.length - (k + 1), by omega, k + 1, ⟨by omega, rfl⟩, rfl, rfl⟩
  ·try simp only [cvS, Bool.false_eq_true, if_false, if_true] at g31
   refine QK.off rfl rfl ?_
   refine QK.off rfl rfl ?_
   refine QK.off rfl rfl ?_
   refine QK.off rfl rfl ?_
   refine QK.off rfl rfl ?_
   refine QK.off rfl rfl ?_
   refine QK.off rfl rfl ?_
   refine QK.nil ?_
   change OL _ _ _ [_, _] _ _ _
   refine OL.off rfl rfl ?_
   refine OL.dp rfl ?_
   refine OL.nil ?_
   refine hK4 _ _ ?_
   refine PW.keep (T' := [(0, _), (3, _), (6, _), (7, _), (8, _), (40, _)]) ⟨rfl, rfl, rfl, rfl, rfl, rfl, trivial⟩ ?_
   refine PW.ite (b := false) rfl ?_
   rw [if_neg Bool.false_ne_true]
   refine PW.skip ?_
   refine hK3 _ _ ?_
   refine PW.keep (T' := [(0, _), (3, _), (6, _), (7, _), (8, _)]) ⟨rfl, rfl, rfl, rfl, rfl, trivial⟩ ?_
   refine PW.ops ?_
   refine OL.dp rfl ?_
   refine OL.det trivial (Yields.add64 rfl rfl (by omega) (by omega)) ?_
   refine OL.dp rfl ?_
   refine OL.nil ?_
   repeat rw [inBlk_n]
   try rw [thenK_n]
   refine LoopEnd.mk (T'' := [(0, _), (3, _), (6, _), (7, _), (8, _)]) ⟨rfl, rfl, rfl, rfl, rfl, trivial⟩ ?_
   exact ⟨l.length - (k + 1), by omega, k + 1, ⟨by omega, rfl⟩, rfl, rfl⟩
 ·try simp only [cvS, Bool.false_eq_true, if_false, if_true] at c20
  refine PW.exit ?_
  refine hK1 _ _ ?_
  refine PW.keep (T' := [(0, _), (3, _), (6, _), (7, _)]) ⟨rfl, rfl, rfl, rfl, trivial⟩ ?_
  refine PW.seq fun K5 hK5 => ?_
  refine PW.seqOps ?_
  refine OL.dp rfl ?_
  refine OL.nil ?_
  refine PW.keep (T' := [(0, _), (3, _), (6, _), (7, _), (9, _)]) ⟨rfl, rfl, rfl, rfl, rfl, trivial⟩ ?_
  refine PW.block ?_
  refine PW.keep (T' := [(0, _), (3, _), (6, _), (7, _), (9, _)]) ⟨rfl, rfl, rfl, rfl, rfl, trivial⟩ ?_
  refine PW.loopK (I := fun mm T S' => ∃ k : Nat, (k ≤ (own p.pl).length ∧ mm = (own p.pl).length - k) ∧ T = ([(0, .slice A l.length c), (3, .pointer (some ⟨r3, 0, none⟩)), (6, .slice Aa (allV (pls l)).length ca), (7, .slice Ao (own p.pl).length co), (9, .int .i64 k)] : TT) ∧ S' = sgo :: sga :: [(r3, .cells (partC p) 123 102)] :: S) (m := (own p.pl).length) ⟨0, ⟨by omega, by omega⟩, rfl, rfl⟩ ?_
  rintro mm _ _ ⟨k, ⟨hk, hmm⟩, rfl, rfl⟩
  refine PW.seq fun K6 hK6 => ?_
  refine PW.seqOps ?_
  refine OL.dp rfl ?_
  refine OL.dp rfl ?_
  refine OL.dp rfl ?_
  refine OL.dp rfl ?_
  refine OL.nil ?_
  refine PW.keep (T' := [(0, _), (3, _), (6, _), (7, _), (9, _), (45, _)]) ⟨rfl, rfl, rfl, rfl, rfl, rfl, trivial⟩ ?_
  refine PW.cond rfl (fun c45 => ?_) (fun c45 => ?_)
  ·try simp only [cvS, Bool.false_eq_true, if_false, if_true] at c45
   have hkl : k < (own p.pl).length := by omega
   obtain ⟨o0, rfl⟩ := vtxs_some (hro []) (by omega)
   refine PW.skip ?_
   refine hK6 _ _ ?_
   refine PW.keep (T' := [(0, _), (3, _), (6, _), (7, _), (9, _)]) ⟨rfl, rfl, rfl, rfl, rfl, trivial⟩ ?_
   refine PW.seq fun K7 hK7 => ?_
   refine PW.block ?_
   refine PW.seqOps ?_
   refine OL.dp rfl ?_
   refine OL.dp rfl ?_
   refine OL.dp rfl ?_
   refine OL.det trivial (Yields.ixN rfl rfl rfl hkl) ?_
   refine OL.det trivial (Yields.ldA rfl (vtxL_len _) (vtx_at (hro _) hkl)) ?_
   refine OL.call trivial rfl (rHasF_fc ((hra _).cons) (by omega) (hnew.own _ (List.getElem_mem hkl))) ?_
   rintro _ Sx ⟨rfl, hSx⟩
   rw [hSx]
   clear hSx
   refine OL.nil ?_
   refine PW.keep (T' := [(0, _), (3, _), (6, _), (7, _), (9, _), (53, _)]) ⟨rfl, rfl, rfl, rfl, rfl, rfl, trivial⟩ ?_
   refine PW.ite (b := false) rfl ?_
   rw [if_neg Bool.false_ne_true]
   refine PW.skip ?_
   refine hK7 _ _ ?_
   refine PW.keep (T' := [(0, _), (3, _), (6, _), (7, _), (9, _)]) ⟨rfl, rfl, rfl, rfl, rfl, trivial⟩ ?_
   refine PW.ops ?_
   refine OL.dp rfl ?_
   refine OL.det trivial (Yields.add64 rfl rfl (by omega) (by omega)) ?_
   refine OL.dp rfl ?_
   refine OL.nil ?_
   repeat rw [inBlk_n]
   try rw [thenK_n]
   refine LoopEnd.mk (T'' := [(0, _), (3, _), (6, _), (7, _), (9, _)]) ⟨rfl, rfl, rfl, rfl, rfl, trivial⟩ ?_
   exact ⟨(own p.pl).length - (k + 1), by omega, k + 1, ⟨by omega, rfl⟩, rfl, rfl⟩
  ·try simp only [cvS, Bool.false_eq_true, if_false, if_true] at c45
   refine PW.exit ?_
   refine hK5 _ _ ?_
   refine PW.keep (T' := [(0, _), (3, _), (6, _)]) ⟨rfl, rfl, rfl, trivial⟩ ?_
   refine PW.seq fun K8 hK8 => ?_
   refine PW.seq fun K9 hK9 => ?_
   refine PW.quiet2QK Try.mixed ?_
   refine QK.dp rfl ?_
   refine QK.det trivial (Yields.ld rfl (part_first (p := p) (E := 123) (tot := 102) (List.mem_flatten.2 ⟨_, .tail _ (.tail _ (.head _)), List.mem_singleton.2 rfl⟩))) ?_
   refine QK.det trivial (Yields.to (v' := .bool false) (Yields.pure rfl) (congrArg Value.bool (decide_eq_false (by have := hnew.first; show ¬ p.first < 0; exact Int.not_lt.2 this)))) ?_
   refine QK.dp rfl ?_
   refine QK.det rfl (Yields.pure rfl) ?_
   refine QK.det rfl (Yields.ldA rfl (vtxL_len _) (part_up (p := p) (E := 123) (tot := 102) (List.mem_flatten.2 ⟨_, .tail _ (.tail _ (.head _)), List.mem_singleton.2 rfl⟩))) ?_
   refine QK.call rfl rfl (rEnd_fc) ?_
   refine QK.det rfl (Yields.to (v' := .bool false) (Yields.eqD (neg := false) rfl rfl (eqL_vtx _ _)) (congrArg Value.bool (by simpa using (show p.up ≠ endV from hnew.upE)))) ?_
   refine QK.dp rfl ?_
   refine QK.dp rfl ?_
   refine QK.det rfl (Yields.pure rfl) ?_
   refine QK.det rfl (Yields.ldA rfl (vtxL_len _) (part_down (p := p) (E := 123) (tot := 102) (List.mem_flatten.2 ⟨_, .tail _ (.tail _ (.head _)), List.mem_singleton.2 rfl⟩))) ?_
   refine QK.call rfl rfl (rRoot_fc) ?_
   refine QK.nil ?_
   change OL _ _ _ [_, _] _ _ _
   refine OL.det rfl (Yields.to (v' := .bool false) (Yields.eqD (neg := false) rfl rfl (eqL_vtx _ _)) (congrArg Value.bool (by simpa using (show p.down ≠ rootV from hnew.downR)))) ?_
   refine OL.dp rfl ?_
   refine OL.nil ?_
   refine hK9 _ _ ?_
   refine PW.keep (T' := [(0, _), (3, _), (6, _), (69, _)]) ⟨rfl, rfl, rfl, rfl, trivial⟩ ?_
   refine PW.ite (b := false) rfl ?_
   rw [if_neg Bool.false_ne_true]
   refine PW.skip ?_
   refine hK8 _ _ ?_
   refine PW.keep (T' := [(0, _), (3, _), (6, _)]) ⟨rfl, rfl, rfl, trivial⟩ ?_
   refine PW.seq fun K10 hK10 => ?_
   refine PW.seqOps ?_
   refine OL.dp rfl ?_
   refine OL.nil ?_
   refine PW.keep (T' := [(0, _), (3, _), (6, _), (10, _)]) ⟨rfl, rfl, rfl, rfl, trivial⟩ ?_
   refine PW.block ?_
   refine PW.keep (T' := [(0, _), (3, _), (6, _), (10, _)]) ⟨rfl, rfl, rfl, rfl, trivial⟩ ?_
   refine PW.loopK (I := fun mm T S' => ∃ k : Nat, (k ≤ p.gone.length ∧ mm = p.gone.length - k) ∧ T = ([(0, .slice A l.length c), (3, .pointer (some ⟨r3, 0, none⟩)), (6, .slice Aa (allV (pls l)).length ca), (10, .int .i64 k)] : TT) ∧ S' = sgo :: sga :: [(r3, .cells (partC p) 123 102)] :: S) (m := p.gone.length) ⟨0, ⟨by omega, by omega⟩, rfl, rfl⟩ ?_
   rintro mm _ _ ⟨k, ⟨hk, hmm⟩, rfl, rfl⟩
   refine PW.seq fun K11 hK11 => ?_
   refine PW.seqOps ?_
   refine OL.dp rfl ?_
   refine OL.dp rfl ?_
   refine OL.det trivial (Yields.ld rfl (part_gone (p := p) (E := 123) (tot := 102) (List.mem_flatten.2 ⟨_, .tail _ (.tail _ (.head _)), List.mem_singleton.2 rfl⟩))) ?_
   refine OL.dp rfl ?_
   refine OL.dp rfl ?_
   refine OL.nil ?_
   refine PW.keep (T' := [(0, _), (3, _), (6, _), (10, _), (75, _)]) ⟨rfl, rfl, rfl, rfl, rfl, trivial⟩ ?_
   refine PW.cond rfl (fun c75 => ?_) (fun c75 => ?_)
   ·try simp only [cvS, Bool.false_eq_true, if_false, if_true] at c75
    have hgl : k < p.gone.length := by omega
    obtain ⟨ag, hag⟩ := vtxs_some hp.rdG (by omega)
    have hgr : Rd w0 (sgo :: sga :: [(r3, .cells (partC p) 123 102)] :: S) (some ag) (vtxs p.gone) := by rw [← hag]; exact hp.rdG.cons.cons.cons
    have hgc : p.gone.length ≤ p.gc := hp.rng.gcap
    have hgR := hnew.goneR _ (List.getElem_mem hgl)
    refine PW.skip ?_
    refine hK11 _ _ ?_
    refine PW.keep (T' := [(0, _), (3, _), (6, _), (10, _)]) ⟨rfl, rfl, rfl, rfl, trivial⟩ ?_
    refine PW.seq fun K12 hK12 => ?_
    refine PW.block ?_
    refine PW.seq fun K13 hK13 => ?_
    refine PW.quiet2QK Try.mixed ?_
    refine QK.dp rfl ?_
    refine QK.det trivial (Yields.ld rfl (part_gone (p := p) (E := 123) (tot := 102) (List.mem_flatten.2 ⟨_, .tail _ (.tail _ (.head _)), List.mem_singleton.2 rfl⟩))) ?_
    refine QK.dp rfl ?_
    rw [hag]
    refine QK.det trivial (Yields.ixN rfl rfl rfl hgl) ?_
    refine QK.det trivial (Yields.ldA rfl (vtxL_len _) (vtx_at hgr hgl)) ?_
    refine QK.call trivial rfl (rRoot_fc) ?_
    refine QK.det trivial (Yields.to (v' := .bool false) (Yields.eqD (neg := false) rfl rfl (eqL_vtx _ _)) (congrArg Value.bool (by simpa using hgR.1))) ?_
    refine QK.dp rfl ?_
    refine QK.det rfl (Yields.pure rfl) ?_
    refine QK.det rfl (Yields.ld rfl (part_gone (p := p) (E := 123) (tot := 102) (List.mem_flatten.2 ⟨_, .tail _ (.tail _ (.head _)), List.mem_singleton.2 rfl⟩))) ?_
    refine QK.det rfl (Yields.pure rfl) ?_
    rw [hag]
    refine QK.det rfl (Yields.ixN rfl rfl rfl hgl) ?_
    refine QK.det rfl (Yields.ldA rfl (vtxL_len _) (vtx_at hgr hgl)) ?_
    refine QK.call rfl rfl (rEnd_fc) ?_
    refine QK.det rfl (Yields.to (v' := .bool false) (Yields.eqD (neg := false) rfl rfl (eqL_vtx _ _)) (congrArg Value.bool (by simpa using hgR.2))) ?_
    refine QK.dp rfl ?_
    refine QK.dp rfl ?_
    refine QK.det rfl (Yields.pure rfl) ?_
    refine QK.det rfl (Yields.ld rfl (part_gone (p := p) (E := 123) (tot := 102) (List.mem_flatten.2 ⟨_, .tail _ (.tail _ (.head _)), List.mem_singleton.2 rfl⟩))) ?_
    refine QK.det rfl (Yields.pure rfl) ?_
    rw [hag]
    refine QK.det rfl (Yields.to (v' := .slice (some ag) k p.gc) (Yields.slS (A := some ag) (len := p.gone.length) (cap := p.gc) (l := 0) (h := k) rfl rfl rfl (.inr ⟨rfl, rfl⟩) (.inl rfl) (by omega) (by omega)) (cutV0 _ _ _ _)) ?_
    refine QK.det rfl (Yields.pure rfl) ?_
    refine QK.det rfl (Yields.ld rfl (part_gone (p := p) (E := 123) (tot := 102) (List.mem_flatten.2 ⟨_, .tail _ (.tail _ (.head _)), List.mem_singleton.2 rfl⟩))) ?_
    refine QK.det rfl (Yields.pure rfl) ?_
    rw [hag]
    refine QK.det rfl (Yields.ixN rfl rfl rfl hgl) ?_
    refine QK.det rfl (Yields.ldA rfl (vtxL_len _) (vtx_at hgr hgl)) ?_
    refine QK.nil ?_
    change OL _ _ _ [_, _] _ _ _
    refine OL.call rfl rfl (by have := rHasF_fc (w0 := w0) (S := sgo :: sga :: [(r3, .cells (partC p) 123 102)] :: S) (A := some ag) (c := p.gc) (l := p.gone.take k) (v := p.gone[k]) (hgr.pre (by rw [← List.take_append_drop k p.gone, vtxs_app, List.take_append_drop]; exact List.prefix_append _ _)) (by rw [List.length_take]; omega) (nodup_take hnew.gone0 hgl); rw [List.length_take, Nat.min_eq_left (by omega)] at this; exact this) ?_
    rintro _ Sx ⟨rfl, hSx⟩
    rw [hSx]
    clear hSx
    refine OL.dp rfl ?_
    refine OL.nil ?_
    refine hK13 _ _ ?_
    refine PW.keep (T' := [(0, _), (3, _), (6, _), (10, _), (105, _)]) ⟨rfl, rfl, rfl, rfl, rfl, trivial⟩ ?_
    refine PW.ite (b := false) rfl ?_
    rw [if_neg Bool.false_ne_true]
    refine PW.skip ?_
    refine hK12 _ _ ?_
    refine PW.keep (T' := [(0, _), (3, _), (6, _), (10, _)]) ⟨rfl, rfl, rfl, rfl, trivial⟩ ?_
    refine PW.ops ?_
    refine OL.dp rfl ?_
    refine OL.det trivial (Yields.add64 rfl rfl (by omega) (by omega)) ?_
    refine OL.dp rfl ?_
    refine OL.nil ?_
    repeat rw [inBlk_n]
    try rw [thenK_n]
    refine LoopEnd.mk (T'' := [(0, _), (3, _), (6, _), (10, _)]) ⟨rfl, rfl, rfl, rfl, trivial⟩ ?_
    exact ⟨p.gone.length - (k + 1), by omega, k + 1, ⟨by omega, rfl⟩, rfl, rfl⟩
   ·try simp only [cvS, Bool.false_eq_true, if_false, if_true] at c75
    refine PW.exit ?_
    refine hK10 _ _ ?_
    refine PW.keep (T' := [(0, _), (3, _), (6, _)]) ⟨rfl, rfl, rfl, trivial⟩ ?_
    refine PW.seqS [(0, .slice A l.length c), (3, .pointer (some ⟨r3, 0, none⟩)), (6, .slice Aa (allV (pls l)).length ca)] (sgo :: sga :: [(r3, .cells (partC p) 123 102)] :: S) ?_ fun K14 hK14 => ?_
    ·skip
     refine PW.seq fun K15 hK15 => ?_
     refine PW.seqOps ?_
     refine OL.dp rfl ?_
     refine OL.nil ?_
     refine PW.keep (T' := [(0, _), (3, _), (6, _), (11, _)]) ⟨rfl, rfl, rfl, rfl, trivial⟩ ?_
     refine PW.block ?_
     refine PW.keep (T' := [(0, _), (3, _), (6, _), (11, _)]) ⟨rfl, rfl, rfl, rfl, trivial⟩ ?_
     refine PW.loopK (I := fun mm T S' => ∃ k : Nat, (k ≤ p.gone.length ∧ mm = p.gone.length - k) ∧ T = ([(0, .slice A l.length c), (3, .pointer (some ⟨r3, 0, none⟩)), (6, .slice Aa (allV (pls l)).length ca), (11, .int .i64 k)] : TT) ∧ S' = sgo :: sga :: [(r3, .cells (partC p) 123 102)] :: S) (m := p.gone.length) ⟨0, ⟨by omega, by omega⟩, rfl, rfl⟩ ?_
     rintro mm _ _ ⟨k, ⟨hk, hmm⟩, rfl, rfl⟩
     refine PW.seq fun K16 hK16 => ?_
     refine PW.seqOps ?_
     refine OL.dp rfl ?_
     refine OL.dp rfl ?_
     refine OL.det trivial (Yields.ld rfl (part_gone (p := p) (E := 123) (tot := 102) (List.mem_flatten.2 ⟨_, .tail _ (.tail _ (.head _)), List.mem_singleton.2 rfl⟩))) ?_
     refine OL.dp rfl ?_
     refine OL.dp rfl ?_
     refine OL.nil ?_
     refine PW.keep (T' := [(0, _), (3, _), (6, _), (11, _), (136, _)]) ⟨rfl, rfl, rfl, rfl, rfl, trivial⟩ ?_
     refine PW.cond rfl (fun c136 => ?_) (fun c136 => ?_)
     ·try simp only [cvS, Bool.false_eq_true, if_false, if_true] at c136
      have hgl : k < p.gone.length := by omega
      obtain ⟨ag, hag⟩ := vtxs_some hp.rdG (by omega)
      have hgr : Rd w0 (sgo :: sga :: [(r3, .cells (partC p) 123 102)] :: S) (some ag) (vtxs p.gone) := by rw [← hag]; exact hp.rdG.cons.cons.cons
      have hgc : p.gone.length ≤ p.gc := hp.rng.gcap
      refine PW.skip ?_
      refine hK16 _ _ ?_
      refine PW.keep (T' := [(0, _), (3, _), (6, _), (11, _)]) ⟨rfl, rfl, rfl, rfl, trivial⟩ ?_
      refine PW.seq fun K17 hK17 => ?_
      refine PW.block ?_
      refine PW.seqOps ?_
      refine OL.dp rfl ?_
      refine OL.dp rfl ?_
      refine OL.det trivial (Yields.ld rfl (part_gone (p := p) (E := 123) (tot := 102) (List.mem_flatten.2 ⟨_, .tail _ (.tail _ (.head _)), List.mem_singleton.2 rfl⟩))) ?_
      refine OL.dp rfl ?_
      rw [hag]
      refine OL.det trivial (Yields.ixN rfl rfl rfl hgl) ?_
      refine OL.det trivial (Yields.ldA rfl (vtxL_len _) (vtx_at hgr hgl)) ?_
      refine OL.call trivial rfl (rHasT_fc ((hra _).cons) (by omega) (hnew.gone _ (List.getElem_mem hgl))) ?_
      rintro _ Sx ⟨rfl, hSx⟩
      rw [hSx]
      clear hSx
      refine OL.dp rfl ?_
      refine OL.nil ?_
      refine PW.keep (T' := [(0, _), (3, _), (6, _), (11, _), (146, _)]) ⟨rfl, rfl, rfl, rfl, rfl, trivial⟩ ?_
      refine PW.ite (b := false) rfl ?_
      rw [if_neg Bool.false_ne_true]
      refine PW.skip ?_
      refine hK17 _ _ ?_
      refine PW.keep (T' := [(0, _), (3, _), (6, _), (11, _)]) ⟨rfl, rfl, rfl, rfl, trivial⟩ ?_
      refine PW.ops ?_
      refine OL.dp rfl ?_
      refine OL.det trivial (Yields.add64 rfl rfl (by omega) (by omega)) ?_
      refine OL.dp rfl ?_
      refine OL.nil ?_
      repeat rw [inBlk_n]
      try rw [thenK_n]
      refine LoopEnd.mk (T'' := [(0, _), (3, _), (6, _), (11, _)]) ⟨rfl, rfl, rfl, rfl, trivial⟩ ?_
      exact ⟨p.gone.length - (k + 1), by omega, k + 1, ⟨by omega, rfl⟩, rfl, rfl⟩
     ·try simp only [cvS, Bool.false_eq_true, if_false, if_true] at c136
      refine PW.exit ?_
      refine hK15 _ _ ?_
      refine PW.keep (T' := [(0, _), (3, _)]) ⟨rfl, rfl, trivial⟩ ?_
      refine PW.seq fun K18 hK18 => ?_
      refine PW.seqOps ?_
      refine OL.dp rfl ?_
      refine OL.dp rfl ?_
      refine OL.det trivial (Yields.ldA rfl (vtxL_len _) (part_up (p := p) (E := 123) (tot := 102) (List.mem_flatten.2 ⟨_, .tail _ (.tail _ (.head _)), List.mem_singleton.2 rfl⟩))) ?_
      refine OL.dp rfl ?_
      refine OL.det trivial (Yields.ldA rfl (vtxL_len _) (part_down (p := p) (E := 123) (tot := 102) (List.mem_flatten.2 ⟨_, .tail _ (.tail _ (.head _)), List.mem_singleton.2 rfl⟩))) ?_
      refine OL.call trivial rfl (rBef_fc h.cons.cons.cons hline hnew.bef) ?_
      rintro _ Sx ⟨rfl, hSx⟩
      rw [hSx]
      clear hSx
      refine OL.dp rfl ?_
      refine OL.nil ?_
      refine PW.keep (T' := [(0, _), (3, _), (154, _)]) ⟨rfl, rfl, rfl, trivial⟩ ?_
      refine PW.ite (b := false) rfl ?_
      rw [if_neg Bool.false_ne_true]
      refine PW.skip ?_
      refine hK18 _ _ ?_
      refine PW.keep (T' := [(0, _), (3, _)]) ⟨rfl, rfl, trivial⟩ ?_
      refine PW.seqOps ?_
      refine OL.dp rfl ?_
      refine OL.nil ?_
      refine PW.keep (T' := [(0, _), (3, _), (12, _)]) ⟨rfl, rfl, rfl, trivial⟩ ?_
      refine PW.seqOps ?_
      refine OL.subS (S' := [] :: sgo :: sga :: [(r3, .cells (partC p) 123 102)] :: S) (Sub.nilL (Sub.refl _)) ?_
      refine OL.dp rfl ?_
      refine OL.dp rfl ?_
      refine OL.cons trivial (appP2 (k := 0) (m := 0) (xs := []) (l := l) rfl rfl (SlV.nil 123 102) rfl rfl hrd.cons.cons.cons.cons hcA (by omega)) ?_
      rintro v158 _ ⟨sg158, rfl, hs158⟩
      rw [Nat.zero_add, List.nil_append] at hs158
      refine OL.dp rfl ?_
      refine OL.nil ?_
      refine PW.keep (T' := [(3, _), (12, _)]) ⟨rfl, rfl, trivial⟩ ?_
      refine PW.seqOps ?_
      refine OL.dp rfl ?_
      refine OL.det trivial (Yields.ldA rfl (partC_len _) (all_at (List.mem_flatten.2 ⟨_, .tail _ (.tail _ (.tail _ (.head _))), List.mem_singleton.2 rfl⟩))) ?_
      apply OL.app1 (k := 0)
      ·rfl
      ·rfl
      ·exact (List.size_toArray).trans (partC_len _)
      ·rfl
      ·rfl
      ·rfl
      ·exact hs158
      ·exact partC_one _
      ·omega
      ·unfold maxLen; omega
      intro v162 sg162 hs162
      refine OL.dp rfl ?_
      refine OL.dp rfl ?_
      refine OL.nil ?_
      refine PW.keep (T' := [(4, _), (5, _)]) ⟨rfl, rfl, trivial⟩ ?_
      refine PW.ret ?_
      change (Exit.ret = Exit.normal ∨ Exit.ret = Exit.ret) ∧ ∃ v, resV _ _ = some v ∧ _
      exact ⟨.inr rfl, _, rfl, _, Sub.cons (Sub.drop (Sub.drop (Sub.drop (Sub.refl _)))), _, sg162, rfl, rfl, by rw [List.length_append, partS_app]; show SlV 123 102 v162 (l.length + 1) (partS l ++ (partC p ++ [])) sg162; rw [List.append_nil]; exact hs162⟩
    ·skip
     refine PW.seq fun K19 hK19 => ?_
     refine PW.quiet2QK Try.mixed ?_
     refine QK.dp rfl ?_
     refine QK.det trivial (Yields.ldA rfl (vtxL_len _) (part_up (p := p) (E := 123) (tot := 102) (List.mem_flatten.2 ⟨_, .tail _ (.tail _ (.head _)), List.mem_singleton.2 rfl⟩))) ?_
     refine QK.call trivial rfl (rRoot_fc) ?_
     refine QK.det trivial (Yields.eqD (neg := true) rfl rfl (eqL_vtx _ _)) ?_
     refine QK.bool trivial (Yields.pure rfl) (fun g111 => ?_) (fun g111 => ?_)
     ·try simp only [cvS, Bool.false_eq_true, if_false, if_true] at g111
      refine QK.det rfl (Yields.pure rfl) ?_
      refine QK.det rfl (Yields.pure rfl) ?_
      refine QK.det rfl (Yields.ldA rfl (vtxL_len _) (part_up (p := p) (E := 123) (tot := 102) (List.mem_flatten.2 ⟨_, .tail _ (.tail _ (.head _)), List.mem_singleton.2 rfl⟩))) ?_
      refine QK.call rfl rfl (rHasT_fc ((hra _).cons) (by omega) (hup g111)) ?_
      refine QK.det rfl (Yields.pure rfl) ?_
      refine QK.dp rfl ?_
      refine QK.dp rfl ?_
      refine QK.det rfl (Yields.pure rfl) ?_
      refine QK.det rfl (Yields.ldA rfl (vtxL_len _) (part_down (p := p) (E := 123) (tot := 102) (List.mem_flatten.2 ⟨_, .tail _ (.tail _ (.head _)), List.mem_singleton.2 rfl⟩))) ?_
      refine QK.call rfl rfl (rEnd_fc) ?_
      refine QK.det rfl (Yields.eqD (neg := true) rfl rfl (eqL_vtx _ _)) ?_
      refine QK.bool rfl (Yields.pure rfl) (fun g123 => ?_) (fun g123 => ?_)
      ·try simp only [cvS, Bool.false_eq_true, if_false, if_true] at g123
       refine QK.det rfl (Yields.pure rfl) ?_
       refine QK.det rfl (Yields.pure rfl) ?_
       refine QK.det rfl (Yields.ldA rfl (vtxL_len _) (part_down (p := p) (E := 123) (tot := 102) (List.mem_flatten.2 ⟨_, .tail _ (.tail _ (.head _)), List.mem_singleton.2 rfl⟩))) ?_
       refine QK.nil ?_
       change OL _ _ _ [_, _, _, _] _ _ _
       refine OL.call rfl rfl (rHasT_fc ((hra _).cons) (by omega) (hdn g123)) ?_
       rintro _ Sx ⟨rfl, hSx⟩
       rw [hSx]
       clear hSx
       refine OL.det rfl (Yields.pure rfl) ?_
       refine OL.det rfl (Yields.pure rfl) ?_
       refine OL.dp rfl ?_
       refine OL.nil ?_
       refine hK19 _ _ ?_
       refine PW.keep (T' := [(0, _), (3, _), (6, _), (130, _)]) ⟨rfl, rfl, rfl, rfl, trivial⟩ ?_
       refine PW.ite (b := false) rfl ?_
       rw [if_neg Bool.false_ne_true]
       refine PW.skip ?_
       exact hK14 _ _ ⟨rfl, rfl, rfl, trivial⟩ rfl
      ·try simp only [cvS, Bool.false_eq_true, if_false, if_true] at g123
       refine QK.off rfl rfl ?_
       refine QK.off rfl rfl ?_
       refine QK.off rfl rfl ?_
       refine QK.nil ?_
       change OL _ _ _ [_, _, _, _] _ _ _
       refine OL.off rfl rfl ?_
       refine OL.off rfl rfl ?_
       refine OL.det rfl (Yields.pure rfl) ?_
       refine OL.dp rfl ?_
       refine OL.nil ?_
       refine hK19 _ _ ?_
       refine PW.keep (T' := [(0, _), (3, _), (6, _), (130, _)]) ⟨rfl, rfl, rfl, rfl, trivial⟩ ?_
       refine PW.ite (b := false) rfl ?_
       rw [if_neg Bool.false_ne_true]
       refine PW.skip ?_
       exact hK14 _ _ ⟨rfl, rfl, rfl, trivial⟩ rfl
     ·try simp only [cvS, Bool.false_eq_true, if_false, if_true] at g111
      refine QK.off rfl rfl ?_
      refine QK.off rfl rfl ?_
      refine QK.off rfl rfl ?_
      refine QK.off rfl rfl ?_
      refine QK.off rfl rfl ?_
      refine QK.dp rfl ?_
      refine QK.dp rfl ?_
      refine QK.det rfl (Yields.pure rfl) ?_
      refine QK.det rfl (Yields.ldA rfl (vtxL_len _) (part_down (p := p) (E := 123) (tot := 102) (List.mem_flatten.2 ⟨_, .tail _ (.tail _ (.head _)), List.mem_singleton.2 rfl⟩))) ?_
      refine QK.call rfl rfl (rEnd_fc) ?_
      refine QK.det rfl (Yields.eqD (neg := true) rfl rfl (eqL_vtx _ _)) ?_
      refine QK.bool rfl (Yields.pure rfl) (fun g123 => ?_) (fun g123 => ?_)
      ·try simp only [cvS, Bool.false_eq_true, if_false, if_true] at g123
       refine QK.det rfl (Yields.pure rfl) ?_
       refine QK.det rfl (Yields.pure rfl) ?_
       refine QK.det rfl (Yields.ldA rfl (vtxL_len _) (part_down (p := p) (E := 123) (tot := 102) (List.mem_flatten.2 ⟨_, .tail _ (.tail _ (.head _)), List.mem_singleton.2 rfl⟩))) ?_
       refine QK.nil ?_
       change OL _ _ _ [_, _, _, _] _ _ _
       refine OL.call rfl rfl (rHasT_fc ((hra _).cons) (by omega) (hdn g123)) ?_
       rintro _ Sx ⟨rfl, hSx⟩
       rw [hSx]
       clear hSx
       refine OL.det rfl (Yields.pure rfl) ?_
       refine OL.det rfl (Yields.pure rfl) ?_
       refine OL.dp rfl ?_
       refine OL.nil ?_
       refine hK19 _ _ ?_
       refine PW.keep (T' := [(0, _), (3, _), (6, _), (130, _)]) ⟨rfl, rfl, rfl, rfl, trivial⟩ ?_
       refine PW.ite (b := false) rfl ?_
       rw [if_neg Bool.false_ne_true]
       refine PW.skip ?_
       exact hK14 _ _ ⟨rfl, rfl, rfl, trivial⟩ rfl
      ·try simp only [cvS, Bool.false_eq_true, if_false, if_true] at g123
       refine QK.off rfl rfl ?_
       refine QK.off rfl rfl ?_
       refine QK.off rfl rfl ?_
       refine QK.nil ?_
       change OL _ _ _ [_, _, _, _] _ _ _
       refine OL.off rfl rfl ?_
       refine OL.off rfl rfl ?_
       refine OL.det rfl (Yields.pure rfl) ?_
       refine OL.dp rfl ?_
       refine OL.nil ?_
       refine hK19 _ _ ?_
       refine PW.keep (T' := [(0, _), (3, _), (6, _), (130, _)]) ⟨rfl, rfl, rfl, rfl, trivial⟩ ?_
       refine PW.ite (b := false) rfl ?_
       rw [if_neg Bool.false_ne_true]
       refine PW.skip ?_
       exact hK14 _ _ ⟨rfl, rfl, rfl, trivial⟩ rfl
end Go.Proofs.Gr

namespace Go.Proofs.Gr
open Go.SL Go.RowKit Go.Proofs Go.GP
section
variable (bf : Vtx → Vtx → Bool)
def ordF (a b : Vtx) : Bool := bf a b || bf b a
def midsF (l : List LineP) (k : Nat) : List Int := ((List.range k).filter fun i => decide (0 < i) && !ordF bf l[i - 1]!.v l[i]!.v).map Int.ofNat
def blockF (l : List LineP) : ItemP := ⟨l, true, midsF bf l l.length⟩
def solidF (l : List LineP) (x : LineP) : Bool := l.all fun y => decide (x.v = y.v) || ordF bf x.v y.v
def shutF (open_ : List LineP) : List ItemP := if open_ = [] then [] else [blockF bf open_]
def stepF (l : List LineP) (st : List ItemP × List LineP) (x : LineP) : List ItemP × List LineP :=
 if solidF bf l x then (st.1 ++ shutF bf st.2 ++ [⟨[x], false, []⟩], []) else (st.1, st.2 ++ [x])
def foldF (l : List LineP) (k : Nat) : List ItemP × List LineP := (l.take k).foldl (stepF bf l) ([], [])
def itemsF (l : List LineP) : List ItemP := (foldF bf l l.length).1 ++ shutF bf (foldF bf l l.length).2
end
theorem itemsF_eq (ps : List PartP) (l : List LineP) : itemsL ps l = itemsF (befP ps) l := by
 have h1 : stepI ps l = stepF (befP ps) l := by
  funext st x
  unfold stepI stepF shut shutF blockP blockF midsK midsF solidP solidF ordP ordF
  rfl
 unfold itemsL itemsF foldI foldF
 rw [h1]
 unfold shut shutF blockP blockF midsK midsF ordP ordF
 rfl
theorem befP_eq {ps : List PartP} (hc : ((allV ps).all fun a => closedB (allE ps) a) = true) : befP ps = befC ps := by
 funext a b
 rw [Bool.eq_iff_iff, befP_iff]
 by_cases ha : a ∈ allV ps
 ·exact (befC_iff (List.all_eq_true.1 hc a ha)).symm
 ·by_cases hr : a = rootV
  ·unfold Bef befC
   simp only [Bool.and_eq_true, hasC_iff, Bool.or_eq_true, decide_eq_true_eq, Bool.not_eq_true', decide_eq_false_iff_not, and_assoc, ne_eq, hr, true_or]
  ·have h1 : ¬ Bef ps a b := by
    rintro ⟨h, _, _, h2, _⟩
    rcases h with h | h | h
    ·exact hr h
    ·exact h2 h
    ·exact ha h
   have h2 : befC ps a b = false := by
    unfold befC hasC
    by_cases he : a = endV
    ·simp [he]
    ·simp [ha, hr, he]
   simp [h1, h2]
theorem items_comp {ps : List PartP} (hc : ((allV ps).all fun a => closedB (allE ps) a) = true) : itemsP ps = itemsF (befC ps) (live (linesP ps)) := by
 unfold itemsP
 rw [itemsF_eq, befP_eq hc]
end Go.Proofs.Gr

namespace Go.Proofs.Gr
open Go.SL Go.RowKit Go.Proofs Go.GP
set_option maxHeartbeats 1000000
def mkP (b : UInt8) (up down : Vtx) (A : Option Addr) (c : Nat) (l : List ByteArray) : PartM := ⟨hb1 b, 0, 0, up, down, A, c, l, none, 0, []⟩
def zP : List Value := List.replicate 32 (.int .u8 0) ++ [.int .i64 0, .int .i64 0] ++ vtxL v0 ++ vtxL v0 ++ [.slice none 0 0, .slice none 0 0]
theorem setMid {a b c d e : List Value} {n : Nat} (h : c = a ++ (b ++ d)) (ha : a.length = n) (hb : b.length = e.length) : setAt c n e = a ++ (e ++ d) := by
 subst h
 rw [setAt_eq _ _ _ (by simp only [List.length_append]; omega), List.take_append_of_le_length (by omega), List.take_of_length_le (by omega), List.drop_append, List.drop_eq_nil_of_le (by omega), List.drop_append, List.drop_eq_nil_of_le (by omega), show n + e.length - a.length - b.length = 0 by omega]
 simp
theorem fill_part {T : TT} {b : UInt8} {up down : Vtx} {A : Option Addr} {c : Nat} {l : List ByteArray} {x y z w : PV} (h1 : x.val T = some (.agg (bytesC (hb1 b).1).toArray)) (h2 : y.val T = some (vtxV up)) (h3 : z.val T = some (vtxV down)) (h4 : w.val T = some (.slice A l.length c)) :
  fillP T zP [(0, 32, x), (34, 33, y), (67, 33, z), (100, 1, w)] = some (partC (mkP b up down A c l)) := by
 have hb := hb_len (hb1 b)
 have hu := vtxL_len up
 have hd := vtxL_len down
 have h0 := vtxL_len v0
 obtain ⟨N, hN⟩ : ∃ N : List Value, N = [.int .i64 0, .int .i64 0] := ⟨_, rfl⟩
 obtain ⟨Z, hZ⟩ : ∃ Z : List Value, Z = [.slice none 0 0, .slice none 0 0] := ⟨_, rfl⟩
 have e0 : zP = [] ++ (List.replicate 32 (.int .u8 0) ++ (N ++ (vtxL v0 ++ (vtxL v0 ++ Z)))) := by rw [hN, hZ]; unfold zP; simp only [List.append_assoc, List.nil_append]
 have hr : (List.replicate 32 (Value.int .u8 0)).length = (bytesC (hb1 b).1).length := by rw [hb, List.length_replicate]
 have s1 : setAt zP 0 (bytesC (hb1 b).1) = bytesC (hb1 b).1 ++ (N ++ (vtxL v0 ++ (vtxL v0 ++ Z))) := by
  have := setMid (n := 0) e0 rfl hr
  simpa only [List.nil_append] using this
 have hNl : N.length = 2 := by rw [hN]; rfl
 have s2 : setAt (bytesC (hb1 b).1 ++ (N ++ (vtxL v0 ++ (vtxL v0 ++ Z)))) 34 (vtxL up) = bytesC (hb1 b).1 ++ (N ++ (vtxL up ++ (vtxL v0 ++ Z))) := by
  have := setMid (a := bytesC (hb1 b).1 ++ N) (b := vtxL v0) (c := bytesC (hb1 b).1 ++ (N ++ (vtxL v0 ++ (vtxL v0 ++ Z)))) (d := vtxL v0 ++ Z) (e := vtxL up) (n := 34) (by simp only [List.append_assoc]) (by rw [List.length_append, hb, hNl]) (by omega)
  simpa only [List.append_assoc] using this
 have s3 : setAt (bytesC (hb1 b).1 ++ (N ++ (vtxL up ++ (vtxL v0 ++ Z)))) 67 (vtxL down) = bytesC (hb1 b).1 ++ (N ++ (vtxL up ++ (vtxL down ++ Z))) := by
  have := setMid (a := bytesC (hb1 b).1 ++ N ++ vtxL up) (b := vtxL v0) (c := bytesC (hb1 b).1 ++ (N ++ (vtxL up ++ (vtxL v0 ++ Z)))) (d := Z) (e := vtxL down) (n := 67) (by simp only [List.append_assoc]) (by simp only [List.length_append]; omega) (by omega)
  simpa only [List.append_assoc] using this
 have s4 : setAt (bytesC (hb1 b).1 ++ (N ++ (vtxL up ++ (vtxL down ++ Z)))) 100 [.slice A l.length c] = bytesC (hb1 b).1 ++ (N ++ (vtxL up ++ (vtxL down ++ ([.slice A l.length c] ++ [.slice none 0 0])))) := by
  have := setMid (a := bytesC (hb1 b).1 ++ N ++ vtxL up ++ vtxL down) (b := [Value.slice none 0 0]) (c := bytesC (hb1 b).1 ++ (N ++ (vtxL up ++ (vtxL down ++ Z)))) (d := [.slice none 0 0]) (e := [.slice A l.length c]) (n := 100) (by rw [hZ]; simp only [List.append_assoc]; rfl) (by simp only [List.length_append]; omega) rfl
  simpa only [List.append_assoc] using this
 have hzl : zP.length = 102 := by rw [e0]; simp only [List.length_append, List.length_replicate, List.length_nil, hNl, h0, hZ]; rfl
 have l1 : (bytesC (hb1 b).1 ++ (N ++ (vtxL v0 ++ (vtxL v0 ++ Z)))).length = 102 := by simp only [List.length_append, hb, hNl, h0, hZ]; rfl
 have l2 : (bytesC (hb1 b).1 ++ (N ++ (vtxL up ++ (vtxL v0 ++ Z)))).length = 102 := by simp only [List.length_append, hb, hNl, h0, hu, hZ]; rfl
 have l3 : (bytesC (hb1 b).1 ++ (N ++ (vtxL up ++ (vtxL down ++ Z)))).length = 102 := by simp only [List.length_append, hb, hNl, hd, hu, hZ]; rfl
 simp only [fillP, h1, h2, h3, h4]
 rw [if_pos ⟨(List.size_toArray).trans hb, by omega⟩]
 rw [show (Value.agg (bytesC (hb1 b).1).toArray).cells.toList = bytesC (hb1 b).1 from rfl, s1, if_pos ⟨(List.size_toArray).trans hu, by omega⟩]
 rw [show (vtxV up).cells.toList = vtxL up from rfl, s2, if_pos ⟨(List.size_toArray).trans hd, by omega⟩]
 rw [show (vtxV down).cells.toList = vtxL down from rfl, s3, if_pos ⟨rfl, by omega⟩]
 rw [show (Value.slice A l.length c).cells.toList = [.slice A l.length c] from rfl, s4]
 rw [partC_split, hN]
 rfl
theorem part_fc {w0 : World} {S : SS} {b : UInt8} {up down : Vtx} {A : Option Addr} {c : Nat} {l : List ByteArray} : FC Try.prog w0 42 [.int .u8 (b.toNat : Int), vtxV up, vtxV down, .slice A l.length c] S (fun v S' => v = partV (mkP b up down A c l) ∧ S' = S) := by
 refine FC.ofC Try.known42 (by simp) ?_
 unfold Try.pc42
 simp only [argT]
 refine PW.seqOps ?_
 refine OL.cons trivial (OW.bx rfl) ?_
 rintro _ _ ⟨r5, rfl, rfl⟩
 rw [vtx_box, vtxL_len]
 refine OL.cons trivial (OW.bx rfl) ?_
 rintro _ _ ⟨r6, rfl, rfl⟩
 rw [vtx_box, vtxL_len]
 refine OL.cons trivial OW.al ?_
 rintro _ _ ⟨r8, rfl, rfl⟩
 refine OL.nil ?_
 refine PW.keep (T' := [(0, _), (3, _), (5, _), (6, _), (8, _)]) ⟨rfl, rfl, rfl, rfl, rfl, trivial⟩ ?_
 refine PW.seqOps ?_
 refine OL.dp rfl ?_
 refine OL.det trivial (Yields.bldA (cs := bytesC (hb1 b).1) rfl) ?_
 refine OL.det trivial (Yields.ldA rfl (vtxL_len _) (all_at (List.mem_flatten.2 ⟨_, .tail _ (.tail _ (.head _)), List.mem_singleton.2 rfl⟩))) ?_
 refine OL.det trivial (Yields.ldA rfl (vtxL_len _) (all_at (List.mem_flatten.2 ⟨_, .tail _ (.head _), List.mem_singleton.2 rfl⟩))) ?_
 refine OL.dp rfl ?_
 refine OL.det trivial (Yields.build (fill_part rfl rfl rfl rfl)) ?_
 refine OL.cons trivial (part_stk (k := 0) (u := mkP b up down A c l) rfl rfl rfl rfl) ?_
 rintro _ _ rfl
 refine OL.nil ?_
 refine PW.keep (T' := [(8, _)]) ⟨rfl, trivial⟩ ?_
 refine PW.ret ?_
 change (Exit.ret = Exit.normal ∨ Exit.ret = Exit.ret) ∧ ∃ a v, Go.SL.look _ _ = some (.pointer (some a)) ∧ ReadsAs _ _ _ _ _ ∧ _
 exact ⟨.inr rfl, _, _, rfl, part_read (r := r8) (u := mkP b up down A c l) (E := 36) (tot := 102) (List.mem_flatten.2 ⟨_, .head _, List.mem_singleton.2 rfl⟩), _, Sub.drop (Sub.drop (Sub.drop (Sub.refl _))), rfl, rfl⟩
theorem mkP_rd {w0 : World} {S : SS} {b : UInt8} {up down : Vtx} {r n : Nat} {l : List ByteArray} (h : [(r, AO.cells (strs l) 9 n)] ∈ S) (hu : okV up) (hd : okV down) (hl : l.length ≤ 100) : PartRd w0 S (mkP b up down (some ⟨r, 0, none⟩) l.length l) :=
 ⟨Rd.own (E := 9) (tot := n) (List.mem_flatten.2 ⟨_, h, List.mem_singleton.2 rfl⟩), Rd.nil, ⟨(show (-9223372036854775808 : Int) ≤ 0 ∧ (0 : Int) ≤ 9223372036854775807 by decide), (show (-9223372036854775808 : Int) ≤ 0 ∧ (0 : Int) ≤ 4611686018427387904 by decide), Nat.le_trans hl (by decide), Nat.zero_le _, Nat.le_refl _, fun _ => rfl, hu, hd, fun v hv => by cases hv⟩, hl, Nat.zero_le _⟩
theorem vtx_stk {w0 : World} {S : SS} {P : Program} {n r k : Nat} {T : TT} {x v : PV} {u : Vtx} {z : List Value} (hk : S[k]? = some [(r, .cells z 32 33)]) (hx : x.val T = some (.pointer (some ⟨r, 0, none⟩))) (hv : v.val T = some (vtxV u)) (hz : z.length = 33) :
  OW P w0 n (.st 33 x v) T S (fun _ S' => S' = S.set k (vseg r u)) := by
 refine (OW.st (k := k) (c := z) (u := vtxV u) hx hv hk ((List.size_toArray).trans (vtxL_len u)) (by omega) (vtxL_one u)).mono ?_
 rintro _ _ rfl
 rw [vtx_box, setAll (by rw [vtxL_len, hz])]
def va : Vtx := (hb1 1, 0)
def vb : Vtx := (hb1 1, 1)
theorem okVa : okV va := by unfold okV va; decide
theorem okVb : okV vb := by unfold okV vb; decide
def k1 : PartP := (mkP 1 rootV endV none 0 [str1 97, str1 98]).pl
def kx : PartP := (mkP 2 va vb none 0 [str1 120]).pl
def ky : PartP := (mkP 3 va vb none 0 [str1 121]).pl
theorem okRoot : okV rootV := by unfold okV; decide
theorem okEnd : okV endV := by unfold okV; decide
theorem GG.n100 {w0 : World} {X : SS} {m : GrM} {ps : List PartP} (h : GG w0 X m ps) {p : PartP} (hn : newC ps p = true) : addE m.gr p = 0 ∧ came ps p = p :: ps := by
 have hnew := newC_new h.sq ⟨_, h.inv⟩ hn
 exact ⟨(addE_zero h.inv h.sq).2 hnew, came_new hnew⟩
theorem addF_fc {w0 : World} {S : SS} {s : Seg} {m : GrM} {ps : List PartP} {p : PartM} (h : GG w0 [] m ps) (hp : PartRd w0 (s :: S) p) (hn : newC ps p.pl = true) (hc : (allV ps).length + ps.length + p.lines.length + 1 ≤ 1000000) (hlim : m.lim + addL p ≤ 500000000000) :
  FC Try.prog w0 16 [m.ptr, partV p] (s :: (GS m ++ S)) (fun v S' => ∃ m', v = .int .i64 0 ∧ S' = GS m' ++ (s :: S) ∧ GG w0 [] m' (p.pl :: ps) ∧ m'.lim ≤ m.lim + addL p ∧ m'.r = m.r) := by
 refine (FC.subS gs_a (add2_fc (S := s :: S) h over_nil hp.rng hp.rdL hp.rdG hc hlim)).mono ?_
 rintro _ _ ⟨m1, rfl, rfl, hg1, hl1, hr1, _⟩
 obtain ⟨hz, hcm⟩ := h.n100 hn
 rw [hcm] at hg1
 exact ⟨m1, by rw [hz], rfl, hg1, hl1, hr1⟩
theorem base_fc {w0 : World} {S : SS} : FC Try.prog w0 41 [] S (fun v S' => ∃ m, v = .tuple #[m.ptr, vtxV va, vtxV vb] ∧ S' = GS m ++ S ∧ GG w0 [] m [k1] ∧ m.lim ≤ 100) := by
 refine FC.ofTCC Try.known41 (by simp) ?_
 unfold Try.pc41
 simp only [argT]
 refine PW.seqOps ?_
 refine OL.dp rfl ?_
 refine OL.cons trivial OW.al ?_
 rintro _ _ ⟨r1, rfl, rfl⟩
 refine OL.cons trivial OW.al ?_
 rintro _ _ ⟨r2, rfl, rfl⟩
 refine OL.nil ?_
 refine PW.keep (T' := [(1, _), (2, _)]) ⟨rfl, rfl, trivial⟩ ?_
 refine PW.seqOps ?_
 refine OL.call trivial rfl (new_fc (X := [])) ?_
 rintro _ _ ⟨m0, rfl, rfl, hm0, hg0, hl0⟩
 have hgg : GG w0 [] m0 [] := ⟨hm0, by rw [hg0]; exact GP.Inv.nil, Sq.nil, by simp [allV], by omega⟩
 refine OL.dp rfl ?_
 refine OL.nil ?_
 refine PW.keep (T' := [(1, _), (2, _), (3, _)]) ⟨rfl, rfl, rfl, trivial⟩ ?_
 refine PW.seqOps ?_
 refine OL.dp rfl ?_
 refine OL.det trivial (Yields.build (cs := vtxL rootV) rfl) ?_
 refine OL.det trivial (Yields.build (cs := vtxL endV) rfl) ?_
 refine OL.cons trivial (OW.bsl (cs := strs [str1 97, str1 98]) rfl) ?_
 rintro _ _ ⟨r8, rfl, rfl⟩
 refine OL.call trivial rfl (part_fc (b := 1) (up := rootV) (down := endV) (l := [str1 97, str1 98])) ?_
 rintro _ Sx ⟨rfl, hSx⟩
 rw [hSx]
 clear hSx
 have hpr : ∀ Z, PartRd w0 ([(r8, .cells (strs [str1 97, str1 98]) 9 2)] :: Z) (mkP 1 rootV endV (some ⟨r8, 0, none⟩) 2 [str1 97, str1 98]) := fun Z => mkP_rd (n := 2) (r := r8) (l := [str1 97, str1 98]) (.head _) okRoot okEnd (show 2 ≤ 100 by decide)
 refine OL.call trivial rfl (addF_fc hgg (hpr _) (show newC [] k1 = true by decide +kernel) (show 3 ≤ 1000000 by decide) (by rw [hl0]; exact (show 0 + 5 ≤ 500000000000 by decide))) ?_
 rintro _ _ ⟨m1, rfl, rfl, hg1, hl1, hr1⟩
 have hl1 : m1.lim ≤ m0.lim + 5 := hl1
 refine OL.nil ?_
 refine PW.keep (T' := [(1, _), (2, _), (3, _)]) ⟨rfl, rfl, rfl, trivial⟩ ?_
 refine PW.seqOps ?_
 refine OL.dp rfl ?_
 refine OL.det trivial (Yields.bldA (cs := bytesC (hb1 1).1) rfl) ?_
 refine OL.det trivial (Yields.build (cs := vtxL va) rfl) ?_
 refine OL.det trivial (Yields.bldA (cs := bytesC (hb1 1).1) rfl) ?_
 refine OL.det trivial (Yields.build (cs := vtxL vb) rfl) ?_
 refine OL.dp rfl ?_
 refine OL.cons trivial (vtx_stk (k := 6) (u := va) rfl rfl rfl rfl) ?_
 rintro _ _ rfl
 refine OL.cons trivial (vtx_stk (k := 5) (u := vb) rfl rfl rfl rfl) ?_
 rintro _ _ rfl
 refine OL.nil ?_
 refine PW.keep (T' := [(0, _), (1, _), (2, _)]) ⟨rfl, rfl, rfl, trivial⟩ ?_
 refine PW.ret ?_
 change (Exit.ret = Exit.normal ∨ Exit.ret = Exit.ret) ∧ ∃ x a v b u, Go.SL.look _ _ = some x ∧ Go.SL.look _ _ = some (.pointer (some a)) ∧ ReadsAs _ _ _ _ _ ∧ Go.SL.look _ _ = some (.pointer (some b)) ∧ ReadsAs _ _ _ _ _ ∧ _
 exact ⟨.inr rfl, _, _, _, _, _, rfl, rfl, vtx_read (r := r1) (v := va) (E := 32) (tot := 33) (List.mem_flatten.2 ⟨_, .tail _ (.tail _ (.tail _ (.tail _ (.tail _ (.tail _ (.head _)))))), List.mem_singleton.2 rfl⟩), rfl, vtx_read (r := r2) (v := vb) (E := 32) (tot := 33) (List.mem_flatten.2 ⟨_, .tail _ (.tail _ (.tail _ (.tail _ (.tail _ (.head _))))), List.mem_singleton.2 rfl⟩), _, Sub.sel [0, 1, 2, 3] 7 (by decide) (GS m1 ++ (_ :: _ :: _ :: S)), m1, by rw [ptr_eq hr1], rfl, hg1, by omega⟩
theorem items_text {its : List ItemM} {ps : List PartP} {T : List ByteArray} (hm : its.map ItemM.pl = itemsP ps) (hc : ((allV ps).all fun a => closedB (allE ps) a) = true) (ht : textI (itemsF (befC ps) (live (linesP ps))) = T) : textI (pli its) = T := by
 unfold pli
 rw [hm, items_comp hc, ht]
theorem items_blocks {its : List ItemM} {ps : List PartP} {B : List Bool} (hm : its.map ItemM.pl = itemsP ps) (hc : ((allV ps).all fun a => closedB (allE ps) a) = true) (ht : (itemsF (befC ps) (live (linesP ps))).map (·.block) = B) : its.map (·.block) = B := by
 have : its.map (·.block) = (its.map ItemM.pl).map (·.block) := by rw [List.map_map]; rfl
 rw [this, hm, items_comp hc, ht]
theorem any_map {its : List ItemM} : its.any (·.block) = (its.map (·.block)).any id := by rw [List.any_map]; rfl
def workT : List ByteArray := [str1 97, beginB, str1 120, middleB, str1 121, closeB, str1 98]
theorem new_kx : newC [k1] kx = true := by decide +kernel
theorem new_ky : newC [kx, k1] ky = true := by decide +kernel
theorem closed3 : ((allV [ky, kx, k1]).all fun a => closedB (allE [ky, kx, k1]) a) = true := by decide +kernel
theorem text3 : textI (itemsF (befC [ky, kx, k1]) (live (linesP [ky, kx, k1]))) = workT := by decide +kernel
theorem blocks3 : (itemsF (befC [ky, kx, k1]) (live (linesP [ky, kx, k1]))).map (·.block) = [false, true, false] := by decide +kernel
theorem works_fc {w0 : World} {S : SS} : FC Try.prog w0 31 [] S (fun v S' => v = .bool true ∧ S' = S) := by
 refine FC.ofD Try.known31 (by simp) ?_
 unfold Try.pc31
 simp only [argT]
 refine PW.seqOps ?_
 refine OL.dp rfl ?_
 refine OL.nil ?_
 refine PW.keep (T' := []) trivial ?_
 refine PW.seqOps ?_
 refine OL.call trivial rfl (base_fc) ?_
 rintro _ _ ⟨m, rfl, rfl, hg, hl⟩
 refine OL.dp rfl ?_
 refine OL.dp rfl ?_
 refine OL.dp rfl ?_
 refine OL.dp rfl ?_
 refine OL.cons trivial OW.al ?_
 rintro _ _ ⟨r2, rfl, rfl⟩
 refine OL.cons trivial OW.al ?_
 rintro _ _ ⟨r3, rfl, rfl⟩
 refine OL.dp rfl ?_
 refine OL.cons trivial (vtx_stk (k := 1) (u := va) rfl rfl rfl rfl) ?_
 rintro _ _ rfl
 refine OL.cons trivial (vtx_stk (k := 0) (u := vb) rfl rfl rfl rfl) ?_
 rintro _ _ rfl
 refine OL.subS (S' := GS m ++ (vseg r3 vb :: vseg r2 va :: S)) (Sub.sel [2, 3, 4, 5, 0, 1] 6 (by decide) (vseg r3 vb :: vseg r2 va :: (GS m ++ S))) ?_
 refine OL.nil ?_
 refine PW.keep (T' := [(1, _), (2, _), (3, _)]) ⟨rfl, rfl, rfl, trivial⟩ ?_
 refine PW.seqOps ?_
 refine OL.dp rfl ?_
 refine OL.det trivial (Yields.ldA rfl (vtxL_len _) (all_at (List.mem_flatten.2 ⟨_, .tail _ (.tail _ (.tail _ (.tail _ (.tail _ (.head _))))), List.mem_singleton.2 rfl⟩))) ?_
 refine OL.det trivial (Yields.ldA rfl (vtxL_len _) (all_at (List.mem_flatten.2 ⟨_, .tail _ (.tail _ (.tail _ (.tail _ (.head _)))), List.mem_singleton.2 rfl⟩))) ?_
 refine OL.cons trivial (OW.bsl (cs := strs [str1 120]) rfl) ?_
 rintro _ _ ⟨r15, rfl, rfl⟩
 refine OL.call trivial rfl (part_fc (b := 2) (up := va) (down := vb) (l := [str1 120])) ?_
 rintro _ Sx ⟨rfl, hSx⟩
 rw [hSx]
 clear hSx
 have hpx : ∀ Z, PartRd w0 ([(r15, .cells (strs [str1 120]) 9 1)] :: Z) (mkP 2 va vb (some ⟨r15, 0, none⟩) 1 [str1 120]) := fun Z => mkP_rd (n := 1) (r := r15) (l := [str1 120]) (.head _) okVa okVb (show 1 ≤ 100 by decide)
 refine OL.call trivial rfl (addF_fc hg (hpx _) new_kx (show 5 ≤ 1000000 by decide) (Nat.le_trans (Nat.add_le_add_right hl 4) (by decide))) ?_
 rintro _ _ ⟨m1, rfl, rfl, hg1, hl1, hr1⟩
 have hl1 : m1.lim ≤ m.lim + 4 := hl1
 change GG w0 [] m1 [kx, k1] at hg1
 refine OL.dp rfl ?_
 refine OL.nil ?_
 refine PW.keep (T' := [(1, _), (2, _), (3, _), (4, _)]) ⟨rfl, rfl, rfl, rfl, trivial⟩ ?_
 refine PW.seqOps ?_
 refine OL.dp rfl ?_
 refine OL.det trivial (Yields.ldA rfl (vtxL_len _) (all_at (List.mem_flatten.2 ⟨_, .tail _ (.tail _ (.tail _ (.tail _ (.tail _ (.tail _ (.head _)))))), List.mem_singleton.2 rfl⟩))) ?_
 refine OL.det trivial (Yields.ldA rfl (vtxL_len _) (all_at (List.mem_flatten.2 ⟨_, .tail _ (.tail _ (.tail _ (.tail _ (.tail _ (.head _))))), List.mem_singleton.2 rfl⟩))) ?_
 refine OL.cons trivial (OW.bsl (cs := strs [str1 121]) rfl) ?_
 rintro _ _ ⟨r21, rfl, rfl⟩
 refine OL.call trivial rfl (part_fc (b := 3) (up := va) (down := vb) (l := [str1 121])) ?_
 rintro _ Sx ⟨rfl, hSx⟩
 rw [hSx]
 clear hSx
 have hpy : ∀ Z, PartRd w0 ([(r21, .cells (strs [str1 121]) 9 1)] :: Z) (mkP 3 va vb (some ⟨r21, 0, none⟩) 1 [str1 121]) := fun Z => mkP_rd (n := 1) (r := r21) (l := [str1 121]) (.head _) okVa okVb (show 1 ≤ 100 by decide)
 refine OL.call trivial rfl (by rw [← ptr_eq hr1]; exact addF_fc hg1 (hpy _) new_ky (show 7 ≤ 1000000 by decide) (Nat.le_trans (Nat.add_le_add_right (Nat.le_trans hl1 (Nat.add_le_add_right hl 4)) 4) (by decide))) ?_
 rintro _ _ ⟨m2, rfl, rfl, hg2, hl2, hr2⟩
 change GG w0 [] m2 [ky, kx, k1] at hg2
 refine OL.dp rfl ?_
 refine OL.nil ?_
 refine PW.keep (T' := [(1, _), (4, _), (5, _)]) ⟨rfl, rfl, rfl, trivial⟩ ?_
 refine PW.seqOps ?_
 refine OL.dp rfl ?_
 refine OL.call trivial rfl (by rw [← ptr_eq (hr2.trans hr1)]; exact items_fc hg2 over_nil (by decide +kernel)) ?_
 rintro v25 _ ⟨its, segi, junk, rfl, hmap, hsi, hio, hitn⟩
 have htx := items_text hmap closed3 text3
 have hbl := items_blocks hmap closed3 blocks3
 obtain ⟨Ai, ci, rfl, hni, hci, hri⟩ := slv_rdL (w0 := w0) hsi
 have hlen : its.length = 3 := by have := congrArg List.length hbl; rw [List.length_map] at this; exact this
 obtain ⟨ai, rfl⟩ := itemS_some (hri []) (by omega)
 have hb1 : (its[1]'(by omega)).block = true := by
  have := List.getElem_map (·.block) (l := its) (i := 1) (h := by rw [hbl]; decide)
  rw [← this]
  simp only [hbl]
  rfl
 have hany : its.any (·.block) = true := by rw [any_map, hbl]; rfl
 refine OL.dp rfl ?_
 refine OL.nil ?_
 refine PW.keep (T' := [(4, _), (5, _), (6, _)]) ⟨rfl, rfl, rfl, trivial⟩ ?_
 refine PW.seqOps ?_
 refine OL.dp rfl ?_
 refine OL.det trivial (Yields.to (v' := .bool true) (Yields.pure rfl) (by rfl)) ?_
 refine OL.dp rfl ?_
 refine OL.det rfl (Yields.pure rfl) ?_
 refine OL.det rfl (Yields.to (v' := .bool true) (Yields.pure rfl) (by rfl)) ?_
 refine OL.dp rfl ?_
 refine OL.dp rfl ?_
 refine OL.det rfl (Yields.pure rfl) ?_
 refine OL.det rfl (Yields.pure rfl) ?_
 refine OL.det rfl (Yields.to (v' := .bool true) (Yields.pure rfl) (by rw [hlen]; rfl)) ?_
 refine OL.dp rfl ?_
 refine OL.dp rfl ?_
 refine OL.det rfl (Yields.pure rfl) ?_
 refine OL.det rfl (Yields.ixN (j := 1) rfl rfl rfl (by omega)) ?_
 refine OL.det rfl (Yields.pure rfl) ?_
 refine OL.det rfl (Yields.to (v' := .bool true) (Yields.ld rfl (item_at (k := 1) (hri _) (by omega) 1 (.bool (its[1]'(by omega)).block) rfl)) (by rw [hb1])) ?_
 refine OL.dp rfl ?_
 refine OL.dp rfl ?_
 refine OL.det rfl (Yields.pure rfl) ?_
 refine OL.call rfl rfl (conflict_fc (hri _) (by omega)) ?_
 rintro _ Sx ⟨rfl, hSx⟩
 rw [hSx]
 clear hSx
 rw [hany]
 refine OL.dp rfl ?_
 refine OL.dp rfl ?_
 refine OL.det rfl (Yields.pure rfl) ?_
 refine OL.call rfl rfl (textI_fc (hri _) (fun x hx => (hio x hx).rd (by simp)) (by omega)) ?_
 rintro v49 _ ⟨segt, rfl, hst, _⟩
 rw [htx] at hst
 obtain ⟨At, ct, rfl, hnt, hct, hrt⟩ := slv_rdL (w0 := w0) hst
 refine OL.cons rfl (OW.bsl (cs := strs workT) rfl) ?_
 rintro _ _ ⟨r50, rfl, rfl⟩
 refine OL.call rfl rfl (sameS_fc (a := workT) (b := workT) (hrt _).cons (Rd.own (E := 9) (tot := 7) (List.mem_flatten.2 ⟨_, .head _, List.mem_singleton.2 rfl⟩)) (show 7 ≤ 1000000000000 by decide) (show 7 ≤ 1000000000000 by decide)) ?_
 rintro _ Sx ⟨rfl, hSx⟩
 rw [hSx]
 clear hSx
 rw [decide_eq_true (rfl : workT = workT)]
 refine OL.dp rfl ?_
 refine OL.dp rfl ?_
 refine OL.nil ?_
 refine PW.keep (T' := [(0, _)]) ⟨rfl, trivial⟩ ?_
 refine PW.ret ?_
 change (Exit.ret = Exit.normal ∨ Exit.ret = Exit.ret) ∧ ∃ v, resV _ _ = some v ∧ _
 exact ⟨.inr rfl, _, rfl, _, Sub.drop (Sub.drop (Sub.drop (Sub.drop (Sub.drop (Sub.drop (Sub.drop (Sub.drop (Sub.drop (Sub.drop (Sub.drop (Sub.drop (Sub.refl _)))))))))))), rfl, rfl⟩
end Go.Proofs.Gr

namespace Go.Proofs.Gr
open Go.SL Go.RowKit Go.Proofs Go.GP
end Go.Proofs.Gr

namespace Go.Proofs.Gr
open Go.SL Go.RowKit Go.Proofs Go.GP
set_option maxHeartbeats 1000000
theorem gs_a2 {a : GrM} {s t : Seg} {S : SS} : Sub (GS a ++ (s :: t :: S)) (s :: t :: (GS a ++ S)) := Sub.sel [2, 3, 4, 5, 0, 1] 6 (by decide) (s :: t :: (GS a ++ S))
end Go.Proofs.Gr

namespace Go.Proofs.Gr
open Go.SL Go.RowKit Go.Proofs Go.GP
set_option maxHeartbeats 1000000
end Go.Proofs.Gr

namespace Go.Proofs.Gr
open Go.SL Go.RowKit Go.Proofs Go.GP
set_option maxHeartbeats 1000000
theorem fill_step {T : TT} {a b d : List Value} {n k : Nat} {x : PV} {v : Value} {r : List (Nat × Nat × PV)} (hx : x.val T = some v) (ha : a.length = n) (hb : b.length = k) (hv : v.cells.toList.length = k) :
  fillP T (a ++ (b ++ d)) ((n, k, x) :: r) = fillP T ((a ++ v.cells.toList) ++ d) r := by
 simp only [fillP, hx]
 rw [if_pos ⟨by rw [← Array.length_toList]; exact hv, by simp only [List.length_append]; omega⟩, setMid rfl ha (hb.trans hv.symm), List.append_assoc]
theorem fill_part7 {T : TT} {p : PartM} {x1 x2 x3 x4 x5 x6 x7 : PV} (h1 : x1.val T = some (.agg (bytesC p.patch.1).toArray)) (h2 : x2.val T = some (.int .i64 p.at_)) (h3 : x3.val T = some (.int .i64 p.first)) (h4 : x4.val T = some (vtxV p.up)) (h5 : x5.val T = some (vtxV p.down))
  (h6 : x6.val T = some (.slice p.LA p.lines.length p.lc)) (h7 : x7.val T = some (.slice p.GA p.gone.length p.gc)) :
  fillP T zP [(0, 32, x1), (32, 1, x2), (33, 1, x3), (34, 33, x4), (67, 33, x5), (100, 1, x6), (101, 1, x7)] = some (partC p) := by
 have hb := hb_len p.patch
 have hu := vtxL_len p.up
 have hd := vtxL_len p.down
 have h0 := vtxL_len v0
 have e0 : zP = [] ++ (List.replicate 32 (.int .u8 0) ++ ([.int .i64 0] ++ ([.int .i64 0] ++ (vtxL v0 ++ (vtxL v0 ++ ([.slice none 0 0] ++ ([.slice none 0 0] ++ []))))))) := by unfold zP; simp only [List.append_assoc, List.nil_append, List.append_nil]; rfl
 have c1 : (Value.agg (bytesC p.patch.1).toArray).cells.toList = bytesC p.patch.1 := rfl
 have c4 : (vtxV p.up).cells.toList = vtxL p.up := rfl
 have c5 : (vtxV p.down).cells.toList = vtxL p.down := rfl
 have c2 : ∀ (k : IntKind) (z : Int), (Value.int k z).cells.toList = [.int k z] := fun _ _ => rfl
 have c6 : ∀ (A : Option Addr) (n c : Nat), (Value.slice A n c).cells.toList = [.slice A n c] := fun _ _ _ => rfl
 rw [e0, fill_step (a := []) (n := 0) (k := 32) h1 rfl List.length_replicate (by rw [c1]; exact hb), c1, fill_step (k := 1) (b := [.int .i64 0]) h2 (by simp only [List.length_append, List.length_nil]; omega) rfl rfl, c2,
  fill_step (k := 1) (b := [.int .i64 0]) h3 (by simp only [List.length_append, List.length_nil, List.length_cons]; omega) rfl rfl, c2, fill_step h4 (by simp only [List.length_append, List.length_nil, List.length_cons]; omega) h0 (by rw [c4]; exact hu), c4,
  fill_step h5 (by simp only [List.length_append, List.length_nil, List.length_cons]; omega) h0 (by rw [c5]; exact hd), c5, fill_step (k := 1) (b := [.slice none 0 0]) h6 (by simp only [List.length_append, List.length_nil, List.length_cons]; omega) rfl rfl, c6,
  fill_step (k := 1) (b := [.slice none 0 0]) h7 (by simp only [List.length_append, List.length_nil, List.length_cons]; omega) rfl rfl, c6]
 rw [partC_split]
 simp only [fillP, List.append_assoc, List.nil_append, List.append_nil]
structure PartsIn (w0 : World) (A : Option Addr) (l : List PartM) : Prop where
 rd : Rd w0 [] A (partS l)
 part : ∀ x ∈ l, PartA w0 x
 len : l.length ≤ 1000000000000000
structure SmallP (l : List PartM) : Prop where
 len : l.length ≤ 14
 part : ∀ x ∈ l, x.lines.length ≤ 8 ∧ x.gone.length ≤ 8 ∧ x.first ≤ 1000
theorem PartsIn.partB {w0 : World} {A : Option Addr} {l : List PartM} (h : PartsIn w0 A l) (hs : SmallP l) {k : Nat} (hk : k < l.length) : PartB w0 l[k] := by
 have h1 := h.part _ (List.getElem_mem hk)
 obtain ⟨h2, h3, h4⟩ := hs.part _ (List.getElem_mem hk)
 exact ⟨h1.rdL, h1.rdG, h1.rng (by omega) (by omega) (by omega), ⟨by omega, by omega⟩, h1.text⟩
theorem PartB.rdS {w0 : World} {S : SS} {p : PartM} (h : PartB w0 p) : PartRd w0 S p := ⟨h.rdL.any, h.rdG.any, h.rng, by have := h.small; omega⟩
section
variable {w0 : World} {S : SS} {a : Addr} {l : List PartM} {k : Nat}
theorem partS_first (h : Rd w0 S (some a) (partS l)) (hk : k < l.length) : Cell w0 S ((a.add (k * 102)).add 33) (.int .i64 l[k].first) := partS_at h hk _ _ (partC_at _).2.1
theorem partS_lines (h : Rd w0 S (some a) (partS l)) (hk : k < l.length) : Cell w0 S ((a.add (k * 102)).add 100) (.slice l[k].LA l[k].lines.length l[k].lc) := partS_at h hk _ _ (partC_at _).2.2.1
theorem partS_gone (h : Rd w0 S (some a) (partS l)) (hk : k < l.length) : Cell w0 S ((a.add (k * 102)).add 101) (.slice l[k].GA l[k].gone.length l[k].gc) := partS_at h hk _ _ (partC_at _).2.2.2
end
theorem gs_h {a : GrM} {s t u : Seg} {S : SS} : Sub (GS a ++ (u :: S)) (u :: (GS a ++ (t :: s :: S))) := Sub.sel [1, 2, 3, 4, 0] 7 (by decide) (u :: (GS a ++ (t :: s :: S)))
theorem gs_i {a : GrM} {s t : Seg} {S : SS} : Sub (GS a ++ (s :: S)) (GS a ++ (t :: s :: S)) := Sub.sel [0, 1, 2, 3, 5] 6 (by decide) (GS a ++ (t :: s :: S))
theorem gs_j {a : GrM} {S : SS} : Sub (GS a ++ ([] :: S)) (GS a ++ S) := ⟨by simp, by simp⟩
theorem line_pls {w0 : World} {X : SS} {m : GrM} {l : List PartM} (h : GG w0 X m (pls l).reverse) : ∀ v ∈ allV (pls l), v ≠ rootV ∧ v ≠ endV := fun v hv => h.sq.line (by
 obtain ⟨p, hp, hv⟩ := mem_allV.1 hv
 exact mem_allV.2 ⟨p, List.mem_reverse.2 hp, hv⟩)
theorem new_rev {l : List PartP} {p : PartP} (h : New l.reverse p) : New l p := by
 have hv : ∀ v, v ∈ allV l.reverse ↔ v ∈ allV l := fun v => by simp only [mem_allV, List.mem_reverse]
 exact h.more (fun q hq => List.mem_reverse.1 hq) (fun q hq => h.name q (List.mem_reverse.2 hq)) (fun v hv1 hv2 => h.own v hv1 ((hv v).2 hv2))
theorem few_fc {w0 : World} {S : SS} {A : Option Addr} {c : Nat} {l : List PartM} (h : PartsIn w0 A l) :
  FC Try.prog w0 30 [.slice A l.length c] S (fun v S' => ∃ b, v = .bool b ∧ S' = S ∧ (b = true → SmallP l)) := by
 have hlen := h.len
 refine FC.ofD Try.known30 (by simp) ?_
 unfold Try.pc30
 simp only [argT]
 refine PW.seqOps ?_
 refine OL.dp rfl ?_
 refine OL.nil ?_
 refine PW.keep (T' := [(0, _)]) ⟨rfl, trivial⟩ ?_
 refine PW.seq fun K1 hK1 => ?_
 refine PW.seqOps ?_
 refine OL.dp rfl ?_
 refine OL.nil ?_
 refine PW.keep (T' := [(0, _), (3, _)]) ⟨rfl, rfl, trivial⟩ ?_
 refine PW.block ?_
 refine PW.keep (T' := [(0, _), (3, _)]) ⟨rfl, rfl, trivial⟩ ?_
 refine PW.loopK (I := fun mm T S' => ∃ k : Nat, (k ≤ l.length ∧ k ≤ 15 ∧ mm = l.length - k ∧ ∀ x ∈ l.take k, x.lines.length ≤ 8 ∧ x.gone.length ≤ 8 ∧ x.first ≤ 1000) ∧ T = ([(0, .slice A l.length c), (3, .int .i64 k)] : TT) ∧ S' = S) (m := l.length) ⟨0, ⟨by omega, by omega, by omega, by simp⟩, rfl, rfl⟩ ?_
 rintro mm _ _ ⟨k, ⟨hk, hk15, hmm, hall⟩, rfl, rfl⟩
 refine PW.seq fun K2 hK2 => ?_
 refine PW.seqOps ?_
 refine OL.dp rfl ?_
 refine OL.dp rfl ?_
 refine OL.dp rfl ?_
 refine OL.dp rfl ?_
 refine OL.bool trivial (Yields.pure rfl) (fun g8 => ?_) (fun g8 => ?_)
 ·try simp only [cvS, Bool.false_eq_true, if_false, if_true] at g8
  refine OL.det rfl (Yields.pure rfl) ?_
  refine OL.det rfl (Yields.pure rfl) ?_
  refine OL.dp rfl ?_
  refine OL.nil ?_
  refine PW.keep (T' := [(0, _), (3, _), (11, _)]) ⟨rfl, rfl, rfl, trivial⟩ ?_
  refine PW.cond rfl (fun c11 => ?_) (fun c11 => ?_)
  ·try simp only [cvS, Bool.false_eq_true, if_false, if_true] at c11
   have hkl : k < l.length := by omega
   obtain ⟨a0, ha0⟩ := partS_some h.rd (by omega)
   have hrd := h.rd
   rw [ha0] at hrd
   refine PW.skip ?_
   refine hK2 _ _ ?_
   refine PW.keep (T' := [(0, _), (3, _)]) ⟨rfl, rfl, trivial⟩ ?_
   refine PW.seq fun K3 hK3 => ?_
   refine PW.block ?_
   refine PW.seqOps ?_
   refine OL.dp rfl ?_
   refine OL.dp rfl ?_
   try rw [ha0]
   refine OL.det trivial (Yields.ixN rfl rfl rfl hkl) ?_
   refine OL.dp rfl ?_
   refine OL.det trivial (Yields.ld rfl (partS_lines hrd.any hkl)) ?_
   refine OL.dp rfl ?_
   refine OL.dp rfl ?_
   refine OL.bool trivial (Yields.pure rfl) (fun g21 => ?_) (fun g21 => ?_)
   ·try simp only [cvS, Bool.false_eq_true, if_false, if_true] at g21
    refine OL.off rfl rfl ?_
    refine OL.off rfl rfl ?_
    refine OL.off rfl rfl ?_
    refine OL.off rfl rfl ?_
    refine OL.off rfl rfl ?_
    refine OL.off rfl rfl ?_
    refine OL.off rfl rfl ?_
    refine OL.dp rfl ?_
    refine OL.dp rfl ?_
    refine OL.off rfl rfl ?_
    refine OL.off rfl rfl ?_
    refine OL.off rfl rfl ?_
    refine OL.off rfl rfl ?_
    refine OL.off rfl rfl ?_
    refine OL.off rfl rfl ?_
    refine OL.dp rfl ?_
    refine OL.nil ?_
    refine PW.keep (T' := [(0, _), (3, _), (37, _)]) ⟨rfl, rfl, rfl, trivial⟩ ?_
    refine PW.ite (b := true) rfl ?_
    rw [if_pos rfl]
    refine PW.seqOps ?_
    refine OL.dp rfl ?_
    refine OL.nil ?_
    refine PW.keep (T' := [(2, _)]) ⟨rfl, trivial⟩ ?_
    refine PW.ret ?_
    change (Exit.ret = Exit.normal ∨ Exit.ret = Exit.ret) ∧ ∃ v, resV _ _ = some v ∧ _
    exact ⟨.inr rfl, _, rfl, _, Sub.refl _, false, rfl, rfl, fun h => by cases h⟩
   ·try simp only [cvS, Bool.false_eq_true, if_false, if_true] at g21
    refine OL.det rfl (Yields.pure rfl) ?_
    refine OL.det rfl (Yields.pure rfl) ?_
    try rw [ha0]
    refine OL.det rfl (Yields.ixN rfl rfl rfl hkl) ?_
    refine OL.det rfl (Yields.pure rfl) ?_
    refine OL.det rfl (Yields.ld rfl (partS_gone hrd.any hkl)) ?_
    refine OL.det rfl (Yields.pure rfl) ?_
    refine OL.det rfl (Yields.pure rfl) ?_
    refine OL.dp rfl ?_
    refine OL.bool trivial (Yields.pure rfl) (fun g30 => ?_) (fun g30 => ?_)
    ·try simp only [cvS, Bool.false_eq_true, if_false, if_true] at g30
     refine OL.off rfl rfl ?_
     refine OL.off rfl rfl ?_
     refine OL.off rfl rfl ?_
     refine OL.off rfl rfl ?_
     refine OL.off rfl rfl ?_
     refine OL.off rfl rfl ?_
     refine OL.dp rfl ?_
     refine OL.nil ?_
     refine PW.keep (T' := [(0, _), (3, _), (37, _)]) ⟨rfl, rfl, rfl, trivial⟩ ?_
     refine PW.ite (b := true) rfl ?_
     rw [if_pos rfl]
     refine PW.seqOps ?_
     refine OL.dp rfl ?_
     refine OL.nil ?_
     refine PW.keep (T' := [(2, _)]) ⟨rfl, trivial⟩ ?_
     refine PW.ret ?_
     change (Exit.ret = Exit.normal ∨ Exit.ret = Exit.ret) ∧ ∃ v, resV _ _ = some v ∧ _
     exact ⟨.inr rfl, _, rfl, _, Sub.refl _, false, rfl, rfl, fun h => by cases h⟩
    ·try simp only [cvS, Bool.false_eq_true, if_false, if_true] at g30
     refine OL.det rfl (Yields.pure rfl) ?_
     refine OL.det rfl (Yields.pure rfl) ?_
     try rw [ha0]
     refine OL.det rfl (Yields.ixN rfl rfl rfl hkl) ?_
     refine OL.det rfl (Yields.pure rfl) ?_
     refine OL.det rfl (Yields.ld rfl (partS_first hrd.any hkl)) ?_
     refine OL.det rfl (Yields.pure rfl) ?_
     refine OL.dp rfl ?_
     refine OL.nil ?_
     refine PW.keep (T' := [(0, _), (3, _), (37, _)]) ⟨rfl, rfl, rfl, trivial⟩ ?_
     refine PW.cond rfl (fun c37 => ?_) (fun c37 => ?_)
     ·try simp only [cvS, Bool.false_eq_true, if_false, if_true] at c37
      refine PW.seqOps ?_
      refine OL.dp rfl ?_
      refine OL.nil ?_
      refine PW.keep (T' := [(2, _)]) ⟨rfl, trivial⟩ ?_
      refine PW.ret ?_
      change (Exit.ret = Exit.normal ∨ Exit.ret = Exit.ret) ∧ ∃ v, resV _ _ = some v ∧ _
      exact ⟨.inr rfl, _, rfl, _, Sub.refl _, false, rfl, rfl, fun h => by cases h⟩
     ·try simp only [cvS, Bool.false_eq_true, if_false, if_true] at c37
      have hk2 : l[k].lines.length ≤ 8 ∧ l[k].gone.length ≤ 8 ∧ l[k].first ≤ 1000 := by
       first | (simp only [cvS, Bool.false_eq_true, if_false, if_true] at *; omega) | omega
      refine PW.skip ?_
      refine hK3 _ _ ?_
      refine PW.keep (T' := [(0, _), (3, _)]) ⟨rfl, rfl, trivial⟩ ?_
      refine PW.ops ?_
      refine OL.dp rfl ?_
      refine OL.det trivial (Yields.add64 rfl rfl (by omega) (by omega)) ?_
      refine OL.dp rfl ?_
      refine OL.nil ?_
      repeat rw [inBlk_n]
      try rw [thenK_n]
      refine LoopEnd.mk (T'' := [(0, _), (3, _)]) ⟨rfl, rfl, trivial⟩ ?_
      try rw [ha0]
      refine ⟨l.length - (k + 1), by omega, k + 1, ⟨by omega, by omega, rfl, ?_⟩, rfl, rfl⟩
      rw [ltake_snoc hkl]
      intro x hx
      rcases List.mem_append.1 hx with hx | hx
      ·exact hall x hx
      ·rw [List.mem_singleton] at hx; subst hx; exact hk2
  ·try simp only [cvS, Bool.false_eq_true, if_false, if_true] at c11
   refine PW.exit ?_
   refine hK1 _ _ ?_
   refine PW.keep (T' := [(0, _)]) ⟨rfl, trivial⟩ ?_
   refine PW.seqOps ?_
   refine OL.dp rfl ?_
   refine OL.dp rfl ?_
   refine OL.dp rfl ?_
   refine OL.dp rfl ?_
   refine OL.nil ?_
   refine PW.keep (T' := [(2, _)]) ⟨rfl, trivial⟩ ?_
   refine PW.ret ?_
   change (Exit.ret = Exit.normal ∨ Exit.ret = Exit.ret) ∧ ∃ v, resV _ _ = some v ∧ _
   refine ⟨.inr rfl, _, rfl, _, Sub.refl _, _, rfl, rfl, fun hb => ?_⟩
   have hb2 : (l.length : Int) ≤ 14 := by simpa using hb
   have hke : k = l.length := by omega
   rw [hke, List.take_length] at hall
   exact ⟨by omega, hall⟩
 ·try simp only [cvS, Bool.false_eq_true, if_false, if_true] at g8
  refine OL.off rfl rfl ?_
  refine OL.off rfl rfl ?_
  refine OL.dp rfl ?_
  refine OL.nil ?_
  refine PW.keep (T' := [(0, _), (3, _), (11, _)]) ⟨rfl, rfl, rfl, trivial⟩ ?_
  refine PW.ite (b := false) rfl ?_
  rw [if_neg Bool.false_ne_true]
  refine PW.exit ?_
  refine hK1 _ _ ?_
  refine PW.keep (T' := [(0, _)]) ⟨rfl, trivial⟩ ?_
  refine PW.seqOps ?_
  refine OL.dp rfl ?_
  refine OL.dp rfl ?_
  refine OL.dp rfl ?_
  refine OL.dp rfl ?_
  refine OL.nil ?_
  refine PW.keep (T' := [(2, _)]) ⟨rfl, trivial⟩ ?_
  refine PW.ret ?_
  change (Exit.ret = Exit.normal ∨ Exit.ret = Exit.ret) ∧ ∃ v, resV _ _ = some v ∧ _
  refine ⟨.inr rfl, _, rfl, _, Sub.refl _, _, rfl, rfl, fun hb => ?_⟩
  have hb2 : (l.length : Int) ≤ 14 := by simpa using hb
  have hke : k = l.length := by omega
  rw [hke, List.take_length] at hall
  exact ⟨by omega, hall⟩
theorem both_fc {w0 : World} {S : SS} {A : Option Addr} {c : Nat} {l : List PartM} (h : PartsIn w0 A l) (hs : SmallP l) :
  FC Try.prog w0 32 [.slice A l.length c] S (fun v S' => ∃ m cms A' c' sg, v = .tuple #[m.ptr, .slice A' cms.length c'] ∧ S' = GS m ++ (sg :: S) ∧ GG w0 [] m (pls cms).reverse ∧ SlV 123 102 (.slice A' cms.length c') cms.length (partS cms) sg ∧ (∀ x ∈ cms, PartB w0 x) ∧ cms.length ≤ 14 ∧ (allV (pls cms).reverse).length ≤ 1400 ∧ m.lim ≤ 100000) := by
 have hlen := hs.len
 refine FC.ofD Try.known32 (by simp) ?_
 unfold Try.pc32
 simp only [argT]
 refine PW.seqOps ?_
 refine OL.dp rfl ?_
 refine OL.dp rfl ?_
 refine OL.nil ?_
 refine PW.keep (T' := [(0, _)]) ⟨rfl, trivial⟩ ?_
 refine PW.seqOps ?_
 refine OL.call trivial rfl (new_fc (X := [])) ?_
 rintro _ _ ⟨m0, rfl, rfl, hm0, hg0, hl0⟩
 have hgg : GG w0 [] m0 [] := ⟨hm0, by rw [hg0]; exact GP.Inv.nil, Sq.nil, by simp [allV], by omega⟩
 refine OL.dp rfl ?_
 refine OL.nil ?_
 refine PW.keep (T' := [(0, _), (4, _)]) ⟨rfl, rfl, trivial⟩ ?_
 refine PW.seqOps ?_
 refine OL.dp rfl ?_
 refine OL.nil ?_
 refine PW.keep (T' := [(0, _), (4, _), (5, _)]) ⟨rfl, rfl, rfl, trivial⟩ ?_
 refine PW.seq fun K1 hK1 => ?_
 refine PW.seqOps ?_
 refine OL.subS (S' := GS m0 ++ ([] :: S)) gs_j ?_
 refine OL.dp rfl ?_
 refine OL.nil ?_
 refine PW.keep (T' := [(0, _), (4, _), (5, _), (6, _)]) ⟨rfl, rfl, rfl, rfl, trivial⟩ ?_
 refine PW.block ?_
 refine PW.keep (T' := [(0, _), (4, _), (5, _), (6, _)]) ⟨rfl, rfl, rfl, rfl, trivial⟩ ?_
 refine PW.loopK (I := fun mm T S' => ∃ (k : Nat) (m : GrM) (cms : List PartM) (Ar : Option Addr) (cr : Nat) (sg : Seg), (k ≤ l.length ∧ mm = l.length - k ∧ GG w0 [] m (pls cms).reverse ∧ SlV 123 102 (.slice Ar cms.length cr) cms.length (partS cms) sg ∧ (∀ x ∈ cms, PartB w0 x) ∧ cms.length ≤ k ∧ (allV (pls cms).reverse).length ≤ 100 * k ∧ m.lim ≤ 1000 * k ∧ m.r = m0.r) ∧ T = ([(0, .slice A l.length c), (4, m0.ptr), (5, .slice Ar cms.length cr), (6, .int .i64 k)] : TT) ∧ S' = GS m ++ (sg :: S)) (m := l.length) ⟨0, m0, [], _, _, [], ⟨by omega, by omega, hgg, SlV.nil 123 102, (fun x hx => by cases hx), Nat.le_refl 0, by simp [allV, pls], by omega, rfl⟩, rfl, rfl⟩ ?_
 rintro mm _ _ ⟨k, m, cms, Ar, cr, sg, ⟨hk, hmm, hg, hsr, hcb, hcl, hal, hlim, hr⟩, rfl, rfl⟩
 refine PW.seq fun K2 hK2 => ?_
 refine PW.seqOps ?_
 refine OL.dp rfl ?_
 refine OL.dp rfl ?_
 refine OL.dp rfl ?_
 refine OL.dp rfl ?_
 refine OL.nil ?_
 refine PW.keep (T' := [(0, _), (4, _), (5, _), (6, _), (12, _)]) ⟨rfl, rfl, rfl, rfl, rfl, trivial⟩ ?_
 refine PW.cond rfl (fun c12 => ?_) (fun c12 => ?_)
 ·try simp only [cvS, Bool.false_eq_true, if_false, if_true] at c12
  have hkl : k < l.length := by omega
  obtain ⟨a0, ha0⟩ := partS_some h.rd (by omega)
  have hrd := h.rd
  rw [ha0] at hrd
  have hpb := h.partB hs hkl
  have hrl : (pls cms).reverse.length = cms.length := by simp [pls]
  have hsm := hs.part _ (List.getElem_mem hkl)
  obtain ⟨Ar2, cr2, er2, hnr, hcr, hrr⟩ := slv_rdL (w0 := w0) hsr
  cases er2
  refine PW.skip ?_
  refine hK2 _ _ ?_
  refine PW.keep (T' := [(0, _), (4, _), (5, _), (6, _)]) ⟨rfl, rfl, rfl, rfl, trivial⟩ ?_
  refine PW.seq fun K3 hK3 => ?_
  refine PW.block ?_
  refine PW.seqOps ?_
  refine OL.dp rfl ?_
  refine OL.dp rfl ?_
  rw [ha0]
  refine OL.det trivial (Yields.ixN rfl rfl rfl hkl) ?_
  refine OL.det trivial (Yields.ldA rfl (partC_len _) (partS_at hrd.any hkl)) ?_
  refine OL.cons trivial OW.al ?_
  rintro _ _ ⟨r7, rfl, rfl⟩
  refine OL.cons trivial (part_stk (k := 0) (u := l[k]) rfl rfl rfl rfl) ?_
  rintro _ _ rfl
  change OL _ _ _ _ _ (pseg r7 l[k] :: (GS m ++ (sg :: S))) _
  refine OL.nil ?_
  refine PW.keep (T' := [(0, _), (4, _), (5, _), (6, _), (7, _)]) ⟨rfl, rfl, rfl, rfl, rfl, trivial⟩ ?_
  refine PW.seq fun K4 hK4 => ?_
  refine PW.seqOps ?_
  refine OL.dp rfl ?_
  refine OL.det trivial (Yields.ldA rfl (partC_len _) (all_at (List.mem_flatten.2 ⟨_, .head _, List.mem_singleton.2 rfl⟩))) ?_
  refine OL.call trivial rfl (by rw [← ptr_eq hr]; exact FC.subS gs_a (add2_fc (S := pseg r7 l[k] :: sg :: S) hg over_nil hpb.rng hpb.rdL.any hpb.rdG.any (by omega) (by unfold addL; omega))) ?_
  rintro _ _ ⟨m1, rfl, rfl, hg1, hl1, hr1, _⟩
  unfold addL at hl1
  refine OL.dp rfl ?_
  refine OL.nil ?_
  refine PW.keep (T' := [(0, _), (4, _), (5, _), (6, _), (7, _), (22, _)]) ⟨rfl, rfl, rfl, rfl, rfl, rfl, trivial⟩ ?_
  refine PW.cond rfl (fun c22 => ?_) (fun c22 => ?_)
  ·skip
   have hnn : ¬ New (pls cms).reverse l[k].pl := fun hn => by
    have := (addE_zero hg.inv hg.sq).2 hn
    simp [this] at c22
   rw [came_not hnn] at hg1
   refine PW.exit ?_
   refine hK3 _ _ ?_
   refine PW.keep (T' := [(0, _), (4, _), (5, _), (6, _)]) ⟨rfl, rfl, rfl, rfl, trivial⟩ ?_
   refine PW.ops ?_
   refine OL.dp rfl ?_
   refine OL.det trivial (Yields.add64 rfl rfl (by omega) (by omega)) ?_
   refine OL.dp rfl ?_
   refine OL.nil ?_
   repeat rw [inBlk_n]
   try rw [thenK_n]
   refine LoopEnd.mkS (gs_i) (T'' := [(0, _), (4, _), (5, _), (6, _)]) ⟨rfl, rfl, rfl, rfl, trivial⟩ ?_
   rw [ha0]
   exact ⟨l.length - (k + 1), by omega, k + 1, m1, cms, _, _, sg, ⟨by omega, rfl, hg1, hsr, hcb, by omega, by omega, by omega, hr1.trans hr⟩, rfl, rfl⟩
  ·skip
   have hnew : New (pls cms).reverse l[k].pl := (addE_zero hg.inv hg.sq).1 (by simpa using c22)
   rw [came_new hnew, ← pls_snoc] at hg1
   refine PW.skip ?_
   refine hK4 _ _ ?_
   refine PW.keep (T' := [(0, _), (4, _), (5, _), (6, _), (7, _)]) ⟨rfl, rfl, rfl, rfl, rfl, trivial⟩ ?_
   refine PW.ops ?_
   refine OL.dp rfl ?_
   refine OL.dp rfl ?_
   refine OL.det trivial (Yields.ldA rfl (hb_len _) (part_patch (p := l[k]) (E := 36) (tot := 102) (List.mem_flatten.2 ⟨_, .tail _ (.tail _ (.tail _ (.tail _ (.head _)))), List.mem_singleton.2 rfl⟩))) ?_
   refine OL.dp rfl ?_
   refine OL.det trivial (Yields.ld rfl (part_at (p := l[k]) (E := 36) (tot := 102) (List.mem_flatten.2 ⟨_, .tail _ (.tail _ (.tail _ (.tail _ (.head _)))), List.mem_singleton.2 rfl⟩))) ?_
   refine OL.dp rfl ?_
   refine OL.det trivial (Yields.ld rfl (part_first (p := l[k]) (E := 36) (tot := 102) (List.mem_flatten.2 ⟨_, .tail _ (.tail _ (.tail _ (.tail _ (.head _)))), List.mem_singleton.2 rfl⟩))) ?_
   refine OL.dp rfl ?_
   refine OL.det trivial (Yields.ldA rfl (vtxL_len _) (part_up (p := l[k]) (E := 36) (tot := 102) (List.mem_flatten.2 ⟨_, .tail _ (.tail _ (.tail _ (.tail _ (.head _)))), List.mem_singleton.2 rfl⟩))) ?_
   refine OL.dp rfl ?_
   refine OL.det trivial (Yields.ldA rfl (vtxL_len _) (part_down (p := l[k]) (E := 36) (tot := 102) (List.mem_flatten.2 ⟨_, .tail _ (.tail _ (.tail _ (.tail _ (.head _)))), List.mem_singleton.2 rfl⟩))) ?_
   refine OL.dp rfl ?_
   refine OL.det trivial (Yields.ld rfl (part_lines (p := l[k]) (E := 36) (tot := 102) (List.mem_flatten.2 ⟨_, .tail _ (.tail _ (.tail _ (.tail _ (.head _)))), List.mem_singleton.2 rfl⟩))) ?_
   refine OL.dp rfl ?_
   refine OL.det trivial (Yields.ld rfl (part_gone (p := l[k]) (E := 36) (tot := 102) (List.mem_flatten.2 ⟨_, .tail _ (.tail _ (.tail _ (.tail _ (.head _)))), List.mem_singleton.2 rfl⟩))) ?_
   refine OL.det trivial (Yields.build (fill_part7 rfl rfl rfl rfl rfl rfl rfl)) ?_
   refine OL.call trivial rfl (rAdd_fc (l := cms) ⟨rd_mem (hrr []) (by simp [GS]), fun x hx => (hcb x hx).rdS, by omega⟩ hpb.rdS hnr (new_rev hnew) (line_pls hg)) ?_
   rintro _ _ ⟨v1, sg40, rfl, rfl, hs40⟩
   obtain ⟨A1, c1, rfl, hn1, hc1, hr40⟩ := slv_rdL (w0 := w0) hs40
   refine OL.dp rfl ?_
   refine OL.dp rfl ?_
   refine OL.dp rfl ?_
   refine OL.dp rfl ?_
   refine OL.nil ?_
   refine hK3 _ _ ?_
   refine PW.keep (T' := [(0, _), (4, _), (5, _), (6, _)]) ⟨rfl, rfl, rfl, rfl, trivial⟩ ?_
   refine PW.ops ?_
   refine OL.dp rfl ?_
   refine OL.det trivial (Yields.add64 rfl rfl (by omega) (by omega)) ?_
   refine OL.dp rfl ?_
   refine OL.nil ?_
   repeat rw [inBlk_n]
   try rw [thenK_n]
   refine LoopEnd.mkS (gs_h) (T'' := [(0, _), (4, _), (5, _), (6, _)]) ⟨rfl, rfl, rfl, rfl, trivial⟩ ?_
   rw [ha0]
   exact ⟨l.length - (k + 1), by omega, k + 1, m1, cms ++ [l[k]], _, _, sg40, ⟨by omega, rfl, hg1, hs40, (fun x hx => by
    rcases List.mem_append.1 hx with hx | hx
    ·exact hcb x hx
    ·rw [List.mem_singleton.1 hx]; exact hpb), by rw [List.length_append]; simp only [List.length_cons, List.length_nil]; omega, by
    rw [pls_snoc, allV_cons, List.length_append, own_len]
    have : l[k].pl.lines.length = l[k].lines.length := rfl
    omega, by omega, hr1.trans hr⟩, rfl, rfl⟩
 ·try simp only [cvS, Bool.false_eq_true, if_false, if_true] at c12
  refine PW.exit ?_
  refine hK1 _ _ ?_
  refine PW.keep (T' := [(4, _), (5, _)]) ⟨rfl, rfl, trivial⟩ ?_
  refine PW.seqOps ?_
  refine OL.dp rfl ?_
  refine OL.dp rfl ?_
  refine OL.dp rfl ?_
  refine OL.dp rfl ?_
  refine OL.nil ?_
  refine PW.keep (T' := [(2, _), (3, _)]) ⟨rfl, rfl, trivial⟩ ?_
  refine PW.ret ?_
  change (Exit.ret = Exit.normal ∨ Exit.ret = Exit.ret) ∧ ∃ v, resV _ _ = some v ∧ _
  rw [← ptr_eq hr]
  exact ⟨.inr rfl, _, rfl, _, Sub.refl _, m, cms, _, _, sg, rfl, rfl, hg, hsr, hcb, by omega, by omega, by omega⟩
end Go.Proofs.Gr

namespace Go.Proofs.Gr
open Go.SL Go.RowKit Go.Proofs Go.GP
def Row (ps : List PartP) (L : List LineP) : Prop := L.Pairwise fun a b => a.v ≠ b.v ∧ befP ps b.v a.v = false
section
variable {ps : List PartP} {L : List LineP}
theorem Row.at (h : Row ps L) {i j : Nat} (hi : i < j) (hj : j < L.length) : (L[i]'(by omega)).v ≠ L[j].v ∧ befP ps L[j].v (L[i]'(by omega)).v = false :=
 List.pairwise_iff_getElem.1 h i j (by omega) hj hi
theorem Row.bef (h : Row ps L) {i j : Nat} (hi : i < j) (hj : j < L.length) (ho : ordP ps (L[i]'(by omega)).v L[j].v = true) : befP ps (L[i]'(by omega)).v L[j].v = true := by
 unfold ordP at ho
 rw [(h.at hi hj).2, Bool.or_false] at ho
 exact ho
theorem Row.ne (h : Row ps L) {i j : Nat} (hi : i < L.length) (hj : j < L.length) (hn : i ≠ j) : L[i].v ≠ L[j].v := by
 rcases Nat.lt_or_gt_of_ne hn with h1 | h1
 ·exact (h.at h1 hj).1
 ·exact (h.at h1 hi).1.symm
theorem solid_ix (h : Row ps L) {i : Nat} (hi : i < L.length) : solidP ps L L[i] = true ↔ ∀ (k : Nat) (hk : k < L.length), k ≠ i → ordP ps L[i].v L[k].v = true := by
 unfold solidP
 rw [List.all_eq_true]
 constructor
 ·intro h1 k hk hn
  have := h1 L[k] (List.getElem_mem hk)
  rw [decide_eq_false (h.ne hi hk (fun e => hn e.symm)), Bool.false_or] at this
  exact this
 ·intro h1 x hx
  obtain ⟨k, hk, rfl⟩ := List.getElem_of_mem hx
  by_cases e : k = i
  ·subst e; simp
  ·rw [h1 k hk e, Bool.or_true]
theorem lone (hs : Sq ps) (h : Row ps L) {p : Nat} (hp : p < L.length) (hn : solidP ps L L[p] = false) (h1 : ∀ q, q + 1 = p → ∀ hq : q < L.length, solidP ps L L[q] = true) (h2 : ∀ hq : p + 1 < L.length, solidP ps L L[p + 1] = true) : False := by
 have hall : solidP ps L L[p] = true := by
  rw [solid_ix h hp]
  intro k hk hne
  rcases Nat.lt_or_gt_of_ne hne with hlt | hgt
  ·-- k < p
   by_cases e : k + 1 = p
   ·have hs1 := (solid_ix h hk).1 (h1 k e hk) p hp (by omega)
    rw [ordP_comm]
    exact hs1
   ·have hq : p - 1 < L.length := by omega
    have hsq := (solid_ix h hq).1 (h1 (p - 1) (by omega) hq)
    have b1 := h.bef (i := k) (j := p - 1) (by omega) hq (by rw [ordP_comm]; exact hsq k hk (by omega))
    have b2 := h.bef (i := p - 1) (j := p) (by omega) hp (hsq p hp (by omega))
    unfold ordP
    rw [befP_trans hs b1 b2, Bool.or_true]
  ·by_cases e : k = p + 1
   ·subst e
    have hs1 := (solid_ix h hk).1 (h2 hk) p hp (by omega)
    rw [ordP_comm]
    exact hs1
   ·have hq : p + 1 < L.length := by omega
    have hsq := (solid_ix h hq).1 (h2 hq)
    have b1 := h.bef (i := p) (j := p + 1) (by omega) hq (by rw [ordP_comm]; exact hsq p hp (by omega))
    have b2 := h.bef (i := p + 1) (j := k) (by omega) hk (hsq k hk (by omega))
    unfold ordP
    rw [befP_trans hs b1 b2, Bool.true_or]
 rw [hn] at hall
 cases hall
structure GoodI (ps : List PartP) (L : List LineP) (I : List ItemP) : Prop where
 one : ∀ x ∈ I, (x.block = true → 2 ≤ x.lines.length) ∧ (x.block = false → x.lines.length = 1) ∧ ∀ y ∈ x.lines, solidP ps L y = !x.block
 adj : ∀ (i : Nat) (a b : ItemP), I[i]? = some a → I[i + 1]? = some b → a.block = true → b.block = true → False
theorem GoodI.snoc {I : List ItemP} {x : ItemP} (h : GoodI ps L I) (h1 : (x.block = true → 2 ≤ x.lines.length) ∧ (x.block = false → x.lines.length = 1) ∧ ∀ y ∈ x.lines, solidP ps L y = !x.block)
  (h2 : x.block = true → ∀ a, I.getLast? = some a → a.block = false) : GoodI ps L (I ++ [x]) where
 one := fun y hy => by
  rcases List.mem_append.1 hy with hy | hy
  ·exact h.one y hy
  ·rw [List.mem_singleton.1 hy]; exact h1
 adj := fun i a b ha hb hab hbb => by
  have hi := (List.getElem?_eq_some_iff.1 hb).1
  rw [List.length_append] at hi
  simp only [List.length_cons, List.length_nil] at hi
  rw [List.getElem?_append_left (by omega)] at ha
  by_cases e : i + 1 < I.length
  ·rw [List.getElem?_append_left e] at hb
   exact h.adj i a b ha hb hab hbb
  ·have e2 : i + 1 = I.length := by omega
   rw [List.getElem?_append_right (by omega), e2, Nat.sub_self] at hb
   have hbx : x = b := by simpa using hb
   subst hbx
   have := h2 hbb a (by rw [List.getLast?_eq_getElem?, ← ha]; congr 1; omega)
   rw [hab] at this
   cases this
structure St (ps : List PartP) (L : List LineP) (k : Nat) (I : List ItemP) (op : List LineP) : Prop where
 good : GoodI ps L I
 all : I.flatMap (·.lines) ++ op = L.take k
 last : ∀ a, I.getLast? = some a → a.block = false
 open_ : ∀ x ∈ op, solidP ps L x = false
 ahead : ∀ q, q + op.length + 1 = k → ∀ hq : q < L.length, solidP ps L L[q] = true
theorem St.opAt {k : Nat} {I : List ItemP} {op : List LineP} (h : St ps L k I op) (hk : k ≤ L.length) {x : LineP} (hx : op = [x]) : ∃ p, ∃ hp : p < L.length, p + 1 = k ∧ L[p] = x := by
 subst hx
 have hl := congrArg List.length h.all
 rw [List.length_append, List.length_take] at hl
 simp only [List.length_cons, List.length_nil] at hl
 refine ⟨k - 1, by omega, by omega, ?_⟩
 have e : (L.take k)[k - 1]? = some x := by
  rw [← h.all, List.getElem?_append_right (by omega), show k - 1 - (I.flatMap (·.lines)).length = 0 by omega]
  rfl
 rw [List.getElem?_take_of_lt (by omega), List.getElem?_eq_getElem (by omega)] at e
 exact Option.some.inj e
theorem St.shut {k : Nat} {I : List ItemP} {op : List LineP} (hs : Sq ps) (hr : Row ps L) (h : St ps L k I op) (hk : k ≤ L.length) (hn : ∀ hq : k < L.length, solidP ps L L[k] = true) :
  GoodI ps L (I ++ shut ps op) ∧ (I ++ shut ps op).flatMap (·.lines) = L.take k := by
 unfold Gr.shut
 by_cases e : op = []
 ·rw [if_pos e, List.append_nil]
  have := h.all
  rw [e, List.append_nil] at this
  exact ⟨h.good, this⟩
 ·rw [if_neg e]
  refine ⟨h.good.snoc ⟨fun _ => ?_, (fun hb => by cases hb), fun y hy => h.open_ y hy⟩ fun _ => h.last, ?_⟩
  ·show 2 ≤ op.length
   match op, e, h with
   | [x], _, h =>
    exfalso
    obtain ⟨p, hp, hpk, hx⟩ := h.opAt hk rfl
    have hns : solidP ps L L[p] = false := by rw [hx]; exact h.open_ x (by simp)
    subst hpk
    exact lone hs hr hp hns (fun q hq hql => h.ahead q (by simp only [List.length_cons, List.length_nil]; omega) hql) hn
   | _ :: _ :: _, _, _ => simp only [List.length_cons]; omega
  ·rw [List.flatMap_append, ← h.all]
   simp [blockP]
theorem St.step {k : Nat} {I : List ItemP} {op : List LineP} (hs : Sq ps) (hr : Row ps L) (h : St ps L k I op) (hk : k < L.length) : St ps L (k + 1) (stepI ps L (I, op) L[k]).1 (stepI ps L (I, op) L[k]).2 := by
 unfold stepI
 by_cases e : solidP ps L L[k] = true
 ·rw [if_pos e]
  obtain ⟨g, a⟩ := h.shut hs hr (by omega) (fun _ => e)
  refine ⟨g.snoc ⟨(fun hb => by cases hb), fun _ => rfl, fun y hy => ?_⟩ (fun hb => by cases hb), ?_, fun a ha => ?_, (fun x hx => by cases hx), fun q hq hql => ?_⟩
  ·rw [List.mem_singleton.1 hy]; exact e
  ·show (I ++ Gr.shut ps op ++ [(⟨[L[k]], false, []⟩ : ItemP)]).flatMap (fun x : ItemP => x.lines) ++ [] = _
   rw [List.flatMap_append, a, List.append_nil, ltake_snoc hk]
   rfl
  ·have : (I ++ Gr.shut ps op ++ [(⟨[L[k]], false, []⟩ : ItemP)]).getLast? = some ⟨[L[k]], false, []⟩ := by rw [List.getLast?_append]; rfl
   rw [show (I ++ Gr.shut ps op ++ [(⟨[L[k]], false, []⟩ : ItemP)]).getLast? = some a from ha] at this
   cases this
   rfl
  ·have : q = k := by simp only [List.length_nil] at hq; omega
   subst this
   exact e
 ·rw [if_neg e]
  refine ⟨h.good, ?_, h.last, fun x hx => ?_, fun q hq hql => h.ahead q ?_ hql⟩
  ·show I.flatMap (·.lines) ++ (op ++ [L[k]]) = _
   rw [← List.append_assoc, h.all, ltake_snoc hk]
  ·rcases List.mem_append.1 hx with hx | hx
   ·exact h.open_ x hx
   ·rw [List.mem_singleton.1 hx]
    exact Bool.eq_false_iff.2 e
  ·have : (op ++ [L[k]]).length = op.length + 1 := by simp
   have hq : q + (op ++ [L[k]]).length + 1 = k + 1 := hq
   omega
theorem St.fold (hs : Sq ps) (hr : Row ps L) : ∀ k, k ≤ L.length → St ps L k (foldI ps L k).1 (foldI ps L k).2
 | 0, _ => ⟨⟨(fun x hx => by cases hx), fun i a b ha => by cases ha⟩, rfl, (fun a ha => by cases ha), (fun x hx => by cases hx), fun q hq => by omega⟩
 | k + 1, hk => by
  have := (St.fold hs hr k (by omega)).step hs hr hk
  rw [foldI_succ hk]
  exact this
theorem itemsL_good (hs : Sq ps) (hr : Row ps L) : GoodI ps L (itemsL ps L) ∧ (itemsL ps L).flatMap (·.lines) = L := by
 have := (St.fold hs hr L.length (Nat.le_refl _)).shut hs hr (Nat.le_refl _) fun h => absurd h (Nat.lt_irrefl _)
 rw [List.take_length] at this
 exact this
theorem linesP_row {ps : List PartP} (hs : Sq ps) : Row ps (live (linesP ps)) := by
 refine List.Pairwise.sublist List.filter_sublist ?_
 rw [List.pairwise_iff_getElem]
 intro i j hi hj hij
 refine ⟨fun e => ?_, linesP_order hs hj (by omega)⟩
 have hn := topoF_nodup hs
 have hlt : (linesP ps).length = (topoF ps).length := List.length_map _
 have e1 : ∀ (k : Nat) (hk : k < (linesP ps).length), (linesP ps)[k].v = (topoF ps)[k]'(by omega) := fun k hk => by simp [linesP, lineP]
 rw [e1, e1] at e
 have := (List.getElem_inj hn).1 e
 omega
theorem itemsP_good {ps : List PartP} (hs : Sq ps) : GoodI ps (live (linesP ps)) (itemsP ps) ∧ (itemsP ps).flatMap (·.lines) = live (linesP ps) := itemsL_good hs (linesP_row hs)
end
end Go.Proofs.Gr

namespace Go.Proofs.Gr
open Go.SL Go.RowKit Go.Proofs Go.GP
set_option maxHeartbeats 1000000
theorem flat_ix : ∀ {I : List ItemP} {i k : Nat} (hi : i < I.length) (hk : k < I[i].lines.length), (I.flatMap (·.lines))[((I.take i).flatMap (·.lines)).length + k]? = some I[i].lines[k]
 | x :: I, 0, k, _, hk => by
  rw [List.take_zero, List.flatMap_nil, List.length_nil, Nat.zero_add, List.flatMap_cons, List.getElem?_append_left (by simpa using hk), List.getElem?_eq_getElem (by simpa using hk)]
  rfl
 | x :: I, i + 1, k, hi, hk => by
  have := flat_ix (I := I) (i := i) (k := k) (by simpa using hi) (by simpa using hk)
  rw [List.take_succ_cons, List.flatMap_cons, List.flatMap_cons, List.length_append, List.getElem?_append_right (by omega), show x.lines.length + ((I.take i).flatMap (·.lines)).length + k - x.lines.length = ((I.take i).flatMap (·.lines)).length + k by omega, this]
  rfl
theorem flat_take {I : List ItemP} {i : Nat} (hi : i < I.length) : ((I.take (i + 1)).flatMap (·.lines)).length = ((I.take i).flatMap (·.lines)).length + I[i].lines.length := by
 rw [ltake_snoc hi, List.flatMap_append, List.length_append]
 simp
theorem solid_fc {w0 : World} {S X : SS} {m : GrM} {ps : List PartP} {A : Option Addr} {c i : Nat} {L : List LineP} {r : Bool} (hg : GG w0 X m ps) (hS : Over (GS m ++ X) S) (hx : Rd w0 S A (lines L)) (hv : ∀ x ∈ L, okV x.v) (hi : i < L.length) (hb : L.length ≤ 1000000)
  (hr : r = true ↔ ∀ (k : Nat) (hk : k < L.length), k ≠ i → ordP ps L[i].v L[k].v = true) : FC Try.prog w0 40 [m.ptr, .slice A L.length c, .int .i64 (i : Int)] S (fun v S' => v = .bool r ∧ S' = S) := by
 obtain ⟨a0, rfl⟩ := lines_some hx (by omega)
 refine FC.of Try.known40 (by simp) ?_
 unfold Try.pc40
 simp only [argT]
 refine PW.seqOps ?_
 refine OL.dp rfl ?_
 refine OL.nil ?_
 refine PW.keep (T' := [(0, _), (1, _), (2, _)]) ⟨rfl, rfl, rfl, trivial⟩ ?_
 refine PW.seq fun K1 hK1 => ?_
 refine PW.seqOps ?_
 refine OL.dp rfl ?_
 refine OL.nil ?_
 refine PW.keep (T' := [(0, _), (1, _), (2, _), (7, _)]) ⟨rfl, rfl, rfl, rfl, trivial⟩ ?_
 refine PW.block ?_
 refine PW.keep (T' := [(0, _), (1, _), (2, _), (7, _)]) ⟨rfl, rfl, rfl, rfl, trivial⟩ ?_
 refine PW.loopK (I := fun mm T S' => ∃ k : Nat, (k ≤ L.length ∧ mm = L.length - k ∧ ∀ (j : Nat) (hj : j < L.length), j < k → j ≠ i → ordP ps L[i].v L[j].v = true) ∧ T = ([(0, m.ptr), (1, .slice (some a0) L.length c), (2, .int .i64 (i : Int)), (7, .int .i64 k)] : TT) ∧ S' = S) (m := L.length) ⟨0, ⟨by omega, by omega, fun j _ h => absurd h (Nat.not_lt_zero j)⟩, rfl, rfl⟩ ?_
 rintro mm _ _ ⟨k, ⟨hk, hmm, hall⟩, rfl, rfl⟩
 refine PW.seq fun K2 hK2 => ?_
 refine PW.seqOps ?_
 refine OL.dp rfl ?_
 refine OL.dp rfl ?_
 refine OL.dp rfl ?_
 refine OL.dp rfl ?_
 refine OL.nil ?_
 refine PW.keep (T' := [(0, _), (1, _), (2, _), (7, _), (11, _)]) ⟨rfl, rfl, rfl, rfl, rfl, trivial⟩ ?_
 refine PW.cond rfl (fun c11 => ?_) (fun c11 => ?_)
 ·try simp only [cvS, Bool.false_eq_true, if_false, if_true] at c11
  have hkl : k < L.length := by omega
  refine PW.skip ?_
  refine hK2 _ _ ?_
  refine PW.keep (T' := [(0, _), (1, _), (2, _), (7, _)]) ⟨rfl, rfl, rfl, rfl, trivial⟩ ?_
  refine PW.seq fun K3 hK3 => ?_
  refine PW.block ?_
  refine PW.seq fun K4 hK4 => ?_
  refine PW.quiet2QK Try.mixed ?_
  refine QK.dp rfl ?_
  refine QK.dp rfl ?_
  refine QK.dp rfl ?_
  refine QK.bool trivial (Yields.pure rfl) (fun g17 => ?_) (fun g17 => ?_)
  ·try simp only [cvS, Bool.false_eq_true, if_false, if_true] at g17
   refine QK.det rfl (Yields.pure rfl) ?_
   refine QK.det rfl (Yields.pure rfl) ?_
   refine QK.det rfl (Yields.pure rfl) ?_
   refine QK.det rfl (Yields.ixN rfl rfl rfl hi) ?_
   refine QK.det rfl (Yields.pure rfl) ?_
   refine QK.det rfl (Yields.ldA rfl (vtxL_len _) (line_vtx hx hi)) ?_
   refine QK.det rfl (Yields.pure rfl) ?_
   refine QK.det rfl (Yields.pure rfl) ?_
   refine QK.det rfl (Yields.ixN rfl rfl rfl hkl) ?_
   refine QK.det rfl (Yields.pure rfl) ?_
   refine QK.det rfl (Yields.ldA rfl (vtxL_len _) (line_vtx hx hkl)) ?_
   refine QK.call rfl rfl (before2_fc hg hS (hv _ (List.getElem_mem hi)) (hv _ (List.getElem_mem hkl))) ?_
   refine QK.det rfl (Yields.pure rfl) ?_
   refine QK.dp rfl ?_
   refine QK.bool trivial (Yields.pure rfl) (fun g32 => ?_) (fun g32 => ?_)
   ·try simp only [cvS, Bool.false_eq_true, if_false, if_true] at g32
    refine QK.det rfl (Yields.pure rfl) ?_
    refine QK.det rfl (Yields.pure rfl) ?_
    refine QK.det rfl (Yields.pure rfl) ?_
    refine QK.det rfl (Yields.ixN rfl rfl rfl hkl) ?_
    refine QK.det rfl (Yields.pure rfl) ?_
    refine QK.det rfl (Yields.ldA rfl (vtxL_len _) (line_vtx hx hkl)) ?_
    refine QK.det rfl (Yields.pure rfl) ?_
    refine QK.det rfl (Yields.pure rfl) ?_
    refine QK.det rfl (Yields.ixN rfl rfl rfl hi) ?_
    refine QK.det rfl (Yields.pure rfl) ?_
    refine QK.det rfl (Yields.ldA rfl (vtxL_len _) (line_vtx hx hi)) ?_
    refine QK.nil ?_
    change OL _ _ _ [_, _, _] _ _ _
    refine OL.call rfl rfl (before2_fc hg hS (hv _ (List.getElem_mem hkl)) (hv _ (List.getElem_mem hi))) ?_
    rintro _ Sx ⟨rfl, hSx⟩
    rw [hSx]
    clear hSx
    refine OL.det rfl (Yields.pure rfl) ?_
    refine OL.dp rfl ?_
    refine OL.nil ?_
    refine hK4 _ _ ?_
    refine PW.keep (T' := [(0, _), (1, _), (2, _), (7, _), (46, _)]) ⟨rfl, rfl, rfl, rfl, rfl, trivial⟩ ?_
    refine PW.cond rfl (fun c46 => ?_) (fun c46 => ?_)
    ·try simp only [cvS, Bool.false_eq_true, if_false, if_true] at c46
     refine PW.seqOps ?_
     refine OL.dp rfl ?_
     refine OL.nil ?_
     refine PW.keep (T' := [(6, _)]) ⟨rfl, trivial⟩ ?_
     refine PW.ret ?_
     change (Exit.ret = Exit.normal ∨ Exit.ret = Exit.ret) ∧ ∃ v, resV _ _ = some v ∧ _
     exact ⟨.inr rfl, _, rfl, congrArg Value.bool (Bool.eq_false_iff.2 fun h => by
      have := hr.1 h k hkl (by omega)
      unfold ordP at this
      rw [g32, c46] at this
      cases this).symm, rfl⟩
    ·try simp only [cvS, Bool.false_eq_true, if_false, if_true] at c46
     refine PW.skip ?_
     refine hK3 _ _ ?_
     refine PW.keep (T' := [(0, _), (1, _), (2, _), (7, _)]) ⟨rfl, rfl, rfl, rfl, trivial⟩ ?_
     refine PW.ops ?_
     refine OL.dp rfl ?_
     refine OL.det trivial (Yields.add64 rfl rfl (by omega) (by omega)) ?_
     refine OL.dp rfl ?_
     refine OL.nil ?_
     repeat rw [inBlk_n]
     try rw [thenK_n]
     refine LoopEnd.mk (T'' := [(0, _), (1, _), (2, _), (7, _)]) ⟨rfl, rfl, rfl, rfl, trivial⟩ ?_
     exact ⟨L.length - (k + 1), by omega, k + 1, ⟨by omega, rfl, fun j hj hjk hn => by
      by_cases e : j = k
      ·subst e; unfold ordP; rw [c46]; simp
      ·exact hall j hj (by omega) hn⟩, rfl, rfl⟩
   ·try simp only [cvS, Bool.false_eq_true, if_false, if_true] at g32
    refine QK.off rfl rfl ?_
    refine QK.off rfl rfl ?_
    refine QK.off rfl rfl ?_
    refine QK.off rfl rfl ?_
    refine QK.off rfl rfl ?_
    refine QK.off rfl rfl ?_
    refine QK.off rfl rfl ?_
    refine QK.off rfl rfl ?_
    refine QK.off rfl rfl ?_
    refine QK.off rfl rfl ?_
    refine QK.off rfl rfl ?_
    refine QK.nil ?_
    change OL _ _ _ [_, _, _] _ _ _
    refine OL.off rfl rfl ?_
    refine OL.off rfl rfl ?_
    refine OL.dp rfl ?_
    refine OL.nil ?_
    refine hK4 _ _ ?_
    refine PW.keep (T' := [(0, _), (1, _), (2, _), (7, _), (46, _)]) ⟨rfl, rfl, rfl, rfl, rfl, trivial⟩ ?_
    refine PW.ite (b := false) rfl ?_
    rw [if_neg Bool.false_ne_true]
    refine PW.skip ?_
    refine hK3 _ _ ?_
    refine PW.keep (T' := [(0, _), (1, _), (2, _), (7, _)]) ⟨rfl, rfl, rfl, rfl, trivial⟩ ?_
    refine PW.ops ?_
    refine OL.dp rfl ?_
    refine OL.det trivial (Yields.add64 rfl rfl (by omega) (by omega)) ?_
    refine OL.dp rfl ?_
    refine OL.nil ?_
    repeat rw [inBlk_n]
    try rw [thenK_n]
    refine LoopEnd.mk (T'' := [(0, _), (1, _), (2, _), (7, _)]) ⟨rfl, rfl, rfl, rfl, trivial⟩ ?_
    exact ⟨L.length - (k + 1), by omega, k + 1, ⟨by omega, rfl, fun j hj hjk hn => by
     by_cases e : j = k
     ·subst e; unfold ordP; rw [g32]; simp
     ·exact hall j hj (by omega) hn⟩, rfl, rfl⟩
  ·try simp only [cvS, Bool.false_eq_true, if_false, if_true] at g17
   refine QK.off rfl rfl ?_
   refine QK.off rfl rfl ?_
   refine QK.off rfl rfl ?_
   refine QK.off rfl rfl ?_
   refine QK.off rfl rfl ?_
   refine QK.off rfl rfl ?_
   refine QK.off rfl rfl ?_
   refine QK.off rfl rfl ?_
   refine QK.off rfl rfl ?_
   refine QK.off rfl rfl ?_
   refine QK.off rfl rfl ?_
   refine QK.off rfl rfl ?_
   refine QK.off rfl rfl ?_
   refine QK.dp rfl ?_
   refine QK.dp rfl ?_
   refine QK.off rfl rfl ?_
   refine QK.off rfl rfl ?_
   refine QK.off rfl rfl ?_
   refine QK.off rfl rfl ?_
   refine QK.off rfl rfl ?_
   refine QK.off rfl rfl ?_
   refine QK.off rfl rfl ?_
   refine QK.off rfl rfl ?_
   refine QK.off rfl rfl ?_
   refine QK.off rfl rfl ?_
   refine QK.off rfl rfl ?_
   refine QK.nil ?_
   change OL _ _ _ [_, _, _] _ _ _
   refine OL.off rfl rfl ?_
   refine OL.off rfl rfl ?_
   refine OL.dp rfl ?_
   refine OL.nil ?_
   refine hK4 _ _ ?_
   refine PW.keep (T' := [(0, _), (1, _), (2, _), (7, _), (46, _)]) ⟨rfl, rfl, rfl, rfl, rfl, trivial⟩ ?_
   refine PW.ite (b := false) rfl ?_
   rw [if_neg Bool.false_ne_true]
   refine PW.skip ?_
   refine hK3 _ _ ?_
   refine PW.keep (T' := [(0, _), (1, _), (2, _), (7, _)]) ⟨rfl, rfl, rfl, rfl, trivial⟩ ?_
   refine PW.ops ?_
   refine OL.dp rfl ?_
   refine OL.det trivial (Yields.add64 rfl rfl (by omega) (by omega)) ?_
   refine OL.dp rfl ?_
   refine OL.nil ?_
   repeat rw [inBlk_n]
   try rw [thenK_n]
   refine LoopEnd.mk (T'' := [(0, _), (1, _), (2, _), (7, _)]) ⟨rfl, rfl, rfl, rfl, trivial⟩ ?_
   exact ⟨L.length - (k + 1), by omega, k + 1, ⟨by omega, rfl, fun j hj hjk hn => by
    by_cases e : j = k
    ·exact absurd e (by omega)
    ·exact hall j hj (by omega) hn⟩, rfl, rfl⟩
 ·try simp only [cvS, Bool.false_eq_true, if_false, if_true] at c11
  refine PW.exit ?_
  refine hK1 _ _ ?_
  refine PW.keep (T' := []) trivial ?_
  refine PW.seqOps ?_
  refine OL.dp rfl ?_
  refine OL.nil ?_
  refine PW.keep (T' := [(6, _)]) ⟨rfl, trivial⟩ ?_
  refine PW.ret ?_
  change (Exit.ret = Exit.normal ∨ Exit.ret = Exit.ret) ∧ ∃ v, resV _ _ = some v ∧ _
  exact ⟨.inr rfl, _, rfl, congrArg Value.bool (hr.2 fun j hj hn => hall j hj (by omega) hn).symm, rfl⟩
theorem renderWhole_fc {w0 : World} {A : Option Addr} {c : Nat} {l : List PartM} (h : PartsIn w0 A l) :
  FC Try.prog w0 8 [.slice A l.length c] [] (fun v _ => v = .bool true) := by
 refine FC.ofD Try.known8 (by simp) ?_
 unfold Try.pc8
 simp only [argT]
 refine PW.seqOps ?_
 refine OL.dp rfl ?_
 refine OL.nil ?_
 refine PW.keep (T' := [(0, _)]) ⟨rfl, trivial⟩ ?_
 refine PW.seq fun K1 hK1 => ?_
 refine PW.seqOps ?_
 refine OL.dp rfl ?_
 refine OL.call trivial rfl (few_fc h) ?_
 rintro _ _ ⟨b, rfl, rfl, hb⟩
 refine OL.dp rfl ?_
 refine OL.nil ?_
 refine PW.keep (T' := [(0, _), (16, _)]) ⟨rfl, rfl, trivial⟩ ?_
 refine PW.cond rfl (fun c16 => ?_) (fun c16 => ?_)
 ·try simp only [cvS, Bool.false_eq_true, if_false, if_true] at c16
  refine PW.seqOps ?_
  refine OL.call trivial rfl (works_fc) ?_
  rintro _ Sx ⟨rfl, hSx⟩
  rw [hSx]
  clear hSx
  refine OL.dp rfl ?_
  refine OL.nil ?_
  refine PW.keep (T' := [(2, _)]) ⟨rfl, trivial⟩ ?_
  refine PW.ret ?_
  change (Exit.ret = Exit.normal ∨ Exit.ret = Exit.ret) ∧ ∃ v, resV _ _ = some v ∧ _
  exact ⟨.inr rfl, _, rfl, _, Sub.refl _, rfl⟩
 ·try simp only [cvS, Bool.false_eq_true, if_false, if_true] at c16
  have hsm := hb c16
  refine PW.skip ?_
  refine hK1 _ _ ?_
  refine PW.keep (T' := [(0, _)]) ⟨rfl, trivial⟩ ?_
  refine PW.seqOps ?_
  refine OL.dp rfl ?_
  refine OL.call trivial rfl (both_fc h hsm) ?_
  rintro _ _ ⟨m, cms, Ac, cc, sg, rfl, rfl, hg, hsg, hcb, hcl, hal, hlim⟩
  obtain ⟨ps, hps⟩ : ∃ z, z = (pls cms).reverse := ⟨_, rfl⟩
  rw [← hps] at hg hal
  refine OL.dp rfl ?_
  refine OL.dp rfl ?_
  refine OL.dp rfl ?_
  refine OL.dp rfl ?_
  refine OL.dp rfl ?_
  refine OL.nil ?_
  refine PW.keep (T' := [(3, _)]) ⟨rfl, trivial⟩ ?_
  refine PW.seqOps ?_
  refine OL.dp rfl ?_
  refine OL.call trivial rfl (lines2_fc hg over_nil) ?_
  rintro _ _ ⟨segl, rfl, hsl⟩
  have hln := linesP_len hg.sq
  have hok : ∀ x ∈ live (linesP ps), okV x.v := fun x hx => by
   obtain ⟨k, hk, rfl⟩ := List.getElem_of_mem (List.mem_filter.1 hx).1
   exact hg.okV (linesP_v hk)
  obtain ⟨hgood, hflat⟩ := itemsP_good hg.sq
  obtain ⟨LL, hLL⟩ : ∃ z, z = linesP ps := ⟨_, rfl⟩
  rw [← hLL] at hsl hln hok hgood hflat
  have hll := live_len LL
  obtain ⟨Al, cl, rfl, hnl, hcl2, hrl⟩ := slv_rdL (w0 := w0) hsl
  refine OL.dp rfl ?_
  refine OL.nil ?_
  refine PW.keep (T' := [(3, _), (5, _)]) ⟨rfl, rfl, trivial⟩ ?_
  refine PW.seqOps ?_
  refine OL.subS (S' := [] :: segl :: (GS m ++ (sg :: []))) (Sub.nilL (Sub.refl _)) ?_
  refine OL.dp rfl ?_
  refine OL.nil ?_
  refine PW.keep (T' := [(3, _), (5, _), (6, _)]) ⟨rfl, rfl, rfl, trivial⟩ ?_
  refine PW.seq fun K2 hK2 => ?_
  refine PW.seqOps ?_
  refine OL.dp rfl ?_
  refine OL.nil ?_
  refine PW.keep (T' := [(3, _), (5, _), (6, _), (7, _)]) ⟨rfl, rfl, rfl, rfl, trivial⟩ ?_
  refine PW.block ?_
  refine PW.keep (T' := [(3, _), (5, _), (6, _), (7, _)]) ⟨rfl, rfl, rfl, rfl, trivial⟩ ?_
  refine PW.loopK (I := fun mm T S' => ∃ (k : Nat) (vo : Value) (sgo : Seg), (k ≤ LL.length ∧ mm = LL.length - k ∧ SlV 43 35 vo (live (LL.take k)).length (lines (live (LL.take k))) sgo) ∧ T = ([(3, m.ptr), (5, .slice Al LL.length cl), (6, vo), (7, .int .i64 k)] : TT) ∧ S' = sgo :: segl :: (GS m ++ (sg :: []))) (m := LL.length) ⟨0, _, [], ⟨by omega, by omega, SlV.nil 43 35⟩, rfl, rfl⟩ ?_
  rintro mm _ _ ⟨k, vo, sgo, ⟨hk, hmm, hso⟩, rfl, rfl⟩
  refine PW.seq fun K3 hK3 => ?_
  refine PW.seqOps ?_
  refine OL.dp rfl ?_
  refine OL.dp rfl ?_
  refine OL.dp rfl ?_
  refine OL.dp rfl ?_
  refine OL.nil ?_
  refine PW.keep (T' := [(3, _), (5, _), (6, _), (7, _), (28, _)]) ⟨rfl, rfl, rfl, rfl, rfl, trivial⟩ ?_
  refine PW.cond rfl (fun c28 => ?_) (fun c28 => ?_)
  ·try simp only [cvS, Bool.false_eq_true, if_false, if_true] at c28
   have hkl : k < LL.length := by omega
   obtain ⟨a0, rfl⟩ := lines_some (hrl []) (by omega)
   have hrl2 : Rd w0 (sgo :: segl :: (GS m ++ (sg :: []))) (some a0) (lines LL) := (hrl _).cons
   have hlv := live_snoc hkl
   have hlvl := live_len (LL.take k)
   rw [List.length_take] at hlvl
   refine PW.skip ?_
   refine hK3 _ _ ?_
   refine PW.keep (T' := [(3, _), (5, _), (6, _), (7, _)]) ⟨rfl, rfl, rfl, rfl, trivial⟩ ?_
   refine PW.seq fun K4 hK4 => ?_
   refine PW.block ?_
   refine PW.seqOps ?_
   refine OL.dp rfl ?_
   refine OL.dp rfl ?_
   refine OL.det trivial (Yields.ixN rfl rfl rfl hkl) ?_
   refine OL.dp rfl ?_
   refine OL.det trivial (Yields.ld rfl (line_at hrl2 hkl _ _ (lineC_text _).2)) ?_
   refine OL.nil ?_
   refine PW.keep (T' := [(3, _), (5, _), (6, _), (7, _), (35, _)]) ⟨rfl, rfl, rfl, rfl, rfl, trivial⟩ ?_
   refine PW.cond rfl (fun c35 => ?_) (fun c35 => ?_)
   ·skip
    refine PW.ops ?_
    refine OL.dp rfl ?_
    refine OL.dp rfl ?_
    refine OL.dp rfl ?_
    refine OL.det trivial (Yields.ixN rfl rfl rfl hkl) ?_
    refine OL.det trivial (Yields.ldA rfl (lineC_len _) (line_at hrl2 hkl)) ?_
    apply OL.app1 (k := 0)
    ·rfl
    ·rfl
    ·exact (List.size_toArray).trans (lineC_len _)
    ·rfl
    ·rfl
    ·rfl
    ·exact hso
    ·exact lineC_one _
    ·omega
    ·unfold maxLen; omega
    intro v42 seg42 hs42
    refine OL.dp rfl ?_
    refine OL.nil ?_
    refine hK4 _ _ ?_
    refine PW.keep (T' := [(3, _), (5, _), (6, _), (7, _)]) ⟨rfl, rfl, rfl, rfl, trivial⟩ ?_
    refine PW.ops ?_
    refine OL.dp rfl ?_
    refine OL.det trivial (Yields.add64 rfl rfl (by omega) (by omega)) ?_
    refine OL.dp rfl ?_
    refine OL.nil ?_
    repeat rw [inBlk_n]
    try rw [thenK_n]
    refine LoopEnd.mk (T'' := [(3, _), (5, _), (6, _), (7, _)]) ⟨rfl, rfl, rfl, rfl, trivial⟩ ?_
    exact ⟨LL.length - (k + 1), by omega, k + 1, _, seg42, ⟨by omega, rfl, by rw [hlv, if_pos c35]; exact line_snoc hs42⟩, rfl, rfl⟩
   ·skip
    refine PW.skip ?_
    refine hK4 _ _ ?_
    refine PW.keep (T' := [(3, _), (5, _), (6, _), (7, _)]) ⟨rfl, rfl, rfl, rfl, trivial⟩ ?_
    refine PW.ops ?_
    refine OL.dp rfl ?_
    refine OL.det trivial (Yields.add64 rfl rfl (by omega) (by omega)) ?_
    refine OL.dp rfl ?_
    refine OL.nil ?_
    repeat rw [inBlk_n]
    try rw [thenK_n]
    refine LoopEnd.mk (T'' := [(3, _), (5, _), (6, _), (7, _)]) ⟨rfl, rfl, rfl, rfl, trivial⟩ ?_
    exact ⟨LL.length - (k + 1), by omega, k + 1, _, sgo, ⟨by omega, rfl, by rw [hlv, if_neg (by rw [c35]; simp)]; exact hso⟩, rfl, rfl⟩
  ·try simp only [cvS, Bool.false_eq_true, if_false, if_true] at c28
   refine PW.exit ?_
   refine hK2 _ _ ?_
   refine PW.keep (T' := [(3, _), (6, _)]) ⟨rfl, rfl, trivial⟩ ?_
   refine PW.seqOps ?_
   have hke : k = LL.length := by omega
   rw [hke, List.take_length] at hso
   refine OL.dp rfl ?_
   refine OL.call trivial rfl (FC.subS gs_a2 (items_fc (S := sgo :: segl :: sg :: []) hg over_nil (by omega))) ?_
   rintro v44 _ ⟨its, seg, junk, rfl, hmap, hsi, hio, hitn⟩
   obtain ⟨Ai, ci, rfl, hni, hci, hri⟩ := slv_rdL (w0 := w0) hsi
   obtain ⟨Ao, co, rfl, hno, hco, hro⟩ := slv_rdL (w0 := w0) hso
   have hml : (itemsP ps).length = its.length := by rw [← hmap, List.length_map]
   have hget : ∀ (i : Nat) (hi : i < its.length), (itemsP ps)[i]'(by omega) = its[i].pl := fun i hi => by simp [← hmap]
   refine OL.dp rfl ?_
   refine OL.nil ?_
   refine PW.keep (T' := [(3, _), (6, _), (8, _)]) ⟨rfl, rfl, rfl, trivial⟩ ?_
   refine PW.seqOps ?_
   refine OL.dp rfl ?_
   refine OL.nil ?_
   refine PW.keep (T' := [(3, _), (6, _), (8, _), (9, _)]) ⟨rfl, rfl, rfl, rfl, trivial⟩ ?_
   refine PW.seqOps ?_
   refine OL.dp rfl ?_
   refine OL.nil ?_
   refine PW.keep (T' := [(3, _), (6, _), (8, _), (9, _), (10, _)]) ⟨rfl, rfl, rfl, rfl, rfl, trivial⟩ ?_
   refine PW.seq fun K5 hK5 => ?_
   refine PW.seqOps ?_
   refine OL.dp rfl ?_
   refine OL.nil ?_
   refine PW.keep (T' := [(3, _), (6, _), (8, _), (9, _), (10, _), (11, _)]) ⟨rfl, rfl, rfl, rfl, rfl, rfl, trivial⟩ ?_
   refine PW.block ?_
   refine PW.keep (T' := [(3, _), (6, _), (8, _), (9, _), (10, _), (11, _)]) ⟨rfl, rfl, rfl, rfl, rfl, rfl, trivial⟩ ?_
   refine PW.loopK (I := fun mm T S' => ∃ (i n : Nat) (was : Bool), (i ≤ its.length ∧ mm = its.length - i ∧ n = (((itemsP ps).take i).flatMap (·.lines)).length ∧ (was = true → ∃ a, 0 < i ∧ its[i - 1]? = some a ∧ a.block = true)) ∧ T = ([(3, m.ptr), (6, .slice Ao (live LL).length co), (8, .slice Ai its.length ci), (9, .int .i64 (n : Int)), (10, .bool was), (11, .int .i64 i)] : TT) ∧ S' = seg :: junk :: (GS m ++ (sgo :: segl :: sg :: []))) (m := its.length) ⟨0, 0, false, ⟨by omega, by omega, rfl, fun h => by cases h⟩, rfl, rfl⟩ ?_
   rintro mm _ _ ⟨i, n, was, ⟨hi, hmm, hn, hwas⟩, rfl, rfl⟩
   refine PW.seq fun K6 hK6 => ?_
   refine PW.seqOps ?_
   refine OL.dp rfl ?_
   refine OL.dp rfl ?_
   refine OL.dp rfl ?_
   refine OL.dp rfl ?_
   refine OL.nil ?_
   refine PW.keep (T' := [(3, _), (6, _), (8, _), (9, _), (10, _), (11, _), (48, _)]) ⟨rfl, rfl, rfl, rfl, rfl, rfl, rfl, trivial⟩ ?_
   refine PW.cond rfl (fun c48 => ?_) (fun c48 => ?_)
   ·try simp only [cvS, Bool.false_eq_true, if_false, if_true] at c48
    have hil : i < its.length := by omega
    obtain ⟨ai, rfl⟩ := itemS_some (hri []) (by omega)
    have hone := hgood.one its[i].pl (by rw [← hmap]; exact List.mem_map.2 ⟨_, List.getElem_mem hil, rfl⟩)
    have hft := flat_take (I := itemsP ps) (i := i) (by omega)
    rw [hget i hil] at hft
    refine PW.skip ?_
    refine hK6 _ _ ?_
    refine PW.keep (T' := [(3, _), (6, _), (8, _), (9, _), (10, _), (11, _)]) ⟨rfl, rfl, rfl, rfl, rfl, rfl, trivial⟩ ?_
    refine PW.seq fun K7 hK7 => ?_
    refine PW.block ?_
    refine PW.seqOps ?_
    refine OL.dp rfl ?_
    refine OL.dp rfl ?_
    refine OL.det trivial (Yields.ixN rfl rfl rfl hil) ?_
    refine OL.det trivial (Yields.ldA rfl (itemC_len _) (item_at (rd_mem (hri []) (by simp)) hil)) ?_
    refine OL.cons trivial OW.al ?_
    rintro _ _ ⟨r12, rfl, rfl⟩
    refine OL.cons trivial (item_st rfl rfl rfl) ?_
    rintro _ _ rfl
    change OL _ _ _ _ _ ([(r12, .cells (itemC its[i]) 73 3)] :: seg :: junk :: (GS m ++ (sgo :: segl :: sg :: []))) _
    refine OL.nil ?_
    refine PW.keep (T' := [(3, _), (6, _), (8, _), (9, _), (10, _), (11, _), (12, _)]) ⟨rfl, rfl, rfl, rfl, rfl, rfl, rfl, trivial⟩ ?_
    refine PW.seqS [(3, m.ptr), (6, .slice Ao (live LL).length co), (8, .slice (some ai) its.length ci), (9, .int .i64 (n : Int)), (11, .int .i64 i), (12, .pointer (some ⟨r12, 0, none⟩))] ([(r12, .cells (itemC its[i]) 73 3)] :: seg :: junk :: (GS m ++ (sgo :: segl :: sg :: []))) ?_ fun K8 hK8 => ?_
    ·skip
     refine PW.seqOps ?_
     refine OL.dp rfl ?_
     refine OL.det trivial (Yields.ld rfl (own_at (j := 1) (c := itemC its[i]) (E := 73) (tot := 3) (List.mem_flatten.2 ⟨_, .head _, List.mem_singleton.2 rfl⟩) rfl)) ?_
     refine OL.dp rfl ?_
     refine OL.nil ?_
     refine PW.keep (T' := [(3, _), (6, _), (8, _), (9, _), (10, _), (11, _), (12, _)]) ⟨rfl, rfl, rfl, rfl, rfl, rfl, rfl, trivial⟩ ?_
     refine PW.seqOps ?_
     refine OL.dp rfl ?_
     refine OL.nil ?_
     refine PW.keep (T' := [(3, _), (6, _), (8, _), (9, _), (10, _), (11, _), (12, _), (13, _)]) ⟨rfl, rfl, rfl, rfl, rfl, rfl, rfl, rfl, trivial⟩ ?_
     refine PW.block ?_
     refine PW.keep (T' := [(3, _), (6, _), (8, _), (9, _), (10, _), (11, _), (12, _), (13, _)]) ⟨rfl, rfl, rfl, rfl, rfl, rfl, rfl, rfl, trivial⟩ ?_
     refine PW.loopK (I := fun mk T S' => ∃ k : Nat, (k ≤ its[i].lines.length ∧ mk = its[i].lines.length - k) ∧ T = ([(3, m.ptr), (6, .slice Ao (live LL).length co), (8, .slice (some ai) its.length ci), (9, .int .i64 ((n + k : Nat) : Int)), (10, .bool its[i].block), (11, .int .i64 i), (12, .pointer (some ⟨r12, 0, none⟩)), (13, .int .i64 k)] : TT) ∧ S' = [(r12, .cells (itemC its[i]) 73 3)] :: seg :: junk :: (GS m ++ (sgo :: segl :: sg :: []))) (m := its[i].lines.length) ⟨0, ⟨by omega, by omega⟩, rfl, rfl⟩ ?_
     rintro mk _ _ ⟨k, ⟨hk, hmk⟩, rfl, rfl⟩
     refine PW.seq fun K9 hK9 => ?_
     refine PW.seqOps ?_
     refine OL.dp rfl ?_
     refine OL.dp rfl ?_
     refine OL.det trivial (Yields.ld rfl (own_at (j := 0) (c := itemC its[i]) (E := 73) (tot := 3) (List.mem_flatten.2 ⟨_, .head _, List.mem_singleton.2 rfl⟩) rfl)) ?_
     refine OL.dp rfl ?_
     refine OL.dp rfl ?_
     refine OL.nil ?_
     refine PW.keep (T' := [(3, _), (6, _), (8, _), (9, _), (10, _), (11, _), (12, _), (13, _), (83, _)]) ⟨rfl, rfl, rfl, rfl, rfl, rfl, rfl, rfl, rfl, trivial⟩ ?_
     refine PW.cond rfl (fun c83 => ?_) (fun c83 => ?_)
     ·try simp only [cvS, Bool.false_eq_true, if_false, if_true] at c83
      have hkl : k < its[i].lines.length := by omega
      have hfx := flat_ix (I := itemsP ps) (i := i) (k := k) (by omega) (by rw [hget i hil]; exact hkl)
      rw [hflat, ← hn] at hfx
      have hnk : n + k < (live LL).length := (List.getElem?_eq_some_iff.1 hfx).1
      have hxe : (live LL)[n + k] = its[i].lines[k] := by
       rw [List.getElem?_eq_getElem hnk] at hfx
       have := Option.some.inj hfx
       rw [this]
       simp [hget i hil, ItemM.pl]
      obtain ⟨b0, hb0⟩ := lines_some (hio _ (List.getElem_mem hil)).rdL (by omega)
      have hrk : Rd w0 ([(r12, .cells (itemC its[i]) 73 3)] :: seg :: junk :: (GS m ++ (sgo :: segl :: sg :: []))) (some b0) (lines its[i].lines) := by rw [← hb0]; exact rd_mem (hio _ (List.getElem_mem hil)).rdL (by simp)
      obtain ⟨ao, rfl⟩ := lines_some (hro []) (by omega)
      have hro2 : Rd w0 ([(r12, .cells (itemC its[i]) 73 3)] :: seg :: junk :: (GS m ++ (sgo :: segl :: sg :: []))) (some ao) (lines (live LL)) := rd_mem (hro []) (by simp)
      have hlnk : ∀ (j : Nat) (v : Value), (lineC its[i].lines[k])[j]? = some v → Cell w0 ([(r12, .cells (itemC its[i]) 73 3)] :: seg :: junk :: (GS m ++ (sgo :: segl :: sg :: []))) ((ao.add ((n + k) * 35)).add j) v := by rw [← hxe]; exact line_at hro2 hnk
      have hsol : (!its[i].block) = true ↔ ∀ (j : Nat) (hj : j < (live LL).length), j ≠ n + k → ordP ps (live LL)[n + k].v (live LL)[j].v = true := by
       rw [← solid_ix (by rw [hLL]; exact linesP_row hg.sq) hnk, hxe, hone.2.2 _ (List.getElem_mem hkl)]
       rfl
      refine PW.skip ?_
      refine hK9 _ _ ?_
      refine PW.keep (T' := [(3, _), (6, _), (8, _), (9, _), (10, _), (11, _), (12, _), (13, _)]) ⟨rfl, rfl, rfl, rfl, rfl, rfl, rfl, rfl, trivial⟩ ?_
      refine PW.seq fun K10 hK10 => ?_
      refine PW.block ?_
      refine PW.seq fun K11 hK11 => ?_
      refine PW.seq fun K12 hK12 => ?_
      refine PW.quietK Try.mixed ?_
      refine QK.dp rfl ?_
      refine QK.dp rfl ?_
      refine QK.dp rfl ?_
      refine QK.det trivial (Yields.to (v' := .bool false) (Yields.pure rfl) (congrArg Value.bool (decide_eq_false (by omega)))) ?_
      refine QK.dp rfl ?_
      refine QK.det rfl (Yields.pure rfl) ?_
      refine QK.det rfl (Yields.ld rfl (own_at (j := 0) (c := itemC its[i]) (E := 73) (tot := 3) (List.mem_flatten.2 ⟨_, .head _, List.mem_singleton.2 rfl⟩) rfl)) ?_
      refine QK.det rfl (Yields.pure rfl) ?_
      rw [hb0]
      refine QK.det rfl (Yields.ixN rfl rfl rfl hkl) ?_
      refine QK.det rfl (Yields.ldA rfl (lineC_len _) (line_at hrk hkl)) ?_
      refine QK.det rfl (Yields.pure rfl) ?_
      refine QK.det rfl (Yields.pure rfl) ?_
      refine QK.det rfl (Yields.ixN (j := n + k) rfl rfl rfl hnk) ?_
      refine QK.det rfl (Yields.ldA rfl (lineC_len _) (hlnk)) ?_
      refine QK.det rfl (Yields.to (v' := .bool false) (Yields.eqD (neg := true) rfl rfl (eqL_line _)) rfl) ?_
      refine QK.dp rfl ?_
      refine QK.dp rfl ?_
      refine QK.det rfl (Yields.pure rfl) ?_
      refine QK.det rfl (Yields.pure rfl) ?_
      refine QK.det rfl (Yields.pure rfl) ?_
      refine QK.call rfl rfl (solid_fc (r := !its[i].block) hg ((Over.both over_nil).cons.cons.cons) (hro2) hok hnk (by omega) hsol) ?_
      refine QK.det rfl (Yields.pure rfl) ?_
      refine QK.det rfl (Yields.ld rfl (own_at (j := 1) (c := itemC its[i]) (E := 73) (tot := 3) (List.mem_flatten.2 ⟨_, .head _, List.mem_singleton.2 rfl⟩) rfl)) ?_
      refine QK.nil ?_
      change OL _ _ _ [_, _] _ _ _
      refine OL.det rfl (Yields.to (v' := .bool false) (Yields.pure rfl) (congrArg Value.bool (by cases its[i].block <;> rfl))) ?_
      refine OL.dp rfl ?_
      refine OL.nil ?_
      refine hK12 _ _ ?_
      refine PW.keep (T' := [(3, _), (6, _), (8, _), (9, _), (10, _), (11, _), (12, _), (13, _), (110, _)]) ⟨rfl, rfl, rfl, rfl, rfl, rfl, rfl, rfl, rfl, trivial⟩ ?_
      refine PW.ite (b := false) rfl ?_
      rw [if_neg Bool.false_ne_true]
      refine PW.skip ?_
      refine hK11 _ _ ?_
      refine PW.keep (T' := [(3, _), (6, _), (8, _), (9, _), (10, _), (11, _), (12, _), (13, _)]) ⟨rfl, rfl, rfl, rfl, rfl, rfl, rfl, rfl, trivial⟩ ?_
      refine PW.ops ?_
      refine OL.dp rfl ?_
      refine OL.det trivial (Yields.add64 rfl rfl (by omega) (by omega)) ?_
      refine OL.dp rfl ?_
      refine OL.nil ?_
      refine hK10 _ _ ?_
      refine PW.keep (T' := [(3, _), (6, _), (8, _), (9, _), (10, _), (11, _), (12, _), (13, _)]) ⟨rfl, rfl, rfl, rfl, rfl, rfl, rfl, rfl, trivial⟩ ?_
      refine PW.ops ?_
      refine OL.dp rfl ?_
      refine OL.det trivial (Yields.add64 rfl rfl (by omega) (by omega)) ?_
      refine OL.dp rfl ?_
      refine OL.nil ?_
      repeat rw [inBlk_n]
      try rw [thenK_n]
      refine LoopEnd.mk (T'' := [(3, _), (6, _), (8, _), (9, _), (10, _), (11, _), (12, _), (13, _)]) ⟨rfl, rfl, rfl, rfl, rfl, rfl, rfl, rfl, trivial⟩ ?_
      exact ⟨its[i].lines.length - (k + 1), by omega, k + 1, ⟨by omega, rfl⟩, rfl, rfl⟩
     ·try simp only [cvS, Bool.false_eq_true, if_false, if_true] at c83
      refine PW.exit ?_
      refine hK7 _ _ ?_
      refine PW.keep (T' := [(3, _), (6, _), (8, _), (9, _), (10, _), (11, _)]) ⟨rfl, rfl, rfl, rfl, rfl, rfl, trivial⟩ ?_
      refine PW.ops ?_
      refine OL.dp rfl ?_
      refine OL.det trivial (Yields.add64 rfl rfl (by omega) (by omega)) ?_
      refine OL.dp rfl ?_
      refine OL.nil ?_
      repeat rw [inBlk_n]
      try rw [thenK_n]
      refine LoopEnd.mkS (Sub.drop (Sub.refl _)) (T'' := [(3, _), (6, _), (8, _), (9, _), (10, _), (11, _)]) ⟨rfl, rfl, rfl, rfl, rfl, rfl, trivial⟩ ?_
      exact ⟨its.length - (i + 1), by omega, i + 1, n + k, its[i].block, ⟨by omega, rfl, (by rw [hft, hn]; have : its[i].pl.lines.length = its[i].lines.length := rfl; omega), fun hb => ⟨its[i], by omega, by simp [hil], hb⟩⟩, rfl, rfl⟩
    ·skip
     refine PW.seqOps ?_
     refine OL.dp rfl ?_
     refine OL.det trivial (Yields.ld rfl (own_at (j := 1) (c := itemC its[i]) (E := 73) (tot := 3) (List.mem_flatten.2 ⟨_, .head _, List.mem_singleton.2 rfl⟩) rfl)) ?_
     refine OL.bool trivial (Yields.pure rfl) (fun g57 => ?_) (fun g57 => ?_)
     ·try simp only [cvS, Bool.false_eq_true, if_false, if_true] at g57
      have hbk : its[i].block = true := g57
      have hw0 : was = false := by
       cases was with
       | false => rfl
       | true =>
        exfalso
        obtain ⟨a, h0, ha, hab⟩ := hwas rfl
        have hi1 : i - 1 < its.length := by omega
        have ha2 : (itemsP ps)[i - 1]? = some a.pl := by rw [← hmap, List.getElem?_map, ha]; rfl
        exact hgood.adj (i - 1) a.pl its[i].pl ha2 (by rw [show i - 1 + 1 = i by omega, ← hmap, List.getElem?_map, List.getElem?_eq_getElem hil]; rfl) hab hbk
      subst hw0
      refine OL.det rfl (Yields.pure rfl) ?_
      refine OL.det rfl (Yields.pure rfl) ?_
      refine OL.det rfl (Yields.pure rfl) ?_
      refine OL.det rfl (Yields.ld rfl (own_at (j := 0) (c := itemC its[i]) (E := 73) (tot := 3) (List.mem_flatten.2 ⟨_, .head _, List.mem_singleton.2 rfl⟩) rfl)) ?_
      refine OL.det rfl (Yields.pure rfl) ?_
      refine OL.det rfl (Yields.to (v' := .bool false) (Yields.pure rfl) (congrArg Value.bool (decide_eq_false (by have hlt : 2 ≤ its[i].lines.length := hone.1 hbk; omega)))) ?_
      refine OL.det rfl (Yields.pure rfl) ?_
      refine OL.dp rfl ?_
      refine OL.dp rfl ?_
      refine OL.det rfl (Yields.pure rfl) ?_
      refine OL.det rfl (Yields.ld rfl (own_at (j := 1) (c := itemC its[i]) (E := 73) (tot := 3) (List.mem_flatten.2 ⟨_, .head _, List.mem_singleton.2 rfl⟩) rfl)) ?_
      refine OL.det rfl (Yields.pure rfl) ?_
      refine OL.bool rfl (Yields.pure rfl) (fun g70 => ?_) (fun g70 => ?_)
      ·exfalso; simp_all
      ·try simp only [cvS, Bool.false_eq_true, if_false, if_true] at g70
       refine OL.off rfl rfl ?_
       refine OL.off rfl rfl ?_
       refine OL.off rfl rfl ?_
       refine OL.off rfl rfl ?_
       refine OL.det rfl (Yields.pure rfl) ?_
       refine OL.dp rfl ?_
       refine OL.nil ?_
       refine PW.keep (T' := [(3, _), (6, _), (8, _), (9, _), (11, _), (12, _), (76, _)]) ⟨rfl, rfl, rfl, rfl, rfl, rfl, rfl, trivial⟩ ?_
       refine PW.ite (b := false) rfl ?_
       rw [if_neg Bool.false_ne_true]
       refine PW.skip ?_
       exact hK8 _ _ ⟨rfl, rfl, rfl, rfl, rfl, rfl, trivial⟩ rfl
     ·try simp only [cvS, Bool.false_eq_true, if_false, if_true] at g57
      have hbk : its[i].block = false := g57
      refine OL.off rfl rfl ?_
      refine OL.off rfl rfl ?_
      refine OL.off rfl rfl ?_
      refine OL.off rfl rfl ?_
      refine OL.off rfl rfl ?_
      refine OL.off rfl rfl ?_
      refine OL.off rfl rfl ?_
      refine OL.dp rfl ?_
      refine OL.dp rfl ?_
      refine OL.det rfl (Yields.pure rfl) ?_
      refine OL.det rfl (Yields.ld rfl (own_at (j := 1) (c := itemC its[i]) (E := 73) (tot := 3) (List.mem_flatten.2 ⟨_, .head _, List.mem_singleton.2 rfl⟩) rfl)) ?_
      refine OL.det rfl (Yields.pure rfl) ?_
      refine OL.bool rfl (Yields.pure rfl) (fun g70 => ?_) (fun g70 => ?_)
      ·try simp only [cvS, Bool.false_eq_true, if_false, if_true] at g70
       refine OL.det rfl (Yields.pure rfl) ?_
       refine OL.det rfl (Yields.ld rfl (own_at (j := 0) (c := itemC its[i]) (E := 73) (tot := 3) (List.mem_flatten.2 ⟨_, .head _, List.mem_singleton.2 rfl⟩) rfl)) ?_
       refine OL.det rfl (Yields.pure rfl) ?_
       refine OL.det rfl (Yields.to (v' := .bool false) (Yields.pure rfl) (congrArg Value.bool (by have hlt : its[i].lines.length = 1 := hone.2.1 hbk; simp [hlt]))) ?_
       refine OL.det rfl (Yields.pure rfl) ?_
       refine OL.dp rfl ?_
       refine OL.nil ?_
       refine PW.keep (T' := [(3, _), (6, _), (8, _), (9, _), (11, _), (12, _), (76, _)]) ⟨rfl, rfl, rfl, rfl, rfl, rfl, rfl, trivial⟩ ?_
       refine PW.ite (b := false) rfl ?_
       rw [if_neg Bool.false_ne_true]
       refine PW.skip ?_
       exact hK8 _ _ ⟨rfl, rfl, rfl, rfl, rfl, rfl, trivial⟩ rfl
      ·exfalso; simp_all
   ·try simp only [cvS, Bool.false_eq_true, if_false, if_true] at c48
    refine PW.exit ?_
    refine hK5 _ _ ?_
    refine PW.keep (T' := [(6, _), (9, _)]) ⟨rfl, rfl, trivial⟩ ?_
    refine PW.seqOps ?_
    have hke : i = its.length := by omega
    have hnl2 : n = (live LL).length := by
     rw [hn, hke, ← hml, List.take_length, hflat]
    refine OL.dp rfl ?_
    refine OL.dp rfl ?_
    refine OL.dp rfl ?_
    refine OL.det trivial (Yields.to (v' := .bool true) (Yields.pure rfl) (congrArg Value.bool (by simp; omega))) ?_
    refine OL.dp rfl ?_
    refine OL.call rfl rfl (works_fc) ?_
    rintro _ Sx ⟨rfl, hSx⟩
    rw [hSx]
    clear hSx
    refine OL.dp rfl ?_
    refine OL.dp rfl ?_
    refine OL.nil ?_
    refine PW.keep (T' := [(2, _)]) ⟨rfl, trivial⟩ ?_
    refine PW.ret ?_
    change (Exit.ret = Exit.normal ∨ Exit.ret = Exit.ret) ∧ ∃ v, resV _ _ = some v ∧ _
    exact ⟨.inr rfl, _, rfl, _, Sub.refl _, rfl⟩
end Go.Proofs.Gr

namespace Go.Proofs.Gr
open Go.SL Go.RowKit Go.Proofs Go.GP Go.ChangeShapes Go.WideShapes Go.ChangeAt
set_option maxRecDepth 100000 in
theorem parts_arg {H : Type} {enc : TypeId × Value → H} {W : World} {r : Reach} {base j : Nat} {v : Value} {d : DataW H} {ps : List MemPlace} {ts : List TypeId} {ds : List (DataW H)} (hv : Value.okWide Try.prog W r base 45 v)
  (h : DataW.Trod enc Try.prog W 0 (fun _ => true) true 45 v d ps) (hsz : (DataW.weightsEach Try.prog ts ds).all (· ≤ reachBytes) = true) (ht : ts[j]? = some 45) (hd : ds[j]? = some d) :
  ∃ (A : Option Addr) (c : Nat) (l : List PartM), v = .slice A l.length c ∧ PartsIn W A l := by
 have hu : Try.prog.underlying 45 = some (.slice 36) := by kernel_rfl
 obtain ⟨A, len, cap, rfl⟩ := okWide_slice hu hv
 obtain ⟨l, rfl, hr, hR, hy, hc⟩ := arg_listW (j := j) (f := partC) (R := fun a => PartA W a) hu (fun n cs y hh _ hw => part_of hh hw) h hsz ht hd
 rw [show Try.prog.bytesOf 36 = 176 by kernel_rfl] at hy
 simp only [reachBytes] at hy
 exact ⟨A, cap, l, rfl, hr, hR, by omega⟩
end Go.Proofs.Gr
