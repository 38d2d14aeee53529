/- Walks. -/
import Derived.Test.YtbejcoeajlhmcaaPart7
set_option linter.unusedVariables false
set_option linter.unusedSimpArgs false
set_option linter.unusedSectionVars false

namespace Go.Proofs.Gr
open Go.SL Go.RowKit Go.Proofs Go.GP
set_option maxHeartbeats 1000000
theorem fill_step {T : TT} {a b d : List Value} {n k : Nat} {x : PV} {v : Value} {r : List (Nat × Nat × PV)} (hx : x.val T = some v) (ha : a.length = n) (hb : b.length = k) (hv : v.cells.toList.length = k) :
  fillP T (a ++ (b ++ d)) ((n, k, x) :: r) = fillP T ((a ++ v.cells.toList) ++ d) r := by
 simp only [fillP, hx]
 rw [if_pos ⟨by rw [<- Array.length_toList]; exact hv, by simp only [List.length_append]; omega⟩, setMid rfl ha (hb.trans hv.symm), List.append_assoc]
theorem fill_part7 {T : TT} {p : PartM} {x1 x2 x3 x4 x5 x6 x7 : PV} (h1 : x1.val T = some (.agg (bytesC p.patch.1).toArray)) (h2 : x2.val T = some (.int .i64 p.at_)) (h3 : x3.val T = some (.int .i64 p.first)) (h4 : x4.val T = some (vtxV p.up)) (h5 : x5.val T = some (vtxV p.down))
  (h6 : x6.val T = some (.slice p.LA p.lines.length p.lc)) (h7 : x7.val T = some (.slice p.GA p.gone.length p.gc)) :
  fillP T zP [(0, 32, x1), (32, 1, x2), (33, 1, x3), (34, 33, x4), (67, 33, x5), (100, 1, x6), (101, 1, x7)] = some (partC p) := by
 have hb := hb_len p.patch
 have hu := vtxL_len p.up
 have hd := vtxL_len p.down
 have h0 := vtxL_len v0
 have e0 : zP = [] ++ (List.replicate 32 (.int .u8 0) ++ ([.int .i64 0] ++ ([.int .i64 0] ++ (vtxL v0 ++ (vtxL v0 ++ ([.slice none 0 0] ++ ([.slice none 0 0] ++ []))))))) := by unfold zP; simp only [List.append_assoc, List.nil_append, List.append_nil]; rfl
 have c1 : (Value.agg (bytesC p.patch.1).toArray).cells.toList = bytesC p.patch.1 := rfl
 have c4 : (vtxV p.up).cells.toList = vtxL p.up := rfl
 have c5 : (vtxV p.down).cells.toList = vtxL p.down := rfl
 have c2 : ∀ (k : IntKind) (z : Int), (Value.int k z).cells.toList = [.int k z] := fun _ _ => rfl
 have c6 : ∀ (A : Option Addr) (n c : Nat), (Value.slice A n c).cells.toList = [.slice A n c] := fun _ _ _ => rfl
 rw [e0, fill_step (a := []) (n := 0) (k := 32) h1 rfl List.length_replicate (by rw [c1]; exact hb), c1, fill_step (k := 1) (b := [.int .i64 0]) h2 (by simp only [List.length_append, List.length_nil]; omega) rfl rfl, c2,
  fill_step (k := 1) (b := [.int .i64 0]) h3 (by simp only [List.length_append, List.length_nil, List.length_cons]; omega) rfl rfl, c2, fill_step h4 (by simp only [List.length_append, List.length_nil, List.length_cons]; omega) h0 (by rw [c4]; exact hu), c4,
  fill_step h5 (by simp only [List.length_append, List.length_nil, List.length_cons]; omega) h0 (by rw [c5]; exact hd), c5, fill_step (k := 1) (b := [.slice none 0 0]) h6 (by simp only [List.length_append, List.length_nil, List.length_cons]; omega) rfl rfl, c6,
  fill_step (k := 1) (b := [.slice none 0 0]) h7 (by simp only [List.length_append, List.length_nil, List.length_cons]; omega) rfl rfl, c6]
 rw [partC_split]
 simp only [fillP, List.append_assoc, List.nil_append, List.append_nil]
structure PartsIn (w0 : World) (A : Option Addr) (l : List PartM) : Prop where
 rd : Rd w0 [] A (partS l)
 part : ∀ x ∈ l, PartA w0 x
 len : l.length <= 1000000000000000
structure SmallP (l : List PartM) : Prop where
 len : l.length <= 14
 part : ∀ x ∈ l, x.lines.length <= 8 /\ x.gone.length <= 8 /\ x.first <= 1000
theorem PartsIn.partB {w0 : World} {A : Option Addr} {l : List PartM} (h : PartsIn w0 A l) (hs : SmallP l) {k : Nat} (hk : k < l.length) : PartB w0 l[k] := by
 have h1 := h.part _ (List.getElem_mem hk)
 obtain ⟨h2, h3, h4⟩ := hs.part _ (List.getElem_mem hk)
 exact ⟨h1.rdL, h1.rdG, h1.rng (by omega) (by omega) (by omega), ⟨by omega, by omega⟩, h1.text⟩
theorem PartB.rdS {w0 : World} {S : SS} {p : PartM} (h : PartB w0 p) : PartRd w0 S p := ⟨h.rdL.any, h.rdG.any, h.rng, by have := h.small; omega⟩
section
variable {w0 : World} {S : SS} {a : Addr} {l : List PartM} {k : Nat}
theorem partS_first (h : Rd w0 S (some a) (partS l)) (hk : k < l.length) : Cell w0 S ((a.add (k * 102)).add 33) (.int .i64 l[k].first) := partS_at h hk _ _ (partC_at _).2.1
theorem partS_lines (h : Rd w0 S (some a) (partS l)) (hk : k < l.length) : Cell w0 S ((a.add (k * 102)).add 100) (.slice l[k].LA l[k].lines.length l[k].lc) := partS_at h hk _ _ (partC_at _).2.2.1
theorem partS_gone (h : Rd w0 S (some a) (partS l)) (hk : k < l.length) : Cell w0 S ((a.add (k * 102)).add 101) (.slice l[k].GA l[k].gone.length l[k].gc) := partS_at h hk _ _ (partC_at _).2.2.2
end
theorem gs_h {a : GrM} {s t u : Seg} {S : SS} : Sub (GS a ++ (u :: S)) (u :: (GS a ++ (t :: s :: S))) := Sub.sel [1, 2, 3, 4, 0] 7 (by decide) (u :: (GS a ++ (t :: s :: S)))
theorem gs_i {a : GrM} {s t : Seg} {S : SS} : Sub (GS a ++ (s :: S)) (GS a ++ (t :: s :: S)) := Sub.sel [0, 1, 2, 3, 5] 6 (by decide) (GS a ++ (t :: s :: S))
theorem gs_j {a : GrM} {S : SS} : Sub (GS a ++ ([] :: S)) (GS a ++ S) := ⟨by simp, by simp⟩
theorem line_pls {w0 : World} {X : SS} {m : GrM} {l : List PartM} (h : GG w0 X m (pls l).reverse) : ∀ v ∈ allV (pls l), v ≠ rootV /\ v ≠ endV := fun v hv => h.sq.line (by
 obtain ⟨p, hp, hv⟩ := mem_allV.1 hv
 exact mem_allV.2 ⟨p, List.mem_reverse.2 hp, hv⟩)
theorem new_rev {l : List PartP} {p : PartP} (h : New l.reverse p) : New l p := by
 have hv : ∀ v, v ∈ allV l.reverse ↔ v ∈ allV l := fun v => by simp only [mem_allV, List.mem_reverse]
 exact h.more (fun q hq => List.mem_reverse.1 hq) (fun q hq => h.name q (List.mem_reverse.2 hq)) (fun v hv1 hv2 => h.own v hv1 ((hv v).2 hv2))
theorem few_fc {w0 : World} {S : SS} {A : Option Addr} {c : Nat} {l : List PartM} (h : PartsIn w0 A l) :
  FC Try.prog w0 30 [.slice A l.length c] S (fun v S' => ∃ b, v = .bool b /\ S' = S /\ (b = true -> SmallP l)) := by
 have hlen := h.len
 refine FC.ofD Try.known30 (by simp) ?_
 unfold Try.pc30
 simp only [argT]
 refine PW.seqOps ?_
 refine OL.dp rfl ?_
 refine OL.nil ?_
 refine PW.k1 0 rfl ?_
 refine PW.seq fun K1 hK1 => ?_
 refine PW.seqOps ?_
 refine OL.dp rfl ?_
 refine OL.nil ?_
 refine PW.k2 0 3 rfl rfl ?_
 refine PW.block ?_
 refine PW.k2 0 3 rfl rfl ?_
 refine PW.loopK (I := fun mm T S' => ∃ k : Nat, (k <= l.length /\ k <= 15 /\ mm = l.length - k /\ ∀ x ∈ l.take k, x.lines.length <= 8 /\ x.gone.length <= 8 /\ x.first <= 1000) /\ T = ([(0, .slice A l.length c), (3, .int .i64 k)] : TT) /\ S' = S) (m := l.length) ⟨0, ⟨by omega, by omega, by omega, by simp⟩, rfl, rfl⟩ ?_
 rintro mm _ _ ⟨k, ⟨hk, hk15, hmm, hall⟩, rfl, rfl⟩
 refine PW.seq fun K2 hK2 => ?_
 refine PW.seqOps ?_
 refine OL.dp rfl ?_
 refine OL.dp rfl ?_
 refine OL.dp rfl ?_
 refine OL.dp rfl ?_
 refine OL.bool trivial (Yields.pure rfl) (fun g8 => ?_) (fun g8 => ?_)
 ·try simp only [cvS] at g8
  refine OL.det rfl (.pure rfl) ?_
  refine OL.det rfl (.pure rfl) ?_
  refine OL.dp rfl ?_
  refine OL.nil ?_
  refine PW.k3 0 3 11 rfl rfl rfl ?_
  refine PW.cond rfl (fun c11 => ?_) (fun c11 => ?_)
  ·try simp only [cvS] at c11
   have hkl : k < l.length := by omega
   obtain ⟨a0, ha0⟩ := partS_some h.rd (by omega)
   have hrd := h.rd
   rw [ha0] at hrd
   refine PW.skip ?_
   refine hK2 _ _ ?_
   refine PW.k2 0 3 rfl rfl ?_
   refine PW.seq fun K3 hK3 => ?_
   refine PW.block ?_
   refine PW.seqOps ?_
   refine OL.dp rfl ?_
   refine OL.dp rfl ?_
   try rw [ha0]
   refine OL.det trivial (.ixN rfl rfl rfl hkl) ?_
   refine OL.dp rfl ?_
   refine OL.det trivial (.ld rfl (partS_lines hrd.any hkl)) ?_
   refine OL.dp rfl ?_
   refine OL.dp rfl ?_
   refine OL.bool trivial (Yields.pure rfl) (fun g21 => ?_) (fun g21 => ?_)
   ·try simp only [cvS] at g21
    refine OL.off rfl rfl ?_
    refine OL.off rfl rfl ?_
    refine OL.off rfl rfl ?_
    refine OL.off rfl rfl ?_
    refine OL.off rfl rfl ?_
    refine OL.off rfl rfl ?_
    refine OL.off rfl rfl ?_
    refine OL.dp rfl ?_
    refine OL.dp rfl ?_
    refine OL.off rfl rfl ?_
    refine OL.off rfl rfl ?_
    refine OL.off rfl rfl ?_
    refine OL.off rfl rfl ?_
    refine OL.off rfl rfl ?_
    refine OL.off rfl rfl ?_
    refine OL.dp rfl ?_
    refine OL.nil ?_
    refine PW.k3 0 3 37 rfl rfl rfl ?_
    refine PW.ite (b := true) rfl ?_
    rw [if_pos rfl]
    refine PW.seqOps ?_
    refine OL.dp rfl ?_
    refine OL.nil ?_
    refine PW.k1 2 rfl ?_
    refine PW.ret ?_
    change (Exit.ret = Exit.normal ∨ Exit.ret = Exit.ret) /\ ∃ v, resV _ _ = some v /\ _
    exact ⟨.inr rfl, _, rfl, _, Sub.refl _, false, rfl, rfl, fun h => by cases h⟩
   try simp only [cvS] at g21
   refine OL.det rfl (.pure rfl) ?_
   refine OL.det rfl (.pure rfl) ?_
   try rw [ha0]
   refine OL.det rfl (.ixN rfl rfl rfl hkl) ?_
   refine OL.det rfl (.pure rfl) ?_
   refine OL.det rfl (.ld rfl (partS_gone hrd.any hkl)) ?_
   refine OL.det rfl (.pure rfl) ?_
   refine OL.det rfl (.pure rfl) ?_
   refine OL.dp rfl ?_
   refine OL.bool trivial (Yields.pure rfl) (fun g30 => ?_) (fun g30 => ?_)
   ·try simp only [cvS] at g30
    refine OL.off rfl rfl ?_
    refine OL.off rfl rfl ?_
    refine OL.off rfl rfl ?_
    refine OL.off rfl rfl ?_
    refine OL.off rfl rfl ?_
    refine OL.off rfl rfl ?_
    refine OL.dp rfl ?_
    refine OL.nil ?_
    refine PW.k3 0 3 37 rfl rfl rfl ?_
    refine PW.ite (b := true) rfl ?_
    rw [if_pos rfl]
    refine PW.seqOps ?_
    refine OL.dp rfl ?_
    refine OL.nil ?_
    refine PW.k1 2 rfl ?_
    refine PW.ret ?_
    change (Exit.ret = Exit.normal ∨ Exit.ret = Exit.ret) /\ ∃ v, resV _ _ = some v /\ _
    exact ⟨.inr rfl, _, rfl, _, Sub.refl _, false, rfl, rfl, fun h => by cases h⟩
   try simp only [cvS] at g30
   refine OL.det rfl (.pure rfl) ?_
   refine OL.det rfl (.pure rfl) ?_
   try rw [ha0]
   refine OL.det rfl (.ixN rfl rfl rfl hkl) ?_
   refine OL.det rfl (.pure rfl) ?_
   refine OL.det rfl (.ld rfl (partS_first hrd.any hkl)) ?_
   refine OL.det rfl (.pure rfl) ?_
   refine OL.dp rfl ?_
   refine OL.nil ?_
   refine PW.k3 0 3 37 rfl rfl rfl ?_
   refine PW.cond rfl (fun c37 => ?_) (fun c37 => ?_)
   ·try simp only [cvS] at c37
    refine PW.seqOps ?_
    refine OL.dp rfl ?_
    refine OL.nil ?_
    refine PW.k1 2 rfl ?_
    refine PW.ret ?_
    change (Exit.ret = Exit.normal ∨ Exit.ret = Exit.ret) /\ ∃ v, resV _ _ = some v /\ _
    exact ⟨.inr rfl, _, rfl, _, Sub.refl _, false, rfl, rfl, fun h => by cases h⟩
   try simp only [cvS] at c37
   have hk2 : l[k].lines.length <= 8 /\ l[k].gone.length <= 8 /\ l[k].first <= 1000 := by
    first | (simp only [cvS] at *; omega) | omega
   refine PW.skip ?_
   refine hK3 _ _ ?_
   refine PW.k2 0 3 rfl rfl ?_
   refine PW.ops ?_
   refine OL.dp rfl ?_
   refine OL.det trivial (.add64 rfl rfl (by omega) (by omega)) ?_
   refine OL.dp rfl ?_
   refine OL.nil ?_
   repeat rw [inBlk_n]
   try rw [thenK_n]
   refine LoopEnd.mk (T'' := [(0, _), (3, _)]) ⟨rfl, rfl, trivial⟩ ?_
   try rw [ha0]
   refine ⟨l.length - (k + 1), by omega, k + 1, ⟨by omega, by omega, rfl, ?_⟩, rfl, rfl⟩
   rw [ltake_snoc hkl]
   intro x hx
   rcases List.mem_append.1 hx with hx | hx
   ·exact hall x hx
   rw [List.mem_singleton] at hx; subst hx; exact hk2
  try simp only [cvS] at c11
  refine PW.exit ?_
  refine hK1 _ _ ?_
  refine PW.k1 0 rfl ?_
  refine PW.seqOps ?_
  refine OL.dp rfl ?_
  refine OL.dp rfl ?_
  refine OL.dp rfl ?_
  refine OL.dp rfl ?_
  refine OL.nil ?_
  refine PW.k1 2 rfl ?_
  refine PW.ret ?_
  change (Exit.ret = Exit.normal ∨ Exit.ret = Exit.ret) /\ ∃ v, resV _ _ = some v /\ _
  refine ⟨.inr rfl, _, rfl, _, Sub.refl _, _, rfl, rfl, fun hb => ?_⟩
  have hb2 : (l.length : Int) <= 14 := by simpa using hb
  have hke : k = l.length := by omega
  rw [hke, List.take_length] at hall
  exact ⟨by omega, hall⟩
 try simp only [cvS] at g8
 refine OL.off rfl rfl ?_
 refine OL.off rfl rfl ?_
 refine OL.dp rfl ?_
 refine OL.nil ?_
 refine PW.k3 0 3 11 rfl rfl rfl ?_
 refine PW.ite (b := false) rfl ?_
 rw [if_neg Bool.false_ne_true]
 refine PW.exit ?_
 refine hK1 _ _ ?_
 refine PW.k1 0 rfl ?_
 refine PW.seqOps ?_
 refine OL.dp rfl ?_
 refine OL.dp rfl ?_
 refine OL.dp rfl ?_
 refine OL.dp rfl ?_
 refine OL.nil ?_
 refine PW.k1 2 rfl ?_
 refine PW.ret ?_
 change (Exit.ret = Exit.normal ∨ Exit.ret = Exit.ret) /\ ∃ v, resV _ _ = some v /\ _
 refine ⟨.inr rfl, _, rfl, _, Sub.refl _, _, rfl, rfl, fun hb => ?_⟩
 have hb2 : (l.length : Int) <= 14 := by simpa using hb
 have hke : k = l.length := by omega
 rw [hke, List.take_length] at hall
 exact ⟨by omega, hall⟩
theorem both_fc {w0 : World} {S : SS} {A : Option Addr} {c : Nat} {l : List PartM} (h : PartsIn w0 A l) (hs : SmallP l) :
  FC Try.prog w0 32 [.slice A l.length c] S (fun v S' => ∃ m cms A' c' sg, v = .tuple #[m.ptr, .slice A' cms.length c'] /\ S' = GS m ++ (sg :: S) /\ GG w0 [] m (pls cms).reverse /\ SlV 123 102 (.slice A' cms.length c') cms.length (partS cms) sg /\ (∀ x ∈ cms, PartB w0 x) /\ cms.length <= 14 /\ (allV (pls cms).reverse).length <= 1400 /\ m.lim <= 100000) := by
 have hlen := hs.len
 refine FC.ofD Try.known32 (by simp) ?_
 unfold Try.pc32
 simp only [argT]
 refine PW.seqOps ?_
 refine OL.dp rfl ?_
 refine OL.dp rfl ?_
 refine OL.nil ?_
 refine PW.k1 0 rfl ?_
 refine PW.seqOps ?_
 refine OL.call trivial rfl (new_fc (X := [])) ?_
 rintro _ _ ⟨m0, rfl, rfl, hm0, hg0, hl0⟩
 have hgg : GG w0 [] m0 [] := ⟨hm0, by rw [hg0]; exact GP.Inv.nil, Sq.nil, by simp [allV], by omega⟩
 refine OL.dp rfl ?_
 refine OL.nil ?_
 refine PW.k2 0 4 rfl rfl ?_
 refine PW.seqOps ?_
 refine OL.dp rfl ?_
 refine OL.nil ?_
 refine PW.k3 0 4 5 rfl rfl rfl ?_
 refine PW.seq fun K1 hK1 => ?_
 refine PW.seqOps ?_
 refine OL.subS (S' := GS m0 ++ ([] :: S)) gs_j ?_
 refine OL.dp rfl ?_
 refine OL.nil ?_
 refine PW.k4 0 4 5 6 rfl rfl rfl rfl ?_
 refine PW.block ?_
 refine PW.k4 0 4 5 6 rfl rfl rfl rfl ?_
 refine PW.loopK (I := fun mm T S' => ∃ (k : Nat) (m : GrM) (cms : List PartM) (Ar : Option Addr) (cr : Nat) (sg : Seg), (k <= l.length /\ mm = l.length - k /\ GG w0 [] m (pls cms).reverse /\ SlV 123 102 (.slice Ar cms.length cr) cms.length (partS cms) sg /\ (∀ x ∈ cms, PartB w0 x) /\ cms.length <= k /\ (allV (pls cms).reverse).length <= 100 * k /\ m.lim <= 1000 * k /\ m.r = m0.r) /\ T = ([(0, .slice A l.length c), (4, m0.ptr), (5, .slice Ar cms.length cr), (6, .int .i64 k)] : TT) /\ S' = GS m ++ (sg :: S)) (m := l.length) ⟨0, m0, [], _, _, [], ⟨by omega, by omega, hgg, SlV.nil 123 102, (fun x hx => by cases hx), Nat.le_refl 0, by simp [allV, pls], by omega, rfl⟩, rfl, rfl⟩ ?_
 rintro mm _ _ ⟨k, m, cms, Ar, cr, sg, ⟨hk, hmm, hg, hsr, hcb, hcl, hal, hlim, hr⟩, rfl, rfl⟩
 refine PW.seq fun K2 hK2 => ?_
 refine PW.seqOps ?_
 refine OL.dp rfl ?_
 refine OL.dp rfl ?_
 refine OL.dp rfl ?_
 refine OL.dp rfl ?_
 refine OL.nil ?_
 refine PW.k5 0 4 5 6 12 rfl rfl rfl rfl rfl ?_
 refine PW.cond rfl (fun c12 => ?_) (fun c12 => ?_)
 ·try simp only [cvS] at c12
  have hkl : k < l.length := by omega
  obtain ⟨a0, ha0⟩ := partS_some h.rd (by omega)
  have hrd := h.rd
  rw [ha0] at hrd
  have hpb := h.partB hs hkl
  have hrl : (pls cms).reverse.length = cms.length := by simp [pls]
  have hsm := hs.part _ (List.getElem_mem hkl)
  obtain ⟨Ar2, cr2, er2, hnr, hcr, hrr⟩ := slv_rdL (w0 := w0) hsr
  cases er2
  refine PW.skip ?_
  refine hK2 _ _ ?_
  refine PW.k4 0 4 5 6 rfl rfl rfl rfl ?_
  refine PW.seq fun K3 hK3 => ?_
  refine PW.block ?_
  refine PW.seqOps ?_
  refine OL.dp rfl ?_
  refine OL.dp rfl ?_
  rw [ha0]
  refine OL.det trivial (.ixN rfl rfl rfl hkl) ?_
  refine OL.det trivial (.ldA rfl (partC_len _) (partS_at hrd.any hkl)) ?_
  refine OL.cons trivial OW.al ?_
  rintro _ _ ⟨r7, rfl, rfl⟩
  refine OL.cons trivial (part_stk (k := 0) (u := l[k]) rfl rfl rfl rfl) ?_
  rintro _ _ rfl
  change OL _ _ _ _ _ (pseg r7 l[k] :: (GS m ++ (sg :: S))) _
  refine OL.nil ?_
  refine PW.k5 0 4 5 6 7 rfl rfl rfl rfl rfl ?_
  refine PW.seq fun K4 hK4 => ?_
  refine PW.seqOps ?_
  refine OL.dp rfl ?_
  refine OL.det trivial (.ldA rfl (partC_len _) (all_at (List.mem_flatten.2 ⟨_, .head _, List.mem_singleton.2 rfl⟩))) ?_
  refine OL.call trivial rfl (by rw [<- ptr_eq hr]; exact FC.subS gs_a (add2_fc (S := pseg r7 l[k] :: sg :: S) hg over_nil hpb.rng hpb.rdL.any hpb.rdG.any (by omega) (by unfold addL; omega))) ?_
  rintro _ _ ⟨m1, rfl, rfl, hg1, hl1, hr1, _⟩
  unfold addL at hl1
  refine OL.dp rfl ?_
  refine OL.nil ?_
  refine PW.k6 0 4 5 6 7 22 rfl rfl rfl rfl rfl rfl ?_
  refine PW.cond rfl (fun c22 => ?_) (fun c22 => ?_)
  ·skip
   have hnn : ¬ New (pls cms).reverse l[k].pl := fun hn => by
    have := (addE_zero hg.inv hg.sq).2 hn
    simp [this] at c22
   rw [came_not hnn] at hg1
   refine PW.exit ?_
   refine hK3 _ _ ?_
   refine PW.k4 0 4 5 6 rfl rfl rfl rfl ?_
   refine PW.ops ?_
   refine OL.dp rfl ?_
   refine OL.det trivial (.add64 rfl rfl (by omega) (by omega)) ?_
   refine OL.dp rfl ?_
   refine OL.nil ?_
   repeat rw [inBlk_n]
   try rw [thenK_n]
   refine LoopEnd.mkS (gs_i) (T'' := [(0, _), (4, _), (5, _), (6, _)]) ⟨rfl, rfl, rfl, rfl, trivial⟩ ?_
   rw [ha0]
   exact ⟨l.length - (k + 1), by omega, k + 1, m1, cms, _, _, sg, ⟨by omega, rfl, hg1, hsr, hcb, by omega, by omega, by omega, hr1.trans hr⟩, rfl, rfl⟩
  skip
  have hnew : New (pls cms).reverse l[k].pl := (addE_zero hg.inv hg.sq).1 (by simpa using c22)
  rw [came_new hnew, <- pls_snoc] at hg1
  refine PW.skip ?_
  refine hK4 _ _ ?_
  refine PW.k5 0 4 5 6 7 rfl rfl rfl rfl rfl ?_
  refine PW.ops ?_
  refine OL.dp rfl ?_
  refine OL.dp rfl ?_
  refine OL.det trivial (.ldA rfl (hb_len _) (part_patch (p := l[k]) (E := 36) (tot := 102) (List.mem_flatten.2 ⟨_, .tail _ (.tail _ (.tail _ (.tail _ (.head _)))), List.mem_singleton.2 rfl⟩))) ?_
  refine OL.dp rfl ?_
  refine OL.det trivial (.ld rfl (part_at (p := l[k]) (E := 36) (tot := 102) (List.mem_flatten.2 ⟨_, .tail _ (.tail _ (.tail _ (.tail _ (.head _)))), List.mem_singleton.2 rfl⟩))) ?_
  refine OL.dp rfl ?_
  refine OL.det trivial (.ld rfl (part_first (p := l[k]) (E := 36) (tot := 102) (List.mem_flatten.2 ⟨_, .tail _ (.tail _ (.tail _ (.tail _ (.head _)))), List.mem_singleton.2 rfl⟩))) ?_
  refine OL.dp rfl ?_
  refine OL.det trivial (.ldA rfl (vtxL_len _) (part_up (p := l[k]) (E := 36) (tot := 102) (List.mem_flatten.2 ⟨_, .tail _ (.tail _ (.tail _ (.tail _ (.head _)))), List.mem_singleton.2 rfl⟩))) ?_
  refine OL.dp rfl ?_
  refine OL.det trivial (.ldA rfl (vtxL_len _) (part_down (p := l[k]) (E := 36) (tot := 102) (List.mem_flatten.2 ⟨_, .tail _ (.tail _ (.tail _ (.tail _ (.head _)))), List.mem_singleton.2 rfl⟩))) ?_
  refine OL.dp rfl ?_
  refine OL.det trivial (.ld rfl (part_lines (p := l[k]) (E := 36) (tot := 102) (List.mem_flatten.2 ⟨_, .tail _ (.tail _ (.tail _ (.tail _ (.head _)))), List.mem_singleton.2 rfl⟩))) ?_
  refine OL.dp rfl ?_
  refine OL.det trivial (.ld rfl (part_gone (p := l[k]) (E := 36) (tot := 102) (List.mem_flatten.2 ⟨_, .tail _ (.tail _ (.tail _ (.tail _ (.head _)))), List.mem_singleton.2 rfl⟩))) ?_
  refine OL.det trivial (.build (fill_part7 rfl rfl rfl rfl rfl rfl rfl)) ?_
  refine OL.call trivial rfl (rAdd_fc (l := cms) ⟨rd_mem (hrr []) (by simp [GS]), fun x hx => (hcb x hx).rdS, by omega⟩ hpb.rdS hnr (new_rev hnew) (line_pls hg)) ?_
  rintro _ _ ⟨v1, sg40, rfl, rfl, hs40⟩
  obtain ⟨A1, c1, rfl, hn1, hc1, hr40⟩ := slv_rdL (w0 := w0) hs40
  refine OL.dp rfl ?_
  refine OL.dp rfl ?_
  refine OL.dp rfl ?_
  refine OL.dp rfl ?_
  refine OL.nil ?_
  refine hK3 _ _ ?_
  refine PW.k4 0 4 5 6 rfl rfl rfl rfl ?_
  refine PW.ops ?_
  refine OL.dp rfl ?_
  refine OL.det trivial (.add64 rfl rfl (by omega) (by omega)) ?_
  refine OL.dp rfl ?_
  refine OL.nil ?_
  repeat rw [inBlk_n]
  try rw [thenK_n]
  refine LoopEnd.mkS (gs_h) (T'' := [(0, _), (4, _), (5, _), (6, _)]) ⟨rfl, rfl, rfl, rfl, trivial⟩ ?_
  rw [ha0]
  exact ⟨l.length - (k + 1), by omega, k + 1, m1, cms ++ [l[k]], _, _, sg40, ⟨by omega, rfl, hg1, hs40, (fun x hx => by
   rcases List.mem_append.1 hx with hx | hx
   ·exact hcb x hx
   ·rw [List.mem_singleton.1 hx]; exact hpb), by rw [List.length_append]; simp only [List.length_cons, List.length_nil]; omega, by
   rw [pls_snoc, allV_cons, List.length_append, own_len]
   have : l[k].pl.lines.length = l[k].lines.length := rfl
   omega, by omega, hr1.trans hr⟩, rfl, rfl⟩
 try simp only [cvS] at c12
 refine PW.exit ?_
 refine hK1 _ _ ?_
 refine PW.k2 4 5 rfl rfl ?_
 refine PW.seqOps ?_
 refine OL.dp rfl ?_
 refine OL.dp rfl ?_
 refine OL.dp rfl ?_
 refine OL.dp rfl ?_
 refine OL.nil ?_
 refine PW.k2 2 3 rfl rfl ?_
 refine PW.ret ?_
 change (Exit.ret = Exit.normal ∨ Exit.ret = Exit.ret) /\ ∃ v, resV _ _ = some v /\ _
 rw [<- ptr_eq hr]
 exact ⟨.inr rfl, _, rfl, _, Sub.refl _, m, cms, _, _, sg, rfl, rfl, hg, hsr, hcb, by omega, by omega, by omega⟩
end Go.Proofs.Gr

namespace Go.Proofs.Gr
open Go.SL Go.RowKit Go.Proofs Go.GP
def Row (ps : List PartP) (L : List LineP) : Prop := L.Pairwise fun a b => a.v ≠ b.v /\ befP ps b.v a.v = false
section
variable {ps : List PartP} {L : List LineP}
theorem Row.at (h : Row ps L) {i j : Nat} (hi : i < j) (hj : j < L.length) : (L[i]'(by omega)).v ≠ L[j].v /\ befP ps L[j].v (L[i]'(by omega)).v = false :=
 List.pairwise_iff_getElem.1 h i j (by omega) hj hi
theorem Row.bef (h : Row ps L) {i j : Nat} (hi : i < j) (hj : j < L.length) (ho : ordP ps (L[i]'(by omega)).v L[j].v = true) : befP ps (L[i]'(by omega)).v L[j].v = true := by
 unfold ordP at ho
 rw [(h.at hi hj).2, Bool.or_false] at ho
 exact ho
theorem Row.ne (h : Row ps L) {i j : Nat} (hi : i < L.length) (hj : j < L.length) (hn : i ≠ j) : L[i].v ≠ L[j].v := by
 rcases Nat.lt_or_gt_of_ne hn with h1 | h1
 ·exact (h.at h1 hj).1
 exact (h.at h1 hi).1.symm
theorem solid_ix (h : Row ps L) {i : Nat} (hi : i < L.length) : solidP ps L L[i] = true ↔ ∀ (k : Nat) (hk : k < L.length), k ≠ i -> ordP ps L[i].v L[k].v = true := by
 unfold solidP
 rw [List.all_eq_true]
 constructor
 ·intro h1 k hk hn
  have := h1 L[k] (List.getElem_mem hk)
  rw [decide_eq_false (h.ne hi hk (fun e => hn e.symm)), Bool.false_or] at this
  exact this
 intro h1 x hx
 obtain ⟨k, hk, rfl⟩ := List.getElem_of_mem hx
 by_cases e : k = i
 ·subst e; simp
 rw [h1 k hk e, Bool.or_true]
theorem lone (hs : Sq ps) (h : Row ps L) {p : Nat} (hp : p < L.length) (hn : solidP ps L L[p] = false) (h1 : ∀ q, q + 1 = p -> ∀ hq : q < L.length, solidP ps L L[q] = true) (h2 : ∀ hq : p + 1 < L.length, solidP ps L L[p + 1] = true) : False := by
 have hall : solidP ps L L[p] = true := by
  rw [solid_ix h hp]
  intro k hk hne
  rcases Nat.lt_or_gt_of_ne hne with hlt | hgt
  ·-- k < p
   by_cases e : k + 1 = p
   ·have hs1 := (solid_ix h hk).1 (h1 k e hk) p hp (by omega)
    rw [ordP_comm]
    exact hs1
   have hq : p - 1 < L.length := by omega
   have hsq := (solid_ix h hq).1 (h1 (p - 1) (by omega) hq)
   have b1 := h.bef (i := k) (j := p - 1) (by omega) hq (by rw [ordP_comm]; exact hsq k hk (by omega))
   have b2 := h.bef (i := p - 1) (j := p) (by omega) hp (hsq p hp (by omega))
   unfold ordP
   rw [befP_trans hs b1 b2, Bool.or_true]
  by_cases e : k = p + 1
  ·subst e
   have hs1 := (solid_ix h hk).1 (h2 hk) p hp (by omega)
   rw [ordP_comm]
   exact hs1
  have hq : p + 1 < L.length := by omega
  have hsq := (solid_ix h hq).1 (h2 hq)
  have b1 := h.bef (i := p) (j := p + 1) (by omega) hq (by rw [ordP_comm]; exact hsq p hp (by omega))
  have b2 := h.bef (i := p + 1) (j := k) (by omega) hk (hsq k hk (by omega))
  unfold ordP
  rw [befP_trans hs b1 b2, Bool.true_or]
 rw [hn] at hall
 cases hall
structure GoodI (ps : List PartP) (L : List LineP) (I : List ItemP) : Prop where
 one : ∀ x ∈ I, (x.block = true -> 2 <= x.lines.length) /\ (x.block = false -> x.lines.length = 1) /\ ∀ y ∈ x.lines, solidP ps L y = !x.block
 adj : ∀ (i : Nat) (a b : ItemP), I[i]? = some a -> I[i + 1]? = some b -> a.block = true -> b.block = true -> False
theorem GoodI.snoc {I : List ItemP} {x : ItemP} (h : GoodI ps L I) (h1 : (x.block = true -> 2 <= x.lines.length) /\ (x.block = false -> x.lines.length = 1) /\ ∀ y ∈ x.lines, solidP ps L y = !x.block)
  (h2 : x.block = true -> ∀ a, I.getLast? = some a -> a.block = false) : GoodI ps L (I ++ [x]) where
 one := fun y hy => by
  rcases List.mem_append.1 hy with hy | hy
  ·exact h.one y hy
  rw [List.mem_singleton.1 hy]; exact h1
 adj := fun i a b ha hb hab hbb => by
  have hi := (List.getElem?_eq_some_iff.1 hb).1
  rw [List.length_append] at hi
  simp only [List.length_cons, List.length_nil] at hi
  rw [List.getElem?_append_left (by omega)] at ha
  by_cases e : i + 1 < I.length
  ·rw [List.getElem?_append_left e] at hb
   exact h.adj i a b ha hb hab hbb
  have e2 : i + 1 = I.length := by omega
  rw [List.getElem?_append_right (by omega), e2, Nat.sub_self] at hb
  have hbx : x = b := by simpa using hb
  subst hbx
  have := h2 hbb a (by rw [List.getLast?_eq_getElem?, <- ha]; congr 1; omega)
  rw [hab] at this
  cases this
structure St (ps : List PartP) (L : List LineP) (k : Nat) (I : List ItemP) (op : List LineP) : Prop where
 good : GoodI ps L I
 all : I.flatMap (·.lines) ++ op = L.take k
 last : ∀ a, I.getLast? = some a -> a.block = false
 open_ : ∀ x ∈ op, solidP ps L x = false
 ahead : ∀ q, q + op.length + 1 = k -> ∀ hq : q < L.length, solidP ps L L[q] = true
theorem St.opLen {k : Nat} {I : List ItemP} {op : List LineP} (h : St ps L k I op) (hk : k <= L.length) : op.length <= k := by
 have := congrArg List.length h.all
 rw [List.length_append, List.length_take] at this
 omega
theorem St.opAt {k : Nat} {I : List ItemP} {op : List LineP} (h : St ps L k I op) (hk : k <= L.length) {x : LineP} (hx : op = [x]) : ∃ p, ∃ hp : p < L.length, p + 1 = k /\ L[p] = x := by
 subst hx
 have hl := congrArg List.length h.all
 rw [List.length_append, List.length_take] at hl
 simp only [List.length_cons, List.length_nil] at hl
 refine ⟨k - 1, by omega, by omega, ?_⟩
 have e : (L.take k)[k - 1]? = some x := by
  rw [<- h.all, List.getElem?_append_right (by omega), show k - 1 - (I.flatMap (·.lines)).length = 0 by omega]
  rfl
 rw [List.getElem?_take_of_lt (by omega), List.getElem?_eq_getElem (by omega)] at e
 exact Option.some.inj e
theorem St.shut {k : Nat} {I : List ItemP} {op : List LineP} (hs : Sq ps) (hr : Row ps L) (h : St ps L k I op) (hk : k <= L.length) (hn : ∀ hq : k < L.length, solidP ps L L[k] = true) :
  GoodI ps L (I ++ shut ps op) /\ (I ++ shut ps op).flatMap (·.lines) = L.take k := by
 unfold Gr.shut
 by_cases e : op = []
 ·rw [if_pos e, List.append_nil]
  have := h.all
  rw [e, List.append_nil] at this
  exact ⟨h.good, this⟩
 rw [if_neg e]
 refine ⟨h.good.snoc ⟨fun _ => ?_, (fun hb => by cases hb), fun y hy => h.open_ y hy⟩ fun _ => h.last, ?_⟩
 ·show 2 <= op.length
  match op, e, h with
  | [x], _, h =>
   exfalso
   obtain ⟨p, hp, hpk, hx⟩ := h.opAt hk rfl
   have hns : solidP ps L L[p] = false := by rw [hx]; exact h.open_ x (by simp)
   subst hpk
   exact lone hs hr hp hns (fun q hq hql => h.ahead q (by simp only [List.length_cons, List.length_nil]; omega) hql) hn
  | _ :: _ :: _, _, _ => simp only [List.length_cons]; omega
 rw [List.flatMap_append, <- h.all]
 simp [blockP]
theorem St.step {k : Nat} {I : List ItemP} {op : List LineP} (hs : Sq ps) (hr : Row ps L) (h : St ps L k I op) (hk : k < L.length) : St ps L (k + 1) (stepI ps L (I, op) L[k]).1 (stepI ps L (I, op) L[k]).2 := by
 unfold stepI
 by_cases e : solidP ps L L[k] = true
 ·rw [if_pos e]
  obtain ⟨g, a⟩ := h.shut hs hr (by omega) (fun _ => e)
  refine ⟨g.snoc ⟨(fun hb => by cases hb), fun _ => rfl, fun y hy => ?_⟩ (fun hb => by cases hb), ?_, fun a ha => ?_, (fun x hx => by cases hx), fun q hq hql => ?_⟩
  ·rw [List.mem_singleton.1 hy]; exact e
  ·show (I ++ Gr.shut ps op ++ [(⟨[L[k]], false, []⟩ : ItemP)]).flatMap (fun x : ItemP => x.lines) ++ [] = _
   rw [List.flatMap_append, a, List.append_nil, ltake_snoc hk]
   rfl
  ·have : (I ++ Gr.shut ps op ++ [(⟨[L[k]], false, []⟩ : ItemP)]).getLast? = some ⟨[L[k]], false, []⟩ := by rw [List.getLast?_append]; rfl
   rw [show (I ++ Gr.shut ps op ++ [(⟨[L[k]], false, []⟩ : ItemP)]).getLast? = some a from ha] at this
   cases this
   rfl
  have : q = k := by simp only [List.length_nil] at hq; omega
  subst this
  exact e
 rw [if_neg e]
 refine ⟨h.good, ?_, h.last, fun x hx => ?_, fun q hq hql => h.ahead q ?_ hql⟩
 ·show I.flatMap (·.lines) ++ (op ++ [L[k]]) = _
  rw [<- List.append_assoc, h.all, ltake_snoc hk]
 ·rcases List.mem_append.1 hx with hx | hx
  ·exact h.open_ x hx
  rw [List.mem_singleton.1 hx]
  exact Bool.eq_false_iff.2 e
 have : (op ++ [L[k]]).length = op.length + 1 := by simp
 have hq : q + (op ++ [L[k]]).length + 1 = k + 1 := hq
 omega
theorem St.fold (hs : Sq ps) (hr : Row ps L) : ∀ k, k <= L.length -> St ps L k (foldI ps L k).1 (foldI ps L k).2
 | 0, _ => ⟨⟨(fun x hx => by cases hx), fun i a b ha => by cases ha⟩, rfl, (fun a ha => by cases ha), (fun x hx => by cases hx), fun q hq => by omega⟩
 | k + 1, hk => by
  have := (St.fold hs hr k (by omega)).step hs hr hk
  rw [foldI_succ hk]
  exact this
theorem itemsL_good (hs : Sq ps) (hr : Row ps L) : GoodI ps L (itemsL ps L) /\ (itemsL ps L).flatMap (·.lines) = L := by
 have := (St.fold hs hr L.length (Nat.le_refl _)).shut hs hr (Nat.le_refl _) fun h => absurd h (Nat.lt_irrefl _)
 rw [List.take_length] at this
 exact this
theorem linesP_row {ps : List PartP} (hs : Sq ps) : Row ps (live (linesP ps)) := by
 refine List.Pairwise.sublist List.filter_sublist ?_
 rw [List.pairwise_iff_getElem]
 intro i j hi hj hij
 refine ⟨fun e => ?_, linesP_order hs hj (by omega)⟩
 have hn := topoF_nodup hs
 have hlt : (linesP ps).length = (topoF ps).length := List.length_map _
 have e1 : ∀ (k : Nat) (hk : k < (linesP ps).length), (linesP ps)[k].v = (topoF ps)[k]'(by omega) := fun k hk => by simp [linesP, lineP]
 rw [e1, e1] at e
 have := (List.getElem_inj hn).1 e
 omega
theorem itemsP_good {ps : List PartP} (hs : Sq ps) : GoodI ps (live (linesP ps)) (itemsP ps) /\ (itemsP ps).flatMap (·.lines) = live (linesP ps) := itemsL_good hs (linesP_row hs)
end
end Go.Proofs.Gr



namespace Go.Proofs.Gr
open Go.SL Go.RowKit Go.Proofs Go.GP
set_option maxHeartbeats 1000000
theorem bef_line {l : List PartM} (hsq : Sq (pls l).reverse) {a b : Vtx} (ha : a ∈ allV (pls l)) (hb : b ∈ allV (pls l)) (hab : a ≠ b) : befP (pls l).reverse a b = true ↔ Rch (allE (pls l)) a b := by
 have hv : ∀ v ∈ allV (pls l), v ∈ allV (pls l).reverse := fun v hv => by
  obtain ⟨p, hp, hv⟩ := mem_allV.1 hv
  exact mem_allV.2 ⟨p, List.mem_reverse.2 hp, hv⟩
 have he : ∀ e, e ∈ allE (pls l).reverse ↔ e ∈ allE (pls l) := fun e => by simp only [mem_allE, List.mem_reverse]
 rw [befP_iff]
 obtain ⟨a1, a2⟩ := hsq.line (hv a ha)
 obtain ⟨b1, b2⟩ := hsq.line (hv b hb)
 constructor
 ·intro h
  exact ((h.2.2.2.2.2.resolve_left a1).resolve_left b2).mono fun e h => (he e).1 h
 intro h
 exact ⟨.inr (.inr (hv a ha)), .inr (.inr (hv b hb)), hab, a2, b1, .inr (.inr (h.mono fun e h => (he e).2 h))⟩
theorem rBefL_fc {w0 : World} {S : SS} {A : Option Addr} {c : Nat} {l : List PartM} {a b : Vtx} (h : PartsRd w0 S A l) (hsq : Sq (pls l).reverse) (ha : a ∈ allV (pls l)) (hb : b ∈ allV (pls l)) (hab : a ≠ b) :
  FC Try.prog w0 95 [.slice A l.length c, vtxV a, vtxV b] S (fun v S' => v = .bool (befP (pls l).reverse a b) /\ S' = S) := by
 have hv : ∀ v ∈ allV (pls l), v ∈ allV (pls l).reverse := fun v hv => by
  obtain ⟨p, hp, hv⟩ := mem_allV.1 hv
  exact mem_allV.2 ⟨p, List.mem_reverse.2 hp, hv⟩
 obtain ⟨a1, a2⟩ := hsq.line (hv a ha)
 obtain ⟨b1, b2⟩ := hsq.line (hv b hb)
 exact rBefA_fc h ha hb hab a2 b1 a1 b2 (bef_line hsq ha hb hab)
theorem rOrd_fc {w0 : World} {S : SS} {A : Option Addr} {c : Nat} {l : List PartM} {a b : Vtx} (h : PartsRd w0 S A l) (hsq : Sq (pls l).reverse) (ha : a ∈ allV (pls l)) (hb : b ∈ allV (pls l)) (hab : a ≠ b) :
  FC Try.prog w0 75 [.slice A l.length c, vtxV a, vtxV b] S (fun v S' => v = .bool (ordP (pls l).reverse a b) /\ S' = S) := by
 refine FC.ofD Try.known75 (by simp) ?_
 unfold Try.pc75
 simp only [argT]
 refine PW.seqOps ?_
 refine OL.cons trivial (OW.bx rfl) ?_
 rintro _ _ ⟨r4, rfl, rfl⟩
 rw [vtx_box, vtxL_len]
 refine OL.cons trivial (OW.bx rfl) ?_
 rintro _ _ ⟨r5, rfl, rfl⟩
 rw [vtx_box, vtxL_len]
 refine OL.dp rfl ?_
 refine OL.nil ?_
 refine PW.k3 0 4 5 rfl rfl rfl ?_
 refine PW.seqOps ?_
 refine OL.dp rfl ?_
 refine OL.det trivial (.ldA rfl (vtxL_len _) (all_at (List.mem_flatten.2 ⟨_, .tail _ (.head _), List.mem_singleton.2 rfl⟩))) ?_
 refine OL.det trivial (.ldA rfl (vtxL_len _) (all_at (List.mem_flatten.2 ⟨_, .head _, List.mem_singleton.2 rfl⟩))) ?_
 refine OL.call trivial rfl (rBefL_fc h.cons.cons hsq ha hb hab) ?_
 rintro _ Sx ⟨rfl, hSx⟩
 rw [hSx]
 clear hSx
 refine OL.bool trivial (Yields.pure rfl) (fun g11 => ?_) (fun g11 => ?_)
 ·try simp only [cvS] at g11
  refine OL.off rfl rfl ?_
  refine OL.off rfl rfl ?_
  refine OL.off rfl rfl ?_
  refine OL.off rfl rfl ?_
  refine OL.dp rfl ?_
  refine OL.dp rfl ?_
  refine OL.nil ?_
  refine PW.k1 6 rfl ?_
  refine PW.ret ?_
  change (Exit.ret = Exit.normal ∨ Exit.ret = Exit.ret) /\ ∃ v, resV _ _ = some v /\ _
  exact ⟨.inr rfl, _, rfl, _, Sub.drop (Sub.drop (Sub.refl _)), by unfold ordP; rw [g11]; rfl, rfl⟩
 try simp only [cvS] at g11
 refine OL.det rfl (.pure rfl) ?_
 refine OL.det rfl (.ldA rfl (vtxL_len _) (all_at (List.mem_flatten.2 ⟨_, .head _, List.mem_singleton.2 rfl⟩))) ?_
 refine OL.det rfl (.ldA rfl (vtxL_len _) (all_at (List.mem_flatten.2 ⟨_, .tail _ (.head _), List.mem_singleton.2 rfl⟩))) ?_
 refine OL.call rfl rfl (rBefL_fc h.cons.cons hsq hb ha hab.symm) ?_
 rintro _ Sx ⟨rfl, hSx⟩
 rw [hSx]
 clear hSx
 refine OL.dp rfl ?_
 refine OL.dp rfl ?_
 refine OL.nil ?_
 refine PW.k1 6 rfl ?_
 refine PW.ret ?_
 change (Exit.ret = Exit.normal ∨ Exit.ret = Exit.ret) /\ ∃ v, resV _ _ = some v /\ _
 exact ⟨.inr rfl, _, rfl, _, Sub.drop (Sub.drop (Sub.refl _)), by unfold ordP; rw [g11]; rfl, rfl⟩
theorem rSolid_fc {w0 : World} {S : SS} {A B : Option Addr} {c d i : Nat} {l : List PartM} {L : List LineP} {r : Bool} (h : PartsRd w0 S A l) (hsq : Sq (pls l).reverse) (hx : Rd w0 S B (lines L)) (hv : ∀ x ∈ L, x.v ∈ allV (pls l)) (hnd : ∀ (j k : Nat) (hj : j < L.length) (hk : k < L.length), j ≠ k -> L[j].v ≠ L[k].v) (hi : i < L.length) (hb : L.length <= 1000000)
  (hr : r = true ↔ ∀ (k : Nat) (hk : k < L.length), k ≠ i -> ordP (pls l).reverse L[i].v L[k].v = true) : FC Try.prog w0 74 [.slice A l.length c, .slice B L.length d, .int .i64 (i : Int)] S (fun v S' => v = .bool r /\ S' = S) := by
 obtain ⟨a0, rfl⟩ := lines_some hx (by omega)
 refine FC.of Try.known74 (by simp) ?_
 unfold Try.pc74
 simp only [argT]
 refine PW.seqOps ?_
 refine OL.dp rfl ?_
 refine OL.nil ?_
 refine PW.k3 0 1 2 rfl rfl rfl ?_
 refine PW.seq fun K1 hK1 => ?_
 refine PW.seqOps ?_
 refine OL.dp rfl ?_
 refine OL.nil ?_
 refine PW.k4 0 1 2 7 rfl rfl rfl rfl ?_
 refine PW.block ?_
 refine PW.k4 0 1 2 7 rfl rfl rfl rfl ?_
 refine PW.loopK (I := fun mm T S' => ∃ k : Nat, (k <= L.length /\ mm = L.length - k /\ ∀ (j : Nat) (hj : j < L.length), j < k -> j ≠ i -> ordP (pls l).reverse L[i].v L[j].v = true) /\ T = ([(0, .slice A l.length c), (1, .slice (some a0) L.length d), (2, .int .i64 (i : Int)), (7, .int .i64 k)] : TT) /\ S' = S) (m := L.length) ⟨0, ⟨by omega, by omega, fun j _ h => absurd h (Nat.not_lt_zero j)⟩, rfl, rfl⟩ ?_
 rintro mm _ _ ⟨k, ⟨hk, hmm, hall⟩, rfl, rfl⟩
 refine PW.seq fun K2 hK2 => ?_
 refine PW.seqOps ?_
 refine OL.dp rfl ?_
 refine OL.dp rfl ?_
 refine OL.dp rfl ?_
 refine OL.dp rfl ?_
 refine OL.nil ?_
 refine PW.k5 0 1 2 7 11 rfl rfl rfl rfl rfl ?_
 refine PW.cond rfl (fun c11 => ?_) (fun c11 => ?_)
 ·try simp only [cvS] at c11
  have hkl : k < L.length := by omega
  refine PW.skip ?_
  refine hK2 _ _ ?_
  refine PW.k4 0 1 2 7 rfl rfl rfl rfl ?_
  refine PW.seq fun K3 hK3 => ?_
  refine PW.block ?_
  refine PW.seq fun K4 hK4 => ?_
  refine PW.quietK Try.mixed ?_
  refine QK.dp rfl ?_
  refine QK.dp rfl ?_
  refine QK.dp rfl ?_
  refine QK.bool trivial (Yields.pure rfl) (fun g17 => ?_) (fun g17 => ?_)
  ·try simp only [cvS] at g17
   refine QK.det rfl (.pure rfl) ?_
   refine QK.det rfl (.pure rfl) ?_
   refine QK.det rfl (.pure rfl) ?_
   refine QK.det rfl (.ixN rfl rfl rfl hi) ?_
   refine QK.det rfl (.pure rfl) ?_
   refine QK.det rfl (.ldA rfl (vtxL_len _) (line_vtx hx hi)) ?_
   refine QK.det rfl (.pure rfl) ?_
   refine QK.det rfl (.pure rfl) ?_
   refine QK.det rfl (.ixN rfl rfl rfl hkl) ?_
   refine QK.det rfl (.pure rfl) ?_
   refine QK.det rfl (.ldA rfl (vtxL_len _) (line_vtx hx hkl)) ?_
   refine QK.nil ?_
   change OL _ _ _ [_, _, _] _ _ _
   refine OL.call rfl rfl (rOrd_fc h hsq (hv _ (List.getElem_mem hi)) (hv _ (List.getElem_mem hkl)) (hnd _ _ hi hkl (by omega))) ?_
   rintro _ Sx ⟨rfl, hSx⟩
   rw [hSx]
   clear hSx
   refine OL.det rfl (.pure rfl) ?_
   refine OL.dp rfl ?_
   refine OL.nil ?_
   refine hK4 _ _ ?_
   refine PW.k5 0 1 2 7 31 rfl rfl rfl rfl rfl ?_
   refine PW.cond rfl (fun c31 => ?_) (fun c31 => ?_)
   ·try simp only [cvS] at c31
    refine PW.seqOps ?_
    refine OL.dp rfl ?_
    refine OL.nil ?_
    refine PW.k1 6 rfl ?_
    refine PW.ret ?_
    change (Exit.ret = Exit.normal ∨ Exit.ret = Exit.ret) /\ ∃ v, resV _ _ = some v /\ _
    exact ⟨.inr rfl, _, rfl, congrArg Value.bool (Bool.eq_false_iff.2 fun h => by
     have := hr.1 h k hkl (by omega)
     rw [c31] at this
     cases this).symm, rfl⟩
   try simp only [cvS] at c31
   refine PW.skip ?_
   refine hK3 _ _ ?_
   refine PW.k4 0 1 2 7 rfl rfl rfl rfl ?_
   refine PW.ops ?_
   refine OL.dp rfl ?_
   refine OL.det trivial (.add64 rfl rfl (by omega) (by omega)) ?_
   refine OL.dp rfl ?_
   refine OL.nil ?_
   repeat rw [inBlk_n]
   try rw [thenK_n]
   refine LoopEnd.mk (T'' := [(0, _), (1, _), (2, _), (7, _)]) ⟨rfl, rfl, rfl, rfl, trivial⟩ ?_
   exact ⟨L.length - (k + 1), by omega, k + 1, ⟨by omega, rfl, fun j hj hjk hn => by
    by_cases e : j = k
    ·subst e; exact c31
    exact hall j hj (by omega) hn⟩, rfl, rfl⟩
  try simp only [cvS] at g17
  refine QK.off rfl rfl ?_
  refine QK.off rfl rfl ?_
  refine QK.off rfl rfl ?_
  refine QK.off rfl rfl ?_
  refine QK.off rfl rfl ?_
  refine QK.off rfl rfl ?_
  refine QK.off rfl rfl ?_
  refine QK.off rfl rfl ?_
  refine QK.off rfl rfl ?_
  refine QK.off rfl rfl ?_
  refine QK.off rfl rfl ?_
  refine QK.nil ?_
  change OL _ _ _ [_, _, _] _ _ _
  refine OL.off rfl rfl ?_
  refine OL.off rfl rfl ?_
  refine OL.dp rfl ?_
  refine OL.nil ?_
  refine hK4 _ _ ?_
  refine PW.k5 0 1 2 7 31 rfl rfl rfl rfl rfl ?_
  refine PW.ite (b := false) rfl ?_
  rw [if_neg Bool.false_ne_true]
  refine PW.skip ?_
  refine hK3 _ _ ?_
  refine PW.k4 0 1 2 7 rfl rfl rfl rfl ?_
  refine PW.ops ?_
  refine OL.dp rfl ?_
  refine OL.det trivial (.add64 rfl rfl (by omega) (by omega)) ?_
  refine OL.dp rfl ?_
  refine OL.nil ?_
  repeat rw [inBlk_n]
  try rw [thenK_n]
  refine LoopEnd.mk (T'' := [(0, _), (1, _), (2, _), (7, _)]) ⟨rfl, rfl, rfl, rfl, trivial⟩ ?_
  exact ⟨L.length - (k + 1), by omega, k + 1, ⟨by omega, rfl, fun j hj hjk hn => by
   by_cases e : j = k
   ·exact absurd e (by omega)
   exact hall j hj (by omega) hn⟩, rfl, rfl⟩
 try simp only [cvS] at c11
 refine PW.exit ?_
 refine hK1 _ _ ?_
 refine PW.keep (T' := []) trivial ?_
 refine PW.seqOps ?_
 refine OL.dp rfl ?_
 refine OL.nil ?_
 refine PW.k1 6 rfl ?_
 refine PW.ret ?_
 change (Exit.ret = Exit.normal ∨ Exit.ret = Exit.ret) /\ ∃ v, resV _ _ = some v /\ _
 exact ⟨.inr rfl, _, rfl, congrArg Value.bool (hr.2 fun j hj hn => hall j hj (by omega) hn).symm, rfl⟩
theorem numbers_fc {w0 : World} {S : SS} {A B : Option Addr} {c d : Nat} {l : List Int} (hx : Rd w0 S A (ints l)) (hy : Rd w0 S B (ints l)) (hb : l.length <= 1000000000000) :
  FC Try.prog w0 38 [.slice A l.length c, .slice B l.length d] S (fun u S' => u = .bool true /\ S' = S) := by
 refine FC.of Try.known38 (by simp) ?_
 unfold Try.pc38
 simp only [argT]
 refine PW.seqOps ?_
 refine OL.dp rfl ?_
 refine OL.nil ?_
 refine PW.k2 0 1 rfl rfl ?_
 refine PW.seq fun K1 hK1 => ?_
 refine PW.seqOps ?_
 refine OL.dp rfl ?_
 refine OL.dp rfl ?_
 refine OL.dp rfl ?_
 refine OL.dp rfl ?_
 refine OL.det trivial (.to (v' := .bool false) (Yields.pure rfl) (congrArg Value.bool (by simp))) ?_
 refine OL.nil ?_
 refine PW.k3 0 1 10 rfl rfl rfl ?_
 refine PW.ite (b := false) rfl ?_
 rw [if_neg Bool.false_ne_true]
 refine PW.skip ?_
 refine hK1 _ _ ?_
 refine PW.k2 0 1 rfl rfl ?_
 refine PW.seq fun K2 hK2 => ?_
 refine PW.seqOps ?_
 refine OL.dp rfl ?_
 refine OL.nil ?_
 refine PW.k3 0 1 5 rfl rfl rfl ?_
 refine PW.block ?_
 refine PW.k3 0 1 5 rfl rfl rfl ?_
 refine PW.loopK (I := fun mm T S' => ∃ (k : Nat), (k <= l.length /\ mm = l.length - k) /\ T = ([(0, .slice A l.length c), (1, .slice B l.length d), (5, .int .i64 k)] : TT) /\ S' = S) (m := l.length) ⟨0, ⟨by omega, by omega⟩, rfl, rfl⟩ ?_
 rintro mm _ _ ⟨k, ⟨hk, hmm⟩, rfl, rfl⟩
 refine PW.seq fun K3 hK3 => ?_
 refine PW.seqOps ?_
 refine OL.dp rfl ?_
 refine OL.dp rfl ?_
 refine OL.dp rfl ?_
 refine OL.dp rfl ?_
 refine OL.nil ?_
 refine PW.k4 0 1 5 14 rfl rfl rfl rfl ?_
 refine PW.cond rfl (fun c14 => ?_) (fun c14 => ?_)
 ·try simp only [cvS] at c14
  have hkl : k < l.length := by omega
  obtain ⟨a0, rfl⟩ := ints_some hx (by omega)
  obtain ⟨b0, rfl⟩ := ints_some hy (by omega)
  refine PW.skip ?_
  refine hK3 _ _ ?_
  refine PW.k3 0 1 5 rfl rfl rfl ?_
  refine PW.seq fun K4 hK4 => ?_
  refine PW.block ?_
  refine PW.seq fun K5 hK5 => ?_
  refine PW.quietK Try.mixed ?_
  refine QK.dp rfl ?_
  refine QK.dp rfl ?_
  refine QK.det trivial (.ixN1 rfl rfl rfl (by omega)) ?_
  refine QK.det trivial (.ld rfl (ints_at hx hkl)) ?_
  refine QK.dp rfl ?_
  refine QK.dp rfl ?_
  refine QK.det trivial (.ixN1 rfl rfl rfl (by omega)) ?_
  refine QK.det trivial (.ld rfl (ints_at hy hkl)) ?_
  refine QK.nil ?_
  change OL _ _ _ [_] _ _ _
  refine OL.det trivial (.to (v' := .bool false) (Yields.pure rfl) (congrArg Value.bool (by simp))) ?_
  refine OL.nil ?_
  refine hK5 _ _ ?_
  refine PW.k4 0 1 5 25 rfl rfl rfl rfl ?_
  refine PW.ite (b := false) rfl ?_
  rw [if_neg Bool.false_ne_true]
  refine PW.skip ?_
  refine hK4 _ _ ?_
  refine PW.k3 0 1 5 rfl rfl rfl ?_
  refine PW.ops ?_
  refine OL.dp rfl ?_
  refine OL.det trivial (.add64 rfl rfl (by omega) (by omega)) ?_
  refine OL.dp rfl ?_
  refine OL.nil ?_
  repeat rw [inBlk_n]
  try rw [thenK_n]
  refine LoopEnd.mk (T'' := [(0, _), (1, _), (5, _)]) ⟨rfl, rfl, rfl, trivial⟩ ?_
  exact ⟨l.length - (k + 1), by omega, k + 1, ⟨by omega, rfl⟩, rfl, rfl⟩
 try simp only [cvS] at c14
 refine PW.exit ?_
 refine hK2 _ _ ?_
 refine PW.keep (T' := []) trivial ?_
 refine PW.seqOps ?_
 refine OL.dp rfl ?_
 refine OL.nil ?_
 refine PW.k1 4 rfl ?_
 refine PW.ret ?_
 change (Exit.ret = Exit.normal ∨ Exit.ret = Exit.ret) /\ ∃ v, resV _ _ = some v /\ _
 exact ⟨.inr rfl, _, rfl, rfl, rfl⟩
end Go.Proofs.Gr

namespace Go.Proofs.Gr
open Go.SL Go.RowKit Go.Proofs Go.GP
set_option maxHeartbeats 1000000
theorem cmp_at : ∀ {x y : List UInt8} {k : Nat} (hx : k < x.length) (hy : k < y.length), x.take k = y.take k -> x[k] ≠ y[k] -> Lib.compareBytes x y = if x[k] < y[k] then -1 else 1
 | a :: x, b :: y, 0, _, _, _, hn => by
  simp only [List.getElem_cons_zero] at hn ⊢
  unfold Lib.compareBytes
  by_cases h1 : a < b
  ·rw [if_pos h1, if_pos h1]
  rw [if_neg h1, if_neg h1, if_pos]
  have h3 : a.toNat ≠ b.toNat := fun e => hn (UInt8.toNat_inj.1 e)
  rw [UInt8.lt_iff_toNat_lt] at h1 ⊢
  omega
 | a :: x, b :: y, k + 1, hx, hy, ht, hn => by
  rw [List.take_succ_cons, List.take_succ_cons] at ht
  obtain ⟨rfl, ht2⟩ := List.cons.inj ht
  simp only [List.getElem_cons_succ] at hn ⊢
  have hx' : k < x.length := by simpa using hx
  have hy' : k < y.length := by simpa using hy
  have := cmp_at hx' hy' ht2 hn
  unfold Lib.compareBytes
  rw [if_neg (UInt8.lt_irrefl a), if_neg (UInt8.lt_irrefl a)]
  exact this
theorem cmp_self : ∀ (x : List UInt8), Lib.compareBytes x x = 0
 | [] => rfl
 | a :: x => by
  unfold Lib.compareBytes
  rw [if_neg (UInt8.lt_irrefl a), if_neg (UInt8.lt_irrefl a)]
  exact cmp_self x
theorem hlen (v : Vtx) : v.1.1.length = 32 := v.1.2
theorem lt_at {a b : Vtx} {k : Nat} (hx : k < a.1.1.length) (hy : k < b.1.1.length) (ht : a.1.1.take k = b.1.1.take k) (hn : a.1.1[k] ≠ b.1.1[k]) : ltV a b = decide ((a.1.1[k].toNat : Int) < b.1.1[k].toNat) := by
 unfold ltV ordV orL
 rw [cmp_at hx hy ht hn]
 by_cases h : a.1.1[k] < b.1.1[k]
 ·rw [if_pos h]
  have := UInt8.lt_iff_toNat_lt.1 h
  rw [decide_eq_true (show (a.1.1[k].toNat : Int) < b.1.1[k].toNat by omega)]
  rfl
 rw [if_neg h]
 have h2 : ¬ a.1.1[k].toNat < b.1.1[k].toNat := fun h3 => h (UInt8.lt_iff_toNat_lt.2 h3)
 rw [decide_eq_false (show ¬ (a.1.1[k].toNat : Int) < b.1.1[k].toNat by omega)]
 rfl
theorem lt_end {a b : Vtx} (h : a.1.1 = b.1.1) : ltV a b = decide (a.2 < b.2) := by
 unfold ltV ordV
 rw [h, cmp_self]
 unfold orL
 rw [if_neg (by simp)]
 unfold orL cmpI
 by_cases h1 : a.2 < b.2
 ·simp [h1]
 by_cases h2 : a.2 > b.2
 ·simp [h1, h2]
 simp [h1, h2, orL]
theorem vbyte {w0 : World} {S : SS} {r E tot k : Nat} {v : Vtx} (hm : (r, AO.cells (vtxL v) E tot) ∈ S.flatten) (hk : k < v.1.1.length) : Cell w0 S (((⟨r, 0, none⟩ : Addr).add 0).add k) (.int .u8 (v.1.1[k].toNat : Int)) := by
 rw [addr_add_add, Nat.zero_add]
 refine all_at hm k _ ?_
 have hb : (bytesC v.1.1).length = v.1.1.length := by simp [bytesC]
 unfold vtxL
 rw [List.getElem?_append_left (by omega)]
 simp [bytesC, hk]
theorem vnum {w0 : World} {S : SS} {r E tot : Nat} {v : Vtx} (hm : (r, AO.cells (vtxL v) E tot) ∈ S.flatten) : Cell w0 S ⟨r, 32, none⟩ (.int .i64 v.2) := own_at hm (by
 have hb : (bytesC v.1.1).length = 32 := by simp [bytesC, hlen]
 unfold vtxL
 rw [List.getElem?_append_right (by omega), hb]
 rfl)
theorem rLess_fc {w0 : World} {S : SS} {a b : Vtx} : FC Try.prog w0 113 [vtxV a, vtxV b] S (fun v S' => v = .bool (ltV a b) /\ S' = S) := by
 have hla := hlen a
 have hlb := hlen b
 refine FC.ofD Try.known113 (by simp) ?_
 unfold Try.pc113
 simp only [argT]
 refine PW.seqOps ?_
 refine OL.cons trivial (OW.bx rfl) ?_
 rintro _ _ ⟨r2, rfl, rfl⟩
 rw [vtx_box, vtxL_len]
 refine OL.cons trivial (OW.bx rfl) ?_
 rintro _ _ ⟨r3, rfl, rfl⟩
 rw [vtx_box, vtxL_len]
 refine OL.dp rfl ?_
 refine OL.nil ?_
 refine PW.k2 2 3 rfl rfl ?_
 refine PW.seq fun K1 hK1 => ?_
 refine PW.seqOps ?_
 refine OL.dp rfl ?_
 refine OL.nil ?_
 refine PW.k3 2 3 5 rfl rfl rfl ?_
 refine PW.block ?_
 refine PW.k3 2 3 5 rfl rfl rfl ?_
 refine PW.loopK (I := fun mm T S' => ∃ k : Nat, (k <= 32 /\ mm = 32 - k /\ a.1.1.take k = b.1.1.take k) /\ T = ([(2, .pointer (some ⟨r2, 0, none⟩)), (3, .pointer (some ⟨r3, 0, none⟩)), (5, .int .i64 k)] : TT) /\ S' = vseg r3 b :: vseg r2 a :: S) (m := 32) ⟨0, ⟨by omega, by omega, by simp⟩, rfl, rfl⟩ ?_
 rintro mm _ _ ⟨k, ⟨hk, hmm, hall⟩, rfl, rfl⟩
 refine PW.seq fun K2 hK2 => ?_
 refine PW.seqOps ?_
 refine OL.dp rfl ?_
 refine OL.dp rfl ?_
 refine OL.nil ?_
 refine PW.k4 2 3 5 7 rfl rfl rfl rfl ?_
 refine PW.cond rfl (fun c7 => ?_) (fun c7 => ?_)
 ·try simp only [cvS] at c7
  refine PW.skip ?_
  refine hK2 _ _ ?_
  refine PW.k3 2 3 5 rfl rfl rfl ?_
  refine PW.seq fun K3 hK3 => ?_
  refine PW.block ?_
  refine PW.seq fun K4 hK4 => ?_
  refine PW.quietK Try.mixed ?_
  refine QK.dp rfl ?_
  refine QK.dp rfl ?_
  refine QK.det trivial (Yields.ixA1 rfl rfl rfl (by omega)) ?_
  refine QK.det trivial (.ld rfl (vbyte (v := a) (E := 32) (tot := 33) (List.mem_flatten.2 ⟨_, .tail _ (.head _), List.mem_singleton.2 rfl⟩) (by omega))) ?_
  refine QK.dp rfl ?_
  refine QK.dp rfl ?_
  refine QK.det trivial (Yields.ixA1 rfl rfl rfl (by omega)) ?_
  refine QK.det trivial (.ld rfl (vbyte (v := b) (E := 32) (tot := 33) (List.mem_flatten.2 ⟨_, .head _, List.mem_singleton.2 rfl⟩) (by omega))) ?_
  refine QK.nil ?_
  change OL _ _ _ [_] _ _ _
  refine OL.dp rfl ?_
  refine OL.nil ?_
  refine hK4 _ _ ?_
  refine PW.k4 2 3 5 18 rfl rfl rfl rfl ?_
  refine PW.cond rfl (fun c18 => ?_) (fun c18 => ?_)
  ·try simp only [cvS] at c18
   refine PW.seq fun K5 hK5 => ?_
   refine PW.quietK Try.mixed ?_
   refine QK.dp rfl ?_
   refine QK.dp rfl ?_
   refine QK.det trivial (Yields.ixA1 rfl rfl rfl (by omega)) ?_
   refine QK.det trivial (.ld rfl (vbyte (v := a) (E := 32) (tot := 33) (List.mem_flatten.2 ⟨_, .tail _ (.head _), List.mem_singleton.2 rfl⟩) (by omega))) ?_
   refine QK.dp rfl ?_
   refine QK.dp rfl ?_
   refine QK.det trivial (Yields.ixA1 rfl rfl rfl (by omega)) ?_
   refine QK.det trivial (.ld rfl (vbyte (v := b) (E := 32) (tot := 33) (List.mem_flatten.2 ⟨_, .head _, List.mem_singleton.2 rfl⟩) (by omega))) ?_
   refine QK.nil ?_
   change OL _ _ _ [_, _] _ _ _
   refine OL.dp rfl ?_
   refine OL.dp rfl ?_
   refine OL.nil ?_
   refine hK5 _ _ ?_
   refine PW.k1 4 rfl ?_
   refine PW.ret ?_
   change (Exit.ret = Exit.normal ∨ Exit.ret = Exit.ret) /\ ∃ v, resV _ _ = some v /\ _
   exact ⟨.inr rfl, _, rfl, _, Sub.drop (Sub.drop (Sub.refl _)), congrArg Value.bool (lt_at (by omega) (by omega) hall (fun e => c18 (by rw [e]))).symm, rfl⟩
  try simp only [cvS] at c18
  refine PW.skip ?_
  refine hK3 _ _ ?_
  refine PW.k3 2 3 5 rfl rfl rfl ?_
  refine PW.ops ?_
  refine OL.dp rfl ?_
  refine OL.det trivial (.add64 rfl rfl (by omega) (by omega)) ?_
  refine OL.dp rfl ?_
  refine OL.nil ?_
  repeat rw [inBlk_n]
  try rw [thenK_n]
  refine LoopEnd.mk (T'' := [(2, _), (3, _), (5, _)]) ⟨rfl, rfl, rfl, trivial⟩ ?_
  have he : a.1.1[k]'(by omega) = b.1.1[k]'(by omega) := UInt8.toNat_inj.1 (by omega)
  exact ⟨32 - (k + 1), by omega, k + 1, ⟨by omega, rfl, by rw [ltake_snoc (show k < a.1.1.length by omega), ltake_snoc (show k < b.1.1.length by omega), hall, he]⟩, rfl, rfl⟩
 try simp only [cvS] at c7
 refine PW.exit ?_
 refine hK1 _ _ ?_
 refine PW.k2 2 3 rfl rfl ?_
 refine PW.seqOps ?_
 refine OL.dp rfl ?_
 refine OL.det trivial (.ld rfl (vnum (v := a) (E := 32) (tot := 33) (List.mem_flatten.2 ⟨_, .tail _ (.head _), List.mem_singleton.2 rfl⟩))) ?_
 refine OL.dp rfl ?_
 refine OL.det trivial (.ld rfl (vnum (v := b) (E := 32) (tot := 33) (List.mem_flatten.2 ⟨_, .head _, List.mem_singleton.2 rfl⟩))) ?_
 refine OL.dp rfl ?_
 refine OL.dp rfl ?_
 refine OL.nil ?_
 refine PW.k1 4 rfl ?_
 refine PW.ret ?_
 change (Exit.ret = Exit.normal ∨ Exit.ret = Exit.ret) /\ ∃ v, resV _ _ = some v /\ _
 have hke : k = 32 := by omega
 have he : a.1.1 = b.1.1 := by
  rw [hke, List.take_of_length_le (by omega), List.take_of_length_le (by omega)] at hall
  exact hall
 exact ⟨.inr rfl, _, rfl, _, Sub.drop (Sub.drop (Sub.refl _)), congrArg Value.bool (lt_end he).symm, rfl⟩
end Go.Proofs.Gr

namespace Go.Proofs.Gr
open Go.SL Go.RowKit Go.Proofs Go.GP
set_option maxHeartbeats 1000000
theorem textV_own {ps : List PartP} (hs : Sq ps) {p : PartP} (hp : p ∈ ps) {k : Nat} (hk : k < p.lines.length) : textV ps (p.vtx k) = p.lines[k] := by
 obtain ⟨G, hG⟩ := hs.gr
 rw [hG.textV (mem_allV.2 ⟨p, hp, mem_own.2 ⟨k, hk, rfl⟩⟩)]
 exact hG.text p hp k _ (List.getElem?_eq_getElem hk)
theorem set_text (x : LineP) (t : ByteArray) : setAt (lineC x) 33 [.string t] = lineC ⟨x.v, t, x.alive⟩ := by
 have hv := vtxL_len x.v
 unfold lineC
 exact setMid (a := vtxL x.v) (b := [.string x.text]) (d := [.bool x.alive]) rfl hv rfl
theorem set_alive (x : LineP) (b : Bool) : setAt (lineC x) 34 [.bool b] = lineC ⟨x.v, x.text, b⟩ := by
 have hv := vtxL_len x.v
 have := setMid (c := lineC x) (a := vtxL x.v ++ [.string x.text]) (b := [.bool x.alive]) (d := []) (e := [.bool b]) (n := 34) (by unfold lineC; simp) (by simp [hv]) rfl
 rw [this]
 unfold lineC
 simp
theorem line_stk {w0 : World} {S : SS} {P : Program} {n r k E : Nat} {T : TT} {x v : PV} {u : LineP} {z : List Value} (hk : S[k]? = some [(r, .cells z E 35)]) (hx : x.val T = some (.pointer (some ⟨r, 0, none⟩))) (hv : v.val T = some (lineV u)) (hz : z.length = 35) :
  OW P w0 n (.st 35 x v) T S (fun _ S' => S' = S.set k [(r, .cells (lineC u) E 35)]) := by
 refine (OW.st (k := k) (c := z) (u := lineV u) hx hv hk ((List.size_toArray).trans (lineC_len u)) (by omega) (lineC_one u)).mono ?_
 rintro _ _ rfl
 rw [lineV_box, setAll (by rw [lineC_len, hz])]
theorem line_read {w0 : World} {S : SS} {r E tot : Nat} {u : LineP} (hm : (r, AO.cells (lineC u) E tot) ∈ S.flatten) : ReadsAs w0 S (some 35) ⟨r, 0, none⟩ (lineV u) := ⟨lineC u, rfl, lineC_len u, all_at hm⟩
theorem fill_line3 {T : TT} {v : Vtx} {a : PV} {b : Bool} (h1 : a.val T = some (vtxV v)) : fillP T z35 [(0, 33, a), (34, 1, .v (.bool b))] = some (lineC ⟨v, ⟨#[]⟩, b⟩) := by
 have hv := vtxL_len v
 have c1 : (vtxV v).cells.toList = vtxL v := rfl
 rw [show z35 = [] ++ (z33 ++ [.string ⟨#[]⟩, .bool false]) from rfl, fill_step (a := []) (n := 0) (k := 33) h1 rfl rfl (by rw [c1]; exact hv), c1]
 have := fill_step (T := T) (a := [] ++ vtxL v ++ [.string ⟨#[]⟩]) (b := [.bool false]) (d := []) (n := 34) (k := 1) (x := .v (.bool b)) (v := .bool b) (r := []) rfl (by simp [hv]) rfl rfl
 rw [show [] ++ vtxL v ++ [Value.string ⟨#[]⟩, .bool false] = [] ++ vtxL v ++ [.string ⟨#[]⟩] ++ ([.bool false] ++ []) by simp, this]
 unfold lineC
 simp only [fillP, List.nil_append, List.append_nil, List.append_assoc]
 rfl
theorem rLine_fc {w0 : World} {S : SS} {A : Option Addr} {c : Nat} {l : List PartM} {v : Vtx} (h : PartsRd w0 S A l) (hsq : Sq (pls l).reverse) (hv : v ∈ allV (pls l)) :
  FC Try.prog w0 114 [.slice A l.length c, vtxV v] S (fun u S' => u = lineV (lineP (pls l).reverse v) /\ S' = S) := by
 have hll := h.len
 have hrd := h.rd
 refine FC.ofC Try.known114 (by simp) ?_
 unfold Try.pc114
 simp only [argT]
 refine PW.seqOps ?_
 refine OL.cons trivial (OW.bx rfl) ?_
 rintro _ _ ⟨r3, rfl, rfl⟩
 rw [vtx_box, vtxL_len]
 refine OL.cons trivial OW.al ?_
 rintro _ _ ⟨r4, rfl, rfl⟩
 refine OL.nil ?_
 refine PW.k3 0 3 4 rfl rfl rfl ?_
 refine PW.seqOps ?_
 refine OL.det trivial (.ldA rfl (vtxL_len _) (all_at (List.mem_flatten.2 ⟨_, .tail _ (.head _), List.mem_singleton.2 rfl⟩))) ?_
 refine OL.det trivial (.build (fill_line3 rfl)) ?_
 refine OL.cons trivial OW.al ?_
 rintro _ _ ⟨r5, rfl, rfl⟩
 refine OL.cons trivial (line_stk (k := 0) (u := ⟨v, ⟨#[]⟩, true⟩) rfl rfl rfl rfl) ?_
 rintro _ _ rfl
 change OL _ _ _ _ _ ([(r5, .cells (lineC (⟨v, ⟨#[]⟩, true⟩ : LineP)) 78 35)] :: [(r4, .cells z35 78 35)] :: vseg r3 v :: S) _
 refine OL.nil ?_
 refine PW.k4 0 3 4 5 rfl rfl rfl rfl ?_
 refine PW.seq fun K1 hK1 => ?_
 refine PW.seqOps ?_
 refine OL.dp rfl ?_
 refine OL.nil ?_
 refine PW.k5 0 3 4 5 6 rfl rfl rfl rfl rfl ?_
 refine PW.block ?_
 refine PW.k5 0 3 4 5 6 rfl rfl rfl rfl rfl ?_
 refine PW.loopK (I := fun mm T S' => ∃ (i : Nat) (x : LineP), (i <= l.length /\ mm = l.length - i /\ x.v = v /\ x.alive = !(((pls (l.take i)).flatMap (·.gone)).contains v) /\ (v ∈ allV (pls (l.take i)) -> x.text = textV (pls l).reverse v)) /\ T = ([(0, .slice A l.length c), (3, .pointer (some ⟨r3, 0, none⟩)), (4, .pointer (some ⟨r4, 0, none⟩)), (5, .pointer (some ⟨r5, 0, none⟩)), (6, .int .i64 i)] : TT) /\ S' = [(r5, .cells (lineC x) 78 35)] :: [(r4, .cells z35 78 35)] :: vseg r3 v :: S) (m := l.length) ⟨0, (⟨v, ⟨#[]⟩, true⟩ : LineP), ⟨by omega, by omega, rfl, rfl, fun hm => by simp [pls, allV] at hm⟩, rfl, rfl⟩ ?_
 rintro mm _ _ ⟨i, x, ⟨hi, hmm, hxv, hxa, hxt⟩, rfl, rfl⟩
 refine PW.seq fun K2 hK2 => ?_
 refine PW.seqOps ?_
 refine OL.dp rfl ?_
 refine OL.dp rfl ?_
 refine OL.dp rfl ?_
 refine OL.dp rfl ?_
 refine OL.nil ?_
 refine PW.k6 0 3 4 5 6 14 rfl rfl rfl rfl rfl rfl ?_
 refine PW.cond rfl (fun c14 => ?_) (fun c14 => ?_)
 ·try simp only [cvS] at c14
  have hil : i < l.length := by omega
  obtain ⟨a0, rfl⟩ := partS_some hrd (by omega)
  have hps := (h.part _ (List.getElem_mem hil)).small
  have hol : (own l[i].pl).length = l[i].lines.length := own_len l[i].pl
  have hpm : l[i].pl ∈ (pls l).reverse := List.mem_reverse.2 (List.mem_map.2 ⟨_, List.getElem_mem hil, rfl⟩)
  have hgs : (pls (l.take (i + 1))).flatMap (·.gone) = (pls (l.take i)).flatMap (·.gone) ++ l[i].gone := by
   unfold pls
   rw [ltake_snoc hil, List.map_append, List.flatMap_append]
   simp [PartM.pl]
  have hvs : allV (pls (l.take (i + 1))) = allV (pls (l.take i)) ++ own l[i].pl := allV_take hil
  refine PW.skip ?_
  refine hK2 _ _ ?_
  refine PW.k5 0 3 4 5 6 rfl rfl rfl rfl rfl ?_
  refine PW.seq fun K3 hK3 => ?_
  refine PW.block ?_
  refine PW.seqOps ?_
  refine OL.dp rfl ?_
  refine OL.dp rfl ?_
  refine OL.det trivial (.ixN rfl rfl rfl hil) ?_
  refine OL.det trivial (.ldA rfl (partC_len _) (partS_at hrd.cons.cons.cons hil)) ?_
  refine OL.call trivial rfl (rOwn_fc (h.part _ (List.getElem_mem hil)).rng) ?_
  rintro _ _ ⟨sgo, rfl, hso⟩
  obtain ⟨Ao, co, rfl, hno, hco, hro⟩ := slv_rdL (w0 := w0) hso
  refine OL.dp rfl ?_
  refine OL.nil ?_
  refine PW.k6 0 3 4 5 6 7 rfl rfl rfl rfl rfl rfl ?_
  refine PW.seq fun K4 hK4 => ?_
  refine PW.seqOps ?_
  refine OL.dp rfl ?_
  refine OL.nil ?_
  refine PW.k7 0 3 4 5 6 7 8 rfl rfl rfl rfl rfl rfl rfl ?_
  refine PW.block ?_
  refine PW.k7 0 3 4 5 6 7 8 rfl rfl rfl rfl rfl rfl rfl ?_
  refine PW.loopK (I := fun mk T S' => ∃ (k : Nat) (y : LineP), (k <= (own l[i].pl).length /\ mk = (own l[i].pl).length - k /\ y.v = v /\ y.alive = x.alive /\ (v ∈ allV (pls (l.take i)) ∨ v ∈ (own l[i].pl).take k -> y.text = textV (pls l).reverse v)) /\ T = ([(0, .slice (some a0) l.length c), (3, .pointer (some ⟨r3, 0, none⟩)), (4, .pointer (some ⟨r4, 0, none⟩)), (5, .pointer (some ⟨r5, 0, none⟩)), (6, .int .i64 i), (7, .slice Ao (own l[i].pl).length co), (8, .int .i64 k)] : TT) /\ S' = sgo :: [(r5, .cells (lineC y) 78 35)] :: [(r4, .cells z35 78 35)] :: vseg r3 v :: S) (m := (own l[i].pl).length) ⟨0, x, ⟨by omega, by omega, hxv, rfl, fun hm => hxt (hm.resolve_right (by simp))⟩, rfl, rfl⟩ ?_
  rintro mk _ _ ⟨k, y, ⟨hk, hmk, hyv, hya, hyt⟩, rfl, rfl⟩
  refine PW.seq fun K5 hK5 => ?_
  refine PW.seqOps ?_
  refine OL.dp rfl ?_
  refine OL.dp rfl ?_
  refine OL.dp rfl ?_
  refine OL.dp rfl ?_
  refine OL.nil ?_
  refine PW.k8 0 3 4 5 6 7 8 25 rfl rfl rfl rfl rfl rfl rfl rfl ?_
  refine PW.cond rfl (fun c25 => ?_) (fun c25 => ?_)
  ·try simp only [cvS] at c25
   have hkl : k < (own l[i].pl).length := by omega
   have hkl2 : k < l[i].lines.length := by omega
   obtain ⟨o0, rfl⟩ := vtxs_some (hro []) (by omega)
   obtain ⟨b0, hb0⟩ := strs_some (h.part _ (List.getElem_mem hil)).rdL (by omega)
   have hrl : Rd w0 (sgo :: [(r5, .cells (lineC y) 78 35)] :: [(r4, .cells z35 78 35)] :: vseg r3 v :: S) (some b0) (strs l[i].lines) := by rw [<- hb0]; exact (h.part _ (List.getElem_mem hil)).rdL.cons.cons.cons.cons
   have hok : (own l[i].pl)[k] = l[i].pl.vtx k := by simp [own]
   have hts := ltake_snoc hkl
   refine PW.skip ?_
   refine hK5 _ _ ?_
   refine PW.k7 0 3 4 5 6 7 8 rfl rfl rfl rfl rfl rfl rfl ?_
   refine PW.seq fun K6 hK6 => ?_
   refine PW.block ?_
   refine PW.seq fun K7 hK7 => ?_
   refine PW.quietK Try.mixed ?_
   refine QK.dp rfl ?_
   refine QK.dp rfl ?_
   refine QK.det trivial (.ixN rfl rfl rfl hkl) ?_
   refine QK.det trivial (.ldA rfl (vtxL_len _) (vtx_at (hro _) hkl)) ?_
   refine QK.det trivial (.ldA rfl (vtxL_len _) (all_at (List.mem_flatten.2 ⟨_, .tail _ (.tail _ (.tail _ (.head _))), List.mem_singleton.2 rfl⟩))) ?_
   refine QK.nil ?_
   change OL _ _ _ [_] _ _ _
   refine OL.det trivial (.eqD (neg := false) rfl rfl (eqL_vtx _ _)) ?_
   refine OL.nil ?_
   refine hK7 _ _ ?_
   refine PW.k8 0 3 4 5 6 7 8 33 rfl rfl rfl rfl rfl rfl rfl rfl ?_
   refine PW.cond rfl (fun c33 => ?_) (fun c33 => ?_)
   ·skip
    have hvk : (own l[i].pl)[k] = v := by simpa using c33
    have htx : textV (pls l).reverse v = l[i].lines[k] := by rw [<- hvk, hok]; exact textV_own hsq hpm hkl2
    refine PW.ops ?_
    refine OL.dp rfl ?_
    refine OL.dp rfl ?_
    refine OL.det trivial (.ixN rfl rfl rfl hil) ?_
    refine OL.dp rfl ?_
    refine OL.det trivial (.ld rfl (partS_lines hrd.cons.cons.cons.cons hil)) ?_
    refine OL.dp rfl ?_
    rw [hb0]
    refine OL.det trivial (.ixN1 rfl rfl rfl hkl2) ?_
    refine OL.det trivial (.ld rfl (str_cell hrl hkl2)) ?_
    refine OL.dp rfl ?_
    refine OL.cons trivial (OW.st (k := 1) (c := lineC y) (u := .string l[i].lines[k]) rfl rfl rfl rfl (by rw [lineC_len]; show 33 + 1 <= 35; decide) rfl) ?_
    rintro _ _ rfl
    rw [show (Value.string l[i].lines[k]).cells.toList = [.string l[i].lines[k]] from rfl]
    change OL _ _ _ _ _ (sgo :: [(r5, .cells (setAt (lineC y) 33 [.string l[i].lines[k]]) 78 35)] :: [(r4, .cells z35 78 35)] :: vseg r3 v :: S) _
    rw [set_text]
    refine OL.nil ?_
    refine hK6 _ _ ?_
    refine PW.k7 0 3 4 5 6 7 8 rfl rfl rfl rfl rfl rfl rfl ?_
    refine PW.ops ?_
    refine OL.dp rfl ?_
    refine OL.det trivial (.add64 rfl rfl (by omega) (by omega)) ?_
    refine OL.dp rfl ?_
    refine OL.nil ?_
    repeat rw [inBlk_n]
    try rw [thenK_n]
    refine LoopEnd.mk (T'' := [(0, _), (3, _), (4, _), (5, _), (6, _), (7, _), (8, _)]) ⟨rfl, rfl, rfl, rfl, rfl, rfl, rfl, trivial⟩ ?_
    exact ⟨(own l[i].pl).length - (k + 1), by omega, k + 1, ⟨y.v, l[i].lines[k], y.alive⟩, ⟨by omega, rfl, hyv, hya, fun _ => htx.symm⟩, rfl, rfl⟩
   skip
   have hvk : (own l[i].pl)[k] ≠ v := by simpa using c33
   refine PW.skip ?_
   refine hK6 _ _ ?_
   refine PW.k7 0 3 4 5 6 7 8 rfl rfl rfl rfl rfl rfl rfl ?_
   refine PW.ops ?_
   refine OL.dp rfl ?_
   refine OL.det trivial (.add64 rfl rfl (by omega) (by omega)) ?_
   refine OL.dp rfl ?_
   refine OL.nil ?_
   repeat rw [inBlk_n]
   try rw [thenK_n]
   refine LoopEnd.mk (T'' := [(0, _), (3, _), (4, _), (5, _), (6, _), (7, _), (8, _)]) ⟨rfl, rfl, rfl, rfl, rfl, rfl, rfl, trivial⟩ ?_
   exact ⟨(own l[i].pl).length - (k + 1), by omega, k + 1, y, ⟨by omega, rfl, hyv, hya, fun hm => hyt (hm.imp_right fun h2 => by
    rw [hts] at h2
    exact (List.mem_append.1 h2).resolve_right fun h3 => hvk (List.mem_singleton.1 h3).symm)⟩, rfl, rfl⟩
  try simp only [cvS] at c25
  have hke : k = (own l[i].pl).length := by omega
  have hyt2 := hyt
  rw [hke, List.take_length] at hyt2
  refine PW.exit ?_
  refine hK4 _ _ ?_
  refine PW.k5 0 3 4 5 6 rfl rfl rfl rfl rfl ?_
  refine PW.seq fun K8 hK8 => ?_
  refine PW.quietK Try.mixed ?_
  refine QK.dp rfl ?_
  refine QK.dp rfl ?_
  refine QK.det trivial (.ixN rfl rfl rfl hil) ?_
  refine QK.dp rfl ?_
  refine QK.det trivial (.ld rfl (partS_gone hrd.cons.cons.cons.cons hil)) ?_
  refine QK.det trivial (.ldA rfl (vtxL_len _) (all_at (List.mem_flatten.2 ⟨_, .tail _ (.tail _ (.tail _ (.head _))), List.mem_singleton.2 rfl⟩))) ?_
  refine QK.nil ?_
  change OL _ _ _ [_] _ _ _
  refine OL.call trivial rfl (rHas_fc ((h.part _ (List.getElem_mem hil)).rdG.cons.cons.cons.cons) (by omega)) ?_
  rintro _ Sx ⟨rfl, hSx⟩
  rw [hSx]
  clear hSx
  refine OL.nil ?_
  refine hK8 _ _ ?_
  refine PW.k6 0 3 4 5 6 49 rfl rfl rfl rfl rfl rfl ?_
  refine PW.cond rfl (fun c49 => ?_) (fun c49 => ?_)
  ·skip
   have hvg : v ∈ l[i].gone := by simpa using c49
   refine PW.ops ?_
   refine OL.dp rfl ?_
   refine OL.cons trivial (OW.st (k := 1) (c := lineC y) (u := .bool false) rfl rfl rfl rfl (by rw [lineC_len]; show 34 + 1 <= 35; decide) rfl) ?_
   rintro _ _ rfl
   rw [show (Value.bool false).cells.toList = [.bool false] from rfl]
   change OL _ _ _ _ _ (sgo :: [(r5, .cells (setAt (lineC y) 34 [.bool false]) 78 35)] :: [(r4, .cells z35 78 35)] :: vseg r3 v :: S) _
   rw [set_alive]
   refine OL.nil ?_
   refine hK3 _ _ ?_
   refine PW.k5 0 3 4 5 6 rfl rfl rfl rfl rfl ?_
   refine PW.ops ?_
   refine OL.dp rfl ?_
   refine OL.det trivial (.add64 rfl rfl (by omega) (by omega)) ?_
   refine OL.dp rfl ?_
   refine OL.nil ?_
   repeat rw [inBlk_n]
   try rw [thenK_n]
   refine LoopEnd.mkS (Sub.drop (Sub.refl _)) (T'' := [(0, _), (3, _), (4, _), (5, _), (6, _)]) ⟨rfl, rfl, rfl, rfl, rfl, trivial⟩ ?_
   exact ⟨l.length - (i + 1), by omega, i + 1, ⟨y.v, y.text, false⟩, ⟨by omega, rfl, hyv, (by rw [hgs]; simp [hvg]), fun hm => hyt2 (by rw [hvs] at hm; exact List.mem_append.1 hm)⟩, rfl, rfl⟩
  skip
  have hvg : v ∉ l[i].gone := by simpa using c49
  refine PW.skip ?_
  refine hK3 _ _ ?_
  refine PW.k5 0 3 4 5 6 rfl rfl rfl rfl rfl ?_
  refine PW.ops ?_
  refine OL.dp rfl ?_
  refine OL.det trivial (.add64 rfl rfl (by omega) (by omega)) ?_
  refine OL.dp rfl ?_
  refine OL.nil ?_
  repeat rw [inBlk_n]
  try rw [thenK_n]
  refine LoopEnd.mkS (Sub.drop (Sub.refl _)) (T'' := [(0, _), (3, _), (4, _), (5, _), (6, _)]) ⟨rfl, rfl, rfl, rfl, rfl, trivial⟩ ?_
  exact ⟨l.length - (i + 1), by omega, i + 1, y, ⟨by omega, rfl, hyv, (by rw [hya, hxa, hgs]; simp [hvg]), fun hm => hyt2 (by rw [hvs] at hm; exact List.mem_append.1 hm)⟩, rfl, rfl⟩
 try simp only [cvS] at c14
 refine PW.exit ?_
 refine hK1 _ _ ?_
 refine PW.k2 4 5 rfl rfl ?_
 refine PW.seqOps ?_
 refine OL.det trivial (.ldA rfl (lineC_len _) (all_at (List.mem_flatten.2 ⟨_, .head _, List.mem_singleton.2 rfl⟩))) ?_
 refine OL.cons trivial (line_stk (k := 1) (u := x) rfl rfl rfl rfl) ?_
 rintro _ _ rfl
 refine OL.nil ?_
 refine PW.k1 4 rfl ?_
 refine PW.ret ?_
 change (Exit.ret = Exit.normal ∨ Exit.ret = Exit.ret) /\ ∃ a v, Go.SL.look _ _ = some (.pointer (some a)) /\ ReadsAs _ _ _ _ _ /\ _
 have hie : i = l.length := by omega
 rw [hie, List.take_length] at hxa hxt
 have hx : x = lineP (pls l).reverse v := by
  have h2 := hxt hv
  obtain ⟨xv, xt, xa⟩ := x
  simp only at hxv hxa h2
  subst hxv
  rw [hxa, h2]
  unfold lineP aliveV
  congr 2
  rw [Bool.eq_iff_iff]
  simp
 exact ⟨.inr rfl, _, _, rfl, line_read (r := r4) (u := x) (E := 78) (tot := 35) (List.mem_flatten.2 ⟨_, .tail _ (.head _), List.mem_singleton.2 rfl⟩), _, Sub.drop (Sub.drop (Sub.drop (Sub.refl _))), congrArg lineV hx, rfl⟩
end Go.Proofs.Gr

namespace Go.Proofs.Gr
open Go.SL Go.RowKit Go.Proofs Go.GP
set_option maxHeartbeats 1000000
def Best (E : List (Vtx × Vtx)) (left : List Vtx) (i : Nat) (b : Int) : Prop :=
 (b = -1 /\ ∀ u ∈ left.take i, ¬ Free E left u) ∨ ∃ (n : Nat) (hn : n < left.length), b = (n : Int) /\ Free E left left[n] /\ ∀ u ∈ left.take i, Free E left u -> ltV u left[n] = false
section
variable {E : List (Vtx × Vtx)} {left : List Vtx} {i : Nat} {b : Int}
theorem Best.keep (h : Best E left i b) (hi : i < left.length) (hf : Free E left left[i] -> ∃ (n : Nat) (hn : n < left.length), b = (n : Int) /\ ltV left[i] left[n] = false) : Best E left (i + 1) b := by
 rcases h with ⟨h1, h2⟩ | ⟨n, hn, h1, h2, h3⟩
 ·refine .inl ⟨h1, fun u hu => ?_⟩
  rw [ltake_snoc hi] at hu
  rcases List.mem_append.1 hu with hu | hu
  ·exact h2 u hu
  rw [List.mem_singleton.1 hu]
  intro hfr
  obtain ⟨m, hm, e, _⟩ := hf hfr
  omega
 refine .inr ⟨n, hn, h1, h2, fun u hu hfu => ?_⟩
 rw [ltake_snoc hi] at hu
 rcases List.mem_append.1 hu with hu | hu
 ·exact h3 u hu hfu
 rw [List.mem_singleton.1 hu] at hfu ⊢
 obtain ⟨m, hm, e, h4⟩ := hf hfu
 have : m = n := by omega
 subst this
 exact h4
theorem Best.set (h : Best E left i b) (hi : i < left.length) (hf : Free E left left[i]) (hb : b < 0 ∨ ∃ (n : Nat) (hn : n < left.length), b = (n : Int) /\ ltV left[i] left[n] = true) : Best E left (i + 1) (i : Int) := by
 refine .inr ⟨i, hi, rfl, hf, fun u hu hfu => ?_⟩
 rw [ltake_snoc hi] at hu
 rcases List.mem_append.1 hu with hu | hu
 ·rcases h with ⟨h1, h2⟩ | ⟨n, hn, h1, h2, h3⟩
  ·exact absurd hfu (h2 u hu)
  rcases hb with hb | ⟨m, hm, e, h4⟩
  ·omega
  have : m = n := by omega
  subst this
  exact ltV_ord.trans _ _ _ (ltV_ord.asymm _ _ h4) (h3 u hu hfu)
 rw [List.mem_singleton.1 hu]
 cases e : ltV left[i] left[i] with
 | false => rfl
 | true => have := ltV_ord.asymm _ _ e; rw [e] at this; cases this
theorem erase_ix {V : Type} [DecidableEq V] {l : List V} (h : l.Nodup) {n : Nat} (hn : n < l.length) : l.erase l[n] = l.eraseIdx n := by
 induction l generalizing n with
 | nil => simp at hn
 | cons a l ih =>
  obtain ⟨h1, h2⟩ := List.nodup_cons.1 h
  cases n with
  | zero => simp
  | succ n =>
   have hn' : n < l.length := by simpa using hn
   have hne : a ≠ l[n] := fun e => h1 (e ▸ List.getElem_mem hn')
   rw [List.getElem_cons_succ, List.eraseIdx_cons_succ, List.erase_cons_tail (by simpa using hne), ih h2 hn']
theorem topo_none {rest : List Vtx} (ht : Topo ltV E left rest) (h : ∀ u ∈ left, ¬ Free E left u) : rest = [] := by
 cases ht with
 | nil _ => rfl
 | cons h1 h2 _ _ => exact absurd h2 (h _ h1)
theorem topo_some {rest : List Vtx} (hnd : left.Nodup) (ht : Topo ltV E left rest) {n : Nat} (hn : n < left.length) (hf : Free E left left[n]) (hb : ∀ u ∈ left, Free E left u -> ltV u left[n] = false) : ∃ r, rest = left[n] :: r /\ Topo ltV E (left.eraseIdx n) r := by
 cases ht with
 | nil h => exact absurd hf (h _ (List.getElem_mem hn))
 | @cons _ v r h1 h2 h3 h4 =>
  have e : v = left[n] := ltV_tot _ _ (hb v h1 h2) (h3 _ (List.getElem_mem hn) hf)
  subst e
  exact ⟨r, rfl, by rw [<- erase_ix hnd hn]; exact h4⟩
end
theorem cut_step {l : List Vtx} {n k : Nat} (hk : k < l.length) : (l.take (k + 1)).eraseIdx n = if k = n then (l.take k).eraseIdx n else (l.take k).eraseIdx n ++ [l[k]] := by
 have hl : (l.take k).length = k := by rw [List.length_take]; omega
 rw [ltake_snoc hk]
 split
 ·rename_i e
  subst e
  rw [List.eraseIdx_append_of_length_le (by omega), hl, Nat.sub_self, List.eraseIdx_of_length_le (l := l.take k) (by omega)]
  simp
 rename_i e
 by_cases h : n < k
 ·rw [List.eraseIdx_append_of_lt_length (by omega)]
 rw [List.eraseIdx_append_of_length_le (by omega), hl, List.eraseIdx_of_length_le (l := [l[k]]) (by simp; omega), List.eraseIdx_of_length_le (l := l.take k) (by omega)]
theorem line_snocE {E : TypeId} {v : Value} {l : List LineP} {x : LineP} {seg : Seg} (h : SlV E 35 v (l.length + 1) (lines l ++ lineC x) seg) : SlV E 35 v (l ++ [x]).length (lines (l ++ [x])) seg := by
 rw [List.length_append, lines_snoc]
 exact h
theorem sub_rot {a b c d : Seg} {S : SS} : Sub (b :: c :: a :: S) (a :: b :: c :: d :: S) := Sub.sel [1, 2, 0] 4 (by decide) (a :: b :: c :: d :: S)
theorem free_step {E : List (Vtx × Vtx)} {left : List Vtx} {x : Vtx} {j : Nat} (hj : j < E.length) : (∀ e ∈ E.take (j + 1), e.2 = x -> e.1 ∉ left) ↔ (∀ e ∈ E.take j, e.2 = x -> e.1 ∉ left) /\ (E[j].2 = x -> E[j].1 ∉ left) := by
 rw [ltake_snoc hj]
 constructor
 ·exact fun h => ⟨fun e he => h e (List.mem_append_left _ he), h _ (List.mem_append_right _ (List.mem_singleton.2 rfl))⟩
 rintro ⟨h1, h2⟩ e he
 rcases List.mem_append.1 he with he | he
 ·exact h1 e he
 rw [List.mem_singleton.1 he]; exact h2
theorem rLines_fc {w0 : World} {S : SS} {A : Option Addr} {c : Nat} {l : List PartM} (h : PartsRd w0 S A l) (hsq : Sq (pls l).reverse) :
  FC Try.prog w0 97 [.slice A l.length c] S (fun v S' => ∃ seg, S' = seg :: S /\ SlV 78 35 v (linesP (pls l).reverse).length (lines (linesP (pls l).reverse)) seg) := by
 have hll := h.len
 have hel := rallE_len (l := l) (fun p hp => (h.part p hp).small.1)
 have hal : (allV (pls l)).length <= 1000000 := by
  have := allV_len (l := l) (fun p hp => (h.part p hp).small.1) l.length (Nat.le_refl _)
  rw [List.take_length] at this
  omega
 have hpv : (allV (pls l).reverse).Perm (allV (pls l)) := (pls l).reverse_perm.flatMap_right own
 have hnd0 : (allV (pls l)).Nodup := hpv.nodup_iff.1 hsq.nodup
 have htop : Topo ltV (allE (pls l)) (allV (pls l)) (topoF (pls l).reverse) := Topo.congr (topoF_topo _) (fun e _ => by simp only [mem_allE, List.mem_reverse]) hpv
 refine FC.ofD Try.known97 (by simp) ?_
 unfold Try.pc97
 simp only [argT]
 refine PW.seqOps ?_
 refine OL.dp rfl ?_
 refine OL.nil ?_
 refine PW.k1 0 rfl ?_
 refine PW.seqOps ?_
 refine OL.dp rfl ?_
 refine OL.call trivial rfl (rAll_fc h) ?_
 rintro _ _ ⟨sgl, rfl, hsl⟩
 obtain ⟨Al, cl, rfl, hnl, hcl, hrl⟩ := slv_rdL (w0 := w0) hsl
 refine OL.dp rfl ?_
 refine OL.nil ?_
 refine PW.k2 0 3 rfl rfl ?_
 refine PW.seqOps ?_
 refine OL.dp rfl ?_
 refine OL.call trivial rfl (rEdges_fc h.cons) ?_
 rintro _ _ ⟨sgE, rfl, hsE⟩
 obtain ⟨AE, cE, rfl, hnE, hcE, hrE⟩ := slv_rdL (w0 := w0) hsE
 obtain ⟨E, hE⟩ : ∃ z, z = allE (pls l) := ⟨_, rfl⟩
 rw [<- hE] at hel hrE hsE hcE htop ⊢
 have hpl : (pairs E).length = 2 * E.length := pairs_len E
 refine OL.dp rfl ?_
 refine OL.nil ?_
 refine PW.k3 0 3 4 rfl rfl rfl ?_
 refine PW.seqOps ?_
 refine OL.subS (S' := [] :: sgE :: sgl :: S) (Sub.nilL (Sub.refl _)) ?_
 refine OL.dp rfl ?_
 refine OL.nil ?_
 refine PW.k4 0 3 4 5 rfl rfl rfl rfl ?_
 refine PW.seq fun K1 hK1 => ?_
 refine PW.block ?_
 refine PW.k4 0 3 4 5 rfl rfl rfl rfl ?_
 refine PW.loopK (I := fun mm T S' => ∃ (left outV rest : List Vtx) (Al : Option Addr) (cl : Nat) (vo : Value) (sgl sgo : Seg), (mm = left.length /\ left.Nodup /\ (∀ v ∈ left, v ∈ allV (pls l)) /\ left.length <= 1000000 /\ outV.length + left.length <= 1000000 /\ topoF (pls l).reverse = outV ++ rest /\ Topo ltV E left rest /\ SlV 32 33 (.slice Al left.length cl) left.length (vtxs left) sgl /\ SlV 78 35 vo (outV.map (lineP (pls l).reverse)).length (lines (outV.map (lineP (pls l).reverse))) sgo) /\ T = ([(0, .slice A l.length c), (3, .slice Al left.length cl), (4, .slice AE (pairs E).length cE), (5, vo)] : TT) /\ S' = sgo :: sgE :: sgl :: S) (m := (allV (pls l)).length) ⟨allV (pls l), [], topoF (pls l).reverse, _, _, _, sgl, [], ⟨rfl, hnd0, fun v hv => hv, hal, by simpa using hal, rfl, htop, hsl, SlV.nil 78 35⟩, rfl, rfl⟩ ?_
 rintro mm _ _ ⟨left, outV, rest, Al, cl, vo, sgl, sgo, ⟨hmm, hnd, hlv, hlb, hob, hfe, ht, hsl, hso⟩, rfl, rfl⟩
 refine PW.seq fun K2 hK2 => ?_
 refine PW.seqOps ?_
 refine OL.dp rfl ?_
 refine OL.dp rfl ?_
 refine OL.dp rfl ?_
 refine OL.nil ?_
 refine PW.k5 0 3 4 5 18 rfl rfl rfl rfl rfl ?_
 refine PW.cond rfl (fun c18 => ?_) (fun c18 => ?_)
 ·try simp only [cvS] at c18
  have hl0 : 0 < left.length := by omega
  obtain ⟨Al2, cl2, el2, hnl2, hcl3, hrl2⟩ := slv_rdL (w0 := w0) hsl
  cases el2
  obtain ⟨a3, rfl⟩ := vtxs_some (hrl2 []) (by omega)
  refine PW.skip ?_
  refine hK2 _ _ ?_
  refine PW.k4 0 3 4 5 rfl rfl rfl rfl ?_
  refine PW.block ?_
  refine PW.seqOps ?_
  refine OL.dp rfl ?_
  refine OL.nil ?_
  refine PW.k5 0 3 4 5 6 rfl rfl rfl rfl rfl ?_
  refine PW.seq fun K3 hK3 => ?_
  refine PW.seqOps ?_
  refine OL.dp rfl ?_
  refine OL.nil ?_
  refine PW.k6 0 3 4 5 6 7 rfl rfl rfl rfl rfl rfl ?_
  refine PW.block ?_
  refine PW.k6 0 3 4 5 6 7 rfl rfl rfl rfl rfl rfl ?_
  refine PW.loopK (I := fun mi T S' => ∃ (i : Nat) (b : Int), (i <= left.length /\ mi = left.length - i /\ Best E left i b /\ -1 <= b /\ b <= 1000000) /\ T = ([(0, .slice A l.length c), (3, .slice (some a3) left.length cl), (4, .slice AE (pairs E).length cE), (5, vo), (6, .int .i64 b), (7, .int .i64 i)] : TT) /\ S' = sgo :: sgE :: sgl :: S) (m := left.length) ⟨0, -1, ⟨by omega, by omega, .inl ⟨rfl, fun u hu => by simp at hu⟩, by omega, by omega⟩, rfl, rfl⟩ ?_
  rintro mi _ _ ⟨i, b, ⟨hi, hmi, hB, hb1, hb2⟩, rfl, rfl⟩
  refine PW.seq fun K4 hK4 => ?_
  refine PW.seqOps ?_
  refine OL.dp rfl ?_
  refine OL.dp rfl ?_
  refine OL.dp rfl ?_
  refine OL.dp rfl ?_
  refine OL.nil ?_
  refine PW.k7 0 3 4 5 6 7 22 rfl rfl rfl rfl rfl rfl rfl ?_
  refine PW.cond rfl (fun c22 => ?_) (fun c22 => ?_)
  ·try simp only [cvS] at c22
   have hil : i < left.length := by omega
   refine PW.skip ?_
   refine hK4 _ _ ?_
   refine PW.k6 0 3 4 5 6 7 rfl rfl rfl rfl rfl rfl ?_
   refine PW.seq fun K5 hK5 => ?_
   refine PW.block ?_
   refine PW.seqOps ?_
   refine OL.dp rfl ?_
   refine OL.nil ?_
   refine PW.k7 0 3 4 5 6 7 8 rfl rfl rfl rfl rfl rfl rfl ?_
   refine PW.seq fun K6 hK6 => ?_
   refine PW.seqOps ?_
   refine OL.dp rfl ?_
   refine OL.nil ?_
   refine PW.k8 0 3 4 5 6 7 8 9 rfl rfl rfl rfl rfl rfl rfl rfl ?_
   refine PW.block ?_
   refine PW.k8 0 3 4 5 6 7 8 9 rfl rfl rfl rfl rfl rfl rfl rfl ?_
   refine PW.loopK (I := fun mj T S' => ∃ (j : Nat) (fr : Bool), (j <= E.length /\ mj = E.length - j /\ (fr = true ↔ ∀ e ∈ E.take j, e.2 = left[i] -> e.1 ∉ left)) /\ T = ([(0, .slice A l.length c), (3, .slice (some a3) left.length cl), (4, .slice AE (pairs E).length cE), (5, vo), (6, .int .i64 b), (7, .int .i64 i), (8, .bool fr), (9, .int .i64 ((2 * j : Nat) : Int))] : TT) /\ S' = sgo :: sgE :: sgl :: S) (m := E.length) ⟨0, true, ⟨by omega, by omega, by simp⟩, rfl, rfl⟩ ?_
   rintro mj _ _ ⟨j, fr, ⟨hj, hmj, hfr⟩, rfl, rfl⟩
   refine PW.seq fun K7 hK7 => ?_
   refine PW.seqOps ?_
   refine OL.dp rfl ?_
   refine OL.det trivial (.add64 rfl rfl (by omega) (by omega)) ?_
   refine OL.dp rfl ?_
   refine OL.dp rfl ?_
   refine OL.dp rfl ?_
   refine OL.nil ?_
   refine PW.k9 0 3 4 5 6 7 8 9 29 rfl rfl rfl rfl rfl rfl rfl rfl rfl ?_
   refine PW.cond rfl (fun c29 => ?_) (fun c29 => ?_)
   ·try simp only [cvS] at c29
    have hjl : j < E.length := by omega
    have hj2 : 2 * j < (pairs E).length := by omega
    have hj3 : 2 * j + 1 < (pairs E).length := by omega
    obtain ⟨aE, rfl⟩ := vtxs_some (hrE []) (by omega)
    have hrEE : Rd w0 (sgo :: sgE :: sgl :: S) (some aE) (vtxs (pairs E)) := rd_mem (hrE []) (by simp)
    have hrLL : Rd w0 (sgo :: sgE :: sgl :: S) (some a3) (vtxs left) := rd_mem (hrl2 []) (by simp)
    have hqe : (pairs E)[2 * j] = E[j].1 := (List.getElem?_eq_some_iff.1 (pairs_get hjl).1).2
    have hqe2 : (pairs E)[2 * j + 1] = E[j].2 := (List.getElem?_eq_some_iff.1 (pairs_get hjl).2).2
    have hfs := free_step (E := E) (left := left) (x := left[i]) hjl
    refine PW.skip ?_
    refine hK7 _ _ ?_
    refine PW.k8 0 3 4 5 6 7 8 9 rfl rfl rfl rfl rfl rfl rfl rfl ?_
    refine PW.seq fun K8 hK8 => ?_
    refine PW.block ?_
    refine PW.seq fun K9 hK9 => ?_
    refine PW.quietK Try.mixed ?_
    refine QK.dp rfl ?_
    refine QK.dp rfl ?_
    refine QK.det trivial (.add64 rfl rfl (by omega) (by omega)) ?_
    refine QK.det trivial (.ixN (j := 2 * j + 1) rfl rfl (by omega) hj3) ?_
    refine QK.det trivial (.ldA rfl (vtxL_len _) (vtx_at (l := pairs E) (k := 2 * j + 1) hrEE hj3)) ?_
    refine QK.dp rfl ?_
    refine QK.dp rfl ?_
    refine QK.det trivial (.ixN rfl rfl rfl hil) ?_
    refine QK.det trivial (.ldA rfl (vtxL_len _) (vtx_at hrLL hil)) ?_
    refine QK.det trivial (.eqD (neg := false) rfl rfl (eqL_vtx _ _)) ?_
    refine QK.bool trivial (Yields.pure rfl) (fun g42 => ?_) (fun g42 => ?_)
    ·try simp only [cvS] at g42
     refine QK.det rfl (.pure rfl) ?_
     refine QK.det rfl (.pure rfl) ?_
     refine QK.det rfl (.pure rfl) ?_
     refine QK.det rfl (.ixN (j := 2 * j) rfl rfl rfl hj2) ?_
     refine QK.det rfl (.ldA rfl (vtxL_len _) (vtx_at (l := pairs E) (k := 2 * j) hrEE hj2)) ?_
     refine QK.nil ?_
     change OL _ _ _ [_, _] _ _ _
     refine OL.call rfl rfl (rHas_fc hrLL (by omega)) ?_
     rintro _ Sx ⟨rfl, hSx⟩
     rw [hSx]
     clear hSx
     refine OL.dp rfl ?_
     refine OL.nil ?_
     refine hK9 _ _ ?_
     refine PW.k9 0 3 4 5 6 7 8 9 49 rfl rfl rfl rfl rfl rfl rfl rfl rfl ?_
     refine PW.cond rfl (fun c49 => ?_) (fun c49 => ?_)
     ·skip
      refine PW.ops ?_
      refine OL.dp rfl ?_
      refine OL.nil ?_
      refine hK8 _ _ ?_
      refine PW.k8 0 3 4 5 6 7 8 9 rfl rfl rfl rfl rfl rfl rfl rfl ?_
      refine PW.ops ?_
      refine OL.dp rfl ?_
      refine OL.det trivial (.add64 rfl rfl (by omega) (by omega)) ?_
      refine OL.dp rfl ?_
      refine OL.nil ?_
      repeat rw [inBlk_n]
      try rw [thenK_n]
      refine LoopEnd.mk (T'' := [(0, _), (3, _), (4, _), (5, _), (6, _), (7, _), (8, _), (9, _)]) ⟨rfl, rfl, rfl, rfl, rfl, rfl, rfl, rfl, trivial⟩ ?_
      exact ⟨E.length - (j + 1), by omega, j + 1, false, ⟨by omega, rfl, by
       rw [hfs, <- hqe, <- hqe2]
       simp only [Bool.false_eq_true, false_iff]
       exact fun h2 => h2.2 g42 (by simpa using c49)⟩, rfl, rfl⟩
     skip
     refine PW.skip ?_
     refine hK8 _ _ ?_
     refine PW.k8 0 3 4 5 6 7 8 9 rfl rfl rfl rfl rfl rfl rfl rfl ?_
     refine PW.ops ?_
     refine OL.dp rfl ?_
     refine OL.det trivial (.add64 rfl rfl (by omega) (by omega)) ?_
     refine OL.dp rfl ?_
     refine OL.nil ?_
     repeat rw [inBlk_n]
     try rw [thenK_n]
     refine LoopEnd.mk (T'' := [(0, _), (3, _), (4, _), (5, _), (6, _), (7, _), (8, _), (9, _)]) ⟨rfl, rfl, rfl, rfl, rfl, rfl, rfl, rfl, trivial⟩ ?_
     exact ⟨E.length - (j + 1), by omega, j + 1, fr, ⟨by omega, rfl, by
      rw [hfs, hfr, <- hqe, <- hqe2]
      exact ⟨fun h2 => ⟨h2, fun _ => by simpa using c49⟩, fun h2 => h2.1⟩⟩, rfl, rfl⟩
    try simp only [cvS] at g42
    refine QK.off rfl rfl ?_
    refine QK.off rfl rfl ?_
    refine QK.off rfl rfl ?_
    refine QK.off rfl rfl ?_
    refine QK.off rfl rfl ?_
    refine QK.nil ?_
    change OL _ _ _ [_, _] _ _ _
    refine OL.off rfl rfl ?_
    refine OL.dp rfl ?_
    refine OL.nil ?_
    refine hK9 _ _ ?_
    refine PW.k9 0 3 4 5 6 7 8 9 49 rfl rfl rfl rfl rfl rfl rfl rfl rfl ?_
    refine PW.ite (b := false) rfl ?_
    rw [if_neg Bool.false_ne_true]
    refine PW.skip ?_
    refine hK8 _ _ ?_
    refine PW.k8 0 3 4 5 6 7 8 9 rfl rfl rfl rfl rfl rfl rfl rfl ?_
    refine PW.ops ?_
    refine OL.dp rfl ?_
    refine OL.det trivial (.add64 rfl rfl (by omega) (by omega)) ?_
    refine OL.dp rfl ?_
    refine OL.nil ?_
    repeat rw [inBlk_n]
    try rw [thenK_n]
    refine LoopEnd.mk (T'' := [(0, _), (3, _), (4, _), (5, _), (6, _), (7, _), (8, _), (9, _)]) ⟨rfl, rfl, rfl, rfl, rfl, rfl, rfl, rfl, trivial⟩ ?_
    exact ⟨E.length - (j + 1), by omega, j + 1, fr, ⟨by omega, rfl, by
     rw [hfs, hfr, <- hqe, <- hqe2]
     exact ⟨fun h2 => ⟨h2, fun h3 => absurd h3 g42⟩, fun h2 => h2.1⟩⟩, rfl, rfl⟩
   try simp only [cvS] at c29
   refine PW.exit ?_
   refine hK6 _ _ ?_
   refine PW.k7 0 3 4 5 6 7 8 rfl rfl rfl rfl rfl rfl rfl ?_
   refine PW.seq fun K10 hK10 => ?_
   refine PW.quietK Try.mixed ?_
   have hbs : fr = true ↔ Free E left left[i] := by
    rw [hfr, List.take_of_length_le (by omega)]
    exact Iff.rfl
   have hrLL : Rd w0 (sgo :: sgE :: sgl :: S) (some a3) (vtxs left) := rd_mem (hrl2 []) (by simp)
   refine QK.dp rfl ?_
   refine QK.bool trivial (Yields.pure rfl) (fun g51 => ?_) (fun g51 => ?_)
   ·try simp only [cvS] at g51
    refine QK.det rfl (.pure rfl) ?_
    refine QK.det rfl (.pure rfl) ?_
    refine QK.bool rfl (Yields.pure rfl) (fun g54 => ?_) (fun g54 => ?_)
    ·try simp only [cvS] at g54
     refine QK.off rfl rfl ?_
     refine QK.off rfl rfl ?_
     refine QK.off rfl rfl ?_
     refine QK.off rfl rfl ?_
     refine QK.off rfl rfl ?_
     refine QK.off rfl rfl ?_
     refine QK.off rfl rfl ?_
     refine QK.off rfl rfl ?_
     refine QK.nil ?_
     change OL _ _ _ [_, _, _] _ _ _
     refine OL.off rfl rfl ?_
     refine OL.det rfl (.pure rfl) ?_
     refine OL.dp rfl ?_
     refine OL.nil ?_
     refine hK10 _ _ ?_
     refine PW.k7 0 3 4 5 6 7 65 rfl rfl rfl rfl rfl rfl rfl ?_
     refine PW.ite (b := true) rfl ?_
     rw [if_pos rfl]
     refine PW.ops ?_
     refine OL.dp rfl ?_
     refine OL.dp rfl ?_
     refine OL.nil ?_
     refine hK5 _ _ ?_
     refine PW.k6 0 3 4 5 6 7 rfl rfl rfl rfl rfl rfl ?_
     refine PW.ops ?_
     refine OL.dp rfl ?_
     refine OL.det trivial (.add64 rfl rfl (by omega) (by omega)) ?_
     refine OL.dp rfl ?_
     refine OL.nil ?_
     repeat rw [inBlk_n]
     try rw [thenK_n]
     refine LoopEnd.mk (T'' := [(0, _), (3, _), (4, _), (5, _), (6, _), (7, _)]) ⟨rfl, rfl, rfl, rfl, rfl, rfl, trivial⟩ ?_
     exact ⟨left.length - (i + 1), by omega, i + 1, _, ⟨by omega, rfl, hB.set hil (hbs.1 g51) (.inl g54), by omega, by omega⟩, rfl, rfl⟩
    try simp only [cvS] at g54
    obtain ⟨bn, hbn, hbe⟩ : ∃ (n : Nat) (hn : n < left.length), b = (n : Int) := by
     rcases hB with ⟨h1, _⟩ | ⟨n, hn, h1, _⟩
     ·omega
     exact ⟨n, hn, h1⟩
    refine QK.det rfl (.pure rfl) ?_
    refine QK.det rfl (.pure rfl) ?_
    refine QK.det rfl (.ixN rfl rfl rfl hil) ?_
    refine QK.det rfl (.ldA rfl (vtxL_len _) (vtx_at hrLL hil)) ?_
    refine QK.det rfl (.pure rfl) ?_
    refine QK.det rfl (.pure rfl) ?_
    refine QK.det rfl (.ixN (j := bn) rfl rfl hbe hbn) ?_
    refine QK.det rfl (.ldA rfl (vtxL_len _) (vtx_at hrLL hbn)) ?_
    refine QK.nil ?_
    change OL _ _ _ [_, _, _] _ _ _
    refine OL.call rfl rfl (rLess_fc) ?_
    rintro _ Sx ⟨rfl, hSx⟩
    rw [hSx]
    clear hSx
    refine OL.det rfl (.pure rfl) ?_
    refine OL.dp rfl ?_
    refine OL.nil ?_
    refine hK10 _ _ ?_
    refine PW.k7 0 3 4 5 6 7 65 rfl rfl rfl rfl rfl rfl rfl ?_
    refine PW.cond rfl (fun c65 => ?_) (fun c65 => ?_)
    ·skip
     refine PW.ops ?_
     refine OL.dp rfl ?_
     refine OL.dp rfl ?_
     refine OL.nil ?_
     refine hK5 _ _ ?_
     refine PW.k6 0 3 4 5 6 7 rfl rfl rfl rfl rfl rfl ?_
     refine PW.ops ?_
     refine OL.dp rfl ?_
     refine OL.det trivial (.add64 rfl rfl (by omega) (by omega)) ?_
     refine OL.dp rfl ?_
     refine OL.nil ?_
     repeat rw [inBlk_n]
     try rw [thenK_n]
     refine LoopEnd.mk (T'' := [(0, _), (3, _), (4, _), (5, _), (6, _), (7, _)]) ⟨rfl, rfl, rfl, rfl, rfl, rfl, trivial⟩ ?_
     exact ⟨left.length - (i + 1), by omega, i + 1, _, ⟨by omega, rfl, hB.set hil (hbs.1 g51) (.inr ⟨bn, hbn, hbe, c65⟩), by omega, by omega⟩, rfl, rfl⟩
    skip
    refine PW.skip ?_
    refine hK5 _ _ ?_
    refine PW.k6 0 3 4 5 6 7 rfl rfl rfl rfl rfl rfl ?_
    refine PW.ops ?_
    refine OL.dp rfl ?_
    refine OL.det trivial (.add64 rfl rfl (by omega) (by omega)) ?_
    refine OL.dp rfl ?_
    refine OL.nil ?_
    repeat rw [inBlk_n]
    try rw [thenK_n]
    refine LoopEnd.mk (T'' := [(0, _), (3, _), (4, _), (5, _), (6, _), (7, _)]) ⟨rfl, rfl, rfl, rfl, rfl, rfl, trivial⟩ ?_
    exact ⟨left.length - (i + 1), by omega, i + 1, b, ⟨by omega, rfl, hB.keep hil (fun _ => ⟨bn, hbn, hbe, c65⟩), by omega, by omega⟩, rfl, rfl⟩
   try simp only [cvS] at g51
   refine QK.off rfl rfl ?_
   refine QK.off rfl rfl ?_
   refine QK.off rfl rfl ?_
   refine QK.off rfl rfl ?_
   refine QK.off rfl rfl ?_
   refine QK.off rfl rfl ?_
   refine QK.off rfl rfl ?_
   refine QK.off rfl rfl ?_
   refine QK.off rfl rfl ?_
   refine QK.off rfl rfl ?_
   refine QK.off rfl rfl ?_
   refine QK.nil ?_
   change OL _ _ _ [_, _, _] _ _ _
   refine OL.off rfl rfl ?_
   refine OL.off rfl rfl ?_
   refine OL.dp rfl ?_
   refine OL.nil ?_
   refine hK10 _ _ ?_
   refine PW.k7 0 3 4 5 6 7 65 rfl rfl rfl rfl rfl rfl rfl ?_
   refine PW.ite (b := false) rfl ?_
   rw [if_neg Bool.false_ne_true]
   refine PW.skip ?_
   refine hK5 _ _ ?_
   refine PW.k6 0 3 4 5 6 7 rfl rfl rfl rfl rfl rfl ?_
   refine PW.ops ?_
   refine OL.dp rfl ?_
   refine OL.det trivial (.add64 rfl rfl (by omega) (by omega)) ?_
   refine OL.dp rfl ?_
   refine OL.nil ?_
   repeat rw [inBlk_n]
   try rw [thenK_n]
   refine LoopEnd.mk (T'' := [(0, _), (3, _), (4, _), (5, _), (6, _), (7, _)]) ⟨rfl, rfl, rfl, rfl, rfl, rfl, trivial⟩ ?_
   exact ⟨left.length - (i + 1), by omega, i + 1, b, ⟨by omega, rfl, hB.keep hil (fun hf => absurd (hbs.2 hf) (by rw [g51]; simp)), by omega, by omega⟩, rfl, rfl⟩
  try simp only [cvS] at c22
  refine PW.exit ?_
  refine hK3 _ _ ?_
  refine PW.k5 0 3 4 5 6 rfl rfl rfl rfl rfl ?_
  refine PW.seq fun K11 hK11 => ?_
  refine PW.seqOps ?_
  refine OL.dp rfl ?_
  refine OL.dp rfl ?_
  refine OL.nil ?_
  refine PW.k6 0 3 4 5 6 68 rfl rfl rfl rfl rfl rfl ?_
  refine PW.cond rfl (fun c68 => ?_) (fun c68 => ?_)
  ·try simp only [cvS] at c68
   have hno : ∀ u ∈ left, ¬ Free E left u := by
    have hie : i = left.length := by omega
    rcases hB with ⟨h1, h2⟩ | ⟨n, hn, h1, _⟩
    ·rw [hie, List.take_length] at h2; exact h2
    omega
   have hrest := topo_none ht hno
   rw [hrest, List.append_nil] at hfe
   refine PW.seqOps ?_
   refine OL.dp rfl ?_
   refine OL.dp rfl ?_
   refine OL.nil ?_
   refine PW.k1 2 rfl ?_
   refine PW.ret ?_
   change (Exit.ret = Exit.normal ∨ Exit.ret = Exit.ret) /\ ∃ v, resV _ _ = some v /\ _
   exact ⟨.inr rfl, _, rfl, _, Sub.cons (Sub.drop (Sub.drop (Sub.refl _))), sgo, rfl, by unfold linesP; rw [hfe]; exact hso⟩
  try simp only [cvS] at c68
  obtain ⟨bn, hbn, hbe, hbf, hbb⟩ : ∃ (n : Nat) (hn : n < left.length), b = (n : Int) /\ Free E left left[n] /\ ∀ u ∈ left, Free E left u -> ltV u left[n] = false := by
   have hie : i = left.length := by omega
   rcases hB with ⟨h1, _⟩ | ⟨n, hn, h1, h2, h3⟩
   ·omega
   rw [hie, List.take_length] at h3; exact ⟨n, hn, h1, h2, h3⟩
  have hol2 : (outV.map (lineP (pls l).reverse)).length = outV.length := List.length_map _
  obtain ⟨r2, hre, ht2⟩ := topo_some hnd ht hbn hbf hbb
  have hrLL : Rd w0 (sgo :: sgE :: sgl :: S) (some a3) (vtxs left) := rd_mem (hrl2 []) (by simp)
  refine PW.skip ?_
  refine hK11 _ _ ?_
  refine PW.k5 0 3 4 5 6 rfl rfl rfl rfl rfl ?_
  refine PW.seqOps ?_
  refine OL.dp rfl ?_
  refine OL.dp rfl ?_
  refine OL.dp rfl ?_
  refine OL.dp rfl ?_
  refine OL.det trivial (.ixN (j := bn) rfl rfl hbe hbn) ?_
  refine OL.det trivial (.ldA rfl (vtxL_len _) (vtx_at hrLL hbn)) ?_
  refine OL.call trivial rfl (rLine_fc (h.mono (Over.refl _).cons.cons.cons) hsq (hlv _ (List.getElem_mem hbn))) ?_
  rintro _ Sx ⟨rfl, hSx⟩
  rw [hSx]
  clear hSx
  apply OL.app1 (k := 0)
  ·rfl
  ·rfl
  ·exact (List.size_toArray).trans (lineC_len _)
  ·rfl
  ·rfl
  ·rfl
  ·exact hso
  ·exact lineC_one _
  ·omega
  ·unfold maxLen; omega
  intro v78 seg78 hs78
  have hs78 := line_snocE hs78
  refine OL.dp rfl ?_
  refine OL.nil ?_
  refine PW.k5 0 3 4 5 6 rfl rfl rfl rfl rfl ?_
  refine PW.seqOps ?_
  refine OL.subS (S' := [] :: seg78 :: sgE :: sgl :: S) (Sub.nilL (Sub.refl _)) ?_
  refine OL.dp rfl ?_
  refine OL.nil ?_
  refine PW.k6 0 3 4 5 6 10 rfl rfl rfl rfl rfl rfl ?_
  refine PW.seq fun K12 hK12 => ?_
  refine PW.seqOps ?_
  refine OL.dp rfl ?_
  refine OL.nil ?_
  refine PW.k7 0 3 4 5 6 10 11 rfl rfl rfl rfl rfl rfl rfl ?_
  refine PW.block ?_
  refine PW.k7 0 3 4 5 6 10 11 rfl rfl rfl rfl rfl rfl rfl ?_
  refine PW.loopK (I := fun mk T S' => ∃ (k : Nat) (Ar : Option Addr) (cr : Nat) (sgr : Seg), (k <= left.length /\ mk = left.length - k /\ SlV 32 33 (.slice Ar ((left.take k).eraseIdx bn).length cr) ((left.take k).eraseIdx bn).length (vtxs ((left.take k).eraseIdx bn)) sgr) /\ T = ([(0, .slice A l.length c), (3, .slice (some a3) left.length cl), (4, .slice AE (pairs E).length cE), (5, v78), (6, .int .i64 b), (10, .slice Ar ((left.take k).eraseIdx bn).length cr), (11, .int .i64 k)] : TT) /\ S' = sgr :: seg78 :: sgE :: sgl :: S) (m := left.length) ⟨0, _, _, [], ⟨by omega, by omega, SlV.nil 32 33⟩, rfl, rfl⟩ ?_
  rintro mk _ _ ⟨k, Ar, cr, sgr, ⟨hk, hmk, hsr⟩, rfl, rfl⟩
  refine PW.seq fun K13 hK13 => ?_
  refine PW.seqOps ?_
  refine OL.dp rfl ?_
  refine OL.dp rfl ?_
  refine OL.dp rfl ?_
  refine OL.dp rfl ?_
  refine OL.nil ?_
  refine PW.k8 0 3 4 5 6 10 11 82 rfl rfl rfl rfl rfl rfl rfl rfl ?_
  refine PW.cond rfl (fun c82 => ?_) (fun c82 => ?_)
  ·try simp only [cvS] at c82
   have hkl : k < left.length := by omega
   have hrL3 : Rd w0 (sgr :: seg78 :: sgE :: sgl :: S) (some a3) (vtxs left) := rd_mem (hrl2 []) (by simp)
   have hcs := cut_step (l := left) (n := bn) hkl
   have hcl4 : ((left.take k).eraseIdx bn).length <= k := by
    have := List.length_eraseIdx_le (left.take k) bn
    rw [List.length_take] at this
    omega
   refine PW.skip ?_
   refine hK13 _ _ ?_
   refine PW.k7 0 3 4 5 6 10 11 rfl rfl rfl rfl rfl rfl rfl ?_
   refine PW.seq fun K14 hK14 => ?_
   refine PW.block ?_
   refine PW.seqOps ?_
   refine OL.dp rfl ?_
   refine OL.dp rfl ?_
   refine OL.dp rfl ?_
   refine OL.nil ?_
   refine PW.k8 0 3 4 5 6 10 11 87 rfl rfl rfl rfl rfl rfl rfl rfl ?_
   refine PW.cond rfl (fun c87 => ?_) (fun c87 => ?_)
   ·try simp only [cvS] at c87
    refine PW.ops ?_
    refine OL.dp rfl ?_
    refine OL.dp rfl ?_
    refine OL.dp rfl ?_
    refine OL.det trivial (.ixN rfl rfl rfl hkl) ?_
    refine OL.det trivial (.ldA rfl (vtxL_len _) (vtx_at hrL3 hkl)) ?_
    apply OL.app1 (k := 0)
    ·rfl
    ·rfl
    ·exact (List.size_toArray).trans (vtxL_len _)
    ·rfl
    ·rfl
    ·rfl
    ·exact hsr
    ·exact vtxL_one _
    ·omega
    ·unfold maxLen; omega
    intro v94 seg94 hs94
    have hs94 := vtxs_snoc' hs94
    obtain ⟨A94, c94, rfl, _, _, _⟩ := slv_rdL (w0 := w0) hs94
    refine OL.dp rfl ?_
    refine OL.nil ?_
    refine hK14 _ _ ?_
    refine PW.k7 0 3 4 5 6 10 11 rfl rfl rfl rfl rfl rfl rfl ?_
    refine PW.ops ?_
    refine OL.dp rfl ?_
    refine OL.det trivial (.add64 rfl rfl (by omega) (by omega)) ?_
    refine OL.dp rfl ?_
    refine OL.nil ?_
    repeat rw [inBlk_n]
    try rw [thenK_n]
    refine LoopEnd.mk (T'' := [(0, _), (3, _), (4, _), (5, _), (6, _), (10, _), (11, _)]) ⟨rfl, rfl, rfl, rfl, rfl, rfl, rfl, trivial⟩ ?_
    have hc2 : (left.take (k + 1)).eraseIdx bn = (left.take k).eraseIdx bn ++ [left[k]] := by rw [hcs, if_neg (by omega)]
    rw [<- hc2] at hs94 ⊢
    exact ⟨left.length - (k + 1), by omega, k + 1, _, _, seg94, ⟨by omega, rfl, hs94⟩, rfl, rfl⟩
   try simp only [cvS] at c87
   refine PW.skip ?_
   refine hK14 _ _ ?_
   refine PW.k7 0 3 4 5 6 10 11 rfl rfl rfl rfl rfl rfl rfl ?_
   refine PW.ops ?_
   refine OL.dp rfl ?_
   refine OL.det trivial (.add64 rfl rfl (by omega) (by omega)) ?_
   refine OL.dp rfl ?_
   refine OL.nil ?_
   repeat rw [inBlk_n]
   try rw [thenK_n]
   refine LoopEnd.mk (T'' := [(0, _), (3, _), (4, _), (5, _), (6, _), (10, _), (11, _)]) ⟨rfl, rfl, rfl, rfl, rfl, rfl, rfl, trivial⟩ ?_
   have hc2 : (left.take (k + 1)).eraseIdx bn = (left.take k).eraseIdx bn := by rw [hcs, if_pos (by omega)]
   rw [<- hc2] at hsr ⊢
   exact ⟨left.length - (k + 1), by omega, k + 1, _, _, sgr, ⟨by omega, rfl, hsr⟩, rfl, rfl⟩
  try simp only [cvS] at c82
  refine PW.exit ?_
  refine hK12 _ _ ?_
  refine PW.k4 0 4 5 10 rfl rfl rfl rfl ?_
  refine PW.ops ?_
  refine OL.dp rfl ?_
  refine OL.dp rfl ?_
  refine OL.nil ?_
  repeat rw [inBlk_n]
  try rw [thenK_n]
  refine LoopEnd.mkS (sub_rot) (T'' := [(0, _), (3, _), (4, _), (5, _)]) ⟨rfl, rfl, rfl, rfl, trivial⟩ ?_
  have hke : k = left.length := by omega
  have hcl5 : (left.eraseIdx bn).length + 1 = left.length := by rw [List.length_eraseIdx_of_lt hbn]; omega
  rw [hke, List.take_length] at hsr ⊢
  exact ⟨(left.eraseIdx bn).length, by omega, left.eraseIdx bn, outV ++ [left[bn]], r2, Ar, cr, v78, sgr, seg78, ⟨rfl, hnd.sublist (List.eraseIdx_sublist _ _), fun v hv => hlv v ((List.eraseIdx_sublist _ _).subset hv), by omega, by rw [List.length_append]; simp only [List.length_cons, List.length_nil]; omega, by rw [hfe, hre, List.append_assoc]; rfl, ht2, hsr, by rw [List.map_append]; exact hs78⟩, rfl, rfl⟩
 try simp only [cvS] at c18
 have hl0 : left = [] := List.eq_nil_of_length_eq_zero (by omega)
 have hrest := topo_none ht (fun u hu => by rw [hl0] at hu; cases hu)
 rw [hrest, List.append_nil] at hfe
 refine PW.exit ?_
 refine hK1 _ _ ?_
 refine PW.k1 5 rfl ?_
 refine PW.seqOps ?_
 refine OL.dp rfl ?_
 refine OL.dp rfl ?_
 refine OL.nil ?_
 refine PW.k1 2 rfl ?_
 refine PW.ret ?_
 change (Exit.ret = Exit.normal ∨ Exit.ret = Exit.ret) /\ ∃ v, resV _ _ = some v /\ _
 exact ⟨.inr rfl, _, rfl, _, Sub.cons (Sub.drop (Sub.drop (Sub.refl _))), sgo, rfl, by unfold linesP; rw [hfe]; exact hso⟩
end Go.Proofs.Gr

namespace Go.Proofs.Gr
open Go.SL Go.RowKit Go.Proofs Go.GP
set_option maxHeartbeats 1000000
theorem rAlive_fc {w0 : World} {S : SS} {A : Option Addr} {c : Nat} {l : List PartM} (h : PartsRd w0 S A l) (hsq : Sq (pls l).reverse) (hb : (linesP (pls l).reverse).length <= 1000000) :
  FC Try.prog w0 73 [.slice A l.length c] S (fun v S' => ∃ seg, S' = seg :: S /\ SlV 78 35 v (live (linesP (pls l).reverse)).length (lines (live (linesP (pls l).reverse))) seg) := by
 obtain ⟨LL, hLL⟩ : ∃ z, z = linesP (pls l).reverse := ⟨_, rfl⟩
 rw [<- hLL] at hb ⊢
 refine FC.ofD Try.known73 (by simp) ?_
 unfold Try.pc73
 simp only [argT]
 refine PW.seqOps ?_
 refine OL.dp rfl ?_
 refine OL.nil ?_
 refine PW.k1 0 rfl ?_
 refine PW.seqOps ?_
 refine OL.dp rfl ?_
 refine OL.call trivial rfl (rLines_fc h hsq) ?_
 rintro _ _ ⟨sgl, rfl, hsl⟩
 rw [<- hLL] at hsl
 obtain ⟨Al, cl, rfl, hnl, hcl, hrl⟩ := slv_rdL (w0 := w0) hsl
 refine OL.dp rfl ?_
 refine OL.nil ?_
 refine PW.k1 3 rfl ?_
 refine PW.seqOps ?_
 refine OL.subS (S' := [] :: sgl :: S) (Sub.nilL (Sub.refl _)) ?_
 refine OL.dp rfl ?_
 refine OL.nil ?_
 refine PW.k2 3 4 rfl rfl ?_
 refine PW.seq fun K1 hK1 => ?_
 refine PW.seqOps ?_
 refine OL.dp rfl ?_
 refine OL.nil ?_
 refine PW.k3 3 4 5 rfl rfl rfl ?_
 refine PW.block ?_
 refine PW.k3 3 4 5 rfl rfl rfl ?_
 refine PW.loopK (I := fun mm T S' => ∃ (k : Nat) (vo : Value) (sgo : Seg), (k <= LL.length /\ mm = LL.length - k /\ SlV 78 35 vo (live (LL.take k)).length (lines (live (LL.take k))) sgo) /\ T = ([(3, .slice Al LL.length cl), (4, vo), (5, .int .i64 k)] : TT) /\ S' = sgo :: sgl :: S) (m := LL.length) ⟨0, _, [], ⟨by omega, by omega, SlV.nil 78 35⟩, rfl, rfl⟩ ?_
 rintro mm _ _ ⟨k, vo, sgo, ⟨hk, hmm, hso⟩, rfl, rfl⟩
 refine PW.seq fun K2 hK2 => ?_
 refine PW.seqOps ?_
 refine OL.dp rfl ?_
 refine OL.dp rfl ?_
 refine OL.dp rfl ?_
 refine OL.dp rfl ?_
 refine OL.nil ?_
 refine PW.k4 3 4 5 11 rfl rfl rfl rfl ?_
 refine PW.cond rfl (fun c11 => ?_) (fun c11 => ?_)
 ·try simp only [cvS] at c11
  have hkl : k < LL.length := by omega
  obtain ⟨a0, rfl⟩ := lines_some (hrl []) (by omega)
  have hrl2 : Rd w0 (sgo :: sgl :: S) (some a0) (lines LL) := (hrl _).cons
  have hlv := live_snoc hkl
  have hlvl := live_len (LL.take k)
  rw [List.length_take] at hlvl
  refine PW.skip ?_
  refine hK2 _ _ ?_
  refine PW.k3 3 4 5 rfl rfl rfl ?_
  refine PW.seq fun K3 hK3 => ?_
  refine PW.block ?_
  refine PW.seqOps ?_
  refine OL.dp rfl ?_
  refine OL.dp rfl ?_
  refine OL.det trivial (.ixN rfl rfl rfl hkl) ?_
  refine OL.dp rfl ?_
  refine OL.det trivial (.ld rfl (line_at hrl2 hkl _ _ (lineC_text _).2)) ?_
  refine OL.nil ?_
  refine PW.k4 3 4 5 18 rfl rfl rfl rfl ?_
  refine PW.cond rfl (fun c18 => ?_) (fun c18 => ?_)
  ·skip
   refine PW.ops ?_
   refine OL.dp rfl ?_
   refine OL.dp rfl ?_
   refine OL.dp rfl ?_
   refine OL.det trivial (.ixN rfl rfl rfl hkl) ?_
   refine OL.det trivial (.ldA rfl (lineC_len _) (line_at hrl2 hkl)) ?_
   apply OL.app1 (k := 0)
   ·rfl
   ·rfl
   ·exact (List.size_toArray).trans (lineC_len _)
   ·rfl
   ·rfl
   ·rfl
   ·exact hso
   ·exact lineC_one _
   ·omega
   ·unfold maxLen; omega
   intro v25 seg25 hs25
   refine OL.dp rfl ?_
   refine OL.nil ?_
   refine hK3 _ _ ?_
   refine PW.k3 3 4 5 rfl rfl rfl ?_
   refine PW.ops ?_
   refine OL.dp rfl ?_
   refine OL.det trivial (.add64 rfl rfl (by omega) (by omega)) ?_
   refine OL.dp rfl ?_
   refine OL.nil ?_
   repeat rw [inBlk_n]
   try rw [thenK_n]
   refine LoopEnd.mk (T'' := [(3, _), (4, _), (5, _)]) ⟨rfl, rfl, rfl, trivial⟩ ?_
   exact ⟨LL.length - (k + 1), by omega, k + 1, _, seg25, ⟨by omega, rfl, by rw [hlv, if_pos c18]; exact line_snocE hs25⟩, rfl, rfl⟩
  skip
  refine PW.skip ?_
  refine hK3 _ _ ?_
  refine PW.k3 3 4 5 rfl rfl rfl ?_
  refine PW.ops ?_
  refine OL.dp rfl ?_
  refine OL.det trivial (.add64 rfl rfl (by omega) (by omega)) ?_
  refine OL.dp rfl ?_
  refine OL.nil ?_
  repeat rw [inBlk_n]
  try rw [thenK_n]
  refine LoopEnd.mk (T'' := [(3, _), (4, _), (5, _)]) ⟨rfl, rfl, rfl, trivial⟩ ?_
  exact ⟨LL.length - (k + 1), by omega, k + 1, _, sgo, ⟨by omega, rfl, by rw [hlv, if_neg (by rw [c18]; simp)]; exact hso⟩, rfl, rfl⟩
 try simp only [cvS] at c11
 refine PW.exit ?_
 refine hK1 _ _ ?_
 refine PW.k1 4 rfl ?_
 refine PW.seqOps ?_
 refine OL.dp rfl ?_
 refine OL.dp rfl ?_
 refine OL.nil ?_
 refine PW.k1 2 rfl ?_
 refine PW.ret ?_
 change (Exit.ret = Exit.normal ∨ Exit.ret = Exit.ret) /\ ∃ v, resV _ _ = some v /\ _
 have hke : k = LL.length := by omega
 rw [hke, List.take_length] at hso
 exact ⟨.inr rfl, _, rfl, _, Sub.cons (Sub.drop (Sub.refl _)), sgo, rfl, hso⟩
end Go.Proofs.Gr

namespace Go.Proofs.Gr
open Go.SL Go.RowKit Go.Proofs Go.GP
section
variable {ps : List PartP} {L : List LineP}
noncomputable def docI (ps : List PartP) (L : List LineP) (k : Nat) : List ItemP := (foldI ps L k).1 ++ shut ps (foldI ps L k).2
theorem docI_solid {k : Nat} (hk : k < L.length) (h : solidP ps L L[k] = true) : docI ps L (k + 1) = docI ps L k ++ [⟨[L[k]], false, []⟩] /\ (foldI ps L (k + 1)).2 = [] := by
 unfold docI
 rw [foldI_succ hk]
 unfold stepI
 rw [if_pos h]
 exact ⟨by unfold shut; simp, rfl⟩
theorem docI_new {k : Nat} (hk : k < L.length) (h : solidP ps L L[k] = false) (ho : (foldI ps L k).2 = []) : docI ps L (k + 1) = docI ps L k ++ [⟨[L[k]], true, []⟩] /\ (foldI ps L (k + 1)).2 = [L[k]] := by
 unfold docI
 rw [foldI_succ hk]
 unfold stepI
 rw [if_neg (by rw [h]; simp), ho]
 refine ⟨?_, rfl⟩
 show (foldI ps L k).1 ++ shut ps [L[k]] = _
 unfold shut blockP midsK
 simp
theorem docI_more {k : Nat} (hk : k < L.length) (h : solidP ps L L[k] = false) (ho : (foldI ps L k).2 ≠ []) :
  docI ps L k = (foldI ps L k).1 ++ [blockP ps (foldI ps L k).2] /\ docI ps L (k + 1) = (foldI ps L k).1 ++ [blockP ps ((foldI ps L k).2 ++ [L[k]])] /\ (foldI ps L (k + 1)).2 = (foldI ps L k).2 ++ [L[k]] /\ (foldI ps L (k + 1)).1 = (foldI ps L k).1 := by
 unfold docI
 rw [foldI_succ hk]
 unfold stepI
 rw [if_neg (by rw [h]; simp)]
 refine ⟨by unfold shut; rw [if_neg ho], ?_, rfl, rfl⟩
 show (foldI ps L k).1 ++ shut ps ((foldI ps L k).2 ++ [L[k]]) = _
 unfold shut
 rw [if_neg (by simp)]
theorem foldI_last (hs : Sq ps) (hr : Row ps L) {k : Nat} (hk : k < L.length) (ho : (foldI ps L k).2 ≠ []) : ∃ p, ∃ hp : p < L.length, p + 1 = k /\ (foldI ps L k).2.getLast? = some L[p] := by
 have h := (St.fold hs hr k (by omega)).all
 have hl : 0 < (foldI ps L k).2.length := List.length_pos_iff.2 ho
 have hlen := congrArg List.length h
 rw [List.length_append, List.length_take] at hlen
 refine ⟨k - 1, by omega, by omega, ?_⟩
 have e : (L.take k).getLast? = some L[k - 1] := by
  rw [List.getLast?_eq_getElem?, List.length_take, Nat.min_eq_left (by omega), List.getElem?_take_of_lt (by omega), List.getElem?_eq_getElem (by omega)]
 rw [<- h, List.getLast?_append] at e
 cases e2 : (foldI ps L k).2.getLast? with
 | none => rw [List.getLast?_eq_none_iff] at e2; exact absurd e2 ho
 | some x => rw [e2] at e; simpa using e
theorem mids_more (op : List LineP) (x y : LineP) (hop : op.getLast? = some y) : midsK ps (op ++ [x]) (op ++ [x]).length = if ordP ps y.v x.v = true then midsK ps op op.length else midsK ps op op.length ++ [(op.length : Int)] := by
 have hne : op ≠ [] := fun e => by rw [e] at hop; cases hop
 have hl : 0 < op.length := List.length_pos_iff.2 hne
 have e1 : ∀ k, k <= op.length -> midsK ps (op ++ [x]) k = midsK ps op k := by
  intro k
  induction k with
  | zero => intro _; rfl
  | succ k ih =>
   intro hk
   rw [midsK_succ, midsK_succ, ih (by omega)]
   have g : ∀ j, j < op.length -> (op ++ [x])[j]! = op[j]! := fun j hj => by
    rw [getElem!_pos (op ++ [x]) j (by simp; omega), getElem!_pos op j hj, List.getElem_append_left hj]
   rw [g k (by omega), g (k - 1) (by omega)]
 have e2 : (op ++ [x])[op.length - 1]! = y := by
  rw [getElem!_pos (op ++ [x]) _ (by simp; omega), List.getElem_append_left (by omega)]
  rw [List.getLast?_eq_getElem?, List.getElem?_eq_getElem (by omega)] at hop
  exact Option.some.inj hop
 have e3 : (op ++ [x])[op.length]! = x := by
  rw [getElem!_pos (op ++ [x]) _ (by simp), List.getElem_append_right (Nat.le_refl _)]
  simp
 rw [List.length_append]
 show midsK ps (op ++ [x]) (op.length + 1) = _
 rw [midsK_succ, e1 _ (Nat.le_refl _), e2, e3, decide_eq_true hl, Bool.true_and]
 cases ordP ps y.v x.v <;> simp
end
end Go.Proofs.Gr

namespace Go.Proofs.Gr
open Go.SL Go.RowKit Go.Proofs Go.GP
set_option maxHeartbeats 1000000
theorem item_last {w0 : World} {S : SS} {a : Addr} {I : List ItemM} {x : ItemM} (h : Rd w0 S (some a) (itemS (I ++ [x]))) : ∀ (j : Nat) (v : Value), (itemC x)[j]? = some v -> Cell w0 S ((a.add (I.length * 3)).add j) v := by
 intro j v hj
 have := item_at h (k := I.length) (by simp) j v (by simpa using hj)
 exact this
theorem set_item {I : List ItemM} {x y : ItemM} {a b d : List Value} {k : Nat} {e : List Value} (hx : itemC x = a ++ (b ++ d)) (hy : itemC y = a ++ (e ++ d)) (hb : b.length = e.length) (hk : k = I.length * 3 + a.length) :
  setAt (itemS (I ++ [x])) k e = itemS (I ++ [y]) := by
 have hl := itemS_len I
 have e1 : itemS [x] = itemC x := by simp [itemS]
 have e2 : itemS [y] = itemC y := by simp [itemS]
 rw [itemS_app, itemS_app, e1, e2, hx, hy]
 have := setMid (a := itemS I ++ a) (b := b) (d := d) (e := e) (c := itemS I ++ (a ++ (b ++ d))) (n := k) (by simp only [List.append_assoc]) (by rw [List.length_append]; omega) hb
 rw [this, List.append_assoc]
theorem appI {P : Program} {w0 : World} {n : Nat} {T : TT} {S : SS} {k m q c : Nat} {z v : Value} {s x : PV} {A : Option Addr} {xs l : List Int} {seg : Seg} (hs' : s.val T = some v) (hk : S[k]? = some seg) (hv : SlV 3 1 v m (ints xs) seg)
  (hx : x.val T = some (.slice A q c)) (hm : xs.length = m) (hq : l.length = q) (hrd : Rd w0 S A (ints l)) (hc : A = none -> c = 0) (hb : m + q <= 1000000) :
  OW P w0 n (.app 71 3 1 8 z s x) T S (fun v' S' => ∃ seg', S' = S.set k seg' /\ SlV 3 1 v' (xs ++ l).length (ints (xs ++ l)) seg') := by
 have h := OW.appL (P := P) (w0 := w0) (n := n) (t := 71) (z := z) (bytes := 8) hs' hk hv hx (by simp [ints, hq]) hrd (by decide) hc (by unfold ints; rw [List.all_map]; exact List.all_eq_true.2 fun _ _ => rfl) (by omega) (by unfold maxLen; omega)
 rw [show ints xs ++ ints l = ints (xs ++ l) by simp [ints]] at h
 rw [List.length_append, hm, hq]
 exact h
theorem appN {P : Program} {w0 : World} {n : Nat} {T : TT} {S : SS} {k m q c : Nat} {z v : Value} {s x : PV} {A : Option Addr} {xs l : List LineP} {seg : Seg} (hs' : s.val T = some v) (hk : S[k]? = some seg) (hv : SlV 78 35 v m (lines xs) seg)
  (hx : x.val T = some (.slice A q c)) (hm : xs.length = m) (hq : l.length = q) (hrd : Rd w0 S A (lines l)) (hc : A = none -> c = 0) (hb : m + q <= 1000000) :
  OW P w0 n (.app 74 78 35 64 z s x) T S (fun v' S' => ∃ seg', S' = S.set k seg' /\ SlV 78 35 v' (xs ++ l).length (lines (xs ++ l)) seg') := by
 have h := OW.appL (P := P) (w0 := w0) (n := n) (t := 74) (z := z) (bytes := 64) hs' hk hv hx (by rw [lines_len, hq]) hrd (by decide) hc (lines_one l) (by omega) (by unfold maxLen; omega)
 rw [<- lines_app] at h
 rw [List.length_append, hm, hq]
 exact h
theorem ov_mid {a b c d e : Seg} {S : SS} : Over (a :: b :: d :: e :: S) (a :: b :: c :: d :: e :: S) := fun p hp => by
 simp only [List.flatten_cons, List.mem_append] at hp ⊢
 rcases hp with h | h | h | h | h <;> simp [h]
theorem ov_mid2 {a b c d e : Seg} {S : SS} : Over (a :: c :: d :: e :: S) (a :: b :: c :: d :: e :: S) := fun p hp => by
 simp only [List.flatten_cons, List.mem_append] at hp ⊢
 rcases hp with h | h | h | h | h <;> simp [h]
structure DocM (w0 : World) (ps : List PartP) (L : List LineP) (k : Nat) (its : List ItemM) (Ao : Option Addr) (co : Nat) (sgo sgL sgM junk : Seg) : Prop where
 map : its.map ItemM.pl = docI ps L k
 out : SlV 76 3 (.slice Ao its.length co) its.length (itemS its) sgo
 len : its.length <= k
 shut : (foldI ps L k).2 = [] -> ∀ x ∈ its, ItemOk w0 junk x
 open_ : (foldI ps L k).2 ≠ [] -> ∃ (I : List ItemM) (x : ItemM), its = I ++ [x] /\ (∀ y ∈ I, ItemOk w0 junk y) /\ SlV 78 35 (.slice x.LA x.lines.length x.lc) x.lines.length (lines x.lines) sgL /\ SlV 3 1 (.slice x.MA x.mids.length x.mc) x.mids.length (ints x.mids) sgM
section
variable {w0 : World} {ps : List PartP} {L : List LineP} {k : Nat} {its : List ItemM} {Ao : Option Addr} {co : Nat} {sgo sgL sgM junk : Seg}
theorem slv_eq {E sz m : Nat} {A : Option Addr} {c : Nat} {xs : List Value} {seg : Seg} (h : SlV E sz (.slice A m c) m xs seg) : Rd w0 (seg :: []) A xs /\ (A = none -> c = 0) := by
 obtain ⟨A1, c1, e1, h2, _, r1⟩ := slv_rdL (w0 := w0) h
 cases e1
 exact ⟨r1 [], h2⟩
theorem DocM.openIx (h : DocM w0 ps L k its Ao co sgo sgL sgM junk) (ho : (foldI ps L k).2 ≠ []) : ∃ (I : List ItemM) (x : ItemM), its = I ++ [x] /\ (∀ y ∈ I, ItemOk w0 junk y) /\ SlV 78 35 (.slice x.LA x.lines.length x.lc) x.lines.length (lines x.lines) sgL /\ SlV 3 1 (.slice x.MA x.mids.length x.mc) x.mids.length (ints x.mids) sgM /\ I.map ItemM.pl = (foldI ps L k).1 /\ x.pl = blockP ps (foldI ps L k).2 := by
 obtain ⟨I, x, hi, h1, h2, h3⟩ := h.open_ ho
 refine ⟨I, x, hi, h1, h2, h3, ?_⟩
 have e := h.map
 unfold docI Gr.shut at e
 rw [if_neg ho, hi, List.map_append] at e
 have := List.append_inj e (by
  have := congrArg List.length e
  simp only [List.length_append, List.length_map, List.length_cons, List.length_nil] at this
  rw [List.length_map]
  omega)
 exact ⟨this.1, by simpa using this.2⟩
theorem DocM.allOk (h : DocM w0 ps L k its Ao co sgo sgL sgM junk) (hk : k <= L.length) (hb : (foldI ps L k).2.length <= 60000) : ∀ x ∈ its, ItemOk w0 (sgL ++ (sgM ++ junk)) x := by
 by_cases ho : (foldI ps L k).2 = []
 ·exact fun x hx => (h.shut ho x hx).more fun q hq => by simp [hq]
 obtain ⟨I, x, rfl, h1, h2, h3, h4, h5⟩ := h.openIx ho
 intro y hy
 rcases List.mem_append.1 hy with hy | hy
 ·exact (h1 y hy).more fun q hq => by simp [hq]
 rw [List.mem_singleton.1 hy]
 have hxl : x.lines.length = (foldI ps L k).2.length := congrArg (fun z : ItemP => z.lines.length) h5
 have hxm : x.mids.length <= (foldI ps L k).2.length := by
  have : x.mids = midsK ps (foldI ps L k).2 (foldI ps L k).2.length := congrArg ItemP.mids h5
  rw [this]
  exact midsK_len _ _ _
 exact ⟨(slv_eq h2).1.mono fun q hq => by simp at hq ⊢; exact .inl hq, (slv_eq h3).1.mono fun q hq => by simp at hq ⊢; exact .inr (.inl hq), by omega, by omega⟩
end
end Go.Proofs.Gr

namespace Go.Proofs.Gr
open Go.SL Go.RowKit Go.Proofs Go.GP
set_option maxHeartbeats 1000000
theorem rHasI_fc {w0 : World} {S : SS} {A : Option Addr} {c : Nat} {l : List Int} {z : Int} (hx : Rd w0 S A (ints l)) (hb : l.length <= 1000000000000) :
  FC Try.prog w0 77 [.slice A l.length c, .int .i64 z] S (fun u S' => u = .bool (l.contains z) /\ S' = S) := by
 refine FC.of Try.known77 (by simp) ?_
 unfold Try.pc77
 simp only [argT]
 refine PW.seqOps ?_
 refine OL.dp rfl ?_
 refine OL.nil ?_
 refine PW.k2 0 1 rfl rfl ?_
 refine PW.seq fun K1 hK1 => ?_
 refine PW.seqOps ?_
 refine OL.dp rfl ?_
 refine OL.nil ?_
 refine PW.k3 0 1 5 rfl rfl rfl ?_
 refine PW.block ?_
 refine PW.k3 0 1 5 rfl rfl rfl ?_
 refine PW.loopK (I := fun mm T S' => ∃ (k : Nat), (k <= l.length /\ mm = l.length - k /\ z ∉ l.take k) /\ T = ([(0, .slice A l.length c), (1, .int .i64 z), (5, .int .i64 k)] : TT) /\ S' = S) (m := l.length) ⟨0, ⟨by omega, by omega, by simp⟩, rfl, rfl⟩ ?_
 rintro mm _ _ ⟨k, ⟨hk, hmm, hall⟩, rfl, rfl⟩
 refine PW.seq fun K2 hK2 => ?_
 refine PW.seqOps ?_
 refine OL.dp rfl ?_
 refine OL.dp rfl ?_
 refine OL.dp rfl ?_
 refine OL.dp rfl ?_
 refine OL.nil ?_
 refine PW.k4 0 1 5 9 rfl rfl rfl rfl ?_
 refine PW.cond rfl (fun c9 => ?_) (fun c9 => ?_)
 ·try simp only [cvS] at c9
  have hkl : k < l.length := by omega
  obtain ⟨a0, rfl⟩ := ints_some hx (by omega)
  refine PW.skip ?_
  refine hK2 _ _ ?_
  refine PW.k3 0 1 5 rfl rfl rfl ?_
  refine PW.seq fun K3 hK3 => ?_
  refine PW.block ?_
  refine PW.seqOps ?_
  refine OL.dp rfl ?_
  refine OL.dp rfl ?_
  refine OL.det trivial (.ixN1 rfl rfl rfl (by omega)) ?_
  refine OL.det trivial (.ld rfl (ints_at hx hkl)) ?_
  refine OL.dp rfl ?_
  refine OL.dp rfl ?_
  refine OL.nil ?_
  refine PW.k4 0 1 5 17 rfl rfl rfl rfl ?_
  refine PW.cond rfl (fun c17 => ?_) (fun c17 => ?_)
  ·try simp only [cvS] at c17
   refine PW.seqOps ?_
   refine OL.dp rfl ?_
   refine OL.nil ?_
   refine PW.k1 4 rfl ?_
   refine PW.ret ?_
   change (Exit.ret = Exit.normal ∨ Exit.ret = Exit.ret) /\ ∃ v, resV _ _ = some v /\ _
   exact ⟨.inr rfl, _, rfl, congrArg Value.bool (Eq.symm (List.contains_iff_mem.2 (by rw [<- c17]; exact List.getElem_mem _))), rfl⟩
  try simp only [cvS] at c17
  refine PW.skip ?_
  refine hK3 _ _ ?_
  refine PW.k3 0 1 5 rfl rfl rfl ?_
  refine PW.ops ?_
  refine OL.dp rfl ?_
  refine OL.det trivial (.add64 rfl rfl (by omega) (by omega)) ?_
  refine OL.dp rfl ?_
  refine OL.nil ?_
  repeat rw [inBlk_n]
  try rw [thenK_n]
  refine LoopEnd.mk (T'' := [(0, _), (1, _), (5, _)]) ⟨rfl, rfl, rfl, trivial⟩ ?_
  refine ⟨l.length - (k + 1), by omega, k + 1, ⟨by omega, rfl, fun hm => ?_⟩, rfl, rfl⟩
  rw [ltake_snoc hkl] at hm
  rcases List.mem_append.1 hm with h | h
  ·exact hall h
  rw [List.mem_singleton] at h
  exact c17 h.symm
 try simp only [cvS] at c9
 refine PW.exit ?_
 refine hK1 _ _ ?_
 refine PW.keep (T' := []) trivial ?_
 refine PW.seqOps ?_
 refine OL.dp rfl ?_
 refine OL.nil ?_
 refine PW.k1 4 rfl ?_
 refine PW.ret ?_
 change (Exit.ret = Exit.normal ∨ Exit.ret = Exit.ret) /\ ∃ v, resV _ _ = some v /\ _
 refine ⟨.inr rfl, _, rfl, congrArg Value.bool (Eq.symm ?_), rfl⟩
 have : k = l.length := by omega
 rw [this, List.take_length] at hall
 simpa using hall
theorem rTextI_fc {w0 : World} {S : SS} {A : Option Addr} {c : Nat} {l : List ItemM} (hx : Rd w0 S A (itemS l)) (hr : ∀ x ∈ l, ItemRd w0 S x) (hb : l.length <= 1000000) :
  FC Try.prog w0 37 [.slice A l.length c] S (fun u S' => ∃ seg, S' = seg :: S /\ SlV 9 1 u (textI (pli l)).length (strs (textI (pli l))) seg /\ (textI (pli l)).length <= 120003000000) := by
 have hpl0 : (pli l).length = l.length := List.length_map _
 have hNL : ∀ x ∈ pli l, x.lines.length <= 60000 := fun x hx => by
  obtain ⟨y, hy, rfl⟩ := List.mem_map.1 hx
  exact (hr y hy).nL
 refine FC.of Try.known37 (by simp) ?_
 unfold Try.pc37
 simp only [argT]
 refine PW.seqOps ?_
 refine OL.dp rfl ?_
 refine OL.nil ?_
 refine PW.k1 0 rfl ?_
 refine PW.seqOps ?_
 refine OL.dp rfl ?_
 refine OL.nil ?_
 refine PW.k2 0 3 rfl rfl ?_
 refine PW.seq fun K1 hK1 => ?_
 refine PW.seqOps ?_
 refine OL.subS (S' := [] :: S) (Sub.nilL (Sub.refl _)) ?_
 refine OL.dp rfl ?_
 refine OL.nil ?_
 refine PW.k3 0 3 4 rfl rfl rfl ?_
 refine PW.block ?_
 refine PW.k3 0 3 4 rfl rfl rfl ?_
 refine PW.loopK (I := fun mm T S' => ∃ (k : Nat) (vo : Value) (sgo : Seg), (k <= l.length /\ mm = l.length - k /\ SlV 9 1 vo (textI ((pli l).take k)).length (strs (textI ((pli l).take k))) sgo) /\ T = ([(0, .slice A l.length c), (3, vo), (4, .int .i64 k)] : TT) /\ S' = sgo :: S) (m := l.length) ⟨0, _, [], ⟨by omega, by omega, by simp [textI]; exact SlV.nil 9 1⟩, rfl, rfl⟩ ?_
 rintro mm _ _ ⟨k, vo, sgo, ⟨hk, hmm, hso⟩, rfl, rfl⟩
 refine PW.seq fun K2 hK2 => ?_
 refine PW.seqOps ?_
 refine OL.dp rfl ?_
 refine OL.dp rfl ?_
 refine OL.dp rfl ?_
 refine OL.dp rfl ?_
 refine OL.nil ?_
 refine PW.k4 0 3 4 9 rfl rfl rfl rfl ?_
 refine PW.cond rfl (fun c9 => ?_) (fun c9 => ?_)
 ·try simp only [cvS] at c9
  have hkl : k < l.length := by omega
  obtain ⟨a0, rfl⟩ := itemS_some hx (by omega)
  have hx2 := hx
  have hrk := hr _ (List.getElem_mem hkl)
  have hnL := hrk.nL
  have hnM := hrk.nM
  have htl := textI_len hNL k (by omega)
  refine PW.skip ?_
  refine hK2 _ _ ?_
  refine PW.k3 0 3 4 rfl rfl rfl ?_
  refine PW.seq fun K3 hK3 => ?_
  refine PW.block ?_
  refine PW.seq fun K4 hK4 => ?_
  refine PW.seqOps ?_
  refine OL.dp rfl ?_
  refine OL.dp rfl ?_
  refine OL.det trivial (.ixN rfl rfl rfl hkl) ?_
  refine OL.dp rfl ?_
  refine OL.det trivial (.ld rfl (item_at hx2.cons hkl 1 _ rfl)) ?_
  refine OL.nil ?_
  refine PW.k4 0 3 4 16 rfl rfl rfl rfl ?_
  refine PW.cond rfl (fun c16 => ?_) (fun c16 => ?_)
  ·skip
   refine PW.ops ?_
   refine OL.dp rfl ?_
   apply OL.app1 (k := 0)
   ·rfl
   ·rfl
   ·rfl
   ·rfl
   ·rfl
   ·rfl
   ·exact hso
   ·rfl
   ·omega
   ·unfold maxLen; omega
   intro v19 seg19 hsl19
   obtain ⟨pre, hpre⟩ : ∃ z, z = textI ((pli l).take k) ++ (if l[k].block then [beginB] else []) := ⟨_, rfl⟩
   have hp : SlV 9 1 v19 pre.length (strs pre) seg19 := by
    rw [hpre, if_pos c16]
    exact strs_snoc (z := beginB) hsl19
   have hpl : pre.length <= 120003 * k + 1 := by rw [hpre, List.length_append]; have := textI_len hNL k (by rw [hpl0]; omega); split <;> simp <;> omega
   refine OL.dp rfl ?_
   refine OL.nil ?_
   refine hK4 _ _ ?_
   refine PW.k3 0 3 4 rfl rfl rfl ?_
   refine PW.seq fun K5 hK5 => ?_
   refine PW.seqOps ?_
   refine OL.dp rfl ?_
   refine OL.nil ?_
   refine PW.k4 0 3 4 5 rfl rfl rfl rfl ?_
   refine PW.block ?_
   refine PW.k4 0 3 4 5 rfl rfl rfl rfl ?_
   refine PW.loopK (I := fun mi T S' => ∃ (i : Nat) (vi : Value) (sgi : Seg), (i <= l[k].lines.length /\ mi = l[k].lines.length - i /\ SlV 9 1 vi (pre ++ rowsT l[k].pl i).length (strs (pre ++ rowsT l[k].pl i)) sgi) /\ T = ([(0, .slice (some a0) l.length c), (3, vi), (4, .int .i64 k), (5, .int .i64 i)] : TT) /\ S' = sgi :: S) (m := l[k].lines.length) ⟨0, _, _, ⟨by omega, by omega, by simpa [rowsT] using hp⟩, rfl, rfl⟩ ?_
   rintro mi _ _ ⟨i, vi, sgi, ⟨hi, hmi, hsi⟩, rfl, rfl⟩
   refine PW.seq fun K6 hK6 => ?_
   refine PW.seqOps ?_
   refine OL.dp rfl ?_
   refine OL.dp rfl ?_
   refine OL.dp rfl ?_
   refine OL.det trivial (.ixN rfl rfl rfl hkl) ?_
   refine OL.dp rfl ?_
   refine OL.det trivial (.ld rfl (item_at hx2.cons hkl 0 _ rfl)) ?_
   refine OL.dp rfl ?_
   refine OL.dp rfl ?_
   refine OL.nil ?_
   refine PW.k5 0 3 4 5 27 rfl rfl rfl rfl rfl ?_
   refine PW.cond rfl (fun c27 => ?_) (fun c27 => ?_)
   ·try simp only [cvS] at c27
    have hil : i < l[k].lines.length := by omega
    obtain ⟨b0, hb0⟩ := lines_some hrk.rdL (by omega)
    have hrl2 := hrk.rdL
    rw [hb0] at hrl2
    have hrs := rowsT_succ l[k].pl i
    have hge : l[k].pl.lines[i]! = l[k].lines[i] := getElem!_pos l[k].lines i hil
    have hrl := rowsT_len l[k].pl i
    have hpa : (pre ++ rowsT l[k].pl i).length = pre.length + (rowsT l[k].pl i).length := List.length_append
    refine PW.skip ?_
    refine hK6 _ _ ?_
    refine PW.k4 0 3 4 5 rfl rfl rfl rfl ?_
    refine PW.seq fun K7 hK7 => ?_
    refine PW.block ?_
    refine PW.seq fun K8 hK8 => ?_
    refine PW.seqOps ?_
    refine OL.dp rfl ?_
    refine OL.dp rfl ?_
    refine OL.det trivial (.ixN rfl rfl rfl hkl) ?_
    refine OL.dp rfl ?_
    refine OL.det trivial (.ld rfl (item_at hx2.cons hkl 1 _ rfl)) ?_
    refine OL.bool trivial (Yields.pure rfl) (fun g35 => ?_) (fun g35 => ?_)
    ·try simp only [cvS] at g35
     refine OL.det rfl (.pure rfl) ?_
     refine OL.det rfl (.pure rfl) ?_
     refine OL.det rfl (.ixN rfl rfl rfl hkl) ?_
     refine OL.det rfl (.pure rfl) ?_
     refine OL.det rfl (.ld rfl (item_at hx2.cons hkl 2 _ rfl)) ?_
     refine OL.det rfl (.pure rfl) ?_
     refine OL.call rfl rfl (rHasI_fc (hrk.rdM.cons) (by omega)) ?_
     rintro _ Sx ⟨rfl, hSx⟩
     rw [hSx]
     clear hSx
     refine OL.dp rfl ?_
     refine OL.nil ?_
     refine PW.k5 0 3 4 5 43 rfl rfl rfl rfl rfl ?_
     refine PW.cond rfl (fun c43 => ?_) (fun c43 => ?_)
     ·skip
      refine PW.ops ?_
      refine OL.dp rfl ?_
      apply OL.app1 (k := 0)
      ·rfl
      ·rfl
      ·rfl
      ·rfl
      ·rfl
      ·rfl
      ·exact hsi
      ·rfl
      ·omega
      ·unfold maxLen; omega
      intro v46 seg46 hsl46
      have hsi2 := strs_snoc (l := pre ++ rowsT l[k].pl i) (z := middleB) hsl46
      refine OL.dp rfl ?_
      refine OL.nil ?_
      refine hK8 _ _ ?_
      refine PW.k4 0 3 4 5 rfl rfl rfl rfl ?_
      refine PW.ops ?_
      refine OL.dp rfl ?_
      refine OL.dp rfl ?_
      refine OL.dp rfl ?_
      refine OL.det trivial (.ixN rfl rfl rfl hkl) ?_
      refine OL.dp rfl ?_
      refine OL.det trivial (.ld rfl (item_at hx2.cons hkl 0 _ rfl)) ?_
      rw [hb0]
      refine OL.dp rfl ?_
      refine OL.det trivial (.ixN rfl rfl rfl hil) ?_
      refine OL.dp rfl ?_
      refine OL.det trivial (.ld rfl (line_text hrl2.cons hil)) ?_
      apply OL.app1 (k := 0)
      ·rfl
      ·rfl
      ·rfl
      ·rfl
      ·rfl
      ·rfl
      ·exact (by first | exact hsi2 | exact hsi)
      ·rfl
      ·(first | omega | (simp only [List.length_append, List.length_cons, List.length_nil] at *; omega))
      ·unfold maxLen; (first | omega | (simp only [List.length_append, List.length_cons, List.length_nil] at *; omega))
      intro v58 seg58 hsl58
      refine OL.dp rfl ?_
      refine OL.nil ?_
      refine hK7 _ _ ?_
      refine PW.k4 0 3 4 5 rfl rfl rfl rfl ?_
      refine PW.ops ?_
      refine OL.dp rfl ?_
      refine OL.det trivial (.add64 rfl rfl (by omega) (by omega)) ?_
      refine OL.dp rfl ?_
      refine OL.nil ?_
      repeat rw [inBlk_n]
      try rw [thenK_n]
      refine LoopEnd.mk (T'' := [(0, _), (3, _), (4, _), (5, _)]) ⟨rfl, rfl, rfl, rfl, trivial⟩ ?_
      have he : pre ++ rowsT l[k].pl (i + 1) = pre ++ rowsT l[k].pl i ++ [middleB] ++ [l[k].lines[i].text] := by
       rw [hrs, hge, if_pos (by show (l[k].block && l[k].mids.contains (i : Int)) = true; rw [g35, c43]; rfl)]
       simp only [List.nil_append, List.append_assoc]
      have := strs_snoc (z := l[k].lines[i].text) hsl58
      exact ⟨l[k].lines.length - (i + 1), by omega, i + 1, _, seg58, ⟨by omega, rfl, by rw [he]; exact this⟩, rfl, rfl⟩
     skip
     refine PW.skip ?_
     refine hK8 _ _ ?_
     refine PW.k4 0 3 4 5 rfl rfl rfl rfl ?_
     refine PW.ops ?_
     refine OL.dp rfl ?_
     refine OL.dp rfl ?_
     refine OL.dp rfl ?_
     refine OL.det trivial (.ixN rfl rfl rfl hkl) ?_
     refine OL.dp rfl ?_
     refine OL.det trivial (.ld rfl (item_at hx2.cons hkl 0 _ rfl)) ?_
     rw [hb0]
     refine OL.dp rfl ?_
     refine OL.det trivial (.ixN rfl rfl rfl hil) ?_
     refine OL.dp rfl ?_
     refine OL.det trivial (.ld rfl (line_text hrl2.cons hil)) ?_
     apply OL.app1 (k := 0)
     ·rfl
     ·rfl
     ·rfl
     ·rfl
     ·rfl
     ·rfl
     ·exact (by first | exact hsi2 | exact hsi)
     ·rfl
     ·(first | omega | (simp only [List.length_append, List.length_cons, List.length_nil] at *; omega))
     ·unfold maxLen; (first | omega | (simp only [List.length_append, List.length_cons, List.length_nil] at *; omega))
     intro v58 seg58 hsl58
     refine OL.dp rfl ?_
     refine OL.nil ?_
     refine hK7 _ _ ?_
     refine PW.k4 0 3 4 5 rfl rfl rfl rfl ?_
     refine PW.ops ?_
     refine OL.dp rfl ?_
     refine OL.det trivial (.add64 rfl rfl (by omega) (by omega)) ?_
     refine OL.dp rfl ?_
     refine OL.nil ?_
     repeat rw [inBlk_n]
     try rw [thenK_n]
     refine LoopEnd.mk (T'' := [(0, _), (3, _), (4, _), (5, _)]) ⟨rfl, rfl, rfl, rfl, trivial⟩ ?_
     have he : pre ++ rowsT l[k].pl (i + 1) = pre ++ rowsT l[k].pl i ++ [l[k].lines[i].text] := by
      rw [hrs, hge, if_neg (by show ¬ (l[k].block && l[k].mids.contains (i : Int)) = true; rw [g35, c43]; simp)]
      simp only [List.nil_append, List.append_assoc]
     have := strs_snoc (z := l[k].lines[i].text) hsl58
     exact ⟨l[k].lines.length - (i + 1), by omega, i + 1, _, seg58, ⟨by omega, rfl, by rw [he]; exact this⟩, rfl, rfl⟩
    try simp only [cvS] at g35
    refine OL.off rfl rfl ?_
    refine OL.off rfl rfl ?_
    refine OL.off rfl rfl ?_
    refine OL.off rfl rfl ?_
    refine OL.off rfl rfl ?_
    refine OL.off rfl rfl ?_
    refine OL.off rfl rfl ?_
    refine OL.dp rfl ?_
    refine OL.nil ?_
    refine PW.k5 0 3 4 5 43 rfl rfl rfl rfl rfl ?_
    refine PW.ite (b := false) rfl ?_
    rw [if_neg Bool.false_ne_true]
    refine PW.skip ?_
    refine hK8 _ _ ?_
    refine PW.k4 0 3 4 5 rfl rfl rfl rfl ?_
    refine PW.ops ?_
    refine OL.dp rfl ?_
    refine OL.dp rfl ?_
    refine OL.dp rfl ?_
    refine OL.det trivial (.ixN rfl rfl rfl hkl) ?_
    refine OL.dp rfl ?_
    refine OL.det trivial (.ld rfl (item_at hx2.cons hkl 0 _ rfl)) ?_
    rw [hb0]
    refine OL.dp rfl ?_
    refine OL.det trivial (.ixN rfl rfl rfl hil) ?_
    refine OL.dp rfl ?_
    refine OL.det trivial (.ld rfl (line_text hrl2.cons hil)) ?_
    apply OL.app1 (k := 0)
    ·rfl
    ·rfl
    ·rfl
    ·rfl
    ·rfl
    ·rfl
    ·exact (by first | exact hsi2 | exact hsi)
    ·rfl
    ·(first | omega | (simp only [List.length_append, List.length_cons, List.length_nil] at *; omega))
    ·unfold maxLen; (first | omega | (simp only [List.length_append, List.length_cons, List.length_nil] at *; omega))
    intro v58 seg58 hsl58
    refine OL.dp rfl ?_
    refine OL.nil ?_
    refine hK7 _ _ ?_
    refine PW.k4 0 3 4 5 rfl rfl rfl rfl ?_
    refine PW.ops ?_
    refine OL.dp rfl ?_
    refine OL.det trivial (.add64 rfl rfl (by omega) (by omega)) ?_
    refine OL.dp rfl ?_
    refine OL.nil ?_
    repeat rw [inBlk_n]
    try rw [thenK_n]
    refine LoopEnd.mk (T'' := [(0, _), (3, _), (4, _), (5, _)]) ⟨rfl, rfl, rfl, rfl, trivial⟩ ?_
    have he : pre ++ rowsT l[k].pl (i + 1) = pre ++ rowsT l[k].pl i ++ [l[k].lines[i].text] := by
     rw [hrs, hge, if_neg (by show ¬ (l[k].block && l[k].mids.contains (i : Int)) = true; rw [g35]; simp)]
     simp only [List.nil_append, List.append_assoc]
    have := strs_snoc (z := l[k].lines[i].text) hsl58
    exact ⟨l[k].lines.length - (i + 1), by omega, i + 1, _, seg58, ⟨by omega, rfl, by rw [he]; exact this⟩, rfl, rfl⟩
   try simp only [cvS] at c27
   have hie : i = l[k].lines.length := by omega
   have hpg := pli_get hkl
   have hts := textI_snoc (l := pli l) (k := k) (by omega)
   rw [hpg] at hts
   unfold oneT at hts
   have hts : textI ((pli l).take (k + 1)) = textI ((pli l).take k) ++ ((if l[k].block = true then [beginB] else []) ++ rowsT l[k].pl l[k].lines.length ++ (if l[k].block = true then [closeB] else [])) := hts
   have hrl := rowsT_len l[k].pl i
   have hpa : (pre ++ rowsT l[k].pl i).length = pre.length + (rowsT l[k].pl i).length := List.length_append
   refine PW.exit ?_
   refine hK5 _ _ ?_
   refine PW.k3 0 3 4 rfl rfl rfl ?_
   refine PW.seqOps ?_
   refine OL.dp rfl ?_
   refine OL.dp rfl ?_
   refine OL.det trivial (.ixN rfl rfl rfl hkl) ?_
   refine OL.dp rfl ?_
   refine OL.det trivial (.ld rfl (item_at hx2.cons hkl 1 _ rfl)) ?_
   refine OL.nil ?_
   refine PW.k4 0 3 4 63 rfl rfl rfl rfl ?_
   refine PW.cond rfl (fun c63 => ?_) (fun c63 => ?_)
   ·skip
    refine PW.ops ?_
    refine OL.dp rfl ?_
    apply OL.app1 (k := 0)
    ·rfl
    ·rfl
    ·rfl
    ·rfl
    ·rfl
    ·rfl
    ·exact hsi
    ·rfl
    ·omega
    ·unfold maxLen; omega
    intro v66 seg66 hsl66
    refine OL.dp rfl ?_
    refine OL.nil ?_
    refine hK3 _ _ ?_
    refine PW.k3 0 3 4 rfl rfl rfl ?_
    refine PW.ops ?_
    refine OL.dp rfl ?_
    refine OL.det trivial (.add64 rfl rfl (by omega) (by omega)) ?_
    refine OL.dp rfl ?_
    refine OL.nil ?_
    repeat rw [inBlk_n]
    try rw [thenK_n]
    refine LoopEnd.mk (T'' := [(0, _), (3, _), (4, _)]) ⟨rfl, rfl, rfl, trivial⟩ ?_
    have he : textI ((pli l).take (k + 1)) = pre ++ rowsT l[k].pl i ++ [closeB] := by
     rw [hts, hpre, hie]
     simp only [c63, if_true, List.append_assoc]
    have := strs_snoc (z := closeB) hsl66
    exact ⟨l.length - (k + 1), by omega, k + 1, _, seg66, ⟨by omega, rfl, by rw [he]; exact this⟩, rfl, rfl⟩
   skip
   refine PW.skip ?_
   refine hK3 _ _ ?_
   refine PW.k3 0 3 4 rfl rfl rfl ?_
   refine PW.ops ?_
   refine OL.dp rfl ?_
   refine OL.det trivial (.add64 rfl rfl (by omega) (by omega)) ?_
   refine OL.dp rfl ?_
   refine OL.nil ?_
   repeat rw [inBlk_n]
   try rw [thenK_n]
   refine LoopEnd.mk (T'' := [(0, _), (3, _), (4, _)]) ⟨rfl, rfl, rfl, trivial⟩ ?_
   have he : textI ((pli l).take (k + 1)) = pre ++ rowsT l[k].pl i := by
    rw [hts, hpre, hie]
    simp only [c63, Bool.false_eq_true, if_false, List.append_nil, List.nil_append, List.append_assoc]
   exact ⟨l.length - (k + 1), by omega, k + 1, vi, sgi, ⟨by omega, rfl, by rw [he]; exact hsi⟩, rfl, rfl⟩
  skip
  obtain ⟨pre, hpre⟩ : ∃ z, z = textI ((pli l).take k) ++ (if l[k].block then [beginB] else []) := ⟨_, rfl⟩
  have hp : SlV 9 1 vo pre.length (strs pre) sgo := by
   rw [hpre, if_neg (by rw [c16]; simp), List.append_nil]
   exact hso
  have hpl : pre.length <= 120003 * k + 1 := by rw [hpre, List.length_append]; have := textI_len hNL k (by rw [hpl0]; omega); split <;> simp <;> omega
  refine PW.skip ?_
  refine hK4 _ _ ?_
  refine PW.k3 0 3 4 rfl rfl rfl ?_
  refine PW.seq fun K9 hK9 => ?_
  refine PW.seqOps ?_
  refine OL.dp rfl ?_
  refine OL.nil ?_
  refine PW.k4 0 3 4 5 rfl rfl rfl rfl ?_
  refine PW.block ?_
  refine PW.k4 0 3 4 5 rfl rfl rfl rfl ?_
  refine PW.loopK (I := fun mi T S' => ∃ (i : Nat) (vi : Value) (sgi : Seg), (i <= l[k].lines.length /\ mi = l[k].lines.length - i /\ SlV 9 1 vi (pre ++ rowsT l[k].pl i).length (strs (pre ++ rowsT l[k].pl i)) sgi) /\ T = ([(0, .slice (some a0) l.length c), (3, vi), (4, .int .i64 k), (5, .int .i64 i)] : TT) /\ S' = sgi :: S) (m := l[k].lines.length) ⟨0, _, _, ⟨by omega, by omega, by simpa [rowsT] using hp⟩, rfl, rfl⟩ ?_
  rintro mi _ _ ⟨i, vi, sgi, ⟨hi, hmi, hsi⟩, rfl, rfl⟩
  refine PW.seq fun K10 hK10 => ?_
  refine PW.seqOps ?_
  refine OL.dp rfl ?_
  refine OL.dp rfl ?_
  refine OL.dp rfl ?_
  refine OL.det trivial (.ixN rfl rfl rfl hkl) ?_
  refine OL.dp rfl ?_
  refine OL.det trivial (.ld rfl (item_at hx2.cons hkl 0 _ rfl)) ?_
  refine OL.dp rfl ?_
  refine OL.dp rfl ?_
  refine OL.nil ?_
  refine PW.k5 0 3 4 5 27 rfl rfl rfl rfl rfl ?_
  refine PW.cond rfl (fun c27 => ?_) (fun c27 => ?_)
  ·try simp only [cvS] at c27
   have hil : i < l[k].lines.length := by omega
   obtain ⟨b0, hb0⟩ := lines_some hrk.rdL (by omega)
   have hrl2 := hrk.rdL
   rw [hb0] at hrl2
   have hrs := rowsT_succ l[k].pl i
   have hge : l[k].pl.lines[i]! = l[k].lines[i] := getElem!_pos l[k].lines i hil
   have hrl := rowsT_len l[k].pl i
   have hpa : (pre ++ rowsT l[k].pl i).length = pre.length + (rowsT l[k].pl i).length := List.length_append
   refine PW.skip ?_
   refine hK10 _ _ ?_
   refine PW.k4 0 3 4 5 rfl rfl rfl rfl ?_
   refine PW.seq fun K11 hK11 => ?_
   refine PW.block ?_
   refine PW.seq fun K12 hK12 => ?_
   refine PW.seqOps ?_
   refine OL.dp rfl ?_
   refine OL.dp rfl ?_
   refine OL.det trivial (.ixN rfl rfl rfl hkl) ?_
   refine OL.dp rfl ?_
   refine OL.det trivial (.ld rfl (item_at hx2.cons hkl 1 _ rfl)) ?_
   refine OL.bool trivial (Yields.pure rfl) (fun g35 => ?_) (fun g35 => ?_)
   ·try simp only [cvS] at g35
    refine OL.det rfl (.pure rfl) ?_
    refine OL.det rfl (.pure rfl) ?_
    refine OL.det rfl (.ixN rfl rfl rfl hkl) ?_
    refine OL.det rfl (.pure rfl) ?_
    refine OL.det rfl (.ld rfl (item_at hx2.cons hkl 2 _ rfl)) ?_
    refine OL.det rfl (.pure rfl) ?_
    refine OL.call rfl rfl (rHasI_fc (hrk.rdM.cons) (by omega)) ?_
    rintro _ Sx ⟨rfl, hSx⟩
    rw [hSx]
    clear hSx
    refine OL.dp rfl ?_
    refine OL.nil ?_
    refine PW.k5 0 3 4 5 43 rfl rfl rfl rfl rfl ?_
    refine PW.cond rfl (fun c43 => ?_) (fun c43 => ?_)
    ·skip
     refine PW.ops ?_
     refine OL.dp rfl ?_
     apply OL.app1 (k := 0)
     ·rfl
     ·rfl
     ·rfl
     ·rfl
     ·rfl
     ·rfl
     ·exact hsi
     ·rfl
     ·omega
     ·unfold maxLen; omega
     intro v46 seg46 hsl46
     have hsi2 := strs_snoc (l := pre ++ rowsT l[k].pl i) (z := middleB) hsl46
     refine OL.dp rfl ?_
     refine OL.nil ?_
     refine hK12 _ _ ?_
     refine PW.k4 0 3 4 5 rfl rfl rfl rfl ?_
     refine PW.ops ?_
     refine OL.dp rfl ?_
     refine OL.dp rfl ?_
     refine OL.dp rfl ?_
     refine OL.det trivial (.ixN rfl rfl rfl hkl) ?_
     refine OL.dp rfl ?_
     refine OL.det trivial (.ld rfl (item_at hx2.cons hkl 0 _ rfl)) ?_
     rw [hb0]
     refine OL.dp rfl ?_
     refine OL.det trivial (.ixN rfl rfl rfl hil) ?_
     refine OL.dp rfl ?_
     refine OL.det trivial (.ld rfl (line_text hrl2.cons hil)) ?_
     apply OL.app1 (k := 0)
     ·rfl
     ·rfl
     ·rfl
     ·rfl
     ·rfl
     ·rfl
     ·exact (by first | exact hsi2 | exact hsi)
     ·rfl
     ·(first | omega | (simp only [List.length_append, List.length_cons, List.length_nil] at *; omega))
     ·unfold maxLen; (first | omega | (simp only [List.length_append, List.length_cons, List.length_nil] at *; omega))
     intro v58 seg58 hsl58
     refine OL.dp rfl ?_
     refine OL.nil ?_
     refine hK11 _ _ ?_
     refine PW.k4 0 3 4 5 rfl rfl rfl rfl ?_
     refine PW.ops ?_
     refine OL.dp rfl ?_
     refine OL.det trivial (.add64 rfl rfl (by omega) (by omega)) ?_
     refine OL.dp rfl ?_
     refine OL.nil ?_
     repeat rw [inBlk_n]
     try rw [thenK_n]
     refine LoopEnd.mk (T'' := [(0, _), (3, _), (4, _), (5, _)]) ⟨rfl, rfl, rfl, rfl, trivial⟩ ?_
     have he : pre ++ rowsT l[k].pl (i + 1) = pre ++ rowsT l[k].pl i ++ [middleB] ++ [l[k].lines[i].text] := by
      rw [hrs, hge, if_pos (by show (l[k].block && l[k].mids.contains (i : Int)) = true; rw [g35, c43]; rfl)]
      simp only [List.nil_append, List.append_assoc]
     have := strs_snoc (z := l[k].lines[i].text) hsl58
     exact ⟨l[k].lines.length - (i + 1), by omega, i + 1, _, seg58, ⟨by omega, rfl, by rw [he]; exact this⟩, rfl, rfl⟩
    skip
    refine PW.skip ?_
    refine hK12 _ _ ?_
    refine PW.k4 0 3 4 5 rfl rfl rfl rfl ?_
    refine PW.ops ?_
    refine OL.dp rfl ?_
    refine OL.dp rfl ?_
    refine OL.dp rfl ?_
    refine OL.det trivial (.ixN rfl rfl rfl hkl) ?_
    refine OL.dp rfl ?_
    refine OL.det trivial (.ld rfl (item_at hx2.cons hkl 0 _ rfl)) ?_
    rw [hb0]
    refine OL.dp rfl ?_
    refine OL.det trivial (.ixN rfl rfl rfl hil) ?_
    refine OL.dp rfl ?_
    refine OL.det trivial (.ld rfl (line_text hrl2.cons hil)) ?_
    apply OL.app1 (k := 0)
    ·rfl
    ·rfl
    ·rfl
    ·rfl
    ·rfl
    ·rfl
    ·exact (by first | exact hsi2 | exact hsi)
    ·rfl
    ·(first | omega | (simp only [List.length_append, List.length_cons, List.length_nil] at *; omega))
    ·unfold maxLen; (first | omega | (simp only [List.length_append, List.length_cons, List.length_nil] at *; omega))
    intro v58 seg58 hsl58
    refine OL.dp rfl ?_
    refine OL.nil ?_
    refine hK11 _ _ ?_
    refine PW.k4 0 3 4 5 rfl rfl rfl rfl ?_
    refine PW.ops ?_
    refine OL.dp rfl ?_
    refine OL.det trivial (.add64 rfl rfl (by omega) (by omega)) ?_
    refine OL.dp rfl ?_
    refine OL.nil ?_
    repeat rw [inBlk_n]
    try rw [thenK_n]
    refine LoopEnd.mk (T'' := [(0, _), (3, _), (4, _), (5, _)]) ⟨rfl, rfl, rfl, rfl, trivial⟩ ?_
    have he : pre ++ rowsT l[k].pl (i + 1) = pre ++ rowsT l[k].pl i ++ [l[k].lines[i].text] := by
     rw [hrs, hge, if_neg (by show ¬ (l[k].block && l[k].mids.contains (i : Int)) = true; rw [g35, c43]; simp)]
     simp only [List.nil_append, List.append_assoc]
    have := strs_snoc (z := l[k].lines[i].text) hsl58
    exact ⟨l[k].lines.length - (i + 1), by omega, i + 1, _, seg58, ⟨by omega, rfl, by rw [he]; exact this⟩, rfl, rfl⟩
   try simp only [cvS] at g35
   refine OL.off rfl rfl ?_
   refine OL.off rfl rfl ?_
   refine OL.off rfl rfl ?_
   refine OL.off rfl rfl ?_
   refine OL.off rfl rfl ?_
   refine OL.off rfl rfl ?_
   refine OL.off rfl rfl ?_
   refine OL.dp rfl ?_
   refine OL.nil ?_
   refine PW.k5 0 3 4 5 43 rfl rfl rfl rfl rfl ?_
   refine PW.ite (b := false) rfl ?_
   rw [if_neg Bool.false_ne_true]
   refine PW.skip ?_
   refine hK12 _ _ ?_
   refine PW.k4 0 3 4 5 rfl rfl rfl rfl ?_
   refine PW.ops ?_
   refine OL.dp rfl ?_
   refine OL.dp rfl ?_
   refine OL.dp rfl ?_
   refine OL.det trivial (.ixN rfl rfl rfl hkl) ?_
   refine OL.dp rfl ?_
   refine OL.det trivial (.ld rfl (item_at hx2.cons hkl 0 _ rfl)) ?_
   rw [hb0]
   refine OL.dp rfl ?_
   refine OL.det trivial (.ixN rfl rfl rfl hil) ?_
   refine OL.dp rfl ?_
   refine OL.det trivial (.ld rfl (line_text hrl2.cons hil)) ?_
   apply OL.app1 (k := 0)
   ·rfl
   ·rfl
   ·rfl
   ·rfl
   ·rfl
   ·rfl
   ·exact (by first | exact hsi2 | exact hsi)
   ·rfl
   ·(first | omega | (simp only [List.length_append, List.length_cons, List.length_nil] at *; omega))
   ·unfold maxLen; (first | omega | (simp only [List.length_append, List.length_cons, List.length_nil] at *; omega))
   intro v58 seg58 hsl58
   refine OL.dp rfl ?_
   refine OL.nil ?_
   refine hK11 _ _ ?_
   refine PW.k4 0 3 4 5 rfl rfl rfl rfl ?_
   refine PW.ops ?_
   refine OL.dp rfl ?_
   refine OL.det trivial (.add64 rfl rfl (by omega) (by omega)) ?_
   refine OL.dp rfl ?_
   refine OL.nil ?_
   repeat rw [inBlk_n]
   try rw [thenK_n]
   refine LoopEnd.mk (T'' := [(0, _), (3, _), (4, _), (5, _)]) ⟨rfl, rfl, rfl, rfl, trivial⟩ ?_
   have he : pre ++ rowsT l[k].pl (i + 1) = pre ++ rowsT l[k].pl i ++ [l[k].lines[i].text] := by
    rw [hrs, hge, if_neg (by show ¬ (l[k].block && l[k].mids.contains (i : Int)) = true; rw [g35]; simp)]
    simp only [List.nil_append, List.append_assoc]
   have := strs_snoc (z := l[k].lines[i].text) hsl58
   exact ⟨l[k].lines.length - (i + 1), by omega, i + 1, _, seg58, ⟨by omega, rfl, by rw [he]; exact this⟩, rfl, rfl⟩
  try simp only [cvS] at c27
  have hie : i = l[k].lines.length := by omega
  have hpg := pli_get hkl
  have hts := textI_snoc (l := pli l) (k := k) (by omega)
  rw [hpg] at hts
  unfold oneT at hts
  have hts : textI ((pli l).take (k + 1)) = textI ((pli l).take k) ++ ((if l[k].block = true then [beginB] else []) ++ rowsT l[k].pl l[k].lines.length ++ (if l[k].block = true then [closeB] else [])) := hts
  have hrl := rowsT_len l[k].pl i
  have hpa : (pre ++ rowsT l[k].pl i).length = pre.length + (rowsT l[k].pl i).length := List.length_append
  refine PW.exit ?_
  refine hK9 _ _ ?_
  refine PW.k3 0 3 4 rfl rfl rfl ?_
  refine PW.seqOps ?_
  refine OL.dp rfl ?_
  refine OL.dp rfl ?_
  refine OL.det trivial (.ixN rfl rfl rfl hkl) ?_
  refine OL.dp rfl ?_
  refine OL.det trivial (.ld rfl (item_at hx2.cons hkl 1 _ rfl)) ?_
  refine OL.nil ?_
  refine PW.k4 0 3 4 63 rfl rfl rfl rfl ?_
  refine PW.cond rfl (fun c63 => ?_) (fun c63 => ?_)
  ·skip
   refine PW.ops ?_
   refine OL.dp rfl ?_
   apply OL.app1 (k := 0)
   ·rfl
   ·rfl
   ·rfl
   ·rfl
   ·rfl
   ·rfl
   ·exact hsi
   ·rfl
   ·omega
   ·unfold maxLen; omega
   intro v66 seg66 hsl66
   refine OL.dp rfl ?_
   refine OL.nil ?_
   refine hK3 _ _ ?_
   refine PW.k3 0 3 4 rfl rfl rfl ?_
   refine PW.ops ?_
   refine OL.dp rfl ?_
   refine OL.det trivial (.add64 rfl rfl (by omega) (by omega)) ?_
   refine OL.dp rfl ?_
   refine OL.nil ?_
   repeat rw [inBlk_n]
   try rw [thenK_n]
   refine LoopEnd.mk (T'' := [(0, _), (3, _), (4, _)]) ⟨rfl, rfl, rfl, trivial⟩ ?_
   have he : textI ((pli l).take (k + 1)) = pre ++ rowsT l[k].pl i ++ [closeB] := by
    rw [hts, hpre, hie]
    simp only [c63, if_true, List.append_assoc]
   have := strs_snoc (z := closeB) hsl66
   exact ⟨l.length - (k + 1), by omega, k + 1, _, seg66, ⟨by omega, rfl, by rw [he]; exact this⟩, rfl, rfl⟩
  skip
  refine PW.skip ?_
  refine hK3 _ _ ?_
  refine PW.k3 0 3 4 rfl rfl rfl ?_
  refine PW.ops ?_
  refine OL.dp rfl ?_
  refine OL.det trivial (.add64 rfl rfl (by omega) (by omega)) ?_
  refine OL.dp rfl ?_
  refine OL.nil ?_
  repeat rw [inBlk_n]
  try rw [thenK_n]
  refine LoopEnd.mk (T'' := [(0, _), (3, _), (4, _)]) ⟨rfl, rfl, rfl, trivial⟩ ?_
  have he : textI ((pli l).take (k + 1)) = pre ++ rowsT l[k].pl i := by
   rw [hts, hpre, hie]
   simp only [c63, Bool.false_eq_true, if_false, List.append_nil, List.nil_append, List.append_assoc]
  exact ⟨l.length - (k + 1), by omega, k + 1, vi, sgi, ⟨by omega, rfl, by rw [he]; exact hsi⟩, rfl, rfl⟩
 try simp only [cvS] at c9
 refine PW.exit ?_
 refine hK1 _ _ ?_
 refine PW.k1 3 rfl ?_
 refine PW.seqOps ?_
 refine OL.dp rfl ?_
 refine OL.dp rfl ?_
 refine OL.nil ?_
 refine PW.k1 2 rfl ?_
 refine PW.ret ?_
 change (Exit.ret = Exit.normal ∨ Exit.ret = Exit.ret) /\ ∃ v, resV _ _ = some v /\ _
 have hke : k = (pli l).length := by omega
 rw [hke, List.take_length] at hso
 have := textI_len hNL (pli l).length (Nat.le_refl _)
 rw [List.take_length] at this
 exact ⟨.inr rfl, _, rfl, sgo, rfl, hso, by omega⟩
end Go.Proofs.Gr

namespace Go.Proofs.Gr
open Go.SL Go.RowKit Go.Proofs Go.GP
set_option maxHeartbeats 1000000
theorem item_snocE {E : Nat} {v : Value} {l : List ItemM} {x : ItemM} {seg : Seg} (h : SlV E 3 v (l.length + 1) (itemS l ++ itemC x) seg) : SlV E 3 v (l ++ [x]).length (itemS (l ++ [x])) seg := by
 rw [List.length_append, itemS_app]
 have : itemS [x] = itemC x := by simp [itemS]
 rw [this]
 exact h
end Go.Proofs.Gr

namespace Go.Proofs.Gr
open Go.SL Go.RowKit Go.Proofs Go.GP
set_option maxHeartbeats 1000000
theorem sub_a {a b c d j : Seg} {S : SS} : Sub (b :: [] :: [] :: (a ++ (c ++ (d ++ j))) :: S) (a :: b :: c :: d :: j :: S) :=
 ⟨fun p hp => by
  simp only [List.flatten_cons, List.mem_append, List.nil_append] at hp ⊢
  rcases hp with h | (h | h | h | h) | h <;> simp [h], fun hn => by
  have hperm : (b ++ ((a ++ (c ++ (d ++ j))) ++ S.flatten)).Perm (a ++ (b ++ (c ++ (d ++ (j ++ S.flatten))))) := by
   have h1 : (b ++ ((a ++ (c ++ (d ++ j))) ++ S.flatten)) = (b ++ a) ++ (c ++ (d ++ (j ++ S.flatten))) := by simp only [List.append_assoc]
   have h2 : (a ++ (b ++ (c ++ (d ++ (j ++ S.flatten))))) = (a ++ b) ++ (c ++ (d ++ (j ++ S.flatten))) := by simp only [List.append_assoc]
   rw [h1, h2]
   exact (List.perm_append_comm).append_right _
  have h3 := (hperm.map Prod.fst).nodup_iff.2 (by simpa only [List.flatten_cons] using hn)
  simpa only [List.flatten_cons, List.nil_append] using h3⟩
theorem sub_c {a b c d j : Seg} {S : SS} : Sub (b :: a :: [] :: j :: S) (a :: b :: c :: d :: j :: S) :=
 (Sub.cons (Sub.cons (Sub.nilL (Sub.refl _)))).trans (Sub.sel [1, 0, 4] 5 (by decide) (a :: b :: c :: d :: j :: S))
theorem doc_solid {w0 : World} {ps : List PartP} {L : List LineP} {k : Nat} {its : List ItemM} {Ao A2 : Option Addr} {co c2 r : Nat} {sgo sgL sgM junk sg2 : Seg} (h : DocM w0 ps L k its Ao co sgo sgL sgM junk) (hk : k < L.length) (hl : L.length <= 60000) (hfl : (foldI ps L k).2.length <= L.length) (hs : solidP ps L L[k] = true)
  (ho : SlV 76 3 (.slice A2 (its.length + 1) c2) (its.length + 1) (itemS its ++ itemC ⟨some ⟨r, 0, none⟩, 1, [L[k]], false, none, 0, []⟩) sg2) :
  DocM w0 ps L (k + 1) (its ++ [⟨some ⟨r, 0, none⟩, 1, [L[k]], false, none, 0, []⟩]) A2 c2 sg2 [] [] ([(r, AO.cells (lineC L[k]) 78 35)] ++ (sgL ++ (sgM ++ junk))) := by
 obtain ⟨d1, d2⟩ := docI_solid hk hs
 refine ⟨by rw [List.map_append, h.map, d1]; rfl, ?_, by rw [List.length_append]; have := h.len; simp only [List.length_cons, List.length_nil]; omega, fun _ y hy => ?_, fun hn => absurd d2 hn⟩
 ·have := item_snocE ho
  rw [List.length_append] at this ⊢
  exact this
 rcases List.mem_append.1 hy with hy | hy
 ·exact (h.allOk (by omega) (by omega) y hy).more fun q hq => List.mem_append_right _ hq
 rw [List.mem_singleton.1 hy]
 exact ⟨(Rd.own (E := 78) (tot := 35) (by simp [lines])).mono (fun q hq => hq), Rd.nil, Nat.succ_le_succ (Nat.zero_le _), Nat.zero_le _⟩
theorem doc_new {w0 : World} {ps : List PartP} {L : List LineP} {k : Nat} {its : List ItemM} {Ao A2 : Option Addr} {co c2 r : Nat} {sgo sgL sgM junk sg2 : Seg} (h : DocM w0 ps L k its Ao co sgo sgL sgM junk) (hk : k < L.length) (hs : solidP ps L L[k] = false) (hop : (foldI ps L k).2 = [])
  (ho : SlV 76 3 (.slice A2 (its.length + 1) c2) (its.length + 1) (itemS its ++ itemC ⟨some ⟨r, 0, none⟩, 1, [L[k]], true, none, 0, []⟩) sg2) :
  DocM w0 ps L (k + 1) (its ++ [⟨some ⟨r, 0, none⟩, 1, [L[k]], true, none, 0, []⟩]) A2 c2 sg2 [(r, AO.cells (lineC L[k]) 78 35)] [] junk := by
 obtain ⟨d1, d2⟩ := docI_new hk hs hop
 refine ⟨by rw [List.map_append, h.map, d1]; rfl, ?_, by rw [List.length_append]; have := h.len; simp only [List.length_cons, List.length_nil]; omega, fun hn => absurd (d2.symm.trans hn) (by simp), fun _ => ⟨its, _, rfl, h.shut hop, ?_, SlV.nil 3 1⟩⟩
 ·have := item_snocE ho
  rw [List.length_append] at this ⊢
  exact this
 have := SlV.mk' (E := 78) (sz := 35) (m := 1) (cap := 1) (r := r) (xs := lineC L[k]) (by rw [lineC_len]) (Nat.le_refl _) (by decide)
 simpa [lines] using this
theorem doc_more {w0 : World} {ps : List PartP} {L : List LineP} {k : Nat} {I : List ItemM} {x y : ItemM} {Ao A2 : Option Addr} {co c2 : Nat} {sgo sgL sgM junk sg2 sgL2 sgM2 : Seg} (h : DocM w0 ps L k (I ++ [x]) Ao co sgo sgL sgM junk) (hk : k < L.length) (hs : solidP ps L L[k] = false) (hop : (foldI ps L k).2 ≠ [])
  (hI : I.map ItemM.pl = (foldI ps L k).1) (hok : ∀ y ∈ I, ItemOk w0 junk y) (hy : y.pl = blockP ps ((foldI ps L k).2 ++ [L[k]]))
  (ho : SlV 76 3 (.slice A2 (I ++ [y]).length c2) (I ++ [y]).length (itemS (I ++ [y])) sg2) (hL : SlV 78 35 (.slice y.LA y.lines.length y.lc) y.lines.length (lines y.lines) sgL2) (hM : SlV 3 1 (.slice y.MA y.mids.length y.mc) y.mids.length (ints y.mids) sgM2) :
  DocM w0 ps L (k + 1) (I ++ [y]) A2 c2 sg2 sgL2 sgM2 junk := by
 obtain ⟨d0, d1, d2, d3⟩ := docI_more hk hs hop
 have hlen := h.len
 rw [List.length_append] at hlen
 refine ⟨by rw [List.map_append, hI, d1, <- hy]; rfl, ho, by rw [List.length_append]; simp only [List.length_cons, List.length_nil] at hlen ⊢; omega, fun hn => absurd (d2.symm.trans hn) (by simp), fun _ => ⟨I, y, rfl, hok, hL, hM⟩⟩
end Go.Proofs.Gr

namespace Go.Proofs.Gr
open Go.SL Go.RowKit Go.Proofs Go.GP
set_option maxHeartbeats 1000000
theorem item_stf {P : Program} {w0 : World} {n : Nat} {T : TT} {S : SS} {k ro i f tot E : Nat} {x v : PV} {c : List Value} {u : Value} (hk : S[k]? = some [(ro, .cells c E tot)]) (hx : x.val T = some (.pointer (some (((⟨ro, 0, none⟩ : Addr).add (i * 3)).add f)))) (hv : v.val T = some u) (hu : u.cells.size = 1) (hb : i * 3 + f + 1 <= c.length) (ho : u.cells.toList.all (·.oneCell') = true) :
  OW P w0 n (.st 1 x v) T S (fun _ S' => S' = S.set k [(ro, .cells (setAt c (i * 3 + f) u.cells.toList) E tot)]) := by
 rw [addr_add_add, add_own] at hx
 exact OW.st (k := k) (c := c) (u := u) hx hv hk hu hb ho
theorem sub_fin {a b c j t : Seg} {S : SS} : Sub (a :: (b ++ (c ++ j)) :: S) (a :: b :: c :: j :: t :: S) :=
 (Sub.cons Sub.join).trans ((Sub.cons (Sub.cons Sub.join)).trans (Sub.cons (Sub.cons (Sub.cons (Sub.cons (Sub.drop (Sub.refl _)))))))
theorem rItems_fc {w0 : World} {S : SS} {A : Option Addr} {c : Nat} {l : List PartM} (h : PartsRd w0 S A l) (hsq2 : Sq (pls l).reverse) (hb : (linesP (pls l).reverse).length <= 60000) :
  FC Try.prog w0 34 [.slice A l.length c] S (fun v S' => ∃ its seg junk, S' = seg :: junk :: S /\ its.map ItemM.pl = itemsP (pls l).reverse /\ SlV 76 3 v its.length (itemS its) seg /\ (∀ x ∈ its, ItemOk w0 junk x) /\ its.length <= 60000) := by
 obtain ⟨ps, hps⟩ : ∃ z, z = (pls l).reverse := ⟨_, rfl⟩
 have hsq : Sq ps := by rw [hps]; exact hsq2
 rw [<- hps] at hb ⊢
 obtain ⟨L, hL⟩ : ∃ z, z = live (linesP ps) := ⟨_, rfl⟩
 have hrow : Row ps L := by rw [hL]; exact linesP_row hsq
 have hlb : L.length <= 60000 := by rw [hL]; exact Nat.le_trans (live_len _) hb
 have hv : ∀ x ∈ L, x.v ∈ allV (pls l) := fun x hx => by
  rw [hL] at hx
  obtain ⟨k, hk, rfl⟩ := List.getElem_of_mem (List.mem_filter.1 hx).1
  obtain ⟨q, hq, hv⟩ := mem_allV.1 (linesP_v hk)
  rw [hps] at hq
  exact mem_allV.2 ⟨q, List.mem_reverse.1 hq, hv⟩
 refine FC.ofD Try.known34 (by simp) ?_
 unfold Try.pc34
 simp only [argT]
 refine PW.seqOps ?_
 refine OL.dp rfl ?_
 refine OL.nil ?_
 refine PW.k1 0 rfl ?_
 refine PW.seqOps ?_
 refine OL.dp rfl ?_
 refine OL.call trivial rfl (rAlive_fc h hsq2 (by rw [<- hps]; omega)) ?_
 rintro _ _ ⟨sgl, rfl, hsl⟩
 rw [<- hps, <- hL] at hsl
 obtain ⟨Bl, bc, rfl, hnl, hcl, hrl⟩ := slv_rdL (w0 := w0) hsl
 refine OL.dp rfl ?_
 refine OL.nil ?_
 refine PW.k2 0 3 rfl rfl ?_
 refine PW.seqOps ?_
 refine OL.subS (S' := [] :: [] :: [] :: [] :: sgl :: S) (Sub.nilL (Sub.nilL (Sub.nilL (Sub.nilL (Sub.refl _))))) ?_
 refine OL.dp rfl ?_
 refine OL.nil ?_
 refine PW.k3 0 3 4 rfl rfl rfl ?_
 refine PW.seq fun K1 hK1 => ?_
 refine PW.seqOps ?_
 refine OL.dp rfl ?_
 refine OL.nil ?_
 refine PW.k4 0 3 4 5 rfl rfl rfl rfl ?_
 refine PW.block ?_
 refine PW.k4 0 3 4 5 rfl rfl rfl rfl ?_
 refine PW.loopK (I := fun mm T S' => ∃ (k : Nat) (its : List ItemM) (Ao : Option Addr) (co : Nat) (sgo sgL sgM junk : Seg), (k <= L.length /\ mm = L.length - k /\ DocM w0 ps L k its Ao co sgo sgL sgM junk) /\ T = ([(0, .slice A l.length c), (3, .slice Bl L.length bc), (4, .slice Ao its.length co), (5, .int .i64 k)] : TT) /\ S' = sgo :: sgL :: sgM :: junk :: sgl :: S) (m := L.length) ⟨0, [], _, _, [], [], [], [], ⟨by omega, by omega, ⟨rfl, SlV.nil 76 3, Nat.le_refl 0, (fun _ x hx => by cases hx), fun hn => absurd rfl hn⟩⟩, rfl, rfl⟩ ?_
 rintro mm _ _ ⟨k, its, Ao, co, sgo, sgL, sgM, junk, ⟨hk, hmm, hm⟩, rfl, rfl⟩
 refine PW.seq fun K2 hK2 => ?_
 refine PW.seqOps ?_
 refine OL.dp rfl ?_
 refine OL.dp rfl ?_
 refine OL.dp rfl ?_
 refine OL.dp rfl ?_
 refine OL.nil ?_
 refine PW.k5 0 3 4 5 12 rfl rfl rfl rfl rfl ?_
 refine PW.cond rfl (fun c12 => ?_) (fun c12 => ?_)
 ·try simp only [cvS] at c12
  have hkl : k < L.length := by omega
  obtain ⟨b0, rfl⟩ := lines_some (hrl []) (by omega)
  have hLb : Rd w0 (sgo :: sgL :: sgM :: junk :: sgl :: S) (some b0) (lines L) := rd_mem (hrl []) (by simp)
  have hfl : (foldI ps L k).2.length <= L.length := Nat.le_trans ((St.fold hsq hrow k (by omega)).opLen (by omega)) (by omega)
  have hit := hm.len
  refine PW.skip ?_
  refine hK2 _ _ ?_
  refine PW.k4 0 3 4 5 rfl rfl rfl rfl ?_
  refine PW.seq fun K3 hK3 => ?_
  refine PW.block ?_
  refine PW.seq fun K4 hK4 => ?_
  refine PW.seqOps ?_
  refine OL.dp rfl ?_
  refine OL.dp rfl ?_
  refine OL.dp rfl ?_
  refine OL.call trivial rfl (rSolid_fc (r := solidP ps L L[k]) h.cons.cons.cons.cons.cons hsq2 (rd_mem (hrl []) (by simp)) hv (fun j k hj hk hn => hrow.ne hj hk hn) hkl (by omega) (by rw [<- hps]; exact solid_ix hrow hkl)) ?_
  rintro _ Sx ⟨rfl, hSx⟩
  rw [hSx]
  clear hSx
  refine OL.nil ?_
  refine PW.k5 0 3 4 5 18 rfl rfl rfl rfl rfl ?_
  refine PW.cond rfl (fun c18 => ?_) (fun c18 => ?_)
  ·skip
   refine PW.seqOps ?_
   refine OL.dp rfl ?_
   refine OL.dp rfl ?_
   refine OL.dp rfl ?_
   refine OL.det trivial (.ixN rfl rfl rfl hkl) ?_
   refine OL.det trivial (.ldA rfl (lineC_len _) (line_at hLb hkl)) ?_
   refine OL.cons trivial (OW.bsl (cs := lineC L[k]) (fill_line1 rfl rfl)) ?_
   rintro _ _ ⟨r24, rfl, rfl⟩
   rw [lineC_len]
   refine OL.det trivial (.build (cs := itemC ⟨some ⟨r24, 0, none⟩, 1, [L[k]], false, none, 0, []⟩) rfl) ?_
   apply OL.app1 (k := 1)
   ·rfl
   ·rfl
   ·rfl
   ·rfl
   ·rfl
   ·rfl
   ·exact hm.out
   ·rfl
   ·omega
   ·unfold maxLen; omega
   intro v27 seg27 hs27
   obtain ⟨A27, c27, rfl, _, _, _⟩ := slv_rdL (w0 := w0) hs27
   have hdm := doc_solid hm hkl hlb hfl c18 hs27
   refine OL.dp rfl ?_
   refine OL.nil ?_
   refine PW.k4 0 3 4 5 rfl rfl rfl rfl ?_
   refine PW.exit ?_
   refine hK3 _ _ ?_
   refine PW.k4 0 3 4 5 rfl rfl rfl rfl ?_
   refine PW.ops ?_
   refine OL.dp rfl ?_
   refine OL.det trivial (.add64 rfl rfl (by omega) (by omega)) ?_
   refine OL.dp rfl ?_
   refine OL.nil ?_
   repeat rw [inBlk_n]
   try rw [thenK_n]
   refine LoopEnd.mkS (sub_a) (T'' := [(0, _), (3, _), (4, _), (5, _)]) ⟨rfl, rfl, rfl, rfl, trivial⟩ ?_
   exact ⟨L.length - (k + 1), by omega, k + 1, _, _, _, _, _, _, _, ⟨by omega, rfl, hdm⟩, by simp only [List.length_append, List.length_cons, List.length_nil]; rfl, rfl⟩
  skip
  refine PW.skip ?_
  refine hK4 _ _ ?_
  refine PW.k4 0 3 4 5 rfl rfl rfl rfl ?_
  refine PW.seqOps ?_
  refine OL.dp rfl ?_
  refine OL.dp rfl ?_
  refine OL.dp rfl ?_
  refine OL.nil ?_
  refine PW.k5 0 3 4 5 6 rfl rfl rfl rfl rfl ?_
  refine PW.seq fun K5 hK5 => ?_
  refine PW.seqOps ?_
  refine OL.dp rfl ?_
  refine OL.dp rfl ?_
  refine OL.bool trivial (Yields.pure rfl) (fun g32 => ?_) (fun g32 => ?_)
  ·try simp only [cvS] at g32
   have hpos : 0 < its.length := by omega
   obtain ⟨ro, capo, eo, rfl, hc1, hc2⟩ := slv_own hm.out hpos
   simp only [Value.slice.injEq, true_and] at eo
   obtain ⟨rfl, rfl⟩ := eo
   refine OL.det rfl (.pure rfl) ?_
   refine OL.det rfl (.pure rfl) ?_
   refine OL.det rfl (.sub64 rfl rfl (by omega) (by omega)) ?_
   refine OL.det rfl (.ixN (j := its.length - 1) rfl rfl (by omega) (by omega)) ?_
   refine OL.det rfl (.pure rfl) ?_
   refine OL.det rfl (.ld rfl (item_at (k := its.length - 1) (rd_mem (slv_eq hm.out).1 (by simp)) (by omega) 1 _ rfl)) ?_
   refine OL.dp rfl ?_
   refine OL.nil ?_
   refine PW.k6 0 3 4 5 6 39 rfl rfl rfl rfl rfl rfl ?_
   refine PW.cond rfl (fun c39 => ?_) (fun c39 => ?_)
   ·skip
    have hnb : ¬ its[its.length - 1].pl.block = false := fun e => by rw [show its[its.length - 1].block = false from e] at c39; cases c39
    have hop : (foldI ps L k).2 ≠ [] := fun e => hnb (by
     have hst := (St.fold hsq hrow k (by omega)).last
     have hd : docI ps L k = (foldI ps L k).1 := by unfold docI Gr.shut; rw [if_pos e, List.append_nil]
     refine hst its[its.length - 1].pl ?_
     rw [<- hd, <- hm.map, List.getLast?_map, List.getLast?_eq_getElem?, List.getElem?_eq_getElem (by omega)]
     rfl)
    obtain ⟨I, xb, rfl, hIok, hbl, hbm, hI, hxb⟩ := hm.openIx hop
    have hil : (I ++ [xb]).length = I.length + 1 := by simp
    obtain ⟨p, hp, hpk, hpl⟩ := foldI_last hsq hrow hkl hop
    subst hpk
    have hxl : xb.lines = (foldI ps L (p + 1)).2 := congrArg ItemP.lines hxb
    have hxm : xb.mids = midsK ps (foldI ps L (p + 1)).2 (foldI ps L (p + 1)).2.length := congrArg ItemP.mids hxb
    have hxk : xb.block = true := congrArg ItemP.block hxb
    have hml := midsK_len ps (foldI ps L (p + 1)).2 (foldI ps L (p + 1)).2.length
    have hol : (foldI ps L (p + 1)).2.length <= p + 1 := (St.fold hsq hrow (p + 1) (by omega)).opLen (by omega)
    have hxll : xb.lines.length <= p + 1 := by rw [hxl]; exact hol
    have hxml : xb.mids.length <= p + 1 := by rw [hxm]; omega
    have hmore := mids_more (ps := ps) (foldI ps L (p + 1)).2 L[p + 1] L[p] hpl
    have hLa := hbl
    have hMa := hbm
    have hro : ∀ T : SS, Rd w0 ([(ro, .cells (itemS (I ++ [xb])) 76 (co * 3))] :: T) (some ⟨ro, 0, none⟩) (itemS (I ++ [xb])) := fun T => Rd.own (E := 76) (tot := co * 3) (by simp)
    have hLb : Rd w0 ([(ro, .cells (itemS (I ++ [xb])) 76 (co * 3))] :: sgL :: sgM :: junk :: sgl :: S) (some b0) (lines L) := rd_mem (hrl []) (by simp)
    refine PW.seq fun K6 hK6 => ?_
    refine PW.seq fun K7 hK7 => ?_
    refine PW.quietK Try.mixed ?_
    refine QK.dp rfl ?_
    refine QK.dp rfl ?_
    refine QK.dp rfl ?_
    refine QK.det trivial (.sub64 rfl rfl (by omega) (by omega)) ?_
    refine QK.det trivial (.ixN (j := p) rfl rfl (by omega) hp) ?_
    refine QK.dp rfl ?_
    refine QK.det trivial (.ldA rfl (vtxL_len _) (line_vtx hLb hp)) ?_
    refine QK.dp rfl ?_
    refine QK.dp rfl ?_
    refine QK.det trivial (.ixN (j := p + 1) rfl rfl rfl hkl) ?_
    refine QK.dp rfl ?_
    refine QK.det trivial (.ldA rfl (vtxL_len _) (line_vtx hLb hkl)) ?_
    refine QK.nil ?_
    change OL _ _ _ [_, _] _ _ _
    refine OL.call trivial rfl (rOrd_fc h.cons.cons.cons.cons.cons hsq2 (hv _ (List.getElem_mem hp)) (hv _ (List.getElem_mem hkl)) (hrow.ne hp hkl (by omega))) ?_
    rintro _ Sx ⟨rfl, hSx⟩
    rw [hSx]
    clear hSx
    rw [<- hps]
    refine OL.dp rfl ?_
    refine OL.nil ?_
    refine hK7 _ _ ?_
    refine PW.k6 0 3 4 5 6 53 rfl rfl rfl rfl rfl rfl ?_
    refine PW.cond rfl (fun c53 => ?_) (fun c53 => ?_)
    ·try simp only [cvS] at c53
     refine PW.quietRNK (base := [(ro, .cells (itemS (I ++ [xb])) 76 (co * 3))] :: sgL :: junk :: sgl :: S) Try.mixed ov_mid ?_
     refine QN.det trivial (fun Sx hSx => Yields.pure rfl) ?_
     refine QN.det trivial (fun Sx hSx => Yields.pure rfl) ?_
     refine QN.det trivial (fun Sx hSx => Yields.sub64 rfl rfl (by omega) (by omega)) ?_
     refine QN.det trivial (fun Sx hSx => Yields.pure rfl) ?_
     refine QN.det trivial (fun Sx hSx => Yields.pure rfl) ?_
     refine QN.det trivial (fun Sx hSx => Yields.sub64 rfl rfl (by omega) (by omega)) ?_
     refine QN.det trivial (fun Sx hSx => Yields.ixN (j := I.length) rfl rfl (by omega) (by omega)) ?_
     refine QN.det trivial (fun Sx hSx => Yields.pure rfl) ?_
     refine QN.det trivial (fun Sx hSx => Yields.ld rfl (item_last ((hro _).mono hSx) 2 _ rfl)) ?_
     refine QN.det trivial (fun Sx hSx => Yields.pure rfl) ?_
     refine QN.det trivial (fun Sx hSx => Yields.pure rfl) ?_
     refine QN.det trivial (fun Sx hSx => Yields.sub64 rfl rfl (by omega) (by omega)) ?_
     refine QN.det trivial (fun Sx hSx => Yields.ixN (j := I.length) rfl rfl (by omega) (by omega)) ?_
     refine QN.det trivial (fun Sx hSx => Yields.pure rfl) ?_
     refine QN.det trivial (fun Sx hSx => Yields.ld rfl (item_last ((hro _).mono hSx) 0 _ rfl)) ?_
     refine QN.det trivial (fun Sx hSx => Yields.pure rfl) ?_
     refine QN.hole ?_
     refine QN.hole ?_
     refine QN.nil ⟨rfl, rfl, ordB_of (hp := [16, 17]) rfl (by decide), ?_⟩
     refine ⟨rfl, OW.mono (OW.bsl (cs := ints [(xb.lines.length : Int)]) rfl) ?_⟩
     rintro _ _ ⟨r70, rfl, rfl⟩
     refine ⟨ov_mid.cons, ?_⟩
     refine ⟨rfl, OW.mono (appI (k := 3) (xs := xb.mids) (l := [(xb.lines.length : Int)]) rfl rfl hMa rfl rfl rfl (Rd.own (E := 3) (List.mem_flatten.2 ⟨_, .head _, List.mem_singleton.2 rfl⟩)) (fun h => by cases h) (by omega)) ?_⟩
     rintro v71 _ ⟨sg71, rfl, hs71⟩
     obtain ⟨A71, c71, rfl, hn71, hc71, hr71⟩ := slv_rdL (w0 := w0) hs71
     refine ⟨ov_mid.cons, ?_⟩
     change OL _ _ _ [_, _, _] _ _ _
     refine OL.det trivial (.ixN (j := I.length) rfl rfl (by omega) (by omega)) ?_
     refine OL.dp rfl ?_
     refine OL.cons trivial (item_stf (k := 1) (ro := ro) (i := I.length) (f := 2) (c := itemS (I ++ [xb])) (u := .slice A71 (xb.mids ++ [(xb.lines.length : Int)]).length c71) rfl rfl rfl rfl (by rw [itemS_len]; omega) rfl) ?_
     rintro _ _ rfl
     change OL _ _ _ _ _ ([(r70, .cells (ints [(xb.lines.length : Int)]) 3 1)] :: [(ro, .cells (setAt (itemS (I ++ [xb])) (I.length * 3 + 2) [.slice A71 (xb.mids ++ [(xb.lines.length : Int)]).length c71]) 76 (co * 3))] :: sgL :: sg71 :: junk :: sgl :: S) _
     obtain ⟨x1, hx1⟩ : ∃ z : ItemM, z = ⟨xb.LA, xb.lc, xb.lines, xb.block, A71, c71, xb.mids ++ [(xb.lines.length : Int)]⟩ := ⟨_, rfl⟩
     obtain ⟨sgM1, hsg⟩ : ∃ z, z = sg71 := ⟨_, rfl⟩
     rw [set_item (x := xb) (y := x1) (a := [.slice xb.LA xb.lines.length xb.lc, .bool xb.block]) (b := [.slice xb.MA xb.mids.length xb.mc]) (d := []) (e := [.slice A71 (xb.mids ++ [(xb.lines.length : Int)]).length c71]) (k := I.length * 3 + 2) rfl (by rw [hx1]; rfl) rfl (by simp), <- hsg]
     refine OL.subS (Sub.drop (Sub.refl _)) ?_
     have hM1 : SlV 3 1 (.slice x1.MA x1.mids.length x1.mc) x1.mids.length (ints x1.mids) sgM1 := by rw [hx1, hsg]; exact hs71
     have hm1 : x1.mids = midsK ps ((foldI ps L (p + 1)).2 ++ [L[p + 1]]) ((foldI ps L (p + 1)).2 ++ [L[p + 1]]).length := by rw [hmore, if_neg (by rw [c53]; simp), hx1, <- hxm, <- hxl]
     have hl1 : x1.lines = xb.lines := by rw [hx1]
     have hk1 : x1.block = true := by rw [hx1]; exact hxk
     have hLa : SlV 78 35 (.slice x1.LA x1.lines.length x1.lc) x1.lines.length (lines x1.lines) sgL := by rw [hx1]; exact hbl
     have hxll1 : x1.lines.length <= p + 1 := by rw [hl1]; exact hxll
     have hro1 : ∀ T : SS, Rd w0 ([(ro, .cells (itemS (I ++ [x1])) 76 (co * 3))] :: T) (some ⟨ro, 0, none⟩) (itemS (I ++ [x1])) := fun T => Rd.own (E := 76) (tot := co * 3) (by simp)
     have hLb2 : Rd w0 ([(ro, .cells (itemS (I ++ [x1])) 76 (co * 3))] :: sgM1 :: junk :: sgl :: S) (some b0) (lines L) := rd_mem (hrl []) (by simp)
     have hil1 : (I ++ [x1]).length = I.length + 1 := by simp
     refine OL.nil ?_
     refine hK6 _ _ ?_
     refine PW.k5 0 3 4 5 6 rfl rfl rfl rfl rfl ?_
     refine PW.seq fun K8 hK8 => ?_
     refine PW.quietRNK (base := [(ro, .cells (itemS (I ++ [x1])) 76 (co * 3))] :: sgM1 :: junk :: sgl :: S) Try.mixed ov_mid2 ?_
     refine QN.det trivial (fun Sx hSx => Yields.pure rfl) ?_
     refine QN.det trivial (fun Sx hSx => Yields.pure rfl) ?_
     refine QN.det trivial (fun Sx hSx => Yields.sub64 rfl rfl (by omega) (by omega)) ?_
     refine QN.det trivial (fun Sx hSx => Yields.pure rfl) ?_
     refine QN.det trivial (fun Sx hSx => Yields.pure rfl) ?_
     refine QN.det trivial (fun Sx hSx => Yields.sub64 rfl rfl (by omega) (by omega)) ?_
     refine QN.det trivial (fun Sx hSx => Yields.ixN (j := I.length) rfl rfl (by omega) (by omega)) ?_
     refine QN.det trivial (fun Sx hSx => Yields.pure rfl) ?_
     refine QN.det trivial (fun Sx hSx => Yields.ld rfl (item_last ((hro1 _).mono hSx) 0 _ rfl)) ?_
     refine QN.det trivial (fun Sx hSx => Yields.pure rfl) ?_
     refine QN.det trivial (fun Sx hSx => Yields.pure rfl) ?_
     refine QN.det trivial (fun Sx hSx => Yields.ixN (j := p + 1) rfl rfl rfl hkl) ?_
     refine QN.det trivial (fun Sx hSx => Yields.ldA rfl (lineC_len _) (line_at (hLb2.mono hSx) hkl)) ?_
     refine QN.hole ?_
     refine QN.hole ?_
     refine QN.nil ⟨rfl, rfl, ordB_of (hp := [13, 14]) rfl (by decide), ?_⟩
     refine ⟨rfl, OW.mono (OW.bsl (cs := lineC L[p + 1]) (fill_line1 rfl rfl)) ?_⟩
     rintro _ _ ⟨r87, rfl, rfl⟩
     rw [lineC_len]
     refine ⟨ov_mid2.cons, ?_⟩
     refine ⟨rfl, OW.mono (appN (k := 2) (xs := x1.lines) (l := [L[p + 1]]) rfl rfl hLa rfl rfl rfl (Rd.own (E := 78) (tot := 35) (by simp [lines])) (fun h => by cases h) (by omega)) ?_⟩
     rintro v88 _ ⟨sg88, rfl, hs88⟩
     obtain ⟨A88, c88, rfl, hn88, hc88, hr88⟩ := slv_rdL (w0 := w0) hs88
     refine ⟨ov_mid2.cons, ?_⟩
     change OL _ _ _ [_, _, _] _ _ _
     refine OL.det trivial (.ixN (j := I.length) rfl rfl (by omega) (by omega)) ?_
     refine OL.dp rfl ?_
     refine OL.cons trivial (item_stf (k := 1) (ro := ro) (i := I.length) (f := 0) (c := itemS (I ++ [x1])) (u := .slice A88 (x1.lines ++ [L[p + 1]]).length c88) rfl rfl rfl rfl (by rw [itemS_len]; omega) rfl) ?_
     rintro _ _ rfl
     change OL _ _ _ _ _ ([(r87, .cells (lineC L[p + 1]) 78 35)] :: [(ro, .cells (setAt (itemS (I ++ [x1])) (I.length * 3 + 0) [.slice A88 (x1.lines ++ [L[p + 1]]).length c88]) 76 (co * 3))] :: sg88 :: sgM1 :: junk :: sgl :: S) _
     obtain ⟨y, hy⟩ : ∃ z : ItemM, z = ⟨A88, c88, x1.lines ++ [L[p + 1]], x1.block, x1.MA, x1.mc, x1.mids⟩ := ⟨_, rfl⟩
     rw [set_item (x := x1) (y := y) (a := []) (b := [.slice x1.LA x1.lines.length x1.lc]) (d := [.bool x1.block, .slice x1.MA x1.mids.length x1.mc]) (e := [.slice A88 (x1.lines ++ [L[p + 1]]).length c88]) (k := I.length * 3 + 0) rfl (by rw [hy]; rfl) rfl (by simp)]
     have hyp : y.pl = blockP ps ((foldI ps L (p + 1)).2 ++ [L[p + 1]]) := by
      rw [hy]
      unfold ItemM.pl blockP
      rw [<- hm1, hl1, hxl, hk1]
     have hdm := doc_more (y := y) hm hkl c18 hop hI hIok hyp (SlV.mk' (r := ro) (cap := co) (by rw [itemS_len]) (by rw [List.length_append]; simp only [List.length_cons, List.length_nil]; omega) hc2) (by rw [hy]; exact hs88) (by rw [hy]; exact hM1)
     refine OL.nil ?_
     refine hK8 _ _ ?_
     refine PW.k4 0 3 4 5 rfl rfl rfl rfl ?_
     refine PW.exit ?_
     refine hK3 _ _ ?_
     refine PW.k4 0 3 4 5 rfl rfl rfl rfl ?_
     refine PW.ops ?_
     refine OL.dp rfl ?_
     refine OL.det trivial (.add64 rfl rfl (by omega) (by omega)) ?_
     refine OL.dp rfl ?_
     refine OL.nil ?_
     repeat rw [inBlk_n]
     try rw [thenK_n]
     refine LoopEnd.mkS (Sub.drop (Sub.refl _)) (T'' := [(0, _), (3, _), (4, _), (5, _)]) ⟨rfl, rfl, rfl, rfl, trivial⟩ ?_
     exact ⟨L.length - (p + 1 + 1), by omega, p + 1 + 1, _, _, _, _, _, _, _, ⟨by omega, rfl, hdm⟩, by simp only [List.length_append, List.length_cons, List.length_nil]; rfl, rfl⟩
    try simp only [cvS] at c53
    obtain ⟨x1, hx1⟩ : ∃ z : ItemM, z = xb := ⟨_, rfl⟩
    obtain ⟨sgM1, hsg⟩ : ∃ z, z = sgM := ⟨_, rfl⟩
    have hM1 : SlV 3 1 (.slice x1.MA x1.mids.length x1.mc) x1.mids.length (ints x1.mids) sgM1 := by rw [hx1, hsg]; exact hbm
    have hm1 : x1.mids = midsK ps ((foldI ps L (p + 1)).2 ++ [L[p + 1]]) ((foldI ps L (p + 1)).2 ++ [L[p + 1]]).length := by rw [hmore, if_pos c53, hx1, hxm]
    have hl1 : x1.lines = xb.lines := by rw [hx1]
    have hk1 : x1.block = true := by rw [hx1]; exact hxk
    have hLa : SlV 78 35 (.slice x1.LA x1.lines.length x1.lc) x1.lines.length (lines x1.lines) sgL := by rw [hx1]; exact hbl
    have hxll1 : x1.lines.length <= p + 1 := by rw [hl1]; exact hxll
    have hro1 : ∀ T : SS, Rd w0 ([(ro, .cells (itemS (I ++ [x1])) 76 (co * 3))] :: T) (some ⟨ro, 0, none⟩) (itemS (I ++ [x1])) := fun T => Rd.own (E := 76) (tot := co * 3) (by simp)
    have hLb2 : Rd w0 ([(ro, .cells (itemS (I ++ [x1])) 76 (co * 3))] :: sgM1 :: junk :: sgl :: S) (some b0) (lines L) := rd_mem (hrl []) (by simp)
    have hil1 : (I ++ [x1]).length = I.length + 1 := by simp
    change PW _ _ _ _ _ ([(ro, .cells (itemS (I ++ [xb])) 76 (co * 3))] :: sgL :: sgM :: junk :: sgl :: S) _
    rw [<- hx1, <- hsg]
    refine PW.skip ?_
    refine hK6 _ _ ?_
    refine PW.k5 0 3 4 5 6 rfl rfl rfl rfl rfl ?_
    refine PW.seq fun K9 hK9 => ?_
    refine PW.quietRNK (base := [(ro, .cells (itemS (I ++ [x1])) 76 (co * 3))] :: sgM1 :: junk :: sgl :: S) Try.mixed ov_mid2 ?_
    refine QN.det trivial (fun Sx hSx => Yields.pure rfl) ?_
    refine QN.det trivial (fun Sx hSx => Yields.pure rfl) ?_
    refine QN.det trivial (fun Sx hSx => Yields.sub64 rfl rfl (by omega) (by omega)) ?_
    refine QN.det trivial (fun Sx hSx => Yields.pure rfl) ?_
    refine QN.det trivial (fun Sx hSx => Yields.pure rfl) ?_
    refine QN.det trivial (fun Sx hSx => Yields.sub64 rfl rfl (by omega) (by omega)) ?_
    refine QN.det trivial (fun Sx hSx => Yields.ixN (j := I.length) rfl rfl (by omega) (by omega)) ?_
    refine QN.det trivial (fun Sx hSx => Yields.pure rfl) ?_
    refine QN.det trivial (fun Sx hSx => Yields.ld rfl (item_last ((hro1 _).mono hSx) 0 _ rfl)) ?_
    refine QN.det trivial (fun Sx hSx => Yields.pure rfl) ?_
    refine QN.det trivial (fun Sx hSx => Yields.pure rfl) ?_
    refine QN.det trivial (fun Sx hSx => Yields.ixN (j := p + 1) rfl rfl rfl hkl) ?_
    refine QN.det trivial (fun Sx hSx => Yields.ldA rfl (lineC_len _) (line_at (hLb2.mono hSx) hkl)) ?_
    refine QN.hole ?_
    refine QN.hole ?_
    refine QN.nil ⟨rfl, rfl, ordB_of (hp := [13, 14]) rfl (by decide), ?_⟩
    refine ⟨rfl, OW.mono (OW.bsl (cs := lineC L[p + 1]) (fill_line1 rfl rfl)) ?_⟩
    rintro _ _ ⟨r87, rfl, rfl⟩
    rw [lineC_len]
    refine ⟨ov_mid2.cons, ?_⟩
    refine ⟨rfl, OW.mono (appN (k := 2) (xs := x1.lines) (l := [L[p + 1]]) rfl rfl hLa rfl rfl rfl (Rd.own (E := 78) (tot := 35) (by simp [lines])) (fun h => by cases h) (by omega)) ?_⟩
    rintro v88 _ ⟨sg88, rfl, hs88⟩
    obtain ⟨A88, c88, rfl, hn88, hc88, hr88⟩ := slv_rdL (w0 := w0) hs88
    refine ⟨ov_mid2.cons, ?_⟩
    change OL _ _ _ [_, _, _] _ _ _
    refine OL.det trivial (.ixN (j := I.length) rfl rfl (by omega) (by omega)) ?_
    refine OL.dp rfl ?_
    refine OL.cons trivial (item_stf (k := 1) (ro := ro) (i := I.length) (f := 0) (c := itemS (I ++ [x1])) (u := .slice A88 (x1.lines ++ [L[p + 1]]).length c88) rfl rfl rfl rfl (by rw [itemS_len]; omega) rfl) ?_
    rintro _ _ rfl
    change OL _ _ _ _ _ ([(r87, .cells (lineC L[p + 1]) 78 35)] :: [(ro, .cells (setAt (itemS (I ++ [x1])) (I.length * 3 + 0) [.slice A88 (x1.lines ++ [L[p + 1]]).length c88]) 76 (co * 3))] :: sg88 :: sgM1 :: junk :: sgl :: S) _
    obtain ⟨y, hy⟩ : ∃ z : ItemM, z = ⟨A88, c88, x1.lines ++ [L[p + 1]], x1.block, x1.MA, x1.mc, x1.mids⟩ := ⟨_, rfl⟩
    rw [set_item (x := x1) (y := y) (a := []) (b := [.slice x1.LA x1.lines.length x1.lc]) (d := [.bool x1.block, .slice x1.MA x1.mids.length x1.mc]) (e := [.slice A88 (x1.lines ++ [L[p + 1]]).length c88]) (k := I.length * 3 + 0) rfl (by rw [hy]; rfl) rfl (by simp)]
    have hyp : y.pl = blockP ps ((foldI ps L (p + 1)).2 ++ [L[p + 1]]) := by
     rw [hy]
     unfold ItemM.pl blockP
     rw [<- hm1, hl1, hxl, hk1]
    have hdm := doc_more (y := y) hm hkl c18 hop hI hIok hyp (SlV.mk' (r := ro) (cap := co) (by rw [itemS_len]) (by rw [List.length_append]; simp only [List.length_cons, List.length_nil]; omega) hc2) (by rw [hy]; exact hs88) (by rw [hy]; exact hM1)
    refine OL.nil ?_
    refine hK9 _ _ ?_
    refine PW.k4 0 3 4 5 rfl rfl rfl rfl ?_
    refine PW.exit ?_
    refine hK3 _ _ ?_
    refine PW.k4 0 3 4 5 rfl rfl rfl rfl ?_
    refine PW.ops ?_
    refine OL.dp rfl ?_
    refine OL.det trivial (.add64 rfl rfl (by omega) (by omega)) ?_
    refine OL.dp rfl ?_
    refine OL.nil ?_
    repeat rw [inBlk_n]
    try rw [thenK_n]
    refine LoopEnd.mkS (Sub.drop (Sub.refl _)) (T'' := [(0, _), (3, _), (4, _), (5, _)]) ⟨rfl, rfl, rfl, rfl, trivial⟩ ?_
    exact ⟨L.length - (p + 1 + 1), by omega, p + 1 + 1, _, _, _, _, _, _, _, ⟨by omega, rfl, hdm⟩, by simp only [List.length_append, List.length_cons, List.length_nil]; rfl, rfl⟩
   skip
   have hop : (foldI ps L k).2 = [] := by
    by_cases e : (foldI ps L k).2 = []
    ·exact e
    exfalso
    obtain ⟨I, x, rfl, _, _, _, _, hx⟩ := hm.openIx e
    have hb2 : x.block = true := congrArg ItemP.block hx
    simp [hb2] at c39
   refine PW.skip ?_
   refine hK5 _ _ ?_
   refine PW.k4 0 3 4 5 rfl rfl rfl rfl ?_
   refine PW.ops ?_
   refine OL.dp rfl ?_
   refine OL.dp rfl ?_
   refine OL.dp rfl ?_
   refine OL.det trivial (.ixN rfl rfl rfl hkl) ?_
   refine OL.det trivial (.ldA rfl (lineC_len _) (line_at hLb hkl)) ?_
   refine OL.cons trivial (OW.bsl (cs := lineC L[k]) (fill_line1 rfl rfl)) ?_
   rintro _ _ ⟨r96, rfl, rfl⟩
   rw [lineC_len]
   refine OL.det trivial (.build (cs := itemC ⟨some ⟨r96, 0, none⟩, 1, [L[k]], true, none, 0, []⟩) rfl) ?_
   apply OL.app1 (k := 1)
   ·rfl
   ·rfl
   ·rfl
   ·rfl
   ·rfl
   ·rfl
   ·exact hm.out
   ·rfl
   ·omega
   ·unfold maxLen; omega
   intro v99 seg99 hs99
   obtain ⟨A99, c99, rfl, _, _, _⟩ := slv_rdL (w0 := w0) hs99
   have hdm := doc_new hm hkl c18 hop hs99
   refine OL.dp rfl ?_
   refine OL.nil ?_
   refine hK3 _ _ ?_
   refine PW.k4 0 3 4 5 rfl rfl rfl rfl ?_
   refine PW.ops ?_
   refine OL.dp rfl ?_
   refine OL.det trivial (.add64 rfl rfl (by omega) (by omega)) ?_
   refine OL.dp rfl ?_
   refine OL.nil ?_
   repeat rw [inBlk_n]
   try rw [thenK_n]
   refine LoopEnd.mkS (sub_c) (T'' := [(0, _), (3, _), (4, _), (5, _)]) ⟨rfl, rfl, rfl, rfl, trivial⟩ ?_
   exact ⟨L.length - (k + 1), by omega, k + 1, _, _, _, _, _, _, _, ⟨by omega, rfl, hdm⟩, by simp only [List.length_append, List.length_cons, List.length_nil]; rfl, rfl⟩
  try simp only [cvS] at g32
  have hop : (foldI ps L k).2 = [] := by
   by_cases e : (foldI ps L k).2 = []
   ·exact e
   exfalso
   obtain ⟨I, x, rfl, _⟩ := hm.openIx e
   simp at g32
  refine OL.off rfl rfl ?_
  refine OL.off rfl rfl ?_
  refine OL.off rfl rfl ?_
  refine OL.off rfl rfl ?_
  refine OL.off rfl rfl ?_
  refine OL.off rfl rfl ?_
  refine OL.dp rfl ?_
  refine OL.nil ?_
  refine PW.k6 0 3 4 5 6 39 rfl rfl rfl rfl rfl rfl ?_
  refine PW.ite (b := false) rfl ?_
  rw [if_neg Bool.false_ne_true]
  refine PW.skip ?_
  refine hK5 _ _ ?_
  refine PW.k4 0 3 4 5 rfl rfl rfl rfl ?_
  refine PW.ops ?_
  refine OL.dp rfl ?_
  refine OL.dp rfl ?_
  refine OL.dp rfl ?_
  refine OL.det trivial (.ixN rfl rfl rfl hkl) ?_
  refine OL.det trivial (.ldA rfl (lineC_len _) (line_at hLb hkl)) ?_
  refine OL.cons trivial (OW.bsl (cs := lineC L[k]) (fill_line1 rfl rfl)) ?_
  rintro _ _ ⟨r96, rfl, rfl⟩
  rw [lineC_len]
  refine OL.det trivial (.build (cs := itemC ⟨some ⟨r96, 0, none⟩, 1, [L[k]], true, none, 0, []⟩) rfl) ?_
  apply OL.app1 (k := 1)
  ·rfl
  ·rfl
  ·rfl
  ·rfl
  ·rfl
  ·rfl
  ·exact hm.out
  ·rfl
  ·omega
  ·unfold maxLen; omega
  intro v99 seg99 hs99
  obtain ⟨A99, c99, rfl, _, _, _⟩ := slv_rdL (w0 := w0) hs99
  have hdm := doc_new hm hkl c18 hop hs99
  refine OL.dp rfl ?_
  refine OL.nil ?_
  refine hK3 _ _ ?_
  refine PW.k4 0 3 4 5 rfl rfl rfl rfl ?_
  refine PW.ops ?_
  refine OL.dp rfl ?_
  refine OL.det trivial (.add64 rfl rfl (by omega) (by omega)) ?_
  refine OL.dp rfl ?_
  refine OL.nil ?_
  repeat rw [inBlk_n]
  try rw [thenK_n]
  refine LoopEnd.mkS (sub_c) (T'' := [(0, _), (3, _), (4, _), (5, _)]) ⟨rfl, rfl, rfl, rfl, trivial⟩ ?_
  exact ⟨L.length - (k + 1), by omega, k + 1, _, _, _, _, _, _, _, ⟨by omega, rfl, hdm⟩, by simp only [List.length_append, List.length_cons, List.length_nil]; rfl, rfl⟩
 try simp only [cvS] at c12
 refine PW.exit ?_
 refine hK1 _ _ ?_
 refine PW.k1 4 rfl ?_
 refine PW.seqOps ?_
 refine OL.dp rfl ?_
 refine OL.dp rfl ?_
 refine OL.nil ?_
 refine PW.k1 2 rfl ?_
 refine PW.ret ?_
 change (Exit.ret = Exit.normal ∨ Exit.ret = Exit.ret) /\ ∃ v, resV _ _ = some v /\ _
 have hke : k = L.length := by omega
 subst hke
 exact ⟨.inr rfl, _, rfl, _, sub_fin, its, sgo, sgL ++ (sgM ++ junk), rfl, (by rw [hm.map, hL]; rfl), hm.out, hm.allOk (Nat.le_refl _) (Nat.le_trans ((St.fold hsq hrow L.length (Nat.le_refl _)).opLen (Nat.le_refl _)) hlb), by have := hm.len; omega⟩
end Go.Proofs.Gr

namespace Go.Proofs.Gr
open Go.SL Go.RowKit Go.Proofs Go.GP
set_option maxHeartbeats 1000000
theorem renderItems_fc {w0 : World} {A : Option Addr} {c : Nat} {l : List PartM} (h : PartsIn w0 A l) :
  FC Try.prog w0 6 [.slice A l.length c] [] (fun v _ => v = .bool true) := by
 refine FC.ofD Try.known6 (by simp) ?_
 unfold Try.pc6
 simp only [argT]
 refine PW.seqOps ?_
 refine OL.dp rfl ?_
 refine OL.nil ?_
 refine PW.k1 0 rfl ?_
 refine PW.seq fun K1 hK1 => ?_
 refine PW.seqOps ?_
 refine OL.dp rfl ?_
 refine OL.call trivial rfl (few_fc h) ?_
 rintro _ _ ⟨b, rfl, rfl, hb⟩
 refine OL.dp rfl ?_
 refine OL.nil ?_
 refine PW.k2 0 13 rfl rfl ?_
 refine PW.cond rfl (fun c13 => ?_) (fun c13 => ?_)
 ·try simp only [cvS] at c13
  refine PW.seqOps ?_
  refine OL.call trivial rfl (works_fc) ?_
  rintro _ Sx ⟨rfl, hSx⟩
  rw [hSx]
  clear hSx
  refine OL.dp rfl ?_
  refine OL.nil ?_
  refine PW.k1 2 rfl ?_
  refine PW.ret ?_
  change (Exit.ret = Exit.normal ∨ Exit.ret = Exit.ret) /\ ∃ v, resV _ _ = some v /\ _
  exact ⟨.inr rfl, _, rfl, _, Sub.refl _, rfl⟩
 try simp only [cvS] at c13
 have hsm := hb c13
 refine PW.skip ?_
 refine hK1 _ _ ?_
 refine PW.k1 0 rfl ?_
 refine PW.seqOps ?_
 refine OL.dp rfl ?_
 refine OL.call trivial rfl (both_fc h hsm) ?_
 rintro _ _ ⟨m, cms, Ac, cc, sg, rfl, rfl, hg, hsg, hcb, hcl, hal, hlim⟩
 have hln := linesP_len hg.sq
 obtain ⟨hgood, hflat⟩ := itemsP_good hg.sq
 refine OL.dp rfl ?_
 refine OL.dp rfl ?_
 refine OL.dp rfl ?_
 refine OL.dp rfl ?_
 refine OL.dp rfl ?_
 refine OL.nil ?_
 refine PW.k2 3 4 rfl rfl ?_
 refine PW.seqOps ?_
 refine OL.dp rfl ?_
 refine OL.call trivial rfl (items_fc (S := sg :: []) hg over_nil (by omega)) ?_
 rintro v21 _ ⟨its1, seg1, junk1, rfl, hmap1, hs1, hio1, hn1⟩
 obtain ⟨A1, c1, rfl, hna1, hca1, hri1⟩ := slv_rdL (w0 := w0) hs1
 refine OL.dp rfl ?_
 refine OL.call trivial rfl (rItems_fc (l := cms) ⟨rd_mem (slv_eq hsg).1 (by simp [GS]), fun x hx => (hcb x hx).rdS, by omega⟩ hg.sq (by omega)) ?_
 rintro v23 _ ⟨its2, seg2, junk2, rfl, hmap2, hs2, hio2, hn2⟩
 obtain ⟨A2, c2, rfl, hna2, hca2, hri2⟩ := slv_rdL (w0 := w0) hs2
 have hll : its1.length = its2.length := by
  have := congrArg List.length (hmap1.trans hmap2.symm)
  simpa using this
 have hpp : pli its1 = pli its2 := hmap1.trans hmap2.symm
 refine OL.dp rfl ?_
 refine OL.dp rfl ?_
 refine OL.nil ?_
 refine PW.k2 5 6 rfl rfl ?_
 refine PW.seq fun K2 hK2 => ?_
 refine PW.seqOps ?_
 refine OL.dp rfl ?_
 refine OL.dp rfl ?_
 refine OL.dp rfl ?_
 refine OL.dp rfl ?_
 refine OL.det trivial (.to (v' := .bool false) (Yields.pure rfl) (congrArg Value.bool (by simp [hll]))) ?_
 refine OL.dp rfl ?_
 refine OL.det rfl (.pure rfl) ?_
 refine OL.call rfl rfl (textI_fc (rd_mem (hri1 []) (by simp)) (fun x hx => (hio1 x hx).rd (by simp)) (by omega)) ?_
 rintro v31 _ ⟨seg31, rfl, hs31, hl31⟩
 obtain ⟨A31, c31, rfl, hna31, hca31, hr31⟩ := slv_rdL (w0 := w0) hs31
 refine OL.det rfl (.pure rfl) ?_
 refine OL.call rfl rfl (rTextI_fc (rd_mem (hri2 []) (by simp)) (fun x hx => (hio2 x hx).rd (by simp)) (by omega)) ?_
 rintro v33 _ ⟨seg33, rfl, hs33, hl33⟩
 rw [<- hpp] at hs33
 obtain ⟨A33, c33, rfl, hna33, hca33, hr33⟩ := slv_rdL (w0 := w0) hs33
 refine OL.call rfl rfl (sameS_fc (a := textI (pli its1)) (b := textI (pli its1)) ((hr31 _).cons) (hr33 _) (by omega) (by omega)) ?_
 rintro _ Sx ⟨rfl, hSx⟩
 rw [hSx]
 clear hSx
 rw [decide_eq_true (rfl : textI (pli its1) = textI (pli its1))]
 refine OL.det rfl (.pure rfl) ?_
 refine OL.dp rfl ?_
 refine OL.nil ?_
 refine PW.k3 5 6 36 rfl rfl rfl ?_
 refine PW.ite (b := false) rfl ?_
 rw [if_neg Bool.false_ne_true]
 refine PW.skip ?_
 refine hK2 _ _ ?_
 refine PW.k2 5 6 rfl rfl ?_
 refine PW.seq fun K3 hK3 => ?_
 refine PW.seqOps ?_
 refine OL.dp rfl ?_
 refine OL.nil ?_
 refine PW.k3 5 6 7 rfl rfl rfl ?_
 refine PW.block ?_
 refine PW.k3 5 6 7 rfl rfl rfl ?_
 refine PW.loopK (I := fun mm T S' => ∃ i : Nat, (i <= its1.length /\ mm = its1.length - i) /\ T = ([(5, .slice A1 its1.length c1), (6, .slice A2 its2.length c2), (7, .int .i64 i)] : TT) /\ S' = seg33 :: seg31 :: seg2 :: junk2 :: seg1 :: junk1 :: (GS m ++ (sg :: []))) (m := its1.length) ⟨0, ⟨by omega, by omega⟩, rfl, rfl⟩ ?_
 rintro mm _ _ ⟨i, ⟨hi, hmm⟩, rfl, rfl⟩
 refine PW.seq fun K4 hK4 => ?_
 refine PW.seqOps ?_
 refine OL.dp rfl ?_
 refine OL.dp rfl ?_
 refine OL.dp rfl ?_
 refine OL.dp rfl ?_
 refine OL.nil ?_
 refine PW.k4 5 6 7 40 rfl rfl rfl rfl ?_
 refine PW.cond rfl (fun c40 => ?_) (fun c40 => ?_)
 ·try simp only [cvS] at c40
  have hil : i < its1.length := by omega
  have hil2 : i < its2.length := by omega
  obtain ⟨a1, rfl⟩ := itemS_some (hri1 []) (by omega)
  obtain ⟨a2, rfl⟩ := itemS_some (hri2 []) (by omega)
  have hq1 : Rd w0 (seg33 :: seg31 :: seg2 :: junk2 :: seg1 :: junk1 :: (GS m ++ (sg :: []))) (some a1) (itemS its1) := rd_mem (hri1 []) (by simp)
  have hq2 : Rd w0 (seg33 :: seg31 :: seg2 :: junk2 :: seg1 :: junk1 :: (GS m ++ (sg :: []))) (some a2) (itemS its2) := rd_mem (hri2 []) (by simp)
  have hpi : its1[i].pl = its2[i].pl := by
   have e1 := pli_get (l := its1) hil
   have e2 := pli_get (l := its2) hil2
   rw [<- e1, <- e2]
   congr 1
  have hbk : its1[i].block = its2[i].block := congrArg ItemP.block hpi
  have hll2 : its1[i].lines = its2[i].lines := congrArg ItemP.lines hpi
  have hli : its1[i].lines.length = its2[i].lines.length := congrArg List.length hll2
  have hmd : its1[i].mids = its2[i].mids := congrArg ItemP.mids hpi
  have hok1 : ItemRd w0 (seg33 :: seg31 :: seg2 :: junk2 :: seg1 :: junk1 :: (GS m ++ (sg :: []))) its1[i] := (hio1 _ (List.getElem_mem hil)).rd (by simp)
  have hok2 : ItemRd w0 (seg33 :: seg31 :: seg2 :: junk2 :: seg1 :: junk1 :: (GS m ++ (sg :: []))) its2[i] := (hio2 _ (List.getElem_mem hil2)).rd (by simp)
  refine PW.skip ?_
  refine hK4 _ _ ?_
  refine PW.k3 5 6 7 rfl rfl rfl ?_
  refine PW.seq fun K5 hK5 => ?_
  refine PW.block ?_
  refine PW.seq fun K6 hK6 => ?_
  refine PW.seq fun K7 hK7 => ?_
  refine PW.quietK Try.mixed ?_
  refine QK.dp rfl ?_
  refine QK.dp rfl ?_
  refine QK.det trivial (.ixN rfl rfl rfl hil) ?_
  refine QK.dp rfl ?_
  refine QK.det trivial (.ld rfl (item_at hq1 hil 1 _ rfl)) ?_
  refine QK.dp rfl ?_
  refine QK.dp rfl ?_
  refine QK.det trivial (.ixN rfl rfl rfl hil2) ?_
  refine QK.dp rfl ?_
  refine QK.det trivial (.ld rfl (item_at hq2 hil2 1 _ rfl)) ?_
  refine QK.det trivial (.to (v' := .bool false) (Yields.pure rfl) (congrArg Value.bool (by rw [hbk]; simp))) ?_
  refine QK.dp rfl ?_
  refine QK.det rfl (.pure rfl) ?_
  refine QK.det rfl (.pure rfl) ?_
  refine QK.det rfl (.ixN rfl rfl rfl hil) ?_
  refine QK.det rfl (.pure rfl) ?_
  refine QK.det rfl (.ld rfl (item_at hq1 hil 0 _ rfl)) ?_
  refine QK.det rfl (.pure rfl) ?_
  refine QK.det rfl (.pure rfl) ?_
  refine QK.det rfl (.pure rfl) ?_
  refine QK.det rfl (.ixN rfl rfl rfl hil2) ?_
  refine QK.det rfl (.pure rfl) ?_
  refine QK.det rfl (.ld rfl (item_at hq2 hil2 0 _ rfl)) ?_
  refine QK.det rfl (.pure rfl) ?_
  refine QK.det rfl (.to (v' := .bool false) (Yields.pure rfl) (congrArg Value.bool (by rw [hli]; simp))) ?_
  refine QK.dp rfl ?_
  refine QK.dp rfl ?_
  refine QK.det rfl (.pure rfl) ?_
  refine QK.det rfl (.pure rfl) ?_
  refine QK.det rfl (.ixN rfl rfl rfl hil) ?_
  refine QK.det rfl (.pure rfl) ?_
  refine QK.det rfl (.ld rfl (item_at hq1 hil 2 _ rfl)) ?_
  refine QK.det rfl (.pure rfl) ?_
  refine QK.det rfl (.pure rfl) ?_
  refine QK.det rfl (.ixN rfl rfl rfl hil2) ?_
  refine QK.det rfl (.pure rfl) ?_
  refine QK.det rfl (.ld rfl (item_at hq2 hil2 2 _ rfl)) ?_
  refine QK.nil ?_
  change OL _ _ _ [_, _, _] _ _ _
  refine OL.call rfl rfl (by rw [hmd]; exact numbers_fc (by rw [<- hmd]; exact hok1.rdM) hok2.rdM (by have := hok2.nM; omega)) ?_
  rintro _ Sx ⟨rfl, hSx⟩
  rw [hSx]
  clear hSx
  refine OL.det rfl (.pure rfl) ?_
  refine OL.dp rfl ?_
  refine OL.nil ?_
  refine hK7 _ _ ?_
  refine PW.k4 5 6 7 82 rfl rfl rfl rfl ?_
  refine PW.ite (b := false) rfl ?_
  rw [if_neg Bool.false_ne_true]
  refine PW.skip ?_
  refine hK6 _ _ ?_
  refine PW.k3 5 6 7 rfl rfl rfl ?_
  refine PW.seqOps ?_
  refine OL.dp rfl ?_
  refine OL.nil ?_
  refine PW.k4 5 6 7 8 rfl rfl rfl rfl ?_
  refine PW.block ?_
  refine PW.k4 5 6 7 8 rfl rfl rfl rfl ?_
  refine PW.loopK (I := fun mk T S' => ∃ k : Nat, (k <= its1[i].lines.length /\ mk = its1[i].lines.length - k) /\ T = ([(5, .slice (some a1) its1.length c1), (6, .slice (some a2) its2.length c2), (7, .int .i64 i), (8, .int .i64 k)] : TT) /\ S' = seg33 :: seg31 :: seg2 :: junk2 :: seg1 :: junk1 :: (GS m ++ (sg :: []))) (m := its1[i].lines.length) ⟨0, ⟨by omega, by omega⟩, rfl, rfl⟩ ?_
  rintro mk _ _ ⟨k, ⟨hk, hmk⟩, rfl, rfl⟩
  refine PW.seq fun K8 hK8 => ?_
  refine PW.seqOps ?_
  refine OL.dp rfl ?_
  refine OL.dp rfl ?_
  refine OL.dp rfl ?_
  refine OL.det trivial (.ixN rfl rfl rfl hil) ?_
  refine OL.dp rfl ?_
  refine OL.det trivial (.ld rfl (item_at hq1 hil 0 _ rfl)) ?_
  refine OL.dp rfl ?_
  refine OL.dp rfl ?_
  refine OL.nil ?_
  refine PW.k5 5 6 7 8 90 rfl rfl rfl rfl rfl ?_
  refine PW.cond rfl (fun c90 => ?_) (fun c90 => ?_)
  ·try simp only [cvS] at c90
   have hnL := hok1.nL
   have hkl : k < its1[i].lines.length := by omega
   have hkl2 : k < its2[i].lines.length := by omega
   obtain ⟨b1, hb1⟩ := lines_some hok1.rdL (by omega)
   obtain ⟨b2, hb2⟩ := lines_some hok2.rdL (by omega)
   have hr1 : Rd w0 (seg33 :: seg31 :: seg2 :: junk2 :: seg1 :: junk1 :: (GS m ++ (sg :: []))) (some b1) (lines its1[i].lines) := by rw [<- hb1]; exact hok1.rdL
   have hr2 : Rd w0 (seg33 :: seg31 :: seg2 :: junk2 :: seg1 :: junk1 :: (GS m ++ (sg :: []))) (some b2) (lines its2[i].lines) := by rw [<- hb2]; exact hok2.rdL
   have hle : its1[i].lines[k] = its2[i].lines[k] := by congr 1
   have hal1 : its1[i].lines[k].alive = true := by
    have hm : its1[i].lines[k] ∈ live (linesP (pls cms).reverse) := by
     rw [<- hflat, <- hmap1]
     exact List.mem_flatMap.2 ⟨its1[i].pl, List.mem_map.2 ⟨_, List.getElem_mem hil, rfl⟩, List.getElem_mem hkl⟩
    exact (List.mem_filter.1 hm).2
   refine PW.skip ?_
   refine hK8 _ _ ?_
   refine PW.k4 5 6 7 8 rfl rfl rfl rfl ?_
   refine PW.seq fun K9 hK9 => ?_
   refine PW.block ?_
   refine PW.seq fun K10 hK10 => ?_
   refine PW.quietRFK (m := 3) (ks := [(0, .free), (1, .free), (2, .loud)]) (hp := [(16, .free), (17, .free), (18, .loud)]) (base := seg33 :: seg31 :: seg2 :: junk2 :: seg1 :: junk1 :: (GS m ++ (sg :: []))) Try.mixed (by decide) (by decide) (Over.refl _) ?_
   refine QN.det trivial (fun Sx hSx => Yields.pure rfl) ?_
   refine QN.det trivial (fun Sx hSx => Yields.pure rfl) ?_
   refine QN.det trivial (fun Sx hSx => Yields.ixN rfl rfl rfl hil) ?_
   refine QN.det trivial (fun Sx hSx => Yields.pure rfl) ?_
   refine QN.det trivial (fun Sx hSx => Yields.ld rfl (item_at (hq1.mono hSx) hil 0 _ rfl)) ?_
   refine QN.det trivial (fun Sx hSx => Yields.pure rfl) ?_
   rw [hb1]
   refine QN.det trivial (fun Sx hSx => Yields.ixN rfl rfl rfl hkl) ?_
   refine QN.det trivial (fun Sx hSx => Yields.ldA rfl (lineC_len _) (line_at (hr1.mono hSx) hkl)) ?_
   refine QN.det trivial (fun Sx hSx => Yields.pure rfl) ?_
   refine QN.det trivial (fun Sx hSx => Yields.pure rfl) ?_
   refine QN.det trivial (fun Sx hSx => Yields.ixN rfl rfl rfl hil2) ?_
   refine QN.det trivial (fun Sx hSx => Yields.pure rfl) ?_
   refine QN.det trivial (fun Sx hSx => Yields.ld rfl (item_at (hq2.mono hSx) hil2 0 _ rfl)) ?_
   refine QN.det trivial (fun Sx hSx => Yields.pure rfl) ?_
   rw [hb2]
   refine QN.det trivial (fun Sx hSx => Yields.ixN rfl rfl rfl hkl2) ?_
   refine QN.det trivial (fun Sx hSx => Yields.ldA rfl (lineC_len _) (line_at (hr2.mono hSx) hkl2)) ?_
   refine QN.hole ?_
   refine QN.hole ?_
   refine QN.hole ?_
   refine QN.nil ⟨rfl, rfl, rfl, rfl, rfl, ?_⟩
   refine ⟨rfl, _, _, rfl, fun r9 => ?_⟩
   refine ⟨rfl, _, _, rfl, fun r10 => ?_⟩
   refine ⟨rfl, fun F => OW.mono (OW.frameSt (k := 1) (u := lineV its1[i].lines[k]) rfl rfl rfl ((List.size_toArray).trans (lineC_len _)) (show 0 + 35 <= 35 by decide) (lineC_one _)) ?_⟩
   rintro _ _ ⟨S1, hperm, rfl⟩
   refine ⟨_, hperm, (Over.refl _).cons.cons, ?_⟩
   rw [lineV_box, setAll (by rw [lineC_len]; rfl)]
   change OL _ _ _ [_] _ _ _
   refine OL.cons trivial (line_stk (k := 0) (u := its2[i].lines[k]) rfl rfl rfl rfl) ?_
   rintro _ _ rfl
   change OL _ _ _ _ _ ([(r10, .cells (lineC its2[i].lines[k]) 78 35)] :: [(r9, .cells (lineC its1[i].lines[k]) 43 35)] :: seg33 :: seg31 :: seg2 :: junk2 :: seg1 :: junk1 :: (GS m ++ (sg :: []))) _
   refine OL.nil ?_
   refine hK10 _ _ ?_
   refine PW.k6 5 6 7 8 9 10 rfl rfl rfl rfl rfl rfl ?_
   refine PW.seqOps ?_
   refine OL.dp rfl ?_
   refine OL.det trivial (.ldA rfl (vtxL_len _) (lcell_vtx (x := its1[i].lines[k]) (E := 43) (tot := 35) (List.mem_flatten.2 ⟨_, .tail _ (.head _), List.mem_singleton.2 rfl⟩))) ?_
   refine OL.dp rfl ?_
   refine OL.det trivial (.ldA rfl (vtxL_len _) (lcell_vtx (x := its2[i].lines[k]) (E := 78) (tot := 35) (List.mem_flatten.2 ⟨_, .head _, List.mem_singleton.2 rfl⟩))) ?_
   refine OL.det trivial (.to (v' := .bool false) (Yields.eqD (neg := true) rfl rfl (eqL_vtx _ _)) (congrArg Value.bool (by simp [hle]))) ?_
   refine OL.dp rfl ?_
   refine OL.det rfl (.pure rfl) ?_
   refine OL.det rfl (.ld rfl (lcell_text (x := its1[i].lines[k]) (E := 43) (tot := 35) (List.mem_flatten.2 ⟨_, .tail _ (.head _), List.mem_singleton.2 rfl⟩))) ?_
   refine OL.det rfl (.pure rfl) ?_
   refine OL.det rfl (.ld rfl (lcell_text (x := its2[i].lines[k]) (E := 78) (tot := 35) (List.mem_flatten.2 ⟨_, .head _, List.mem_singleton.2 rfl⟩))) ?_
   refine OL.det rfl (.to (v' := .bool false) (Yields.pure rfl) (congrArg Value.bool (by simp [hle]))) ?_
   refine OL.dp rfl ?_
   refine OL.dp rfl ?_
   refine OL.det rfl (.pure rfl) ?_
   refine OL.det rfl (.to (v' := .bool true) (Yields.ld rfl (lcell_alive (x := its1[i].lines[k]) (E := 43) (tot := 35) (List.mem_flatten.2 ⟨_, .tail _ (.head _), List.mem_singleton.2 rfl⟩))) (congrArg Value.bool hal1)) ?_
   refine OL.det rfl (.pure rfl) ?_
   refine OL.dp rfl ?_
   refine OL.nil ?_
   refine PW.k5 5 6 7 8 125 rfl rfl rfl rfl rfl ?_
   refine PW.ite (b := false) rfl ?_
   rw [if_neg Bool.false_ne_true]
   refine PW.skip ?_
   refine hK9 _ _ ?_
   refine PW.k4 5 6 7 8 rfl rfl rfl rfl ?_
   refine PW.ops ?_
   refine OL.dp rfl ?_
   refine OL.det trivial (.add64 rfl rfl (by omega) (by omega)) ?_
   refine OL.dp rfl ?_
   refine OL.nil ?_
   repeat rw [inBlk_n]
   try rw [thenK_n]
   refine LoopEnd.mkS (Sub.drop (Sub.drop (Sub.refl _))) (T'' := [(5, _), (6, _), (7, _), (8, _)]) ⟨rfl, rfl, rfl, rfl, trivial⟩ ?_
   exact ⟨its1[i].lines.length - (k + 1), by omega, k + 1, ⟨by omega, rfl⟩, rfl, rfl⟩
  try simp only [cvS] at c90
  refine PW.exit ?_
  refine hK5 _ _ ?_
  refine PW.k3 5 6 7 rfl rfl rfl ?_
  refine PW.ops ?_
  refine OL.dp rfl ?_
  refine OL.det trivial (.add64 rfl rfl (by omega) (by omega)) ?_
  refine OL.dp rfl ?_
  refine OL.nil ?_
  repeat rw [inBlk_n]
  try rw [thenK_n]
  refine LoopEnd.mk (T'' := [(5, _), (6, _), (7, _)]) ⟨rfl, rfl, rfl, trivial⟩ ?_
  exact ⟨its1.length - (i + 1), by omega, i + 1, ⟨by omega, rfl⟩, rfl, rfl⟩
 try simp only [cvS] at c40
 refine PW.exit ?_
 refine hK3 _ _ ?_
 refine PW.keep (T' := []) trivial ?_
 refine PW.seqOps ?_
 refine OL.call trivial rfl (works_fc) ?_
 rintro _ Sx ⟨rfl, hSx⟩
 rw [hSx]
 clear hSx
 refine OL.dp rfl ?_
 refine OL.nil ?_
 refine PW.k1 2 rfl ?_
 refine PW.ret ?_
 change (Exit.ret = Exit.normal ∨ Exit.ret = Exit.ret) /\ ∃ v, resV _ _ = some v /\ _
 exact ⟨.inr rfl, _, rfl, _, Sub.refl _, rfl⟩
end Go.Proofs.Gr

namespace Go.Proofs.Gr
open Go.SL Go.RowKit Go.Proofs Go.GP Go.ChangeShapes Go.WideShapes Go.ChangeAt
set_option maxRecDepth 100000 in
theorem parts_arg {H : Type} {enc : TypeId × Value -> H} {W : World} {r : Reach} {base j : Nat} {v : Value} {d : DataW H} {ps : List MemPlace} {ts : List TypeId} {ds : List (DataW H)} (hv : Value.okWide Try.prog W r base 45 v)
  (h : DataW.Trod enc Try.prog W 0 (fun _ => true) true 45 v d ps) (hsz : (DataW.weightsEach Try.prog ts ds).all (· <= reachBytes) = true) (ht : ts[j]? = some 45) (hd : ds[j]? = some d) :
  ∃ (A : Option Addr) (c : Nat) (l : List PartM), v = .slice A l.length c /\ PartsIn W A l := by
 have hu : Try.prog.underlying 45 = some (.slice 36) := by kernel_rfl
 obtain ⟨A, len, cap, rfl⟩ := okWide_slice hu hv
 obtain ⟨l, rfl, hr, hR, hy, hc⟩ := arg_listW (j := j) (f := partC) (R := fun a => PartA W a) hu (fun n cs y hh _ hw => part_of hh hw) h hsz ht hd
 rw [show Try.prog.bytesOf 36 = 176 by kernel_rfl] at hy
 simp only [reachBytes] at hy
 exact ⟨A, cap, l, rfl, hr, hR, by omega⟩
end Go.Proofs.Gr
