/- Walks. -/
import Derived.Test.YtbejcoeajlhmcaaGreatPart4
import Derived.Lib.Bytealg
set_option linter.unusedVariables false
set_option linter.unusedSimpArgs false
set_option linter.unusedSectionVars false

namespace Go.Proofs.Gr
open Go.SL Go.RowKit Go.Proofs Go.GP
set_option maxHeartbeats 1000000
theorem GOk.junk' {w0 : World} {X : SS} {m : GrM} (hm : GOk w0 X m) (seg : Seg) : GOk w0 X { m with junk := m.junk ++ seg } where
 pk := hm.pk
 part := fun q hq => (hm.part q hq).grow
 nk := hm.nk
 node := fun q hq => (hm.node q hq).grow (Nat.le_refl _)
 first := hm.first.junkR
 firstOk := hm.firstOk
 firstLen := hm.firstLen
 lim := hm.lim
 pkd := hm.pkd
 nkd := hm.nkd
theorem GOk.part' {w0 : World} {X : SS} {m : GrM} (hm : GOk w0 X m) {a : Vtx} {p : PartM} (ha : okV a) (hp : PartOk' w0 (m.junk :: X) p) : GOk w0 X { m with parts := mpt m.parts a p } where
 pk := fun q hq => by
  rcases mem_mpt hq with rfl | h
  ·exact ha
  exact hm.pk q h
 part := fun q hq => by
  rcases mem_mpt hq with rfl | h
  ·exact hp
  exact hm.part q h
 nk := hm.nk
 node := hm.node
 first := hm.first
 firstOk := hm.firstOk
 firstLen := hm.firstLen
 lim := hm.lim
 pkd := mpt_nodup hm.pkd _ _
 nkd := hm.nkd
theorem part_setL (p : PartM) (A : Option Addr) (c : Nat) : setAt (partC p) 100 [.slice A p.lines.length c] = partC { p with LA := A, lc := c } := by
 have h1 := hb_len p.patch
 have h2 := vtxL_len p.up
 have h3 := vtxL_len p.down
 obtain ⟨X, hX⟩ : ∃ X, X = bytesC p.patch.1 ++ [Value.int .i64 p.at_, .int .i64 p.first] ++ vtxL p.up ++ vtxL p.down := ⟨_, rfl⟩
 have hXl : X.length = 100 := by rw [hX]; simp [h1, h2, h3]
 show setAt (bytesC p.patch.1 ++ [Value.int .i64 p.at_, .int .i64 p.first] ++ vtxL p.up ++ vtxL p.down ++ _) _ _ = bytesC p.patch.1 ++ [Value.int .i64 p.at_, .int .i64 p.first] ++ vtxL p.up ++ vtxL p.down ++ _
 rw [<- hX, setAt_eq _ _ _ (by simp [hXl])]
 rw [List.take_append_of_le_length (by omega), List.take_of_length_le (by omega), List.append_assoc, List.drop_append, List.drop_eq_nil_of_le (by simp [hXl])]
 simp [hXl]
theorem part_setG (p : PartM) (A : Option Addr) (c : Nat) : setAt (partC p) 101 [.slice A p.gone.length c] = partC { p with GA := A, gc := c } := by
 have h1 := hb_len p.patch
 have h2 := vtxL_len p.up
 have h3 := vtxL_len p.down
 obtain ⟨X, hX⟩ : ∃ X, X = bytesC p.patch.1 ++ [Value.int .i64 p.at_, .int .i64 p.first] ++ vtxL p.up ++ vtxL p.down := ⟨_, rfl⟩
 have hXl : X.length = 100 := by rw [hX]; simp [h1, h2, h3]
 show setAt (bytesC p.patch.1 ++ [Value.int .i64 p.at_, .int .i64 p.first] ++ vtxL p.up ++ vtxL p.down ++ _) _ _ = bytesC p.patch.1 ++ [Value.int .i64 p.at_, .int .i64 p.first] ++ vtxL p.up ++ vtxL p.down ++ _
 rw [<- hX, setAt_eq _ _ _ (by simp [hXl])]
 rw [List.take_append, List.take_of_length_le (by omega)]
 simp [hXl]
theorem laidN_succ (N : List (Vtx × NodeP)) (p : PartP) (k : Nat) : laidN N p (k + 1) = mpt (laidN N p k) (p.vtx k) ⟨p.lines[k]!, 0, 0, []⟩ := by
 unfold laidN
 rw [List.range_succ, List.foldl_append]
 rfl
instance {l : List Vtx} {N : List (Vtx × NodeM)} : Decidable (∃ v ∈ l, v ∉ mks N) := inferInstance
noncomputable def addE (G : Gr) (p : PartP) : Int :=
 if ThereG G p then 6 else if ¬ Formed p then 4 else if ¬ HasG G p.up ∨ ¬ HasG G p.down ∨ ∃ v ∈ p.gone, v ∉ mks G.nodes then 10 else if befB G p.up p.down = false then 4 else 0
noncomputable def addT (G : Gr) (p : PartP) : Gr := if addE G p = 0 then addG G p else G
def addL (p : PartM) : Nat := p.lines.length + 2 * p.gone.length + 3
theorem addE_there {G : Gr} {p : PartP} (h : ThereG G p) : addE G p = 6 := by unfold addE; rw [if_pos h]
theorem addE_form {G : Gr} {p : PartP} (h : ¬ ThereG G p) (h2 : ¬ Formed p) : addE G p = 4 := by unfold addE; rw [if_neg h, if_pos h2]
theorem addE_dep {G : Gr} {p : PartP} (h : ¬ ThereG G p) (h2 : Formed p) (h3 : ¬ HasG G p.up ∨ ¬ HasG G p.down ∨ ∃ v ∈ p.gone, v ∉ mks G.nodes) : addE G p = 10 := by unfold addE; rw [if_neg h, if_neg (fun k => k h2), if_pos h3]
theorem addE_bef {G : Gr} {p : PartP} (h : ¬ ThereG G p) (h2 : Formed p) (h3 : HasG G p.up) (h4 : HasG G p.down) (h5 : ∀ v ∈ p.gone, v ∈ mks G.nodes) : addE G p = if befB G p.up p.down = false then 4 else 0 := by
 unfold addE
 rw [if_neg h, if_neg (fun k => k h2), if_neg]
 rintro (k | k | ⟨v, k1, k2⟩)
 ·exact k h3
 ·exact k h4
 exact k2 (h5 v k1)
theorem Sub.join5 {a b c d e x y z : Seg} {S : SS} : Sub (a :: b :: c :: d :: e :: (x ++ (y ++ z)) :: S) (a :: b :: c :: d :: e :: x :: y :: z :: S) := Sub.cons (Sub.cons (Sub.cons (Sub.cons (Sub.cons ((Sub.join).trans (Sub.cons Sub.join))))))
theorem gone_any {p : PartM} {N : List (Vtx × NodeM)} : (p.gone.any fun v => !decide (v ∈ mks N)) = true ↔ ∃ v ∈ p.gone, v ∉ mks N := by simp
abbrev gseg (r : Nat) (m : GrM) : Seg := [(r, .cells [m.ptr] 30 1)]
theorem one_node (s : ByteArray) (w0 : World) (B : SS) (lim : Nat) : NodeOk' w0 B lim ⟨s, 0, 0, none, 0, []⟩ := ⟨Rd.nil, by simp, by simp, by simp, by simp⟩
theorem str_at {w0 : World} {S : SS} {a : Addr} {l : List ByteArray} (h : Rd w0 S (some a) (strs l)) {k : Nat} (hk : k < l.length) : Cell w0 S (a.add k) (.string l[k]) := h.at (by unfold strs; rw [List.getElem?_map, List.getElem?_eq_getElem hk]; rfl)
theorem add_fc {w0 : World} {S X : SS} {m : GrM} (hm : GOk w0 X m) (hX : Over X S) {p : PartM} (hp : PartR p) (hrL : Rd w0 S p.LA (strs p.lines)) (hrG : Rd w0 S p.GA (vtxs p.gone)) (hroot : ∀ e ∈ EG m.gr.nodes, e.2 ≠ rootV) (hE : (EG m.gr.nodes).length <= 1000000000) (hlim : m.lim + addL p <= 1000000000000) :
    FC Tryz.prog w0 25 [m.ptr, partV p] (GS m ++ S) (fun v S' => ∃ m', v = .int .i64 (addE m.gr p.pl) /\ S' = GS m' ++ S /\ GOk w0 X m' /\ m'.gr = addT m.gr p.pl /\ m'.r = m.r /\ m'.lim <= m.lim + addL p /\ ∀ x ∈ m.junk, x ∈ m'.junk) := by
  have hS : Over (GS m ++ X) (GS m ++ S) := Over.both hX
  unfold addL at hlim
  have hpl := hp.lines
  have hpgl := hp.gones
  refine FC.ofD Tryz.known25 (by simp) ?_
  unfold Tryz.pc25
  simp only [argT]
  refine PW.seqOps (OL.cons trivial (OW.bx rfl) ?_)
  rintro _ _ ⟨r2, rfl, rfl⟩
  change OL _ _ _ _ _ (gseg r2 m :: (GS m ++ S)) _
  refine OL.cons trivial (OW.bx rfl) ?_
  rintro _ _ ⟨r3, rfl, rfl⟩
  rw [part_box, partC_len]
  refine OL.dp rfl (OL.nil (PW.k2 2 3 rfl ?_))
  refine PW.seq fun K1 hK1 => ?_
  refine PW.block (PW.seqOps (OL.det trivial (.ld rfl (own_at (j := 0) (c := [m.ptr]) (E := 30) (tot := 1) zM1 rfl)) (OL.call trivial rfl (is_fc hS.cons.cons) ?_)))
  rintro _ Sx ⟨rfl, hSx⟩
  rw [hSx]
  clear hSx
  refine OL.dp rfl (OL.dp rfl (OL.nil (PW.k3 2 3 7 rfl (PW.ite (b := false) rfl ?_))))
  rw [if_neg Bool.false_ne_true]
  refine PW.seqOps (OL.det trivial (.ld rfl (own_at (j := 0) (c := [m.ptr]) (E := 30) (tot := 1) zM1 rfl)) (OL.det trivial (.ldA rfl (partC_len _) (all_at zM0)) (OL.call trivial rfl (there_fc hm hS.cons.cons hp) ?_)))
  rintro _ Sx ⟨rfl, hSx⟩
  rw [hSx]
  clear hSx
  refine OL.dp rfl (OL.nil (PW.k3 2 3 11 rfl ?_))
  refine PW.cond rfl (fun c11 => ?_) (fun c11 => ?_)
  · try simp only [cvS] at c11
    refine PW.seqOps (OL.dp rfl (OL.nil (PW.k1 4 rfl (PW.ret ?_))))
    change (Exit.ret = Exit.normal ∨ Exit.ret = Exit.ret) /\ ∃ v, resV _ _ = some v /\ _
    exact ⟨.inr rfl, _, rfl, _, Sub.drop (Sub.drop (Sub.refl _)), m, by rw [addE_there c11], rfl, hm, (by unfold addT; rw [addE_there c11]; rfl), rfl, by unfold addL; omega, fun _ h => h⟩
  try simp only [cvS] at c11
  refine PW.seqOps (OL.det trivial (.ldA rfl (partC_len _) (all_at zM0)) (OL.call trivial rfl (formed_fc ⟨hrL.appR.cons.cons, hrG.appR.cons.cons, hp⟩) ?_))
  rintro _ Sx ⟨rfl, hSx⟩
  rw [hSx]
  clear hSx
  refine OL.dp rfl (OL.dp rfl (OL.nil (PW.k3 2 3 15 rfl ?_)))
  refine PW.cond rfl (fun c15 => ?_) (fun c15 => ?_)
  · try simp only [cvS] at c15
    refine PW.seqOps (OL.dp rfl (OL.nil (PW.k1 4 rfl (PW.ret ?_))))
    change (Exit.ret = Exit.normal ∨ Exit.ret = Exit.ret) /\ ∃ v, resV _ _ = some v /\ _
    exact ⟨.inr rfl, _, rfl, _, Sub.drop (Sub.drop (Sub.refl _)), m, by rw [addE_form c11 c15], rfl, hm, (by unfold addT; rw [addE_form c11 c15]; rfl), rfl, by unfold addL; omega, fun _ h => h⟩
  try simp only [cvS] at c15
  refine PW.seqOps (OL.det trivial (.ld rfl (own_at (j := 0) (c := [m.ptr]) (E := 30) (tot := 1) zM1 rfl)) (OL.dp rfl (OL.det trivial (.ldA rfl (vtxL_len _) (part_up (p := p) (E := 59) (tot := 102) zM0)) (OL.call trivial rfl (has_fc hm hS.cons.cons hp.up) ?_))))
  rintro _ Sx ⟨rfl, hSx⟩
  rw [hSx]
  clear hSx
  refine OL.dp rfl ?_
  refine OL.bool trivial (Yields.pure rfl) (fun g25 => ?_) (fun g25 => ?_)
  · try simp only [cvS] at g25
    refine OL.off rfl rfl (OL.off rfl rfl (OL.off rfl rfl (OL.off rfl rfl (OL.off rfl rfl (OL.dp rfl (OL.dp rfl (OL.off rfl rfl (OL.off rfl rfl (OL.off rfl rfl (OL.off rfl rfl (OL.dp rfl ?_)))))))))))
    refine OL.dp rfl (OL.nil (PW.k3 2 3 19 rfl (PW.ite (b := true) rfl ?_)))
    rw [if_pos rfl]
    refine PW.seqOps (OL.dp rfl (OL.nil (PW.k1 4 rfl (PW.ret ?_))))
    change (Exit.ret = Exit.normal ∨ Exit.ret = Exit.ret) /\ ∃ v, resV _ _ = some v /\ _
    have hdep : ¬ HasG m.gr p.pl.up ∨ ¬ HasG m.gr p.pl.down ∨ ∃ v ∈ p.pl.gone, v ∉ mks m.gr.nodes := by
      first
        | exact .inl g25
        | exact .inr (.inl g32)
        | (refine .inr (.inr ?_)
           show ∃ v ∈ p.gone, v ∉ mks (plN m.nodes)
           rw [mks_plN]
           exact gone_any.1 c19)
    exact ⟨.inr rfl, _, rfl, _, Sub.drop (Sub.drop (Sub.refl _)), m, by rw [addE_dep c11 c15 hdep], rfl, hm, (by unfold addT; rw [addE_dep c11 c15 hdep]; rfl), rfl, by unfold addL; omega, fun _ h => h⟩
  try simp only [cvS] at g25
  refine OL.det rfl (.ld rfl (own_at (j := 0) (c := [m.ptr]) (E := 30) (tot := 1) zM1 rfl)) (OL.det rfl (.pure rfl) (OL.det rfl (.ldA rfl (vtxL_len _) (part_down (p := p) (E := 59) (tot := 102) zM0)) (OL.call rfl rfl (has_fc hm hS.cons.cons hp.down) ?_)))
  rintro _ Sx ⟨rfl, hSx⟩
  rw [hSx]
  clear hSx
  refine OL.det rfl (.pure rfl) (OL.dp rfl ?_)
  refine OL.bool trivial (Yields.pure rfl) (fun g32 => ?_) (fun g32 => ?_)
  · try simp only [cvS] at g32
    refine OL.off rfl rfl (OL.off rfl rfl (OL.off rfl rfl (OL.off rfl rfl (OL.dp rfl (OL.dp rfl (OL.nil (PW.k3 2 3 19 rfl (PW.ite (b := true) rfl ?_))))))))
    rw [if_pos rfl]
    refine PW.seqOps (OL.dp rfl (OL.nil (PW.k1 4 rfl (PW.ret ?_))))
    change (Exit.ret = Exit.normal ∨ Exit.ret = Exit.ret) /\ ∃ v, resV _ _ = some v /\ _
    have hdep : ¬ HasG m.gr p.pl.up ∨ ¬ HasG m.gr p.pl.down ∨ ∃ v ∈ p.pl.gone, v ∉ mks m.gr.nodes := by
      first
        | exact .inl g25
        | exact .inr (.inl g32)
        | (refine .inr (.inr ?_)
           show ∃ v ∈ p.gone, v ∉ mks (plN m.nodes)
           rw [mks_plN]
           exact gone_any.1 c19)
    exact ⟨.inr rfl, _, rfl, _, Sub.drop (Sub.drop (Sub.refl _)), m, by rw [addE_dep c11 c15 hdep], rfl, hm, (by unfold addT; rw [addE_dep c11 c15 hdep]; rfl), rfl, by unfold addL; omega, fun _ h => h⟩
  try simp only [cvS] at g32
  refine OL.det rfl (.pure rfl) (OL.det rfl (.ld rfl (part_gone (p := p) (E := 59) (tot := 102) zM0)) (OL.det rfl (Yields.mkF rfl) ?_))
  refine OL.call rfl rfl (containsFunc_fc (q := fun v => !decide (v ∈ mks m.nodes)) (ca := [.pointer (some ⟨r2, 0, none⟩)]) hrG.appR.cons.cons (by omega) (by kernel_rfl) (fun x hx => add1_fc hm hS.cons.cons (hp.gone x hx) (own_at (j := 0) (c := [m.ptr]) (E := 30) (tot := 1) zM1 rfl))) ?_
  rintro _ Sx ⟨rfl, hSx⟩
  rw [hSx]
  clear hSx
  refine OL.dp rfl (OL.dp rfl (OL.nil (PW.k3 2 3 19 rfl ?_)))
  refine PW.cond rfl (fun c19 => ?_) (fun c19 => ?_)
  · skip
    refine PW.seqOps (OL.dp rfl (OL.nil (PW.k1 4 rfl (PW.ret ?_))))
    change (Exit.ret = Exit.normal ∨ Exit.ret = Exit.ret) /\ ∃ v, resV _ _ = some v /\ _
    have hdep : ¬ HasG m.gr p.pl.up ∨ ¬ HasG m.gr p.pl.down ∨ ∃ v ∈ p.pl.gone, v ∉ mks m.gr.nodes := by
      first
        | exact .inl g25
        | exact .inr (.inl g32)
        | (refine .inr (.inr ?_)
           show ∃ v ∈ p.gone, v ∉ mks (plN m.nodes)
           rw [mks_plN]
           exact gone_any.1 c19)
    exact ⟨.inr rfl, _, rfl, _, Sub.drop (Sub.drop (Sub.refl _)), m, by rw [addE_dep c11 c15 hdep], rfl, hm, (by unfold addT; rw [addE_dep c11 c15 hdep]; rfl), rfl, by unfold addL; omega, fun _ h => h⟩
  skip
  have hgn : ∀ v ∈ p.pl.gone, v ∈ mks m.gr.nodes := by
    intro v hv
    show v ∈ mks (plN m.nodes)
    rw [mks_plN]
    exact Classical.byContradiction fun h => by
      rw [gone_any.2 ⟨v, hv, h⟩] at c19
      cases c19
  refine PW.seqOps (OL.det trivial (.ld rfl (own_at (j := 0) (c := [m.ptr]) (E := 30) (tot := 1) zM1 rfl)) (OL.dp rfl (OL.det trivial (.ldA rfl (vtxL_len _) (part_up (p := p) (E := 59) (tot := 102) zM0)) (OL.dp rfl (OL.det trivial (.ldA rfl (vtxL_len _) (part_down (p := p) (E := 59) (tot := 102) zM0)) (OL.call trivial rfl (before_fc hm hS.cons.cons hp.up hp.down hroot hE) ?_))))))
  rintro _ Sx ⟨rfl, hSx⟩
  rw [hSx]
  clear hSx
  refine OL.dp rfl (OL.dp rfl (OL.nil (PW.k3 2 3 38 rfl ?_)))
  refine PW.cond rfl (fun c38 => ?_) (fun c38 => ?_)
  · try simp only [cvS] at c38
    refine PW.seqOps (OL.dp rfl (OL.nil (PW.k1 4 rfl (PW.ret ?_))))
    change (Exit.ret = Exit.normal ∨ Exit.ret = Exit.ret) /\ ∃ v, resV _ _ = some v /\ _
    have hbe := addE_bef (G := m.gr) (p := p.pl) c11 c15 g25 g32 hgn
    rw [show befB m.gr p.pl.up p.pl.down = false from c38] at hbe
    exact ⟨.inr rfl, _, rfl, _, Sub.drop (Sub.drop (Sub.refl _)), m, by rw [hbe]; rfl, rfl, hm, (by unfold addT; rw [hbe]; rfl), rfl, by unfold addL; omega, fun _ h => h⟩
  try simp only [cvS] at c38
  refine PW.skip ?_
  refine hK1 _ _ ?_
  refine PW.k2 2 3 rfl ?_
  refine PW.seq fun K2 hK2 => ?_
  refine PW.quietG (Ss := Over (pseg r3 p :: gseg r2 m :: (GS m ++ S))) (fr := false) [(0, 0), (1, 0), (3, 0), (4, 0), (2, 2), (6, 0), (5, 2)] Tryz.mixed (by decide +kernel) (Over.refl _) (fun h => by cases h) ?_
  refine GL.dp rfl ?_
  refine GL.det trivial (fun Sx hSx => Yields.ld rfl (part_lines (p := p) (E := 59) (tot := 102) (hSx _ zM0))) ?_
  refine GL.dp rfl ?_
  refine GL.det trivial (fun Sx hSx => Yields.ld rfl (part_gone (p := p) (E := 59) (tot := 102) (hSx _ zM0))) ?_
  refine GL.lo trivial (OW.mono (OW.call rfl (cloneS_fc hrL.appR.cons.cons (by omega))) ?_)
  rintro v48 _ ⟨seg48, rfl, hs48⟩
  refine ⟨(Over.refl _).cons, ?_⟩
  refine GL.dp rfl ?_
  refine GL.lo trivial (OW.mono (OW.call rfl (clone_fc hrG.appR.cons.cons.cons (by omega))) ?_)
  rintro v51 _ ⟨seg51, rfl, hs51⟩
  refine ⟨(Over.refl _).cons.cons, ?_⟩
  obtain ⟨LA, lc, rfl, hLn, hLc, hrL2⟩ := slv_rdL (w0 := w0) hs48
  obtain ⟨GA, gc, rfl, hGn, hGc, hrG2⟩ := slv_rdL (w0 := w0) hs51
  change OL _ _ _ [_, _, _] _ _ _
  refine OL.cons trivial (OW.st (k := 2) (c := partC p) (u := .slice LA p.lines.length lc) rfl rfl rfl rfl (by rw [partC_len]; show 100 + 1 <= 102; decide) rfl) ?_
  rintro _ _ rfl
  change OL _ _ _ _ _ (seg51 :: seg48 :: [(r3, .cells (setAt (partC p) 100 [.slice LA p.lines.length lc]) 59 102)] :: gseg r2 m :: (GS m ++ S)) _
  rw [part_setL]
  refine OL.dp rfl ?_
  refine OL.cons trivial (OW.st (k := 2) (c := partC { p with LA := LA, lc := lc }) (u := .slice GA p.gone.length gc) rfl rfl rfl rfl (by rw [partC_len]; show 101 + 1 <= 102; decide) rfl) ?_
  rintro _ _ rfl
  change OL _ _ _ _ _ (seg51 :: seg48 :: [(r3, .cells (setAt (partC { p with LA := LA, lc := lc }) 101 [.slice GA { p with LA := LA, lc := lc }.gone.length gc]) 59 102)] :: gseg r2 m :: (GS m ++ S)) _
  rw [part_setG]
  obtain ⟨p2, hp2⟩ : ∃ z : PartM, z = { p with LA := LA, lc := lc, GA := GA, gc := gc } := ⟨_, rfl⟩
  change OL _ _ _ _ _ (seg51 :: seg48 :: pseg r3 { p with LA := LA, lc := lc, GA := GA, gc := gc } :: gseg r2 m :: (GS m ++ S)) _
  rw [<- hp2]
  have hpp : p2.pl = p.pl := by rw [hp2]; rfl
  have hlp : p2.lines = p.lines := by rw [hp2]
  have hgp : p2.gone = p.gone := by rw [hp2]
  have hp2R : PartR p2 := by rw [hp2]; exact ⟨hp.at_, hp.first, hp.lines, hp.gones, hGc, hGn, hp.up, hp.down, hp.gone⟩
  obtain ⟨m1, hm1d⟩ : ∃ z : GrM, z = { m with junk := m.junk ++ (seg48 ++ seg51) } := ⟨_, rfl⟩
  have hm1 : GOk w0 X m1 := by rw [hm1d]; exact hm.junk' _
  have hr1 : m1.r = m.r := by rw [hm1d]
  have hpo : PartOk' w0 (m1.junk :: X) p2 := ⟨by rw [hm1d, hp2]; exact ((hrL2 []).junkR (b := seg51)).junkL, by rw [hm1d, hp2]; exact ((hrG2 []).junkL (a := seg48)).junkL, hp2R⟩
  refine OL.subS (S' := pseg r3 p2 :: gseg r2 m :: (GS m1 ++ S)) (by rw [hm1d]; exact (Sub.join5).trans (Sub.sel [2, 3, 4, 5, 6, 7, 1, 0] 8 (by decide) (seg51 :: seg48 :: pseg r3 p2 :: gseg r2 m :: (GS m ++ S)))) ?_
  refine OL.nil ?_
  refine hK2 _ _ ?_
  refine PW.k2 2 3 rfl ?_
  refine PW.seq fun K3 hK3 => ?_
  refine PW.quietK Tryz.mixed (QK.det trivial (.ld rfl (own_at (j := 0) (c := [m.ptr]) (E := 30) (tot := 1) zM1 rfl)) (QK.det trivial (Yields.nilc rfl) (QK.dp rfl ?_)))
  refine QK.det trivial (.ld rfl (by rw [<- hr1]; exact g_parts (Over.both hX).cons.cons)) ?_
  refine QK.dp rfl (QK.det trivial (.ldA rfl (hb_len _) (part_patch (p := p2) (E := 59) (tot := 102) zM0)) (QK.dp rfl (QK.det trivial (.ld rfl (part_at (p := p2) (E := 59) (tot := 102) zM0)) (QK.det trivial (.build (fill_vtx rfl rfl)) (QK.det trivial (.ldA rfl (partC_len _) (all_at (c := partC p2) (E := 59) (tot := 102) zM0)) (QK.nil ?_))))))
  change OL _ _ _ [_] _ _ _
  refine OL.cons trivial (OW.updG (j := 3) (l := m1.parts) (a := p2.pl.name) (v := p2) Tryz.underlying108 keys97 hm1.pk hp2R.name rfl rfl rfl rfl) ?_
  rintro _ _ rfl
  obtain ⟨m2, hm2d⟩ : ∃ z : GrM, z = { m1 with parts := mpt m1.parts p2.pl.name p2 } := ⟨_, rfl⟩
  have hm2 : GOk w0 X m2 := by rw [hm2d]; exact hm1.part' hp2R.name hpo
  change OL _ _ _ _ _ (pseg r3 p2 :: gseg r2 m :: (GS { m1 with parts := mpt m1.parts p2.pl.name p2 } ++ S)) _
  rw [<- hm2d]
  have hr2 : m2.r = m.r := by rw [hm2d, hm1d]
  have hl2 : m2.lim = m.lim := by rw [hm2d, hm1d]
  have hn2 : m2.nodes = m.nodes := by rw [hm2d, hm1d]
  have hf2 : m2.first = m.first := by rw [hm2d, hm1d]
  have hpp2 : plP m2.parts = mpt (plP m.parts) p.pl.name p.pl := by rw [hm2d, hm1d]; show plP (mpt m.parts p2.pl.name p2) = _; rw [mpt_plP, hpp]
  have hj2 : ∀ x ∈ m.junk, x ∈ m2.junk := by rw [hm2d, hm1d]; exact fun x hx => List.mem_append_left _ hx
  have hpo2 : PartOk' w0 (m2.junk :: X) p2 := by rw [hm2d]; exact hpo
  refine OL.nil ?_
  refine hK3 _ _ ?_
  refine PW.k2 2 3 rfl ?_
  refine PW.seq fun K4 hK4 => ?_
  refine PW.seqOps (OL.dp rfl (OL.det trivial (.ld rfl (part_lines (p := p2) (E := 59) (tot := 102) zM0)) (OL.dp rfl (OL.dp rfl (OL.nil (PW.k5 2 3 65 66 67 rfl (PW.block (PW.k5 2 3 65 66 67 rfl ?_))))))))
  refine PW.loopK (I := fun mm T S' => ∃ (k : Nat) (m3 : GrM), (k <= p2.lines.length /\ mm = p2.lines.length - k /\ GOk w0 X m3 /\ m3.parts = m2.parts /\ m3.first = m2.first /\ plN m3.nodes = laidN (plN m2.nodes) p2.pl k /\ m3.r = m.r /\ m3.lim = m.lim /\ m3.junk = m2.junk) /\ T = ([(2, .pointer (some ⟨r2, 0, none⟩)), (3, .pointer (some ⟨r3, 0, none⟩)), (65, .slice p2.LA p2.lines.length p2.lc), (66, .int .i64 (p2.lines.length : Int)), (67, .int .i64 k)] : TT) /\ S' = pseg r3 p2 :: gseg r2 m :: (GS m3 ++ S)) (m := p2.lines.length) ⟨0, m2, ⟨by omega, by omega, hm2, rfl, rfl, rfl, hr2, hl2, rfl⟩, rfl, rfl⟩ ?_
  rintro mm _ _ ⟨k, m3, ⟨hk, hmm, hm3, hp3, hf3, hn3, hr3, hl3, hj3⟩, rfl, rfl⟩
  refine PW.seqOps (OL.dp rfl (OL.nil (PW.k6 2 3 65 66 67 68 rfl ?_)))
  refine PW.seq fun K5 hK5 => ?_
  refine PW.cond rfl (fun c68 => ?_) (fun c68 => ?_)
  · try simp only [cvS] at c68
    have hp2l := hp2R.lines
    have hkl : k < p2.lines.length := by omega
    obtain ⟨al, hal⟩ := strs_some hpo2.rdL (by omega)
    have hrL4 : Rd w0 (pseg r3 p2 :: gseg r2 m :: (GS m3 ++ S)) (some al) (strs p2.lines) := by
      rw [<- hal]
      exact ((hpo2.rdL.jmono (b := m3.junk) fun x hx => hj3 ▸ hx).junk (Over.both hX)).cons.cons
    refine PW.skip ?_
    refine hK5 _ _ ?_
    refine PW.k5 2 3 65 66 67 rfl ?_
    refine PW.seq fun K6 hK6 => ?_
    refine PW.block (PW.seqOps (OL.dp rfl ?_))
    rw [hal]
    refine OL.det trivial (.ixN1 rfl rfl rfl (by omega)) ?_
    refine OL.det trivial (.ld rfl (str_at hrL4 hkl)) (OL.dp rfl (OL.dp rfl (OL.nil (PW.k7 2 3 5 6 65 66 67 rfl (PW.quietK Tryz.mixed (QK.det trivial (.ld rfl (own_at (j := 0) (c := [m.ptr]) (E := 30) (tot := 1) zM1 rfl)) (QK.det trivial (Yields.nilc rfl) (QK.dp rfl ?_))))))))
    refine QK.det trivial (.ld rfl (by rw [<- hr3]; exact g_nodes (Over.both hX).cons.cons)) ?_
    refine QK.det trivial (.ldA rfl (partC_len _) (all_at (c := partC p2) (E := 59) (tot := 102) zM0)) (QK.dp rfl ?_)
    refine QK.call trivial rfl (vertex_fc (i := k) hp2R (by have := hp2R.lines; omega)) ?_
    refine QK.dp rfl (QK.det trivial (.build rfl) (QK.nil ?_))
    change OL _ _ _ [_] _ _ _
    refine OL.cons trivial (OW.updG (j := 4) (l := m3.nodes) (a := p2.pl.vtx k) (v := ⟨p2.lines[k], 0, 0, none, 0, []⟩) Tryz.underlying109 keys32 hm3.nk (hp2R.vtx hkl) rfl rfl rfl rfl) ?_
    rintro _ _ rfl
    refine OL.nil ?_
    refine hK6 _ _ ?_
    refine PW.k5 2 3 65 66 67 rfl (PW.ops ?_)
    refine OL.det trivial (.add64 rfl rfl (by omega) (by omega)) ?_
    refine OL.dp rfl (OL.nil ?_)
    repeat rw [inBlk_n]
    try rw [thenK_n]
    refine LoopEnd.mk (T'' := [(2, _), (3, _), (65, _), (66, _), (67, _)]) (wi rfl) ?_
    rw [hal]
    refine ⟨p2.lines.length - (k + 1), by omega, k + 1, { m3 with nodes := mpt m3.nodes (p2.pl.vtx k) ⟨p2.lines[k], 0, 0, none, 0, []⟩, lim := m3.lim + 0 }, ⟨by omega, rfl, hm3.node0 (k := 0) (hp2R.vtx hkl) (one_node _ _ _ _) (by omega), hp3, hf3, ?_, hr3, hl3, hj3⟩, rfl, rfl⟩
    show plN (mpt m3.nodes (p2.pl.vtx k) ⟨p2.lines[k], 0, 0, none, 0, []⟩) = _
    rw [mpt_plN, hn3, laidN_succ, getElem!_pos p2.pl.lines k hkl]
    rfl
  try simp only [cvS] at c68
  refine PW.exit ?_
  refine hK4 _ _ ?_
  refine PW.k2 2 3 rfl (PW.seqOps ?_)
  refine OL.subS (S' := GS m3 ++ (pseg r3 p2 :: gseg r2 m :: S)) (Sub.sel [2, 3, 4, 5, 0, 1] 6 (by decide) (pseg r3 p2 :: gseg r2 m :: (GS m3 ++ S))) ?_
  refine OL.det trivial (.ld rfl (own_at (j := 0) (c := [m.ptr]) (E := 30) (tot := 1) (by simp) rfl)) ?_
  refine OL.det trivial (.ldA rfl (partC_len _) (all_at (c := partC p2) (E := 59) (tot := 102) (by simp))) ?_
  refine OL.call trivial rfl (by rw [<- ptr_eq hr3]; exact links_fc hm3 hX.cons.cons hp2R true (by rw [hlp]; omega)) ?_
  rintro _ _ ⟨rfl, m4, rfl, hm4, hg4, hr4, hl4, hj4⟩
  refine OL.nil (PW.k2 2 3 rfl (PW.seqOps ?_))
  refine OL.det trivial (.ld rfl (own_at (j := 0) (c := [m.ptr]) (E := 30) (tot := 1) (by simp) rfl)) ?_
  refine OL.det trivial (.ldA rfl (partC_len _) (all_at (c := partC p2) (E := 59) (tot := 102) (by simp))) ?_
  refine OL.call trivial rfl (by rw [<- ptr_eq (hr4.trans hr3)]; exact count_fc hm4 hX.cons.cons hp2R (.inr (hpo2.rdG.jmono fun x hx => hj4 x (hj3 ▸ hx))) (.inl rfl) (by rw [hlp] at hl4; rw [hgp]; omega)) ?_
  rintro _ _ ⟨rfl, m5, rfl, hm5, hg5, hr5, hl5, hj5⟩
  refine OL.nil (PW.keep (T' := []) trivial (PW.seqOps (OL.dp rfl (OL.nil (PW.k1 4 rfl (PW.ret ?_))))))
  change (Exit.ret = Exit.normal ∨ Exit.ret = Exit.ret) /\ ∃ v, resV _ _ = some v /\ _
  have hbe := addE_bef (G := m.gr) (p := p.pl) c11 c15 g25 g32 hgn
  rw [show befB m.gr p.pl.up p.pl.down = true from c38] at hbe
  have hbe0 : addE m.gr p.pl = 0 := hbe
  have hke : k = p2.lines.length := by omega
  refine ⟨.inr rfl, _, rfl, _, Sub.sel [0, 1, 2, 3] 6 (by decide) _, m5, by rw [hbe0], rfl, hm5, ?_, hr5.trans (hr4.trans hr3), by unfold addL; rw [hlp] at hl4; rw [hgp] at hl5; omega, fun x hx => hj5 x (hj4 x (hj3 ▸ hj2 x hx))⟩
  unfold addT
  rw [if_pos hbe0, hg5, hg4, hpp]
  have h3 : m3.gr = { parts := mpt m.gr.parts p.pl.name p.pl, nodes := laidN m.gr.nodes p.pl p.pl.lines.length, first := m.gr.first } := by
    unfold GrM.gr
    rw [hp3, hf3, hn3, hf2, hn2, hpp2, hpp, hke, hlp]
    rfl
  rw [h3]
  rfl
end Go.Proofs.Gr



namespace Go.Proofs.Gr
open Go.SL Go.RowKit Go.Proofs Go.GP
set_option maxHeartbeats 1000000
theorem run_loadBytes {P : Program} {w0 w : World} {S : SS} (hr : Rep w0 S w) : ∀ (l : List UInt8) (a : Addr) (acc : ByteArray), (∀ j v, (bytesC l)[j]? = some v -> Cell w0 S (a.add j) v) -> (Extern.Bytes.loadBytes a l.length acc).run P w = .ok (acc ++ ⟨l.toArray⟩) w
 | [], a, acc, _ => by
  have e : acc ++ ⟨#[]⟩ = acc := ByteArray.ext (by simp)
  simp [Extern.Bytes.loadBytes, Sem.run_pure, e]
 | b :: l, a, acc, h => by
  have h0 := hr.cell (h 0 _ rfl)
  rw [show a.add 0 = a by simp [Addr.add]] at h0
  have ih := run_loadBytes (P := P) hr l (a.add 1) (acc.push b) (fun j v hj => by
   rw [addr_add_add]
   exact h (1 + j) v (by rw [Nat.add_comm]; exact hj))
  have hb : (b.toNat : Int).toNat.toUInt8 = b := by simp
  have e : acc.push b ++ ⟨l.toArray⟩ = acc ++ ⟨(b :: l).toArray⟩ := by
   apply ByteArray.ext
   simp
  simp only [List.length_cons, Extern.Bytes.loadBytes]
  rw [Sem.run_bind]
  have hl : (load a).run P w = .ok (.int .u8 (b.toNat : Int)) w := by simp [load, Sem.run, h0]
  rw [hl]
  simp only [Result.andThen]
  rw [hb, ih, e]
theorem callCmp (vs : Array Value) (w : World) : (callFunc 124 vs).run Tryz.prog w = ((Extern.BytealgCompare.compare vs).run Tryz.prog w).andThen fun v w => .ok (.value v) w :=
 run_callFunc_extern Tryz.func124 (by kernel_rfl) (by kernel_rfl) (by kernel_rfl) (e := Extern.BytealgCompare.compare) (by kernel_rfl) vs w
def orL : List Int -> Int
 | [] => 0
 | x :: r => if x ≠ 0 then x else orL r
theorem orL_at : ∀ {l : List Int} {k : Nat} (hk : k < l.length), (∀ z ∈ l.take k, z = 0) -> l[k] ≠ 0 -> orL l = l[k]
 | x :: r, 0, _, _, h => by simp only [List.getElem_cons_zero] at h ⊢; exact if_pos h
 | x :: r, k + 1, hk, h0, h => by
  have hx : x = 0 := h0 x (by simp)
  simp only [List.getElem_cons_succ] at h ⊢
  rw [<- orL_at (by simpa using hk) (fun z hz => h0 z (by simp [hz])) h]
  exact if_neg (by simp [hx])
theorem orL_zero : ∀ {l : List Int}, (∀ z ∈ l, z = 0) -> orL l = 0
 | [], _ => rfl
 | x :: r, h => by
  have hx : x = 0 := h x (by simp)
  exact (if_neg (by simp [hx])).trans (orL_zero fun z hz => h z (by simp [hz]))
def ints (l : List Int) : List Value := l.map (.int .i64)
def cmpI (x y : Int) : Int := if x < y then -1 else if x > y then 1 else 0
def ordV (a b : Vtx) : Int := orL [Lib.compareBytes a.1.1 b.1.1, cmpI a.2 b.2]
theorem bcompare_fc {w0 : World} {S : SS} {A B : Addr} {x y : List UInt8} {c d : Nat} (hx : Rd w0 S (some A) (bytesC x)) (hy : Rd w0 S (some B) (bytesC y)) :
  FC Tryz.prog w0 103 [.slice (some A) x.length c, .slice (some B) y.length d] S (fun v S' => v = .int .i64 (Lib.compareBytes x y) /\ S' = S) := by
 refine FC.of Tryz.known103 (by simp) ?_
 unfold Tryz.pc103
 simp only [argT]
 refine PW.seqOps (OL.dp rfl (OL.nil (PW.k2 0 1 rfl (PW.seqOps (OL.dp rfl (OL.dp rfl ?_))))))
 refine OL.cons trivial (OW.xf rfl (v := .int .i64 (Lib.compareBytes x y)) fun w hr => ?_) ?_
 ·rw [callCmp]
  have h1 := run_loadBytes (P := Tryz.prog) hr x A .empty (fun j v hj => hx.at hj)
  have h2 := run_loadBytes (P := Tryz.prog) hr y B .empty (fun j v hj => hy.at hj)
  rw [show (Extern.BytealgCompare.compare #[.slice (some A) x.length c, .slice (some B) y.length d]).run Tryz.prog w = .ok (.int .i64 (Lib.compareBytes x y)) w from by
   change Sem.run Tryz.prog (do pure (goInt (Extern.BytealgCompare.cmp (<- Extern.Bytes.bytesOf (.slice (some A) x.length c)) (<- Extern.Bytes.bytesOf (.slice (some B) y.length d))))) w = _
   simp only [Extern.Bytes.bytesOf, Sem.run_bind, h1, h2, Sem.run_pure, Result.andThen]
   rw [Lib.cmp_eq]
   simp only [goInt]
   congr 2
   all_goals simp]
  rfl
 rintro _ Sx ⟨rfl, hSx⟩
 rw [hSx]
 clear hSx
 refine OL.dp rfl (OL.nil (PW.k1 4 rfl (PW.ret ?_)))
 change (Exit.ret = Exit.normal ∨ Exit.ret = Exit.ret) /\ ∃ v, resV _ _ = some v /\ _
 exact ⟨.inr rfl, _, rfl, rfl, rfl⟩
theorem isNaN_fc {w0 : World} {S : SS} {x : Int} : FC Tryz.prog w0 125 [.int .i64 x] S (fun v S' => v = .bool false /\ S' = S) := by
 refine FC.of Tryz.known125 (by simp) ?_
 unfold Tryz.pc125
 simp only [argT]
 refine PW.seqOps (OL.dp rfl (OL.nil (PW.k1 0 rfl (PW.seqOps (OL.dp rfl (OL.dp rfl (OL.dp rfl (OL.dp rfl (OL.nil (PW.k1 2 rfl (PW.ret ?_)))))))))))
 change (Exit.ret = Exit.normal ∨ Exit.ret = Exit.ret) /\ ∃ v, resV _ _ = some v /\ _
 exact ⟨.inr rfl, _, rfl, by simp, rfl⟩
theorem cmpI_fc {w0 : World} {S : SS} {x y : Int} : FC Tryz.prog w0 104 [.int .i64 x, .int .i64 y] S (fun v S' => v = .int .i64 (cmpI x y) /\ S' = S) := by
 refine FC.of Tryz.known104 (by simp) ?_
 unfold Tryz.pc104
 simp only [argT]
 refine PW.seqOps (OL.dp rfl (OL.nil (PW.k2 0 1 rfl (PW.seqOps (OL.dp rfl (OL.call trivial rfl (isNaN_fc) ?_))))))
 rintro _ Sx ⟨rfl, hSx⟩
 rw [hSx]
 clear hSx
 refine OL.dp rfl (OL.nil (PW.k3 0 1 5 rfl (PW.seqOps (OL.dp rfl (OL.call trivial rfl (isNaN_fc) ?_)))))
 rintro _ Sx ⟨rfl, hSx⟩
 rw [hSx]
 clear hSx
 refine OL.dp rfl (OL.nil (PW.k4 0 1 5 6 rfl ?_))
 refine PW.seq fun K1 hK1 => ?_
 refine PW.seqOps (OL.dp rfl (OL.nil (PW.k4 0 1 6 11 rfl (PW.ite (b := false) rfl ?_))))
 rw [if_neg Bool.false_ne_true]
 refine PW.skip ?_
 refine hK1 _ _ ?_
 refine PW.k3 0 1 6 rfl ?_
 refine PW.seq fun K2 hK2 => ?_
 refine PW.seqOps (OL.dp rfl (OL.nil (PW.k3 0 1 13 rfl (PW.ite (b := false) rfl ?_))))
 rw [if_neg Bool.false_ne_true]
 refine PW.skip ?_
 refine hK2 _ _ ?_
 refine PW.k2 0 1 rfl ?_
 refine PW.seq fun K3 hK3 => ?_
 refine PW.seqOps (OL.dp rfl (OL.dp rfl (OL.dp rfl (OL.nil (PW.k3 0 1 16 rfl ?_)))))
 refine PW.cond rfl (fun c16 => ?_) (fun c16 => ?_)
 ·try simp only [cvS] at c16
  refine PW.seqOps (OL.dp rfl (OL.nil (PW.k1 4 rfl (PW.ret ?_))))
  change (Exit.ret = Exit.normal ∨ Exit.ret = Exit.ret) /\ ∃ v, resV _ _ = some v /\ _
  exact ⟨.inr rfl, _, rfl, by unfold cmpI; rw [if_pos c16], rfl⟩
 try simp only [cvS] at c16
 refine PW.skip ?_
 refine hK3 _ _ ?_
 refine PW.k2 0 1 rfl ?_
 refine PW.seq fun K4 hK4 => ?_
 refine PW.seqOps (OL.dp rfl (OL.dp rfl (OL.dp rfl (OL.nil (PW.k1 19 rfl ?_)))))
 refine PW.cond rfl (fun c19 => ?_) (fun c19 => ?_)
 ·try simp only [cvS] at c19
  refine PW.seqOps (OL.dp rfl (OL.nil (PW.k1 4 rfl (PW.ret ?_))))
  change (Exit.ret = Exit.normal ∨ Exit.ret = Exit.ret) /\ ∃ v, resV _ _ = some v /\ _
  exact ⟨.inr rfl, _, rfl, by unfold cmpI; rw [if_neg c16, if_pos c19], rfl⟩
 try simp only [cvS] at c19
 refine PW.skip ?_
 refine hK4 _ _ ?_
 refine PW.keep (T' := []) trivial (PW.seqOps (OL.dp rfl (OL.nil (PW.k1 4 rfl (PW.ret ?_)))))
 change (Exit.ret = Exit.normal ∨ Exit.ret = Exit.ret) /\ ∃ v, resV _ _ = some v /\ _
 exact ⟨.inr rfl, _, rfl, by unfold cmpI; rw [if_neg c16, if_neg c19], rfl⟩
theorem cmpOr_fc {w0 : World} {S : SS} {a : Addr} {c : Nat} {l : List Int} (hx : Rd w0 S (some a) (ints l)) (hl : l.length <= 1000) : FC Tryz.prog w0 102 [.slice (some a) l.length c] S (fun v S' => v = .int .i64 (orL l) /\ S' = S) := by
 refine FC.of Tryz.known102 (by simp) ?_
 unfold Tryz.pc102
 simp only [argT]
 refine PW.seqOps (OL.dp rfl (OL.nil (PW.k1 0 rfl (PW.seqOps (OL.dp rfl (OL.nil (PW.k2 0 3 rfl ?_)))))))
 refine PW.seq fun K1 hK1 => ?_
 refine PW.seqOps (OL.dp rfl (OL.dp rfl (OL.dp rfl (OL.nil (PW.k4 3 6 7 8 rfl (PW.block (PW.k4 3 6 7 8 rfl ?_)))))))
 refine PW.loopK (I := fun mm T S' => ∃ (k : Nat), (k <= l.length /\ mm = l.length - k /\ ∀ z ∈ l.take k, z = 0) /\ T = ([(3, .int .i64 0), (6, .slice (some a) l.length c), (7, .int .i64 (l.length : Int)), (8, .int .i64 k)] : TT) /\ S' = S) (m := l.length) ⟨0, ⟨by omega, by omega, by simp⟩, rfl, rfl⟩ ?_
 rintro mm _ _ ⟨k, ⟨hk, hmm, hall⟩, rfl, rfl⟩
 refine PW.seqOps (OL.dp rfl (OL.nil (PW.k5 3 6 7 8 9 rfl ?_)))
 refine PW.seq fun K2 hK2 => ?_
 refine PW.cond rfl (fun c9 => ?_) (fun c9 => ?_)
 ·try simp only [cvS] at c9
  have hkl : k < l.length := by omega
  refine PW.skip ?_
  refine hK2 _ _ ?_
  refine PW.k4 3 6 7 8 rfl ?_
  refine PW.seq fun K3 hK3 => ?_
  refine PW.block (PW.seqOps ?_)
  refine OL.det trivial (.ixN1 rfl rfl rfl (by omega)) ?_
  refine OL.det trivial (.ld rfl (hx.at (j := k) (by unfold ints; rw [List.getElem?_map, List.getElem?_eq_getElem hkl]; rfl))) ?_
  refine OL.dp rfl (OL.nil (PW.k5 3 5 6 7 8 rfl (PW.seqOps (OL.dp rfl (OL.dp rfl (OL.dp rfl (OL.nil (PW.k6 3 5 6 7 8 14 rfl ?_))))))))
  refine PW.cond rfl (fun c14 => ?_) (fun c14 => ?_)
  ·try simp only [cvS] at c14
   refine PW.seqOps (OL.dp rfl (OL.dp rfl (OL.nil (PW.k1 2 rfl (PW.ret ?_)))))
   change (Exit.ret = Exit.normal ∨ Exit.ret = Exit.ret) /\ ∃ v, resV _ _ = some v /\ _
   exact ⟨.inr rfl, _, rfl, by rw [orL_at hkl hall c14], rfl⟩
  try simp only [cvS] at c14
  refine PW.skip ?_
  refine hK3 _ _ ?_
  refine PW.k4 3 6 7 8 rfl (PW.ops ?_)
  refine OL.det trivial (.add64 rfl rfl (by omega) (by omega)) ?_
  refine OL.dp rfl (OL.nil ?_)
  repeat rw [inBlk_n]
  try rw [thenK_n]
  refine LoopEnd.mk (T'' := [(3, _), (6, _), (7, _), (8, _)]) (wi rfl) ?_
  refine ⟨l.length - (k + 1), by omega, k + 1, ⟨by omega, rfl, fun z hz => ?_⟩, rfl, rfl⟩
  rw [List.take_add_one, List.getElem?_eq_getElem hkl, List.mem_append] at hz
  rcases hz with hz | hz
  ·exact hall z hz
  simp at hz; rw [hz]; exact c14
 try simp only [cvS] at c9
 refine PW.exit ?_
 refine hK1 _ _ ?_
 refine PW.k1 3 rfl (PW.seqOps (OL.dp rfl (OL.dp rfl (OL.nil (PW.k1 2 rfl (PW.ret ?_))))))
 change (Exit.ret = Exit.normal ∨ Exit.ret = Exit.ret) /\ ∃ v, resV _ _ = some v /\ _
 exact ⟨.inr rfl, _, rfl, by rw [orL_zero (fun z hz => hall z (by rw [List.take_of_length_le (by omega)]; exact hz))], rfl⟩
theorem order_fc {w0 : World} {S : SS} {a b : Vtx} : FC Tryz.prog w0 72 [vtxV a, vtxV b] S (fun v S' => v = .int .i64 (ordV a b) /\ S' = S) := by
 refine FC.ofD Tryz.known72 (by simp) ?_
 unfold Tryz.pc72
 simp only [argT]
 refine PW.seqOps (OL.cons trivial (OW.bx rfl) ?_)
 rintro _ _ ⟨r2, rfl, rfl⟩
 rw [vtx_box, vtxL_len]
 refine OL.cons trivial (OW.bx rfl) ?_
 rintro _ _ ⟨r3, rfl, rfl⟩
 rw [vtx_box, vtxL_len]
 refine OL.dp rfl (OL.nil (PW.k2 2 3 rfl ?_))
 refine PW.seq fun K1 hK1 => ?_
 refine PW.quietK Tryz.mixed (QK.dp rfl (QK.det trivial (Yields.slA rfl) (QK.dp rfl (QK.det trivial (Yields.slA rfl) ?_))))
 refine QK.call trivial rfl (by have h1 := bcompare_fc (w0 := w0) (S := vseg r3 b :: vseg r2 a :: S) (A := ⟨r2, 0, none⟩) (B := ⟨r3, 0, none⟩) (x := a.1.1) (y := b.1.1) (c := 32) (d := 32) ((Rd.own (E := 27) (tot := 33) zM1).pre ⟨[.int .i64 a.2], rfl⟩) ((Rd.own (E := 27) (tot := 33) zM0).pre ⟨[.int .i64 b.2], rfl⟩); rw [a.1.2, b.1.2] at h1; exact h1) ?_
 refine QK.dp rfl (QK.det trivial (.ld rfl (own_at (j := 32) (c := vtxL a) (E := 27) (tot := 33) zM1 (vtxL_last a))) (QK.dp rfl (QK.det trivial (.ld rfl (own_at (j := 32) (c := vtxL b) (E := 27) (tot := 33) zM0 (vtxL_last b))) (QK.nil ?_))))
 change OL _ _ _ [_, _, _, _] _ _ _
 refine OL.call trivial rfl (cmpI_fc) ?_
 rintro _ Sx ⟨rfl, hSx⟩
 rw [hSx]
 clear hSx
 refine OL.cons trivial (OW.bsl rfl) ?_
 rintro _ _ ⟨r15, rfl, rfl⟩
 change OL _ _ _ _ _ ([(r15, .cells (ints [Lib.compareBytes a.1.1 b.1.1, cmpI a.2 b.2]) 3 2)] :: vseg r3 b :: vseg r2 a :: S) _
 refine OL.call trivial rfl (cmpOr_fc (l := [Lib.compareBytes a.1.1 b.1.1, cmpI a.2 b.2]) (Rd.own (E := 3) (tot := 2) zM0) (by simp)) ?_
 rintro _ Sx ⟨rfl, hSx⟩
 rw [hSx]
 clear hSx
 refine OL.dp rfl (OL.nil ?_)
 refine hK1 _ _ ?_
 refine PW.k1 4 rfl (PW.ret ?_)
 change (Exit.ret = Exit.normal ∨ Exit.ret = Exit.ret) /\ ∃ v, resV _ _ = some v /\ _
 exact ⟨.inr rfl, _, rfl, _, Sub.drop (Sub.drop (Sub.drop (Sub.refl _))), rfl, rfl⟩
def m00 (r p n : Nat) : GrM := ⟨r, p, n, none, 0, [], [], [], [], 0⟩
theorem m00_ok (w0 : World) (X : SS) (r p n : Nat) : GOk w0 X (m00 r p n) := ⟨fun q h => (nomatch h), fun q h => (nomatch h), fun q h => (nomatch h), fun q h => (nomatch h), Rd.nil, fun q h => (nomatch h), Nat.le_refl _, Nat.zero_le _, List.nodup_nil, List.nodup_nil⟩
theorem new_fc {w0 : World} {S X : SS} : FC Tryz.prog w0 24 [] S (fun v S' => ∃ m, v = m.ptr /\ S' = GS m ++ S /\ GOk w0 X m /\ m.gr = ⟨[], [], []⟩ /\ m.lim = 0) := by
 refine FC.ofD Tryz.known24 (by simp) ?_
 unfold Tryz.pc24
 simp only [argT]
 refine PW.seqOps (OL.dp rfl (OL.nil (PW.keep (T' := []) trivial (PW.seqOps (OL.cons trivial OW.mkG ?_)))))
 rintro _ _ ⟨r1, rfl, rfl⟩
 refine OL.cons trivial OW.mkG ?_
 rintro _ _ ⟨r2, rfl, rfl⟩
 refine OL.det trivial (.build rfl) (OL.cons trivial (OW.bx rfl) ?_)
 rintro _ _ ⟨r4, rfl, rfl⟩
 change OL _ _ _ _ _ ([(r4, .cells (m00 r4 r1 r2).cells 111 4)] :: [(r2, .gm [])] :: [(r1, .gm [])] :: S) _
 refine OL.dp rfl (OL.nil (PW.k1 0 rfl (PW.ret ?_)))
 change (Exit.ret = Exit.normal ∨ Exit.ret = Exit.ret) /\ ∃ v, resV _ _ = some v /\ _
 refine ⟨.inr rfl, _, rfl, _, (Sub.cons (Sub.cons (Sub.cons (Sub.nilL (Sub.refl S))))).trans (Sub.sel [0, 2, 1] 3 (by decide) ([(r4, .cells (m00 r4 r1 r2).cells 111 4)] :: [(r2, .gm [])] :: [(r1, .gm [])] :: S)), m00 r4 r1 r2, rfl, rfl, m00_ok _ _ _ _ _, rfl, rfl⟩
end Go.Proofs.Gr

namespace Go.Proofs.Gr
open Go.SL Go.RowKit Go.Proofs Go.GP
noncomputable def mrow (name : String) : Option (Option (List FieldStep × Option (FuncId × Bool))) := (Tryz.prog.info? 155).map fun i => (i.methods.find? (·.name == name)).map fun m => (m.path.toList, m.func)
theorem mrow_spec {name : String} {x : List FieldStep × Option (FuncId × Bool)} (h : mrow name = some (some x)) : ∃ i m, Tryz.prog.info? 155 = some i /\ i.methods.find? (·.name == name) = some m /\ m.path.toList = x.1 /\ m.func = x.2 := by
 unfold mrow at h
 obtain ⟨i, hi, h2⟩ := Option.map_eq_some_iff.1 h
 obtain ⟨m, hm, h3⟩ := Option.map_eq_some_iff.1 h2
 exact ⟨i, m, hi, hm, congrArg Prod.fst h3, congrArg Prod.snd h3⟩
theorem fuel : ∃ k, Tryz.prog.types.size + Made.depth = k + 1 := ⟨Tryz.prog.types.size + Made.depth - 1, by have := tsize; omega⟩
theorem meth_ptr {w0 w : World} {S : SS} (hr : Rep w0 S w) {name : String} {f : FuncId} (h : mrow name = some (some ([], some (f, true)))) (v : Value) : (method (Tryz.prog.types.size + Made.depth) 155 v name).run Tryz.prog w = .ok (f, v) w := by
 obtain ⟨i, m, h1, h2, h3, h4⟩ := mrow_spec h
 obtain ⟨k, hk⟩ := fuel
 rw [hk]
 unfold method
 simp only [typeInfo, program, Sem.run, h1, h2, h3, h4, follow, Sem.run_bind, Sem.run_pure, Result.andThen_ok, receiverAt, run_underlying Tryz.underlying155, Place.get]
theorem meth_val {w0 w : World} {S : SS} (hr : Rep w0 S w) {name : String} {f : FuncId} (h : mrow name = some (some ([], some (f, false)))) {a : Addr} {v : Value} (hc : Cell w0 S a v) : (method (Tryz.prog.types.size + Made.depth) 155 (.pointer (some a)) name).run Tryz.prog w = .ok (f, v) w := by
 obtain ⟨i, m, h1, h2, h3, h4⟩ := mrow_spec h
 obtain ⟨k, hk⟩ := fuel
 have hl : (loadVar 156 a).run Tryz.prog w = .ok v w := by
  have := hr.cell hc
  have ha : (isAgg 156).run Tryz.prog w = .ok false w := by
   rw [run_isAgg Tryz.underlying156]
   rfl
  simp [loadVar, ha, load, Sem.run, this]
 have hn : (Builtin.ssaWrapNilChk_ #[155] 155 #[.pointer (some a), strVal "", strVal ((name.splitOn ".").getLastD name)]).run Tryz.prog w = .ok (.pointer (some a)) w := rfl
 have he : m.path.isEmpty = true := by
  rw [Array.isEmpty_iff, <- Array.toList_eq_nil_iff]
  exact h3
 rw [hk]
 unfold method
 simp only [typeInfo, program, Sem.run, h1, h2, h3, h4, he, if_true, follow, Sem.run_bind, Sem.run_pure, Result.andThen_ok, receiverAt, run_underlying Tryz.underlying155, Place.get]
 rw [hn]
 simp [asAddr, hl]
theorem m_len : mrow "Len" = some (some ([], some (86, false))) := by kernel_rfl
theorem m_less : mrow "Less" = some (some ([], some (150, false))) := by kernel_rfl
theorem m_swap : mrow "Swap" = some (some ([], some (153, false))) := by kernel_rfl
theorem m_push : mrow "Push" = some (some ([], some (152, true))) := by kernel_rfl
theorem m_pop : mrow "Pop" = some (some ([], some (151, true))) := by kernel_rfl
end Go.Proofs.Gr

namespace Go.Proofs.Gr
open Go.SL Go.RowKit Go.Proofs Go.GP
set_option maxHeartbeats 1000000
open Go.HP
def ltV (a b : Vtx) : Bool := decide (ordV a b < 0)
theorem vtxs_set {q : List Vtx} {i : Nat} (hi : i < q.length) (v : Vtx) : setAt (vtxs q) (i * 33) (vtxL v) = vtxs (q.set i v) := by
 have hl := vtxs_len q
 have hv := vtxL_len v
 rw [setAt_eq _ _ _ (by omega), vtxs_take q i (by omega), hv, show i * 33 + 33 = (i + 1) * 33 by omega, vtxs_drop q (i + 1) (by omega), List.set_eq_take_append_cons_drop, if_pos hi, vtxs_app, vtxs_cons, List.append_assoc]
theorem vtx_at! {w0 : World} {S : SS} {a : Addr} {l : List Vtx} (h : Rd w0 S (some a) (vtxs l)) {k : Nat} (hk : k < l.length) : ∀ (j : Nat) (v : Value), (vtxL l[k]!)[j]? = some v -> Cell w0 S ((a.add (k * 33)).add j) v := by
 rw [getElem!_pos l k hk]; exact vtx_at h hk
theorem wlen_fc {w0 : World} {S : SS} {A : Option Addr} {n c : Nat} : FC Tryz.prog w0 86 [.slice A n c] S (fun u S' => u = .int .i64 (n : Int) /\ S' = S) := by
 refine FC.of Tryz.known86 (by simp) ?_
 unfold Tryz.pc86
 simp only [argT]
 refine PW.seqOps (OL.dp rfl (OL.nil (PW.k1 0 rfl (PW.seqOps (OL.dp rfl (OL.dp rfl (OL.dp rfl (OL.nil (PW.k1 2 rfl (PW.ret ?_))))))))))
 change (Exit.ret = Exit.normal ∨ Exit.ret = Exit.ret) /\ ∃ v, resV _ _ = some v /\ _
 exact ⟨.inr rfl, _, rfl, rfl, rfl⟩
theorem wless_fc {w0 : World} {S : SS} {a : Addr} {c i j : Nat} {q : List Vtx} (hx : Rd w0 S (some a) (vtxs q)) (hi : i < q.length) (hj : j < q.length) : FC Tryz.prog w0 150 [.slice (some a) q.length c, .int .i64 (i : Int), .int .i64 (j : Int)] S (fun u S' => u = .bool (ltV q[i]! q[j]!) /\ S' = S) := by
 refine FC.of Tryz.known150 (by simp) ?_
 unfold Tryz.pc150
 simp only [argT]
 refine PW.seqOps (OL.dp rfl (OL.nil (PW.k3 0 1 2 rfl ?_)))
 refine PW.seq fun K1 hK1 => ?_
 refine PW.quietK Tryz.mixed (QK.dp rfl (QK.dp rfl ?_))
 refine QK.det trivial (.ixN rfl rfl rfl (by omega)) ?_
 refine QK.det trivial (.ldA rfl (cs := vtxL q[i]!) (vtxL_len _) (vtx_at! hx hi)) (QK.dp rfl (QK.dp rfl ?_))
 refine QK.det trivial (.ixN rfl rfl rfl (by omega)) ?_
 refine QK.det trivial (.ldA rfl (cs := vtxL q[j]!) (vtxL_len _) (vtx_at! hx hj)) (QK.nil ?_)
 change OL _ _ _ [_, _, _] _ _ _
 refine OL.call trivial rfl (order_fc (a := q[i]!) (b := q[j]!)) ?_
 rintro _ Sx ⟨rfl, hSx⟩
 rw [hSx]
 clear hSx
 refine OL.dp rfl (OL.dp rfl (OL.nil ?_))
 refine hK1 _ _ ?_
 refine PW.k1 6 rfl (PW.ret ?_)
 change (Exit.ret = Exit.normal ∨ Exit.ret = Exit.ret) /\ ∃ v, resV _ _ = some v /\ _
 exact ⟨.inr rfl, _, rfl, rfl, rfl⟩
theorem wswap_fc {w0 : World} {S : SS} {r tot c i j k : Nat} {q : List Vtx} (hk : S[k]? = some [(r, .cells (vtxs q) 27 tot)]) (hi : i < q.length) (hj : j < q.length) : FC Tryz.prog w0 153 [.slice (some ⟨r, 0, none⟩) q.length c, .int .i64 (i : Int), .int .i64 (j : Int)] S (fun u S' => u = .tuple #[] /\ S' = S.set k [(r, .cells (vtxs (swapL q i j)) 27 tot)]) := by
 have hx : Rd w0 S (some ⟨r, 0, none⟩) (vtxs q) := Rd.own (mem_at hk)
 have hkl : k < S.length := (List.getElem?_eq_some_iff.1 hk).1
 refine FC.of Tryz.known153 (by simp) ?_
 unfold Tryz.pc153
 simp only [argT]
 refine PW.quietK Tryz.mixed (QK.dp rfl (QK.dp rfl (QK.dp rfl (QK.dp rfl (QK.dp rfl (QK.dp rfl ?_))))))
 refine QK.det trivial (.ixN rfl rfl rfl (by omega)) ?_
 refine QK.det trivial (.ldA rfl (cs := vtxL q[j]!) (vtxL_len _) (vtx_at! hx hj)) (QK.dp rfl (QK.dp rfl ?_))
 refine QK.det trivial (.ixN rfl rfl rfl (by omega)) ?_
 refine QK.det trivial (.ldA rfl (cs := vtxL q[i]!) (vtxL_len _) (vtx_at! hx hi)) (QK.nil ?_)
 change OL _ _ _ [_, _, _, _] _ _ _
 refine OL.det trivial (Yields.ixO rfl rfl rfl hi) ?_
 refine OL.cons trivial (OW.st (k := k) (c := vtxs q) (u := vtxV q[j]!) rfl rfl hk ((List.size_toArray).trans (vtxL_len _)) (by rw [vtxs_len]; omega) (vtxL_one _)) ?_
 rintro _ _ rfl
 rw [vtx_box, vtxs_set hi]
 refine OL.det trivial (Yields.ixO rfl rfl rfl hj) ?_
 refine OL.cons trivial (OW.st (k := k) (c := vtxs (q.set i q[j]!)) (u := vtxV q[i]!) rfl rfl (by rw [List.getElem?_set_self hkl]) ((List.size_toArray).trans (vtxL_len _)) (by rw [vtxs_len]; rw [List.length_set]; omega) (vtxL_one _)) ?_
 rintro _ _ rfl
 rw [vtx_box, vtxs_set (by rw [List.length_set]; exact hj)]
 rw [List.set_set]
 refine OL.nil ?_
 change (Exit.normal = Exit.normal ∨ Exit.normal = Exit.ret) /\ ∃ v, resV _ _ = some v /\ _
 exact ⟨.inl rfl, _, rfl, rfl, rfl⟩
end Go.Proofs.Gr

namespace Go.Proofs.Gr
open Go.SL Go.RowKit Go.Proofs Go.GP
set_option maxHeartbeats 1000000
open Go.HP
abbrev wseg (r : Nat) (v : Value) : Seg := [(r, .cells [v] 156 1)]
abbrev qseg (r tot : Nat) (q : List Vtx) : Seg := [(r, .cells (vtxs q) 27 tot)]
theorem Yields.half {P : Program} {w0 : World} {n : Nat} {T : TT} {S : SS} {x : PV} {j : Nat} (hx : x.val T = some (.int .i64 ((j : Int) - 1))) (hj : j <= 10000000000000) : SL.Yields P w0 n (.bin .quo x (.v (.int .i64 2))) T S (.int .i64 (((j - 1) / 2 : Nat) : Int)) := by
 refine (SL.Yields.quo hx rfl (by decide)).to ?_
 have h : ((j : Int) - 1).tdiv 2 = (((j - 1) / 2 : Nat) : Int) := by
  cases j with
  | zero => rfl
  | succ j =>
   rw [show (((j + 1 : Nat) : Int) - 1) = (j : Int) by omega, Int.tdiv_eq_ediv_of_nonneg (by omega)]
   rw [Nat.add_sub_cancel]
   omega
 rw [h, wrap_i64 (by omega) (by omega)]
def wI (rw : Nat) : Value := .iface 155 (.pointer (some ⟨rw, 0, none⟩))
theorem wpush_fc {w0 : World} {S : SS} {rw : Nat} {v : Value} {sg : Seg} {q : List Vtx} {x : Vtx} (hs : SlV 27 33 v q.length (vtxs q) sg) (hq : q.length <= 1000000000000) :
  FC Tryz.prog w0 152 [.pointer (some ⟨rw, 0, none⟩), .iface 27 (vtxV x)] (wseg rw v :: sg :: S) (fun u S' => u = .tuple #[] /\ ∃ v' sg', S' = wseg rw v' :: sg' :: S /\ SlV 27 33 v' (q ++ [x]).length (vtxs (q ++ [x])) sg') := by
 refine FC.ofD Tryz.known152 (by simp) ?_
 unfold Tryz.pc152
 simp only [argT]
 refine PW.seqOps (OL.dp rfl ?_)
 refine OL.det trivial (Yields.tas (ok := true) rfl Tryz.underlying27 (by intro ms h; cases h)) ?_
 refine OL.dp rfl (OL.dp rfl (OL.dp rfl (OL.cons trivial OW.al ?_)))
 rintro _ _ ⟨r4, rfl, rfl⟩
 refine OL.cons trivial (vtx_st rfl rfl rfl) ?_
 rintro _ _ rfl
 refine OL.dp rfl (OL.nil (PW.k3 0 4 5 rfl (PW.seqOps (OL.dp rfl (OL.nil (PW.k3 0 4 11 rfl (PW.ite (b := true) rfl ?_)))))))
 rw [if_pos rfl]
 refine PW.quietG (Ss := Over (vseg r4 x :: wseg rw v :: sg :: S)) (fr := false) [(0, 0), (1, 0), (2, 0), (3, 0), (4, 0), (5, 2)] Tryz.mixed (by decide +kernel) (Over.refl _) (fun h => by cases h) ?_
 refine GL.dp rfl ?_
 refine GL.dp rfl ?_
 refine GL.det trivial (fun Sx hSx => Yields.nilc rfl) ?_
 refine GL.det trivial (fun Sx hSx => Yields.ld rfl (own_at (j := 0) (c := [v]) (E := 156) (tot := 1) (hSx _ zM1) rfl)) ?_
 refine GL.det trivial (fun Sx hSx => Yields.ldA rfl (vtxL_len _) (all_at (c := vtxL x) (E := 27) (tot := 33) (hSx _ zM0))) ?_
 refine GL.lo trivial (OW.mono (K := fun u S' => ∃ r, u = .slice (some ⟨r, 0, none⟩) 1 1 /\ S' = vseg r x :: vseg r4 x :: wseg rw v :: sg :: S) (OW.mono (OW.bsl (fill_one (v := x) rfl rfl)) (fun u S' ⟨r, h1, h2⟩ => ⟨r, h1, by rw [h2, vtxL_len]⟩)) fun v S2 hk => ⟨(fun u S' ⟨r, _, h⟩ => by rw [h]; exact (Over.refl _).cons) v S2 hk, ?_⟩)
 revert v S2
 rintro _ _ ⟨r17, rfl, rfl⟩
 change OL _ _ _ [_, _, _] _ _ _
 refine OL.cons trivial (OW.app (k := 3) (m := q.length) (xs := vtxs q) (news := vtxL x) rfl rfl hs rfl (vtxL_len _) (all_at (c := vtxL x) (E := 27) (tot := 33) zM0) (vtxL_one _) (by omega) (by unfold maxLen; omega)) ?_
 rintro v18 _ ⟨sg18, rfl, hs18⟩
 rw [<- vtxs_one1, <- vtxs_app, show q.length + 1 = (q ++ [x]).length by simp] at hs18
 obtain ⟨A18, c18, rfl, -, -, -⟩ := slv_rdL (w0 := w0) hs18
 refine OL.det trivial (Yields.nilc rfl) (OL.cons trivial (OW.st (k := 2) (c := [v]) (u := .slice A18 (q ++ [x]).length c18) rfl rfl rfl rfl (Nat.le_refl 1) rfl) ?_)
 rintro _ _ rfl
 refine OL.nil ?_
 change (Exit.normal = Exit.normal ∨ Exit.normal = Exit.ret) /\ ∃ v, resV _ _ = some v /\ _
 exact ⟨.inl rfl, _, rfl, _, Sub.drop (Sub.drop (Sub.refl _)), rfl, _, _, rfl, hs18⟩
theorem wpop_fc {w0 : World} {S : SS} {rw r c : Nat} {q : List Vtx} (h0 : 0 < q.length) (hc : q.length <= c) (hcm : c <= maxLen) (hq : q.length <= 1000000000000) :
  FC Tryz.prog w0 151 [.pointer (some ⟨rw, 0, none⟩)] (wseg rw (.slice (some ⟨r, 0, none⟩) q.length c) :: qseg r (c * 33) q :: S) (fun u S' => u = .iface 27 (vtxV q[q.length - 1]!) /\ S' = wseg rw (.slice (some ⟨r, 0, none⟩) (q.length - 1) c) :: qseg r (c * 33) (q.take (q.length - 1)) :: S) := by
 have hx : ∀ S1 : SS, Rd w0 (wseg rw (.slice (some ⟨r, 0, none⟩) q.length c) :: qseg r (c * 33) q :: S1) (some ⟨r, 0, none⟩) (vtxs q) := fun S1 => Rd.own (E := 27) (tot := c * 33) (by simp)
 refine FC.ofD Tryz.known151 (by simp) ?_
 unfold Tryz.pc151
 simp only [argT]
 refine PW.seqOps (OL.dp rfl (OL.nil (PW.k1 0 rfl (PW.seqOps (OL.dp rfl (OL.det trivial (Yields.nilc rfl) (OL.det trivial (.ld rfl (own_at (j := 0) (c := [.slice (some ⟨r, 0, none⟩) q.length c]) (E := 156) (tot := 1) zM0 rfl)) (OL.dp rfl ?_))))))))
 refine OL.det trivial (.sub64 rfl rfl (by omega) (by omega)) ?_
 refine OL.dp rfl (OL.nil (PW.k2 0 3 rfl (PW.seqOps (OL.dp rfl (OL.det trivial (Yields.nilc rfl) (OL.det trivial (.ld rfl (own_at (j := 0) (c := [.slice (some ⟨r, 0, none⟩) q.length c]) (E := 156) (tot := 1) zM0 rfl)) (OL.dp rfl ?_)))))))
 refine OL.det trivial (.ixN rfl rfl (show ((q.length : Nat) : Int) - 1 = ((q.length - 1 : Nat) : Int) by omega) (by omega)) ?_
 refine OL.det trivial (.ldA rfl (cs := vtxL q[q.length - 1]!) (vtxL_len _) (vtx_at! (hx _) (by omega))) ?_
 refine OL.cons trivial OW.al ?_
 rintro _ _ ⟨r4, rfl, rfl⟩
 refine OL.cons trivial (vtx_st rfl rfl rfl) ?_
 rintro _ _ rfl
 refine OL.nil (PW.k3 0 3 4 rfl (PW.seqOps (OL.dp rfl (OL.dp rfl (OL.det trivial (Yields.nilc rfl) (OL.det trivial (.ld rfl (own_at (j := 0) (c := [.slice (some ⟨r, 0, none⟩) q.length c]) (E := 156) (tot := 1) zM1 rfl)) (OL.dp rfl ?_)))))))
 refine OL.det trivial (.to (v' := .slice (some ⟨r, 0, none⟩) (q.length - 1) c) (Yields.slS (A := some ⟨r, 0, none⟩) (len := q.length) (cap := c) (l := 0) (h := q.length - 1) rfl rfl rfl (.inr ⟨rfl, rfl⟩) (.inl (congrArg some (by omega))) (by omega) (by omega)) (cutV0 _ _ _ _)) ?_
 refine OL.det trivial (Yields.nilc rfl) (OL.cons trivial (OW.st (k := 1) (c := [.slice (some ⟨r, 0, none⟩) q.length c]) (u := .slice (some ⟨r, 0, none⟩) (q.length - 1) c) rfl rfl rfl rfl (Nat.le_refl 1) rfl) ?_)
 rintro _ _ rfl
 refine OL.tell (k := 2) rfl (fun w h => owns_take ((q.length - 1) * 33) h) ?_
 change OL _ _ _ _ _ (vseg r4 q[q.length - 1]! :: wseg rw (.slice (some ⟨r, 0, none⟩) (q.length - 1) c) :: [(r, .cells ((vtxs q).take ((q.length - 1) * 33)) 27 (c * 33))] :: S) _
 rw [vtxs_take _ _ (by omega)]
 refine OL.nil (PW.k1 4 rfl (PW.seqOps (OL.det trivial (.ldA rfl (vtxL_len _) (all_at zM0)) (OL.det trivial (Yields.mkI rfl) (OL.dp rfl (OL.nil (PW.k1 2 rfl (PW.ret ?_))))))))
 change (Exit.ret = Exit.normal ∨ Exit.ret = Exit.ret) /\ ∃ v, resV _ _ = some v /\ _
 exact ⟨.inr rfl, _, rfl, _, Sub.drop (Sub.refl _), rfl, rfl⟩
theorem wup_fc {w0 : World} {S : SS} {rw r c tot j0 : Nat} {q : List Vtx} (hj0 : j0 < q.length) (hq : q.length <= 1000000000000) :
    FC Tryz.prog w0 109 [wI rw, .int .i64 (j0 : Int)] (wseg rw (.slice (some ⟨r, 0, none⟩) q.length c) :: qseg r tot q :: S) (fun u S' => u = .tuple #[] /\ S' = wseg rw (.slice (some ⟨r, 0, none⟩) q.length c) :: qseg r tot (upL ltV j0 q j0) :: S) := by
  refine FC.of Tryz.known109 (by simp) ?_
  unfold Tryz.pc109
  simp only [argT]
  refine PW.block (PW.k2 0 1 rfl ?_)
  refine PW.loopK (I := fun mm T S' => ∃ (j f : Nat) (l : List Vtx), (j < l.length /\ j <= f /\ l.length = q.length /\ upL ltV f l j = upL ltV j0 q j0 /\ mm = j) /\ T = ([(0, wI rw), (1, .int .i64 (j : Int))] : TT) /\ S' = wseg rw (.slice (some ⟨r, 0, none⟩) q.length c) :: qseg r tot l :: S) (m := j0) ⟨j0, j0, q, ⟨hj0, Nat.le_refl _, rfl, rfl, rfl⟩, rfl, rfl⟩ ?_
  rintro mm _ _ ⟨j, f, l, ⟨hj, hjf, hl, hu, hmm⟩, rfl, rfl⟩
  have hi2 : (j - 1) / 2 < l.length := by omega
  refine PW.block (PW.seqOps (OL.dp rfl ?_))
  refine OL.det trivial (.sub64 rfl rfl (by omega) (by omega)) ?_
  refine OL.det trivial (Yields.half rfl (by omega)) ?_
  refine OL.dp rfl (OL.nil (PW.k3 0 1 4 rfl ?_))
  refine PW.seq fun K1 hK1 => ?_
  refine PW.seqOps (OL.dp rfl (OL.dp rfl (OL.dp rfl ?_)))
  refine OL.bool trivial (Yields.pure rfl) (fun g11 => ?_) (fun g11 => ?_)
  · try simp only [cvS] at g11
    refine OL.off rfl rfl (OL.off rfl rfl (OL.off rfl rfl (OL.off rfl rfl (OL.off rfl rfl (OL.dp rfl (OL.nil (PW.k4 0 1 4 17 rfl (PW.ite (b := true) rfl ?_))))))))
    rw [if_pos rfl]
    refine PW.exit ?_
    change (Exit.normal = Exit.normal ∨ Exit.normal = Exit.ret) /\ ∃ v, resV _ _ = some v /\ _
    first
      | (refine ⟨.inl rfl, _, rfl, rfl, ?_⟩
         rw [<- hu]
         cases f with
         | zero => rfl
         | succ f => rw [show upL ltV (f + 1) l j = l from by unfold upL; rw [if_pos (show j = 0 by omega)]])
      | (refine ⟨.inl rfl, _, rfl, rfl, ?_⟩
         rw [<- hu]
         cases f with
         | zero => rfl
         | succ f => rw [show upL ltV (f + 1) l j = l from by unfold upL; rw [if_neg (show ¬ j = 0 by omega), if_neg (by rw [c17]; simp)]])
  try simp only [cvS] at g11
  refine OL.det rfl (.pure rfl) (OL.det rfl (.pure rfl) (OL.det rfl (.pure rfl) ?_))
  refine OL.cons rfl (OW.inv (k := 150) (rv := .slice (some ⟨r, 0, none⟩) q.length c) rfl rfl (fun w hr => meth_val hr m_less (own_at (j := 0) (c := [.slice (some ⟨r, 0, none⟩) q.length c]) (E := 156) (tot := 1) zM0 rfl)) (by kernel_rfl) (by have h := wless_fc (w0 := w0) (S := wseg rw (.slice (some ⟨r, 0, none⟩) q.length c) :: qseg r tot l :: S) (c := c) (Rd.own (E := 27) (tot := tot) zM1) hj hi2; rw [hl] at h; exact h)) ?_
  rintro _ Sx ⟨rfl, hSx⟩
  rw [hSx]
  clear hSx
  refine OL.det rfl (.pure rfl) (OL.dp rfl (OL.nil (PW.k4 0 1 4 17 rfl ?_)))
  refine PW.cond rfl (fun c17 => ?_) (fun c17 => ?_)
  · try simp only [cvS] at c17
    refine PW.exit ?_
    change (Exit.normal = Exit.normal ∨ Exit.normal = Exit.ret) /\ ∃ v, resV _ _ = some v /\ _
    first
      | (refine ⟨.inl rfl, _, rfl, rfl, ?_⟩
         rw [<- hu]
         cases f with
         | zero => rfl
         | succ f => rw [show upL ltV (f + 1) l j = l from by unfold upL; rw [if_pos (show j = 0 by omega)]])
      | (refine ⟨.inl rfl, _, rfl, rfl, ?_⟩
         rw [<- hu]
         cases f with
         | zero => rfl
         | succ f => rw [show upL ltV (f + 1) l j = l from by unfold upL; rw [if_neg (show ¬ j = 0 by omega), if_neg (by rw [c17]; simp)]])
  try simp only [cvS] at c17
  refine PW.skip ?_
  refine hK1 _ _ ?_
  refine PW.k3 0 1 4 rfl (PW.seqOps (OL.dp rfl (OL.dp rfl (OL.dp rfl ?_))))
  refine OL.cons trivial (OW.inv (k := 153) (rv := .slice (some ⟨r, 0, none⟩) q.length c) rfl rfl (fun w hr => meth_val hr m_swap (own_at (j := 0) (c := [.slice (some ⟨r, 0, none⟩) q.length c]) (E := 156) (tot := 1) zM0 rfl)) (by kernel_rfl) (by have h := wswap_fc (w0 := w0) (S := wseg rw (.slice (some ⟨r, 0, none⟩) q.length c) :: qseg r tot l :: S) (c := c) (k := 1) rfl hi2 hj; rw [hl] at h; exact h)) ?_
  rintro _ Sx ⟨rfl, hSx⟩
  rw [hSx]
  clear hSx
  refine OL.nil (PW.k2 0 4 rfl (PW.ops (OL.dp rfl (OL.dp rfl (OL.nil ?_)))))
  repeat rw [inBlk_n]
  try rw [thenK_n]
  refine LoopEnd.mk (T'' := [(0, _), (1, _)]) (wi rfl) ?_
  refine ⟨(j - 1) / 2, by omega, (j - 1) / 2, f - 1, swapL l ((j - 1) / 2) j, ⟨by rw [swapL_len]; omega, by omega, by rw [swapL_len]; exact hl, ?_, rfl⟩, rfl, rfl⟩
  rw [<- hu]
  obtain ⟨f', rfl⟩ : ∃ f', f = f' + 1 := ⟨f - 1, by omega⟩
  refine Eq.symm ((if_neg (show ¬ j = 0 by omega)).trans (if_pos c17))
end Go.Proofs.Gr

namespace Go.Proofs.Gr
open Go.SL Go.RowKit Go.Proofs Go.GP
set_option maxHeartbeats 1000000
open Go.HP
theorem wdown_fc {w0 : World} {S : SS} {rw r c tot n f0 : Nat} {q : List Vtx} (hn : n <= q.length) (hq : q.length <= 1000000000000) (hf0 : n <= f0) :
    FC Tryz.prog w0 110 [wI rw, .int .i64 0, .int .i64 (n : Int)] (wseg rw (.slice (some ⟨r, 0, none⟩) q.length c) :: qseg r tot q :: S) (fun u S' => ∃ b, u = .bool b /\ S' = wseg rw (.slice (some ⟨r, 0, none⟩) q.length c) :: qseg r tot (downL ltV f0 q 0 n) :: S) := by
  refine FC.of Tryz.known110 (by simp) ?_
  unfold Tryz.pc110
  simp only [argT]
  refine PW.seqOps (OL.dp rfl (OL.nil (PW.k3 0 1 2 rfl (PW.seqOps (OL.dp rfl (OL.dp rfl (OL.nil (PW.k4 0 1 2 7 rfl ?_))))))))
  refine PW.seq fun K1 hK1 => ?_
  refine PW.block (PW.k4 0 1 2 7 rfl ?_)
  refine PW.loopK (I := fun mm T S' => ∃ (i f : Nat) (l : List Vtx), (n <= f + i /\ l.length = q.length /\ downL ltV f l i n = downL ltV f0 q 0 n /\ mm = n - i /\ i <= n) /\ T = ([(0, wI rw), (1, .int .i64 0), (2, .int .i64 (n : Int)), (7, .int .i64 (i : Int))] : TT) /\ S' = wseg rw (.slice (some ⟨r, 0, none⟩) q.length c) :: qseg r tot l :: S) (m := n) ⟨0, f0, q, ⟨by omega, rfl, rfl, rfl, by omega⟩, rfl, rfl⟩ ?_
  rintro mm _ _ ⟨i, f, l, ⟨hfi, hl, hu, hmm, hin⟩, rfl, rfl⟩
  refine PW.block (PW.seqOps (OL.dp rfl ?_))
  refine OL.det trivial (Yields.mul64 rfl rfl (by omega) (by omega)) ?_
  refine OL.det trivial (.to (v' := .int .i64 ((2 * i + 1 : Nat) : Int)) (Yields.add64 rfl rfl (by omega) (by omega)) (congrArg (Value.int .i64) (by omega))) ?_
  refine OL.dp rfl (OL.nil (PW.k5 0 1 2 7 8 rfl ?_))
  refine PW.seq fun K2 hK2 => ?_
  refine PW.seqOps (OL.dp rfl (OL.dp rfl (OL.dp rfl ?_)))
  refine OL.bool trivial (Yields.pure rfl) (fun g18 => ?_) (fun g18 => ?_)
  · try simp only [cvS] at g18
    refine OL.off rfl rfl (OL.off rfl rfl (OL.dp rfl (OL.nil (PW.k6 0 1 2 7 8 21 rfl (PW.ite (b := true) rfl ?_)))))
    rw [if_pos rfl]
    refine PW.exit ?_
    refine hK1 _ _ ?_
    refine PW.k2 1 7 rfl (PW.seqOps (OL.dp rfl (OL.dp rfl (OL.dp rfl (OL.dp rfl (OL.nil (PW.k1 6 rfl (PW.ret ?_))))))))
    change (Exit.ret = Exit.normal ∨ Exit.ret = Exit.ret) /\ ∃ v, resV _ _ = some v /\ _
    first
      | (refine ⟨.inr rfl, _, rfl, _, rfl, ?_⟩
         rw [<- hu]
         cases f with
         | zero => rfl
         | succ f => rw [show downL ltV (f + 1) l i n = l from if_pos (by omega)])
      | (refine ⟨.inr rfl, _, rfl, _, rfl, ?_⟩
         rw [<- hu]
         obtain ⟨f', rfl⟩ : ∃ f', f = f' + 1 := ⟨f - 1, by omega⟩
         rw [show downL ltV (f' + 1) l i n = l from (if_neg (by omega)).trans (if_neg (by rw [c39]; simp))])
  try simp only [cvS] at g18
  refine OL.det rfl (.pure rfl) (OL.det rfl (.pure rfl) (OL.dp rfl (OL.nil (PW.k6 0 1 2 7 8 21 rfl ?_))))
  refine PW.cond rfl (fun c21 => ?_) (fun c21 => ?_)
  · try simp only [cvS] at c21
    exfalso; omega
    -- done
  try simp only [cvS] at c21
  refine PW.skip ?_
  refine hK2 _ _ ?_
  refine PW.k5 0 1 2 7 8 rfl (PW.seqOps (OL.dp rfl (OL.dp rfl (OL.nil (PW.k6 0 1 2 7 8 9 rfl ?_)))))
  refine PW.seq fun K3 hK3 => ?_
  refine PW.seqOps (OL.dp rfl ?_)
  refine OL.det trivial (.to (v' := .int .i64 ((2 * i + 2 : Nat) : Int)) (Yields.add64 rfl rfl (by omega) (by omega)) (congrArg (Value.int .i64) (by omega))) ?_
  refine OL.dp rfl (OL.nil (PW.k7 0 1 2 7 8 9 10 rfl (PW.seqOps (OL.dp rfl (OL.dp rfl (OL.dp rfl ?_))))))
  refine OL.bool trivial (Yields.pure rfl) (fun g28 => ?_) (fun g28 => ?_)
  · try simp only [cvS] at g28
    refine OL.det rfl (.pure rfl) (OL.det rfl (.pure rfl) (OL.det rfl (.pure rfl) ?_))
    refine OL.cons rfl (OW.inv (k := 150) (rv := .slice (some ⟨r, 0, none⟩) q.length c) rfl rfl (fun w hr => meth_val hr m_less (own_at (j := 0) (c := [.slice (some ⟨r, 0, none⟩) q.length c]) (E := 156) (tot := 1) zM0 rfl)) (by kernel_rfl) (by have h := wless_fc (w0 := w0) (S := wseg rw (.slice (some ⟨r, 0, none⟩) q.length c) :: qseg r tot l :: S) (c := c) (i := 2 * i + 2) (j := 2 * i + 1) (Rd.own (E := 27) (tot := tot) zM1) (by omega) (by omega); rw [hl] at h; exact h)) ?_
    rintro _ Sx ⟨rfl, hSx⟩
    rw [hSx]
    clear hSx
    refine OL.dp rfl (OL.nil (PW.k7 0 1 2 7 9 10 33 rfl ?_))
    refine PW.cond rfl (fun c33 => ?_) (fun c33 => ?_)
    · try simp only [cvS] at c33
      have hJ : downJ ltV l i n = 2 * i + 2 := if_pos ⟨by omega, c33⟩
      refine PW.ops (OL.dp rfl (OL.dp rfl (OL.nil ?_)))
      refine hK3 _ _ ?_
      refine PW.k5 0 1 2 7 9 rfl ?_
      refine PW.seq fun K4 hK4 => ?_
      refine PW.seqOps ?_
      have hJr : 2 * i + 1 <= downJ ltV l i n /\ downJ ltV l i n < n := by unfold downJ; split <;> omega
      refine OL.dp rfl ?_
      refine OL.det trivial (.to (v' := .int .i64 ((downJ ltV l i n : Nat) : Int)) (Yields.pure rfl) (by rw [hJ])) ?_
      refine OL.dp rfl ?_
      refine OL.cons trivial (OW.inv (k := 150) (rv := .slice (some ⟨r, 0, none⟩) q.length c) rfl rfl (fun w hr => meth_val hr m_less (own_at (j := 0) (c := [.slice (some ⟨r, 0, none⟩) q.length c]) (E := 156) (tot := 1) zM0 rfl)) (by kernel_rfl) (by have h := wless_fc (w0 := w0) (S := wseg rw (.slice (some ⟨r, 0, none⟩) q.length c) :: qseg r tot l :: S) (c := c) (i := downJ ltV l i n) (j := i) (Rd.own (E := 27) (tot := tot) zM1) (by omega) (by omega); rw [hl] at h; exact h)) ?_
      rintro _ Sx ⟨rfl, hSx⟩
      rw [hSx]
      clear hSx
      refine OL.dp rfl (OL.nil (PW.k6 0 1 2 7 9 39 rfl ?_))
      refine PW.cond rfl (fun c39 => ?_) (fun c39 => ?_)
      · try simp only [cvS] at c39
        refine PW.exit ?_
        refine hK1 _ _ ?_
        refine PW.k2 1 7 rfl (PW.seqOps (OL.dp rfl (OL.dp rfl (OL.dp rfl (OL.dp rfl (OL.nil (PW.k1 6 rfl (PW.ret ?_))))))))
        change (Exit.ret = Exit.normal ∨ Exit.ret = Exit.ret) /\ ∃ v, resV _ _ = some v /\ _
        first
          | (refine ⟨.inr rfl, _, rfl, _, rfl, ?_⟩
             rw [<- hu]
             cases f with
             | zero => rfl
             | succ f => rw [show downL ltV (f + 1) l i n = l from if_pos (by omega)])
          | (refine ⟨.inr rfl, _, rfl, _, rfl, ?_⟩
             rw [<- hu]
             obtain ⟨f', rfl⟩ : ∃ f', f = f' + 1 := ⟨f - 1, by omega⟩
             rw [show downL ltV (f' + 1) l i n = l from (if_neg (by omega)).trans (if_neg (by rw [c39]; simp))])
      try simp only [cvS] at c39
      refine PW.skip ?_
      refine hK4 _ _ ?_
      refine PW.k5 0 1 2 7 9 rfl (PW.seqOps (OL.dp rfl (OL.dp rfl ?_)))
      refine OL.det trivial (.to (v' := .int .i64 ((downJ ltV l i n : Nat) : Int)) (Yields.pure rfl) (by rw [hJ])) ?_
      refine OL.cons trivial (OW.inv (k := 153) (rv := .slice (some ⟨r, 0, none⟩) q.length c) rfl rfl (fun w hr => meth_val hr m_swap (own_at (j := 0) (c := [.slice (some ⟨r, 0, none⟩) q.length c]) (E := 156) (tot := 1) zM0 rfl)) (by kernel_rfl) (by have h := wswap_fc (w0 := w0) (S := wseg rw (.slice (some ⟨r, 0, none⟩) q.length c) :: qseg r tot l :: S) (c := c) (k := 1) (i := i) (j := downJ ltV l i n) rfl (by omega) (by omega); rw [hl] at h; exact h)) ?_
      rintro _ Sx ⟨rfl, hSx⟩
      rw [hSx]
      clear hSx
      refine OL.nil (PW.k4 0 1 2 9 rfl (PW.ops ?_))
      refine OL.det trivial (.to (v' := .int .i64 ((downJ ltV l i n : Nat) : Int)) (Yields.pure rfl) (by rw [hJ])) ?_
      refine OL.dp rfl (OL.nil ?_)
      repeat rw [inBlk_n]
      try rw [thenK_n]
      refine LoopEnd.mk (T'' := [(0, _), (1, _), (2, _), (7, _)]) (wi rfl) ?_
      obtain ⟨f', rfl⟩ : ∃ f', f = f' + 1 := ⟨f - 1, by omega⟩
      refine ⟨n - downJ ltV l i n, by omega, downJ ltV l i n, f', swapL l i (downJ ltV l i n), ⟨by omega, by rw [swapL_len]; exact hl, ?_, rfl, by omega⟩, rfl, rfl⟩
      rw [<- hu]
      exact ((if_neg (by omega)).trans (if_pos c39)).symm
    try simp only [cvS] at c33
    have hJ : downJ ltV l i n = 2 * i + 1 := if_neg (fun h => absurd h.2 (by rw [c33]; simp))
    refine PW.skip ?_
    refine hK3 _ _ ?_
    refine PW.k5 0 1 2 7 9 rfl ?_
    refine PW.seq fun K5 hK5 => ?_
    refine PW.seqOps ?_
    have hJr : 2 * i + 1 <= downJ ltV l i n /\ downJ ltV l i n < n := by unfold downJ; split <;> omega
    refine OL.dp rfl ?_
    refine OL.det trivial (.to (v' := .int .i64 ((downJ ltV l i n : Nat) : Int)) (Yields.pure rfl) (by rw [hJ])) ?_
    refine OL.dp rfl ?_
    refine OL.cons trivial (OW.inv (k := 150) (rv := .slice (some ⟨r, 0, none⟩) q.length c) rfl rfl (fun w hr => meth_val hr m_less (own_at (j := 0) (c := [.slice (some ⟨r, 0, none⟩) q.length c]) (E := 156) (tot := 1) zM0 rfl)) (by kernel_rfl) (by have h := wless_fc (w0 := w0) (S := wseg rw (.slice (some ⟨r, 0, none⟩) q.length c) :: qseg r tot l :: S) (c := c) (i := downJ ltV l i n) (j := i) (Rd.own (E := 27) (tot := tot) zM1) (by omega) (by omega); rw [hl] at h; exact h)) ?_
    rintro _ Sx ⟨rfl, hSx⟩
    rw [hSx]
    clear hSx
    refine OL.dp rfl (OL.nil (PW.k6 0 1 2 7 9 39 rfl ?_))
    refine PW.cond rfl (fun c39 => ?_) (fun c39 => ?_)
    · try simp only [cvS] at c39
      refine PW.exit ?_
      refine hK1 _ _ ?_
      refine PW.k2 1 7 rfl (PW.seqOps (OL.dp rfl (OL.dp rfl (OL.dp rfl (OL.dp rfl (OL.nil (PW.k1 6 rfl (PW.ret ?_))))))))
      change (Exit.ret = Exit.normal ∨ Exit.ret = Exit.ret) /\ ∃ v, resV _ _ = some v /\ _
      first
        | (refine ⟨.inr rfl, _, rfl, _, rfl, ?_⟩
           rw [<- hu]
           cases f with
           | zero => rfl
           | succ f => rw [show downL ltV (f + 1) l i n = l from if_pos (by omega)])
        | (refine ⟨.inr rfl, _, rfl, _, rfl, ?_⟩
           rw [<- hu]
           obtain ⟨f', rfl⟩ : ∃ f', f = f' + 1 := ⟨f - 1, by omega⟩
           rw [show downL ltV (f' + 1) l i n = l from (if_neg (by omega)).trans (if_neg (by rw [c39]; simp))])
    try simp only [cvS] at c39
    refine PW.skip ?_
    refine hK5 _ _ ?_
    refine PW.k5 0 1 2 7 9 rfl (PW.seqOps (OL.dp rfl (OL.dp rfl ?_)))
    refine OL.det trivial (.to (v' := .int .i64 ((downJ ltV l i n : Nat) : Int)) (Yields.pure rfl) (by rw [hJ])) ?_
    refine OL.cons trivial (OW.inv (k := 153) (rv := .slice (some ⟨r, 0, none⟩) q.length c) rfl rfl (fun w hr => meth_val hr m_swap (own_at (j := 0) (c := [.slice (some ⟨r, 0, none⟩) q.length c]) (E := 156) (tot := 1) zM0 rfl)) (by kernel_rfl) (by have h := wswap_fc (w0 := w0) (S := wseg rw (.slice (some ⟨r, 0, none⟩) q.length c) :: qseg r tot l :: S) (c := c) (k := 1) (i := i) (j := downJ ltV l i n) rfl (by omega) (by omega); rw [hl] at h; exact h)) ?_
    rintro _ Sx ⟨rfl, hSx⟩
    rw [hSx]
    clear hSx
    refine OL.nil (PW.k4 0 1 2 9 rfl (PW.ops ?_))
    refine OL.det trivial (.to (v' := .int .i64 ((downJ ltV l i n : Nat) : Int)) (Yields.pure rfl) (by rw [hJ])) ?_
    refine OL.dp rfl (OL.nil ?_)
    repeat rw [inBlk_n]
    try rw [thenK_n]
    refine LoopEnd.mk (T'' := [(0, _), (1, _), (2, _), (7, _)]) (wi rfl) ?_
    obtain ⟨f', rfl⟩ : ∃ f', f = f' + 1 := ⟨f - 1, by omega⟩
    refine ⟨n - downJ ltV l i n, by omega, downJ ltV l i n, f', swapL l i (downJ ltV l i n), ⟨by omega, by rw [swapL_len]; exact hl, ?_, rfl, by omega⟩, rfl, rfl⟩
    rw [<- hu]
    exact ((if_neg (by omega)).trans (if_pos c39)).symm
  try simp only [cvS] at g28
  have hJ : downJ ltV l i n = 2 * i + 1 := if_neg (fun h => absurd h.1 (by omega))
  refine OL.off rfl rfl (OL.off rfl rfl (OL.off rfl rfl (OL.off rfl rfl (OL.dp rfl (OL.nil (PW.k7 0 1 2 7 9 10 33 rfl (PW.ite (b := false) rfl ?_)))))))
  rw [if_neg Bool.false_ne_true]
  refine PW.skip ?_
  refine hK3 _ _ ?_
  refine PW.k5 0 1 2 7 9 rfl ?_
  refine PW.seq fun K6 hK6 => ?_
  refine PW.seqOps ?_
  have hJr : 2 * i + 1 <= downJ ltV l i n /\ downJ ltV l i n < n := by unfold downJ; split <;> omega
  refine OL.dp rfl ?_
  refine OL.det trivial (.to (v' := .int .i64 ((downJ ltV l i n : Nat) : Int)) (Yields.pure rfl) (by rw [hJ])) ?_
  refine OL.dp rfl ?_
  refine OL.cons trivial (OW.inv (k := 150) (rv := .slice (some ⟨r, 0, none⟩) q.length c) rfl rfl (fun w hr => meth_val hr m_less (own_at (j := 0) (c := [.slice (some ⟨r, 0, none⟩) q.length c]) (E := 156) (tot := 1) zM0 rfl)) (by kernel_rfl) (by have h := wless_fc (w0 := w0) (S := wseg rw (.slice (some ⟨r, 0, none⟩) q.length c) :: qseg r tot l :: S) (c := c) (i := downJ ltV l i n) (j := i) (Rd.own (E := 27) (tot := tot) zM1) (by omega) (by omega); rw [hl] at h; exact h)) ?_
  rintro _ Sx ⟨rfl, hSx⟩
  rw [hSx]
  clear hSx
  refine OL.dp rfl (OL.nil (PW.k6 0 1 2 7 9 39 rfl ?_))
  refine PW.cond rfl (fun c39 => ?_) (fun c39 => ?_)
  · try simp only [cvS] at c39
    refine PW.exit ?_
    refine hK1 _ _ ?_
    refine PW.k2 1 7 rfl (PW.seqOps (OL.dp rfl (OL.dp rfl (OL.dp rfl (OL.dp rfl (OL.nil (PW.k1 6 rfl (PW.ret ?_))))))))
    change (Exit.ret = Exit.normal ∨ Exit.ret = Exit.ret) /\ ∃ v, resV _ _ = some v /\ _
    first
      | (refine ⟨.inr rfl, _, rfl, _, rfl, ?_⟩
         rw [<- hu]
         cases f with
         | zero => rfl
         | succ f => rw [show downL ltV (f + 1) l i n = l from if_pos (by omega)])
      | (refine ⟨.inr rfl, _, rfl, _, rfl, ?_⟩
         rw [<- hu]
         obtain ⟨f', rfl⟩ : ∃ f', f = f' + 1 := ⟨f - 1, by omega⟩
         rw [show downL ltV (f' + 1) l i n = l from (if_neg (by omega)).trans (if_neg (by rw [c39]; simp))])
  try simp only [cvS] at c39
  refine PW.skip ?_
  refine hK6 _ _ ?_
  refine PW.k5 0 1 2 7 9 rfl (PW.seqOps (OL.dp rfl (OL.dp rfl ?_)))
  refine OL.det trivial (.to (v' := .int .i64 ((downJ ltV l i n : Nat) : Int)) (Yields.pure rfl) (by rw [hJ])) ?_
  refine OL.cons trivial (OW.inv (k := 153) (rv := .slice (some ⟨r, 0, none⟩) q.length c) rfl rfl (fun w hr => meth_val hr m_swap (own_at (j := 0) (c := [.slice (some ⟨r, 0, none⟩) q.length c]) (E := 156) (tot := 1) zM0 rfl)) (by kernel_rfl) (by have h := wswap_fc (w0 := w0) (S := wseg rw (.slice (some ⟨r, 0, none⟩) q.length c) :: qseg r tot l :: S) (c := c) (k := 1) (i := i) (j := downJ ltV l i n) rfl (by omega) (by omega); rw [hl] at h; exact h)) ?_
  rintro _ Sx ⟨rfl, hSx⟩
  rw [hSx]
  clear hSx
  refine OL.nil (PW.k4 0 1 2 9 rfl (PW.ops ?_))
  refine OL.det trivial (.to (v' := .int .i64 ((downJ ltV l i n : Nat) : Int)) (Yields.pure rfl) (by rw [hJ])) ?_
  refine OL.dp rfl (OL.nil ?_)
  repeat rw [inBlk_n]
  try rw [thenK_n]
  refine LoopEnd.mk (T'' := [(0, _), (1, _), (2, _), (7, _)]) (wi rfl) ?_
  obtain ⟨f', rfl⟩ : ∃ f', f = f' + 1 := ⟨f - 1, by omega⟩
  refine ⟨n - downJ ltV l i n, by omega, downJ ltV l i n, f', swapL l i (downJ ltV l i n), ⟨by omega, by rw [swapL_len]; exact hl, ?_, rfl, by omega⟩, rfl, rfl⟩
  rw [<- hu]
  exact ((if_neg (by omega)).trans (if_pos c39)).symm
end Go.Proofs.Gr

namespace Go.Proofs.Gr
open Go.SL Go.RowKit Go.Proofs Go.GP
set_option maxHeartbeats 1000000
open Go.HP
theorem upL_len : ∀ (f : Nat) (l : List Vtx) (j : Nat), (upL ltV f l j).length = l.length
 | 0, l, j => rfl
 | f + 1, l, j => by
  unfold upL
  split
  ·rfl
  split
  ·rw [upL_len f, swapL_len]
  rfl
theorem downL_len : ∀ (f : Nat) (l : List Vtx) (i n : Nat), (downL ltV f l i n).length = l.length
 | 0, l, i, n => rfl
 | f + 1, l, i, n => by
  unfold downL
  split
  ·rfl
  split
  ·rw [downL_len f, swapL_len]
  rfl
theorem hpush_fc {w0 : World} {S : SS} {rw : Nat} {v : Value} {sg : Seg} {q : List Vtx} {x : Vtx} (hs : SlV 27 33 v q.length (vtxs q) sg) (hq : q.length <= 100000000000) :
  FC Tryz.prog w0 85 [wI rw, .iface 27 (vtxV x)] (wseg rw v :: sg :: S) (fun u S' => u = .tuple #[] /\ ∃ v' sg', S' = wseg rw v' :: sg' :: S /\ SlV 27 33 v' (pushL ltV q x).length (vtxs (pushL ltV q x)) sg') := by
 have hql : (q ++ [x]).length = q.length + 1 := by simp
 refine FC.of Tryz.known85 (by simp) ?_
 unfold Tryz.pc85
 simp only [argT]
 refine PW.seqOps (OL.dp rfl (OL.dp rfl ?_))
 refine OL.cons trivial (OW.inv (k := 152) (rv := .pointer (some ⟨rw, 0, none⟩)) rfl rfl (fun w hr => meth_ptr hr m_push _) (by kernel_rfl) (wpush_fc hs (by omega))) ?_
 rintro _ _ ⟨rfl, v6, sg6, rfl, hs6⟩
 obtain ⟨r, c, rfl, rfl, hc, hcm⟩ := slv_own hs6 (by omega)
 refine OL.nil (PW.k1 0 rfl (PW.ops (OL.dp rfl (OL.dp rfl ?_))))
 refine OL.cons trivial (OW.inv (k := 86) (rv := .slice (some ⟨r, 0, none⟩) (q ++ [x]).length c) rfl rfl (fun w hr => meth_val hr m_len (own_at (j := 0) (c := [.slice (some ⟨r, 0, none⟩) (q ++ [x]).length c]) (E := 156) (tot := 1) zM0 rfl)) (by kernel_rfl) (wlen_fc)) ?_
 rintro _ Sx ⟨rfl, hSx⟩
 rw [hSx]
 clear hSx
 refine OL.det trivial (.to (v' := .int .i64 ((q.length : Nat) : Int)) (Yields.sub64 rfl rfl (by omega) (by omega)) (congrArg (Value.int .i64) (by omega))) ?_
 refine OL.call trivial rfl (wup_fc (q := q ++ [x]) (j0 := q.length) (c := c) (tot := c * 33) (by omega) (by omega)) ?_
 rintro _ _ ⟨rfl, rfl⟩
 refine OL.nil ?_
 change (Exit.normal = Exit.normal ∨ Exit.normal = Exit.ret) /\ ∃ v, resV _ _ = some v /\ _
 have hpl : (pushL ltV q x).length = (q ++ [x]).length := upL_len _ _ _
 refine ⟨.inl rfl, _, rfl, rfl, _, _, rfl, ?_⟩
 rw [<- hpl]
 exact SlV.mk' (vtxs_len _) (by rw [hpl]; exact hc) hcm
theorem hpop_fc {w0 : World} {S : SS} {rw r c : Nat} {q : List Vtx} (h0 : 0 < q.length) (hc : q.length <= c) (hcm : c <= maxLen) (hq : q.length <= 100000000000) :
  FC Tryz.prog w0 87 [wI rw] (wseg rw (.slice (some ⟨r, 0, none⟩) q.length c) :: qseg r (c * 33) q :: S) (fun u S' => u = .iface 27 (vtxV (downL ltV q.length (swapL q 0 (q.length - 1)) 0 (q.length - 1))[q.length - 1]!) /\ S' = wseg rw (.slice (some ⟨r, 0, none⟩) (q.length - 1) c) :: qseg r (c * 33) (popL ltV q) :: S) := by
 refine FC.of Tryz.known87 (by simp) ?_
 unfold Tryz.pc87
 simp only [argT]
 refine PW.seqOps (OL.dp rfl (OL.nil (PW.k1 0 rfl (PW.seqOps (OL.dp rfl ?_)))))
 refine OL.cons trivial (OW.inv (k := 86) (rv := .slice (some ⟨r, 0, none⟩) q.length c) rfl rfl (fun w hr => meth_val hr m_len (own_at (j := 0) (c := [.slice (some ⟨r, 0, none⟩) q.length c]) (E := 156) (tot := 1) zM0 rfl)) (by kernel_rfl) (wlen_fc)) ?_
 rintro _ Sx ⟨rfl, hSx⟩
 rw [hSx]
 clear hSx
 refine OL.det trivial (.to (v' := .int .i64 ((q.length - 1 : Nat) : Int)) (Yields.sub64 rfl rfl (by omega) (by omega)) (congrArg (Value.int .i64) (by omega))) ?_
 refine OL.dp rfl (OL.nil (PW.k2 0 3 rfl (PW.seqOps (OL.dp rfl (OL.dp rfl ?_)))))
 refine OL.cons trivial (OW.inv (k := 153) (rv := .slice (some ⟨r, 0, none⟩) q.length c) rfl rfl (fun w hr => meth_val hr m_swap (own_at (j := 0) (c := [.slice (some ⟨r, 0, none⟩) q.length c]) (E := 156) (tot := 1) zM0 rfl)) (by kernel_rfl) (wswap_fc (c := c) (k := 1) (i := 0) (j := q.length - 1) rfl h0 (by omega))) ?_
 rintro _ _ ⟨rfl, rfl⟩
 change OL _ _ _ _ _ (wseg rw (.slice (some ⟨r, 0, none⟩) q.length c) :: qseg r (c * 33) (swapL q 0 (q.length - 1)) :: S) _
 refine OL.nil (PW.k2 0 3 rfl (PW.seqOps (OL.dp rfl (OL.dp rfl ?_))))
 refine OL.call trivial rfl (by have h := wdown_fc (w0 := w0) (S := S) (rw := rw) (r := r) (c := c) (tot := c * 33) (n := q.length - 1) (f0 := q.length) (q := swapL q 0 (q.length - 1)) (by rw [swapL_len]; omega) (by rw [swapL_len]; omega) (by omega); rw [swapL_len] at h; exact h) ?_
 rintro _ _ ⟨b, rfl, rfl⟩
 refine OL.nil (PW.k1 0 rfl (PW.seqOps (OL.dp rfl ?_)))
 refine OL.cons trivial (OW.inv (k := 151) (rv := .pointer (some ⟨rw, 0, none⟩)) rfl rfl (fun w hr => meth_ptr hr m_pop _) (by kernel_rfl) (by have h := wpop_fc (w0 := w0) (S := S) (rw := rw) (r := r) (c := c) (q := (downL ltV q.length (swapL q 0 (q.length - 1)) 0 (q.length - 1))) (by rw [downL_len, swapL_len]; exact h0) (by rw [downL_len, swapL_len]; exact hc) hcm (by rw [downL_len, swapL_len]; omega); rw [downL_len, swapL_len] at h; exact h)) ?_
 rintro _ _ ⟨rfl, rfl⟩
 refine OL.dp rfl (OL.nil (PW.k1 2 rfl (PW.ret ?_)))
 change (Exit.ret = Exit.normal ∨ Exit.ret = Exit.ret) /\ ∃ v, resV _ _ = some v /\ _
 exact ⟨.inr rfl, _, rfl, rfl, rfl⟩
end Go.Proofs.Gr

namespace Go.GP
open Go.SL
def tgts (N : List (Vtx × NodeP)) : List Vtx := N.flatMap fun p => p.2.next
theorem EG_tgts (N : List (Vtx × NodeP)) : (EG N).map (·.2) = tgts N := by
 unfold EG tgts
 induction N with
 | nil => rfl
 | cons p N ih => rw [List.flatMap_cons, List.flatMap_cons, List.map_append, ih, List.map_map]; simp [Function.comp_def]
theorem tgts_len (N : List (Vtx × NodeP)) : (tgts N).length = (EG N).length := by rw [<- EG_tgts, List.length_map]
theorem tgts_perm {A B : List (Vtx × NodeP)} (h : A.Perm B) : (tgts A).Perm (tgts B) := h.flatMap_right _
def inN (N : List (Vtx × NodeP)) (v : Vtx) : Int := cntV v (tgts N)
theorem inN_perm {A B : List (Vtx × NodeP)} (h : A.Perm B) (v : Vtx) : inN A v = inN B v := by unfold inN cntV; rw [(tgts_perm h).count_eq]
theorem cntV_le (v : Vtx) (l : List Vtx) : 0 <= cntV v l /\ cntV v l <= l.length := by unfold cntV; have := List.count_le_length (a := v) (l := l); omega
end Go.GP

namespace Go.SL
open Go.RowKit
section
variable {P : Program} {w0 : World} {n : Nat} {T : TT} {S : SS} {α β : Type} [DecidableEq α] {f : α -> Value} {g : β -> Value} {kt et t : TypeId} {ok : α -> Prop}
def OpS (f : α -> Value) (g : β -> Value) (l : List (α × β)) (a : α) (z : β) (b : Nat) (A R : SS) (S' : SS) : Prop :=
 S' = A ++ [(b, .gm (gmL f g l))] :: R ∨ ∃ en clk, Opened f g en clk (entL l a z) /\ S' = A ++ [(b, .obj (.map en clk))] :: R
theorem OpS.over {l : List (α × β)} {a : α} {z : β} {b : Nat} {A R S' : SS} (h : OpS f g l a z b A R S') : Over (A ++ R) S' := by
 intro q hq
 rw [List.flatten_append, List.mem_append] at hq
 rcases h with rfl | ⟨en, clk, _, rfl⟩ <;> (rw [List.flatten_append, List.mem_append, List.flatten_cons, List.mem_append]; exact hq.imp_right .inr)
theorem mgt_entL {l : List (α × β)} {a u : α} {z : β} : (mgt (entL l a z) u).getD z = (mgt l u).getD z := by
 unfold entL
 rw [mgt_mpt]
 split
 ·rename_i h; subst h; rfl
 rfl
theorem entL_ok {l : List (α × β)} {a : α} {z : β} (hl : ∀ p ∈ l, ok p.1) (ha : ok a) : ∀ p ∈ entL l a z, ok p.1 := by
 intro p hp
 unfold entL at hp
 have key : ∀ (l : List (α × β)) (b : β), (∀ p ∈ l, ok p.1) -> ∀ p ∈ mpt l a b, ok p.1 := by
  intro l b
  induction l with
  | nil => intro _ p hp; simp only [mpt, List.mem_singleton] at hp; subst hp; exact ha
  | cons x l ih =>
   intro h p hp
   unfold mpt at hp
   split at hp
   ·rcases List.mem_cons.1 hp with rfl | hp
    ·exact ha
    exact h p (List.mem_cons_of_mem _ hp)
   rcases List.mem_cons.1 hp with rfl | hp
   ·exact h _ List.mem_cons_self
   exact ih (fun p hp => h p (List.mem_cons_of_mem _ hp)) p hp
 exact key l _ hl p hp
theorem Yields.lookOp {m k : Operand} {i : TypeInfo} {b : Nat} {l : List (α × β)} {a u : α} {z : β} {A R S' : SS} (hu : P.underlying t = some (.map kt et)) (hi : P.info? et = some i) (hz : i.zero = some (g z)) (K : Keys P kt f ok) (hl : ∀ p ∈ l, ok p.1) (ha : ok a) (hau : ok u)
  (hm : (cV m).val T = some (.map (some b))) (hx : (cV k).val T = some (f u)) (hS : OpS f g l a z b A R S') :
  Yields P w0 n (.more (.other (.gen (.lookup t m k false)))) T S' (g ((mgt l u).getD z)) := by
 rcases hS with rfl | ⟨en, clk, ho, rfl⟩
 ·have := Yields.lookG (P := P) (w0 := w0) (n := n) (T := T) (S := A ++ [(b, .gm (gmL f g l))] :: R) (okc := false) hu hi hz K hl hau hm hx (by simp)
  simpa using this
 have := Yields.lookO (P := P) (w0 := w0) (n := n) (T := T) (S := A ++ [(b, .obj (.map en clk))] :: R) (okc := false) hu hi hz K (entL_ok hl ha) hau hm hx ho (by simp)
 rw [mgt_entL] at this
 simpa using this
end
end Go.SL

namespace Go.Proofs.Gr
open Go.SL Go.RowKit Go.Proofs Go.GP
set_option maxHeartbeats 1000000
def intV (z : Int) : Value := .int .i64 z
theorem zero3 : ∃ i, Tryz.prog.info? 3 = some i /\ i.zero = some (intV 0) := Option.bind_eq_some_iff.1 (show (Tryz.prog.info? 3).bind (·.zero) = some (intV 0) by kernel_rfl)
def lv (left : List (Vtx × Int)) (v : Vtx) : Int := (mgt left v).getD 0
theorem lv_put (left : List (Vtx × Int)) (w : Vtx) (z : Int) (u : Vtx) : lv (mpt (entL left w 0) w z) u = if u = w then z else lv left u := by
 unfold lv
 rw [mgt_mpt]
 split
 ·rfl
 exact mgt_entL
theorem put_ok {left : List (Vtx × Int)} {w : Vtx} {z : Int} (hl : ∀ q ∈ left, okV q.1) (hw : okV w) : ∀ q ∈ mpt (entL left w 0) w z, okV q.1 := by
 intro q hq
 rcases mem_mpt hq with rfl | h
 ·exact hw
 exact entL_ok hl hw q h
def GO (m : GrM) (en : Array MapEntry) (clk : Nat) : SS := [[(m.r, .cells m.cells 111 4)], [(m.pb, .gm (gmL vtxV partV m.parts))], [(m.nb, .obj (.map en clk))], m.junk]
theorem GO_n {S : SS} {m : GrM} {en : Array MapEntry} {clk : Nat} (h : Over (GO m en clk) S) : (m.nb, AO.obj (.map en clk)) ∈ S.flatten := h _ (by simp [GO])
theorem Rd.go {w0 : World} {m : GrM} {S X : SS} {en : Array MapEntry} {clk : Nat} {A : Option Addr} {l : List Value} (h : Rd w0 (m.junk :: X) A l) (hS : Over (GO m en clk ++ X) S) : Rd w0 S A l := h.mono fun p hp => by
 rw [List.flatten_cons, List.mem_append] at hp
 refine hS p ?_
 rw [List.flatten_append, List.mem_append]
 rcases hp with hp | hp
 ·exact .inl (by simp [GO, hp])
 exact .inr hp
theorem plN_app (a b : List (Vtx × NodeM)) : plN (a ++ b) = plN a ++ plN b := by unfold plN; simp
theorem tgts_app (a b : List (Vtx × NodeP)) : tgts (a ++ b) = tgts a ++ tgts b := by unfold tgts; simp
theorem done_len {m : GrM} {done rest : List (Vtx × NodeM)} {p : Vtx × NodeM} (h : ((done ++ [p]) ++ rest).Perm m.nodes) : (tgts (plN done)).length + p.2.next.length <= (EG m.gr.nodes).length := by
 have h2 : (plN ((done ++ [p]) ++ rest)).Perm m.gr.nodes := h.map _
 rw [<- tgts_len, <- (tgts_perm h2).length_eq, plN_app, plN_app, tgts_app, tgts_app, List.length_append, List.length_append]
 have : (tgts (plN [p])).length = p.2.next.length := by simp [tgts, plN, NodeM.pl]
 omega
theorem inN_snoc (done : List (Vtx × NodeM)) (p : Vtx × NodeM) (u : Vtx) : inN (plN (done ++ [p])) u = inN (plN done) u + cntV u p.2.next := by
 unfold inN
 rw [plN_app, tgts_app, cntV_app]
 congr 1
 simp [tgts, plN, NodeM.pl]
theorem cnt_take {l : List Vtx} {k : Nat} (hk : k < l.length) (u : Vtx) : cntV u (l.take (k + 1)) = cntV u (l.take k) + if u = l[k] then 1 else 0 := by
 rw [vtake_snoc hk, cntV_app, cntV_cons]
 have : cntV u [] = 0 := by simp [cntV]
 rw [this]
 by_cases h : l[k] = u
 ·rw [if_pos h, if_pos h.symm]; omega
 rw [if_neg h, if_neg (fun e => h e.symm)]; omega
theorem done_get {m : GrM} {X : SS} {w0 : World} (hm : GOk w0 X m) {done rest : List (Vtx × NodeM)} {p : Vtx × NodeM} {i : Nat} (hp : (done ++ rest).Perm m.nodes) (hi : rest[i]? = some p) : p ∈ m.nodes := hp.subset (List.mem_append_right _ (List.mem_of_getElem? hi))
theorem ahead_fc {w0 : World} {S X : SS} {m : GrM} (hm : GOk w0 X m) (hX : Over X S) (hE : (EG m.gr.nodes).length <= 1000000000) :
  FC Tryz.prog w0 84 [m.ptr] (GS m ++ S) (fun v S' => ∃ (ra : Nat) (left : List (Vtx × Int)), v = .map (some ra) /\ S' = [(ra, .gm (gmL vtxV intV left))] :: (GS m ++ S) /\ (∀ q ∈ left, okV q.1) /\ ∀ u, lv left u = inN m.gr.nodes u) := by
 have hS : Over (GS m ++ X) (GS m ++ S) := Over.both hX
 obtain ⟨z, hz1, hz2⟩ := zero3
 have hml := hm.lim
 refine FC.ofD Tryz.known84 (by simp) ?_
 unfold Tryz.pc84
 simp only [argT]
 refine PW.seqOps (OL.dp rfl (OL.nil (PW.k1 0 rfl (PW.seqOps (OL.dp rfl (OL.det trivial (Yields.nilc rfl) (OL.dp rfl (OL.det trivial (.ld rfl (g_nodes hS)) (OL.det trivial (Yields.lenG rfl (GS_mem hS).2.2.1) (OL.cons trivial (OW.mkGr (j := (m.nodes.length : Int)) Tryz.underlying153 rfl) ?_))))))))))
 rintro _ _ ⟨ra, rfl, rfl⟩
 change OL _ _ _ _ _ ([(ra, .gm (gmL vtxV intV []))] :: (GS m ++ S)) _
 refine OL.dp rfl (OL.nil (PW.k2 0 3 rfl ?_))
 refine PW.seq fun K1 hK1 => ?_
 refine PW.seqOps (OL.dp rfl (OL.det trivial (Yields.nilc rfl) (OL.dp rfl (OL.det trivial (.ld rfl (g_nodes hS.cons)) (OL.cons trivial (OW.rngG (j := 3) (l := m.nodes) Tryz.underlying109 rfl rfl) ?_)))))
 rintro _ _ ⟨ri, en, clk, rfl, hopen, hit0, rfl⟩
 change OL _ _ _ _ _ ([(ri, .obj (.mapIter (some m.nb) clk #[] clk))] :: [(ra, .gm (gmL vtxV intV []))] :: (GO m en clk ++ S)) _
 refine OL.nil (PW.k3 0 3 19 rfl (PW.block (PW.k3 0 3 19 rfl ?_)))
 refine PW.loopK (I := fun mm T S' => ∃ (seen : Array Nat) (done rest : List (Vtx × NodeM)) (left : List (Vtx × Int)), (It vtxV nodeV en seen m.nodes done rest /\ (∀ q ∈ left, okV q.1) /\ (∀ u, lv left u = 0) /\ mm = rest.length) /\ T = ([(0, m.ptr), (3, .map (some ra)), (19, .pointer (some ⟨ri, 0, none⟩))] : TT) /\ S' = [(ri, .obj (.mapIter (some m.nb) clk seen clk))] :: [(ra, .gm (gmL vtxV intV left))] :: (GO m en clk ++ S)) (m := m.nodes.length) ⟨#[], [], m.nodes, [], ⟨hit0, (fun q h => nomatch h), fun u => rfl, rfl⟩, rfl, rfl⟩ ?_
 rintro mm _ _ ⟨seen, done, rest, left, ⟨hit, hlk, hall, hmm⟩, rfl, rfl⟩
 refine PW.seqOps (OL.cons trivial (OW.nxtG (j := 0) (b := m.nb) (l := m.nodes) (done := done) (rest := rest) rfl rfl (GO_n (en := en) (clk := clk) (Over.app (b := S)).cons.cons) hopen hit) ?_)
 refine fun v S' h => Or.elim h.symm ?_ ?_
 ·skip
  rintro ⟨ii, p, qq, hri, rfl, hit2, rfl⟩
  refine OL.det trivial (.pure rfl) (OL.nil (PW.k4 0 3 19 21 rfl ?_))
  refine PW.seq fun K2 hK2 => ?_
  refine PW.ite (b := true) rfl ?_
  rw [if_pos rfl]
  refine PW.skip ?_
  refine hK2 _ _ ?_
  refine PW.k3 0 3 19 rfl (PW.block (PW.seqOps (OL.det trivial (Yields.entG (b := m.nb) rfl zM0 (GO_n (en := en) (clk := clk) (Over.app (b := S)).cons.cons) hopen hit2) (OL.dp rfl (OL.cons trivial OW.al ?_)))))
  rintro _ _ ⟨r4, rfl, rfl⟩
  refine OL.cons trivial (vtx_st rfl rfl rfl) ?_
  rintro _ _ rfl
  obtain ⟨v, n0⟩ := p
  have hpm := done_get hm hit.perm hri
  have hov : okV v := hm.nk _ hpm
  change OL _ _ _ _ _ (vseg r4 v :: [(ri, .obj (.mapIter (some m.nb) clk (seen.push qq) clk))] :: [(ra, .gm (gmL vtxV intV left))] :: (GO m en clk ++ S)) _
  refine OL.nil (PW.k4 0 3 4 19 rfl ?_)
  refine PW.quietG (Ss := OpS vtxV intV left v 0 ra (vseg r4 v :: [[(ri, .obj (.mapIter (some m.nb) clk (seen.push qq) clk))]]) (GO m en clk ++ S)) (fr := false) [(0, 0), (1, 0), (2, 0), (3, 0), (4, 2), (5, 2)] Tryz.mixed (by decide +kernel) (.inl rfl) (fun h => by cases h) ?_
  refine GL.dp rfl ?_
  refine GL.det trivial (fun Sx hSx => Yields.ldA rfl (vtxL_len _) (all_at (c := vtxL v) (E := 27) (tot := 33) (hSx.over _ (by simp)))) ?_
  refine GL.det trivial (fun Sx hSx => Yields.lookOp (u := v) Tryz.underlying153 hz1 hz2 keys32 hlk hov hov rfl rfl hSx) ?_
  refine GL.det trivial (fun Sx hSx => Yields.to (v' := intV (lv left v + 0)) (Yields.add64 rfl rfl (by show _ <= lv left v + 0; rw [hall]; decide) (by show lv left v + 0 <= _; rw [hall]; decide)) rfl) ?_
  refine GL.lo trivial (OW.mono (OW.entry (j := 2) (a := v) (z := (0 : Int)) Tryz.underlying153 hz1 hz2 keys32 hlk hov rfl rfl rfl) ?_)
  rintro _ _ ⟨en2, clk2, qq2, e2, rfl, hop2, hee2, heb2, hek2, rfl⟩
  refine ⟨.inr ⟨en2, clk2, hop2, rfl⟩, ?_⟩
  refine GL.lo trivial (OW.mono (OW.of_yields (Yields.pure rfl)) ?_)
  rintro _ _ ⟨rfl, rfl⟩
  refine ⟨.inr ⟨en2, clk2, hop2, rfl⟩, ?_⟩
  change OL _ _ _ [_] _ _ _
  refine OL.cons trivial (OW.store (j := 2) (v := lv left v + 0) (fun a b => vtx_inj') rfl rfl rfl hop2 hee2 heb2 hek2 rfl) ?_
  rintro _ _ rfl
  change OL _ _ _ _ _ (vseg r4 v :: [(ri, .obj (.mapIter (some m.nb) clk (seen.push qq) clk))] :: [(ra, .gm (gmL vtxV intV (mpt (entL left v 0) v (lv left v + 0))))] :: (GO m en clk ++ S)) _
  refine OL.nil ?_
  repeat rw [inBlk_n]
  try rw [thenK_n]
  refine LoopEnd.mkS (Sub.drop (Sub.refl _)) (T'' := [(0, _), (3, _), (19, _)]) (wi rfl) ?_
  have hil : ii < rest.length := (List.getElem?_eq_some_iff.1 hri).1
  refine ⟨(rest.eraseIdx ii).length, by rw [List.length_eraseIdx, if_pos hil]; omega, seen.push qq, done ++ [(v, n0)], rest.eraseIdx ii, mpt (entL left v 0) v (lv left v + 0), ⟨hit2, put_ok hlk hov, fun u => ?_, rfl⟩, rfl, rfl⟩
  rw [lv_put, hall, hall]
  split <;> rfl
 skip
 rintro ⟨hr0, rfl, rfl⟩
 refine OL.det trivial (.pure rfl) (OL.nil (PW.k4 0 3 19 21 rfl ?_))
 refine PW.seq fun K3 hK3 => ?_
 refine PW.ite (b := false) rfl ?_
 rw [if_neg Bool.false_ne_true]
 refine PW.exit ?_
 refine hK1 _ _ ?_
 refine PW.k2 0 3 rfl ?_
 refine PW.seq fun K4 hK4 => ?_
 refine PW.seqOps ?_
 refine OL.tell (k := 4) rfl (fun w hw => hopen.close _ w hw) ?_
 refine OL.subS (S' := [(ra, .gm (gmL vtxV intV left))] :: (GS m ++ S)) (Sub.drop (Sub.refl _)) (OL.det trivial (.pure rfl) (OL.det trivial (Yields.nilc rfl) (OL.dp rfl (OL.det trivial (.ld rfl (g_nodes hS.cons)) (OL.cons trivial (OW.rngG (j := 3) (l := m.nodes) Tryz.underlying109 rfl rfl) ?_)))))
 rintro _ _ ⟨ri, en, clk, rfl, hopen, hit0, rfl⟩
 change OL _ _ _ _ _ ([(ri, .obj (.mapIter (some m.nb) clk #[] clk))] :: [(ra, .gm (gmL vtxV intV left))] :: (GO m en clk ++ S)) _
 refine OL.nil (PW.k2 3 34 rfl (PW.block (PW.k2 3 34 rfl ?_)))
 refine PW.loopK (I := fun mm T S' => ∃ (seen : Array Nat) (done rest : List (Vtx × NodeM)) (left : List (Vtx × Int)), (It vtxV nodeV en seen m.nodes done rest /\ (∀ q ∈ left, okV q.1) /\ (∀ u, lv left u = inN (plN done) u) /\ mm = rest.length) /\ T = ([(3, .map (some ra)), (34, .pointer (some ⟨ri, 0, none⟩))] : TT) /\ S' = [(ri, .obj (.mapIter (some m.nb) clk seen clk))] :: [(ra, .gm (gmL vtxV intV left))] :: (GO m en clk ++ S)) (m := m.nodes.length) ⟨#[], [], m.nodes, left, ⟨hit0, hlk, fun u => (hall u).trans rfl, rfl⟩, rfl, rfl⟩ ?_
 rintro mm _ _ ⟨seen, done, rest, left, ⟨hit, hlk, hall, hmm⟩, rfl, rfl⟩
 refine PW.seqOps (OL.cons trivial (OW.nxtG (j := 0) (b := m.nb) (l := m.nodes) (done := done) (rest := rest) rfl rfl (GO_n (en := en) (clk := clk) (Over.app (b := S)).cons.cons) hopen hit) ?_)
 refine fun v S' h => Or.elim h.symm ?_ ?_
 ·skip
  rintro ⟨ii, p, qq, hri, rfl, hit2, rfl⟩
  refine OL.det trivial (.pure rfl) (OL.nil (PW.k3 3 34 36 rfl ?_))
  refine PW.seq fun K5 hK5 => ?_
  refine PW.ite (b := true) rfl ?_
  rw [if_pos rfl]
  refine PW.skip ?_
  refine hK5 _ _ ?_
  refine PW.k2 3 34 rfl (PW.block (PW.seqOps (OL.det trivial (Yields.entG (b := m.nb) rfl zM0 (GO_n (en := en) (clk := clk) (Over.app (b := S)).cons.cons) hopen hit2) (OL.dp rfl (OL.cons trivial OW.al ?_)))))
  rintro _ _ ⟨r6, rfl, rfl⟩
  refine OL.cons trivial (node_st rfl rfl _ _ _ _) ?_
  rintro _ _ rfl
  obtain ⟨v, n0⟩ := p
  have hpm := done_get hm hit.perm hri
  have hno := hm.node _ hpm
  have hdl := done_len hit2.perm
  change OL _ _ _ _ _ ([(r6, .cells (nodeC n0) 121 4)] :: [(ri, .obj (.mapIter (some m.nb) clk (seen.push qq) clk))] :: [(ra, .gm (gmL vtxV intV left))] :: (GO m en clk ++ S)) _
  refine OL.nil (PW.k3 3 6 34 rfl (PW.seqOps (OL.dp rfl (OL.det trivial (.ld rfl (own_at (j := 3) (c := nodeC n0) (E := 121) (tot := 4) zM0 rfl)) (OL.dp rfl ?_)))))
  have hdl1 : n0.next.length <= 1000000000 := by simp only at hdl; omega
  refine OL.det trivial (.pure rfl) (OL.nil (PW.k5 3 34 40 41 42 rfl (PW.block (PW.k5 3 34 40 41 42 rfl ?_))))
  refine PW.loopK (I := fun mi T S' => ∃ (k : Nat) (left : List (Vtx × Int)), (k <= n0.next.length /\ mi = n0.next.length - k /\ (∀ q ∈ left, okV q.1) /\ ∀ u, lv left u = inN (plN done) u + cntV u (n0.next.take k)) /\ T = ([(3, .map (some ra)), (34, .pointer (some ⟨ri, 0, none⟩)), (40, .slice n0.A n0.next.length n0.c), (41, .int .i64 (n0.next.length : Int)), (42, .int .i64 k)] : TT) /\ S' = [(r6, .cells (nodeC n0) 121 4)] :: [(ri, .obj (.mapIter (some m.nb) clk (seen.push qq) clk))] :: [(ra, .gm (gmL vtxV intV left))] :: (GO m en clk ++ S)) (m := n0.next.length) ⟨0, left, ⟨by omega, by omega, hlk, fun u => by rw [hall]; simp [cntV]⟩, rfl, rfl⟩ ?_
  rintro mi _ _ ⟨k, left, ⟨hk, hmi, hlk, hall2⟩, rfl, rfl⟩
  refine PW.seqOps (OL.dp rfl (OL.nil (PW.k6 3 34 40 41 42 43 rfl ?_)))
  refine PW.seq fun K6 hK6 => ?_
  refine PW.cond rfl (fun c43 => ?_) (fun c43 => ?_)
  ·try simp only [cvS] at c43
   have hdl1 : n0.next.length <= 1000000000 := by simp only at hdl; omega
   have hkl : k < n0.next.length := by omega
   obtain ⟨a0, ha0⟩ := vtxs_some (l := n0.next) hno.rd (by omega)
   have hrd2 : Rd w0 ([(r6, .cells (nodeC n0) 121 4)] :: [(ri, .obj (.mapIter (some m.nb) clk (seen.push qq) clk))] :: [(ra, .gm (gmL vtxV intV left))] :: (GO m en clk ++ S)) (some a0) (vtxs n0.next) := by rw [<- ha0]; exact Rd.go hno.rd (Over.both hX).cons.cons.cons
   refine PW.skip ?_
   refine hK6 _ _ ?_
   refine PW.k5 3 34 40 41 42 rfl ?_
   refine PW.seq fun K7 hK7 => ?_
   refine PW.block (PW.seqOps ?_)
   rw [ha0]
   refine OL.det trivial (.ixN rfl rfl rfl (by omega)) ?_
   refine OL.det trivial (.ldA rfl (vtxL_len _) (vtx_at hrd2 hkl)) (OL.cons trivial OW.al ?_)
   rintro _ _ ⟨r8, rfl, rfl⟩
   refine OL.cons trivial (vtx_st rfl rfl rfl) ?_
   rintro _ _ rfl
   obtain ⟨w, hw⟩ : ∃ z, z = n0.next[k] := ⟨_, rfl⟩
   rw [<- hw]
   have how : okV w := by rw [hw]; exact hno.ok _ (List.getElem_mem hkl)
   have hlw := hall2 w
   have hc1 := cntV_le w (tgts (plN done))
   have hc2 := cntV_le w (n0.next.take k)
   rw [List.length_take] at hc2
   unfold inN at hlw
   refine OL.nil (PW.k6 3 8 34 40 41 42 rfl ?_)
   refine PW.quietG (Ss := OpS vtxV intV left w 0 ra (vseg r8 w :: [(r6, .cells (nodeC n0) 121 4)] :: [[(ri, .obj (.mapIter (some m.nb) clk (seen.push qq) clk))]]) (GO m en clk ++ S)) (fr := false) [(0, 0), (1, 0), (2, 0), (3, 0), (4, 2), (5, 2)] Tryz.mixed (by decide +kernel) (.inl rfl) (fun h => by cases h) ?_
   refine GL.dp rfl ?_
   refine GL.det trivial (fun Sx hSx => Yields.ldA rfl (vtxL_len _) (all_at (c := vtxL w) (E := 27) (tot := 33) (hSx.over _ (by simp)))) ?_
   refine GL.det trivial (fun Sx hSx => Yields.lookOp (u := w) Tryz.underlying153 hz1 hz2 keys32 hlk how how rfl rfl hSx) ?_
   refine GL.det trivial (fun Sx hSx => Yields.to (v' := intV (lv left w + 1)) (Yields.add64 rfl rfl (by show _ <= lv left w + 1; omega) (by show lv left w + 1 <= _; simp only at hdl; omega)) rfl) ?_
   refine GL.lo trivial (OW.mono (OW.entry (j := 3) (a := w) (z := (0 : Int)) Tryz.underlying153 hz1 hz2 keys32 hlk how rfl rfl rfl) ?_)
   rintro _ _ ⟨en2, clk2, qq2, e2, rfl, hop2, hee2, heb2, hek2, rfl⟩
   refine ⟨.inr ⟨en2, clk2, hop2, rfl⟩, ?_⟩
   refine GL.lo trivial (OW.mono (OW.of_yields (Yields.pure rfl)) ?_)
   rintro _ _ ⟨rfl, rfl⟩
   refine ⟨.inr ⟨en2, clk2, hop2, rfl⟩, ?_⟩
   change OL _ _ _ [_] _ _ _
   refine OL.cons trivial (OW.store (j := 3) (v := lv left w + 1) (fun a b => vtx_inj') rfl rfl rfl hop2 hee2 heb2 hek2 rfl) ?_
   rintro _ _ rfl
   change OL _ _ _ _ _ (vseg r8 w :: [(r6, .cells (nodeC n0) 121 4)] :: [(ri, .obj (.mapIter (some m.nb) clk (seen.push qq) clk))] :: [(ra, .gm (gmL vtxV intV (mpt (entL left w 0) w (lv left w + 1))))] :: (GO m en clk ++ S)) _
   refine OL.nil ?_
   refine hK7 _ _ ?_
   refine PW.k5 3 34 40 41 42 rfl (PW.ops ?_)
   refine OL.det trivial (.add64 rfl rfl (by omega) (by omega)) ?_
   have hdl1 : n0.next.length <= 1000000000 := by simp only at hdl; omega
   refine OL.det trivial (.pure rfl) (OL.nil ?_)
   repeat rw [inBlk_n]
   try rw [thenK_n]
   refine LoopEnd.mkS (Sub.drop (Sub.refl _)) (T'' := [(3, _), (34, _), (40, _), (41, _), (42, _)]) (wi rfl) ?_
   rw [ha0]
   refine ⟨n0.next.length - (k + 1), by omega, k + 1, mpt (entL left w 0) w (lv left w + 1), ⟨by omega, rfl, put_ok hlk how, fun u => ?_⟩, rfl, rfl⟩
   rw [lv_put, cnt_take hkl, <- hw]
   have := hall2 u
   by_cases hu : u = w
   ·subst hu; rw [if_pos rfl, if_pos rfl]; omega
   rw [if_neg hu, if_neg hu]; omega
  try simp only [cvS] at c43
  refine PW.exit ?_
  repeat rw [inBlk_n]
  try rw [thenK_n]
  refine LoopEnd.mkS (Sub.drop (Sub.refl _)) (T'' := [(3, _), (34, _)]) (wi rfl) ?_
  have hil : ii < rest.length := (List.getElem?_eq_some_iff.1 hri).1
  refine ⟨(rest.eraseIdx ii).length, by rw [List.length_eraseIdx, if_pos hil]; omega, seen.push qq, done ++ [(v, n0)], rest.eraseIdx ii, left, ⟨hit2, hlk, fun u => ?_, rfl⟩, rfl, rfl⟩
  rw [hall2, inN_snoc, List.take_of_length_le (by omega)]
 skip
 rintro ⟨hr0, rfl, rfl⟩
 refine OL.det trivial (.pure rfl) (OL.nil (PW.k3 3 34 36 rfl ?_))
 refine PW.seq fun K8 hK8 => ?_
 refine PW.ite (b := false) rfl ?_
 rw [if_neg Bool.false_ne_true]
 refine PW.exit ?_
 refine hK4 _ _ ?_
 refine PW.k1 3 rfl (PW.seqOps ?_)
 refine OL.tell (k := 4) rfl (fun w hw => hopen.close _ w hw) ?_
 refine OL.subS (S' := [(ra, .gm (gmL vtxV intV left))] :: (GS m ++ S)) (Sub.drop (Sub.refl _)) (OL.det trivial (.pure rfl) (OL.dp rfl (OL.nil (PW.k1 2 rfl (PW.ret ?_)))))
 change (Exit.ret = Exit.normal ∨ Exit.ret = Exit.ret) /\ ∃ v, resV _ _ = some v /\ _
 refine ⟨.inr rfl, _, rfl, _, Sub.refl _, ra, left, rfl, rfl, hlk, fun u => ?_⟩
 rw [hall u]
 refine inN_perm ?_ u
 have := hit.perm
 rw [hr0, List.append_nil] at this
 exact this.map _
end Go.Proofs.Gr

namespace Go.GP
open Go.SL
theorem mks_mdl_erase {β : Type} {l : List (Vtx × β)} (h : (mks l).Nodup) (a : Vtx) : mks (mdl l a) = (mks l).erase a := by
 rw [mks_mdl, h.erase_eq_filter]
 congr 1
 funext c
 by_cases e : a = c
 ·subst e; simp
 have : c ≠ a := fun h => e h.symm
 simp [e, this]
theorem mks_mdl_erase' {α β : Type} [DecidableEq α] {l : List (α × β)} (h : (mks l).Nodup) (a : α) : mks (mdl l a) = (mks l).erase a := by
 rw [mks_mdl, h.erase_eq_filter]
 congr 1
 funext c
 by_cases e : a = c
 ·subst e; simp
 have : c ≠ a := fun h => e h.symm
 simp [e, this]
theorem mdl_out {α β : Type} [DecidableEq α] {l : List (α × β)} {a : α} (h : a ∉ mks l) : mdl l a = l := by
 unfold mdl
 rw [List.filter_eq_self]
 intro p hp
 have : a ≠ p.1 := fun e => h (e ▸ List.mem_map.2 ⟨p, hp, rfl⟩)
 simp [this]
theorem cntV_nil (u : Vtx) : cntV u [] = 0 := by simp [cntV]
theorem inN_cons (p : Vtx × NodeP) (N : List (Vtx × NodeP)) (u : Vtx) : inN (p :: N) u = cntV u p.2.next + inN N u := by
 unfold inN tgts
 rw [List.flatMap_cons, cntV_app]
theorem inN_nonneg (N : List (Vtx × NodeP)) (u : Vtx) : 0 <= inN N u := (cntV_le u _).1
theorem inN_mdl {N : List (Vtx × NodeP)} (h : (mks N).Nodup) {v : Vtx} {n : NodeP} (hv : (v, n) ∈ N) (u : Vtx) : inN N u = inN (mdl N v) u + cntV u n.next := by
 induction N with
 | nil => cases hv
 | cons p N ih =>
  have hn : (p.1 :: mks N).Nodup := h
  obtain ⟨h1, h2⟩ := List.nodup_cons.1 hn
  rcases List.mem_cons.1 hv with rfl | hv
  ·have : mdl ((v, n) :: N) v = N := by
    have e := mdl_out (l := N) h1
    unfold mdl at e ⊢
    rw [List.filter_cons]
    simp only [decide_true, Bool.not_true, Bool.false_eq_true, if_false]
    exact e
   rw [this, inN_cons]
   show cntV u n.next + inN N u = _
   omega
  have hne : v ≠ p.1 := fun e => h1 (e ▸ List.mem_map.2 ⟨_, hv, rfl⟩)
  have : mdl (p :: N) v = p :: mdl N v := by
   unfold mdl
   rw [List.filter_cons]
   simp [hne]
  rw [this, inN_cons, inN_cons, ih h2 hv]
  omega
theorem inN_pos {N : List (Vtx × NodeP)} {u : Vtx} : 0 < inN N u ↔ ∃ p ∈ N, u ∈ p.2.next := by
 unfold inN cntV tgts
 rw [show (0 : Int) < ((List.count u (List.flatMap (fun p => p.2.next) N) : Nat) : Int) ↔ 0 < List.count u (List.flatMap (fun p => p.2.next) N) by omega, List.count_pos_iff, List.mem_flatMap]
structure Kahn (lt : Vtx -> Vtx -> Bool) (N rem : List (Vtx × NodeP)) (q : List Vtx) (cnt : Vtx -> Int) (out pend : List Vtx) : Prop where
 nn : (mks N).Nodup
 nd : (mks rem).Nodup
 sub : ∀ p ∈ rem, p ∈ N
 ct : ∀ u, cnt u = inN rem u + cntV u pend
 qn : q.Nodup
 qm : ∀ u, u ∈ q ↔ u ∈ mks rem /\ cnt u = 0
 topo : ∀ L, Topo lt (EG N) (mks rem) L -> Topo lt (EG N) (mks N) (out ++ L)
 zero : ∀ u ∈ out, cnt u = 0
 key : ∀ u ∈ mks N, u ∈ out ∨ u ∈ mks rem
variable {lt : Vtx -> Vtx -> Bool} {N rem : List (Vtx × NodeP)} {q out pend : List Vtx} {cnt : Vtx -> Int} {w : Vtx}
theorem Kahn.free (K : Kahn lt N rem q cnt out pend) (u : Vtx) : Free (EG N) (mks rem) u ↔ inN rem u = 0 := by
 constructor
 ·intro h
  have := inN_nonneg rem u
  refine Classical.byContradiction fun hne => ?_
  obtain ⟨p, hp, hu⟩ := inN_pos.1 (show 0 < inN rem u by omega)
  refine h (p.1, u) ?_ rfl (List.mem_map.2 ⟨p, hp, rfl⟩)
  unfold EG
  exact List.mem_flatMap.2 ⟨p, K.sub p hp, List.mem_map.2 ⟨u, hu, rfl⟩⟩
 intro h e he heu hm
 obtain ⟨p, hp, hpe⟩ := List.mem_map.1 hm
 obtain ⟨p', hp', w, hw, rfl⟩ : ∃ p' ∈ N, ∃ w, w ∈ p'.2.next /\ (p'.1, w) = e := by
  unfold EG at he
  obtain ⟨p', h1, h2⟩ := List.mem_flatMap.1 he
  obtain ⟨w, h3, h4⟩ := List.mem_map.1 h2
  exact ⟨p', h1, w, h3, h4⟩
 have hpp : p = p' := by
  have h1 := (mgt_mem K.nn).2 (show (p.1, p.2) ∈ N from K.sub p hp)
  have h2 := (mgt_mem K.nn).2 (show (p'.1, p'.2) ∈ N from hp')
  rw [show p.1 = p'.1 from hpe, h2] at h1
  exact Prod.ext hpe (Option.some.inj h1).symm
 subst hpp
 have : 0 < inN rem u := inN_pos.2 ⟨p, hp, heu ▸ hw⟩
 omega
theorem Kahn.pop (K : Kahn lt N rem q cnt out []) {v : Vtx} {n : NodeP} {q' : List Vtx} (hq : (v :: q').Perm q) (hmin : ∀ x ∈ q, lt x v = false) (hv : (v, n) ∈ N) :
  Kahn lt N (mdl rem v) q' cnt (out ++ [v]) n.next := by
 obtain ⟨hvr, hv0⟩ := (K.qm v).1 (hq.mem_iff.1 (by simp))
 obtain ⟨p, hp, hpv⟩ := List.mem_map.1 hvr
 have hvn : (v, n) ∈ rem := by
  have h1 := (mgt_mem K.nn).2 (show (p.1, p.2) ∈ N from K.sub p hp)
  have h2 := (mgt_mem K.nn).2 hv
  rw [hpv, h2] at h1
  have : p = (v, n) := Prod.ext hpv (Option.some.inj h1).symm
  exact this ▸ hp
 have hc : ∀ u, cnt u = inN (mdl rem v) u + cntV u n.next := fun u => by
  rw [K.ct, cntV_nil, inN_mdl K.nd hvn]; omega
 have hmk := mks_mdl_erase K.nd v
 have hqn : (v :: q').Nodup := hq.nodup_iff.2 K.qn
 refine ⟨K.nn, mdl_nodup K.nd v, fun p hp => K.sub p (List.mem_filter.1 hp).1, hc, (List.nodup_cons.1 hqn).2, fun u => ?_, fun L hL => ?_, fun u hu => ?_, fun u hu => ?_⟩
 ·rw [hmk, K.nd.mem_erase_iff]
  constructor
  ·intro hu
   have h1 := (K.qm u).1 (hq.mem_iff.1 (List.mem_cons_of_mem _ hu))
   exact ⟨⟨fun e => (List.nodup_cons.1 hqn).1 (e ▸ hu), h1.1⟩, h1.2⟩
  rintro ⟨⟨h1, h2⟩, h3⟩
  have := hq.mem_iff.2 ((K.qm u).2 ⟨h2, h3⟩)
  rcases List.mem_cons.1 this with h | h
  ·exact absurd h h1
  exact h
 ·rw [List.append_assoc]
  refine K.topo _ (.cons hvr ((K.free v).2 ?_) (fun u hu hf => ?_) (by rw [mks_mdl_erase' K.nd v] at hL; exact hL))
  ·have := K.ct v; rw [cntV_nil] at this; omega
  refine hmin u ((K.qm u).2 ⟨hu, ?_⟩)
  have := (K.free u).1 hf
  have h2 := K.ct u; rw [cntV_nil] at h2; omega
 ·rcases List.mem_append.1 hu with h | h
  ·exact K.zero u h
  rw [List.mem_singleton.1 h]; exact hv0
 rcases K.key u hu with h | h
 ·exact .inl (List.mem_append_left _ h)
 by_cases e : u = v
 ·exact .inl (List.mem_append_right _ (by simp [e]))
 exact .inr (by rw [hmk, K.nd.mem_erase_iff]; exact ⟨e, h⟩)
theorem cntV_hd (u w : Vtx) (l : List Vtx) : cntV u (w :: l) = cntV u l + if u = w then 1 else 0 := by
 rw [cntV_cons]
 by_cases h : w = u
 ·rw [if_pos h, if_pos h.symm]
 rw [if_neg h, if_neg (fun e => h e.symm)]
theorem Kahn.dec (K : Kahn lt N rem q cnt out (w :: pend)) {cnt' : Vtx -> Int} (hc : ∀ u, cnt' u = if u = w then cnt w - 1 else cnt u) {q' : List Vtx}
  (hq : if w ∈ mks N /\ cnt w = 1 then q'.Perm (w :: q) else q' = q) : Kahn lt N rem q' cnt' out pend := by
 have hw1 : 1 <= cnt w := by
  have := K.ct w
  rw [cntV_hd, if_pos rfl] at this
  have h1 := inN_nonneg rem w
  have h2 := (cntV_le w pend).1
  omega
 have hwo : w ∉ out := fun h => by have := K.zero w h; omega
 have hwq : w ∉ q := fun h => by have := ((K.qm w).1 h).2; omega
 have hcnt : ∀ u, cnt' u = inN rem u + cntV u pend := fun u => by
  rw [hc]
  have := K.ct u
  rw [cntV_hd] at this
  by_cases e : u = w
  ·subst e; rw [if_pos rfl] at this ⊢; omega
  rw [if_neg e] at this ⊢; omega
 have hz : ∀ u, u ≠ w -> cnt' u = cnt u := fun u hu => by rw [hc, if_neg hu]
 refine ⟨K.nn, K.nd, K.sub, hcnt, ?_, fun u => ?_, K.topo, fun u hu => ?_, K.key⟩
 ·split at hq
  ·exact hq.nodup_iff.2 (List.nodup_cons.2 ⟨hwq, K.qn⟩)
  rw [hq]; exact K.qn
 ·by_cases e : u = w
  ·subst e
   have h1 : cnt' u = cnt u - 1 := by rw [hc, if_pos rfl]
   split at hq
   ·rename_i hh
    constructor
    ·intro _
     exact ⟨(K.key u hh.1).resolve_left hwo, by omega⟩
    intro _; exact hq.mem_iff.2 (by simp)
   rename_i hh
   rw [hq]
   constructor
   ·intro h; exact absurd h hwq
   rintro ⟨h2, h3⟩
   refine absurd ⟨?_, by omega⟩ hh
   obtain ⟨p, hp, rfl⟩ := List.mem_map.1 h2
   exact List.mem_map.2 ⟨p, K.sub p hp, rfl⟩
  rw [hz u e, <- K.qm u]
  split at hq
  ·rw [hq.mem_iff]; simp [e]
  rw [hq]
 have : u ≠ w := fun e => hwo (e ▸ hu)
 rw [hz u this]; exact K.zero u hu
theorem Kahn.fin (K : Kahn lt N rem [] cnt out []) : Topo lt (EG N) (mks N) out := by
 have := K.topo [] (.nil fun v hv hf => ?_)
 ·simpa using this
 have h1 := (K.free v).1 hf
 have h2 := K.ct v
 rw [cntV_nil] at h2
 exact absurd ((K.qm v).2 ⟨hv, by omega⟩) (by simp)
end Go.GP

namespace Go.Proofs.Gr
open Go.SL Go.RowKit Go.Proofs Go.GP Go.HP
theorem cb_cons (a b : UInt8) (l r : List UInt8) : Lib.compareBytes (a :: l) (b :: r) = if a.toNat < b.toNat then -1 else if b.toNat < a.toNat then 1 else Lib.compareBytes l r := by
 show (if a < b then (-1 : Int) else if b < a then 1 else Lib.compareBytes l r) = _
 simp only [UInt8.lt_iff_toNat_lt]
theorem cb_neg : ∀ a b : List UInt8, Lib.compareBytes b a = -Lib.compareBytes a b
 | [], [] => rfl
 | [], _ :: _ => rfl
 | _ :: _, [] => rfl
 | a :: l, b :: r => by
  rw [cb_cons, cb_cons, cb_neg l r]
  split <;> split <;> (try split) <;> omega
theorem cb_eq : ∀ {a b : List UInt8}, Lib.compareBytes a b = 0 -> a = b
 | [], [], _ => rfl
 | [], _ :: _, h => by simp [Lib.compareBytes] at h
 | _ :: _, [], h => by simp [Lib.compareBytes] at h
 | a :: l, b :: r, h => by
  rw [cb_cons] at h
  split at h
  ·omega
  split at h
  ·omega
  rw [cb_eq h, UInt8.toNat_inj.1 (show a.toNat = b.toNat by omega)]
theorem cb_trans : ∀ {a b c : List UInt8}, Lib.compareBytes a b <= 0 -> Lib.compareBytes b c <= 0 -> Lib.compareBytes a c <= 0 /\ (Lib.compareBytes a c = 0 -> Lib.compareBytes a b = 0 /\ Lib.compareBytes b c = 0)
 | [], [], [], _, _ => by decide
 | [], [], _ :: _, _, _ => by simp [Lib.compareBytes]
 | [], _ :: _, [], _, h => by simp [Lib.compareBytes] at h
 | [], _ :: _, _ :: _, _, _ => by simp [Lib.compareBytes]
 | _ :: _, [], _, h, _ => by simp [Lib.compareBytes] at h
 | _ :: _, _ :: _, [], _, h => by simp [Lib.compareBytes] at h
 | a :: l, b :: r, c :: s, h1, h2 => by
  rw [cb_cons] at h1 h2 ⊢
  rw [cb_cons, cb_cons]
  by_cases x1 : a.toNat < b.toNat
  ·by_cases x2 : b.toNat < c.toNat
   ·rw [if_pos (show a.toNat < c.toNat by omega)]; omega
   rw [if_neg x2] at h2
   by_cases x3 : c.toNat < b.toNat
   ·rw [if_pos x3] at h2; omega
   rw [if_pos (show a.toNat < c.toNat by omega)]; omega
  rw [if_neg x1] at h1
  by_cases x4 : b.toNat < a.toNat
  ·rw [if_pos x4] at h1; omega
  rw [if_neg x4] at h1
  by_cases x2 : b.toNat < c.toNat
  ·rw [if_pos (show a.toNat < c.toNat by omega)]; omega
  rw [if_neg x2] at h2
  by_cases x3 : c.toNat < b.toNat
  ·rw [if_pos x3] at h2; omega
  rw [if_neg x3] at h2
  rw [if_neg (show ¬ a.toNat < c.toNat by omega), if_neg (show ¬ c.toNat < a.toNat by omega), if_neg x1, if_neg x4, if_neg x2, if_neg x3]
  exact cb_trans h1 h2
theorem ordV_def (a b : Vtx) : ordV a b = if Lib.compareBytes a.1.1 b.1.1 ≠ 0 then Lib.compareBytes a.1.1 b.1.1 else cmpI a.2 b.2 := by
 unfold ordV orL orL orL
 by_cases h : Lib.compareBytes a.1.1 b.1.1 ≠ 0
 ·rw [if_pos h, if_pos h]
 rw [if_neg h, if_neg h]
 by_cases h2 : cmpI a.2 b.2 ≠ 0
 ·rw [if_pos h2]
 rw [if_neg h2]; omega
theorem ordV_neg (a b : Vtx) : ordV b a = -ordV a b := by
 rw [ordV_def, ordV_def, cb_neg]
 have : cmpI b.2 a.2 = -cmpI a.2 b.2 := by unfold cmpI; split <;> split <;> (try split) <;> omega
 rw [this]
 split <;> split <;> omega
theorem ordV_eq {a b : Vtx} (h : ordV a b = 0) : a = b := by
  rw [ordV_def] at h
  split at h
  · omega
  rename_i h1
  have e1 := cb_eq (Classical.not_not.1 h1)
  have e2 : a.2 = b.2 := by unfold cmpI at h; split at h; · omega
                            split at h <;> omega
  exact Prod.ext (Subtype.ext e1) e2
theorem ordV_trans {a b c : Vtx} (h1 : ordV a b <= 0) (h2 : ordV b c <= 0) : ordV a c <= 0 := by
 rw [ordV_def] at h1 h2 ⊢
 have k1 : Lib.compareBytes a.1.1 b.1.1 <= 0 := by split at h1 <;> omega
 have k2 : Lib.compareBytes b.1.1 c.1.1 <= 0 := by split at h2 <;> omega
 obtain ⟨k3, k4⟩ := cb_trans k1 k2
 split
 ·exact k3
 rename_i h3
 obtain ⟨e1, e2⟩ := k4 (Classical.not_not.1 h3)
 rw [if_neg (by rw [e1]; simp)] at h1
 rw [if_neg (by rw [e2]; simp)] at h2
 unfold cmpI at h1 h2 ⊢
 split at h1 <;> split at h2 <;> (try split at h1) <;> (try split at h2) <;> split <;> (try split) <;> omega
theorem ltV_ord : Ord ltV where
 asymm := fun a b h => by
  unfold ltV at h ⊢
  have := ordV_neg a b
  simp only [decide_eq_true_eq, decide_eq_false_iff_not] at h ⊢
  omega
 trans := fun a b c h1 h2 => by
  unfold ltV at h1 h2 ⊢
  simp only [decide_eq_false_iff_not] at h1 h2 ⊢
  have e1 := ordV_neg a b
  have e2 := ordV_neg b c
  have e3 := ordV_neg a c
  have := ordV_trans (a := a) (b := b) (c := c) (by omega) (by omega)
  omega
theorem ltV_tot (a b : Vtx) (h1 : ltV a b = false) (h2 : ltV b a = false) : a = b := by
 unfold ltV at h1 h2
 simp only [decide_eq_false_iff_not] at h1 h2
 have := ordV_neg a b
 exact ordV_eq (by omega)
end Go.Proofs.Gr

namespace Go.Proofs.Gr
open Go.SL Go.RowKit Go.Proofs Go.GP
set_option maxHeartbeats 1000000
open Go.HP
structure LineP where
 v : Vtx
 text : ByteArray
 alive : Bool
def lineC (l : LineP) : List Value := vtxL l.v ++ [.string l.text, .bool l.alive]
def lineV (l : LineP) : Value := .agg (lineC l).toArray
def lines (l : List LineP) : List Value := l.flatMap lineC
theorem lineC_len (l : LineP) : (lineC l).length = 35 := by simp [lineC, vtxL_len]
theorem lines_len (l : List LineP) : (lines l).length = l.length * 35 := by unfold lines; rw [List.length_flatMap]; simp [lineC_len, List.map_const']
theorem lineC_one (l : LineP) : (lineC l).all (·.oneCell') = true := by rw [lineC, List.all_append, vtxL_one]; rfl
theorem lines_snoc (l : List LineP) (x : LineP) : lines (l ++ [x]) = lines l ++ lineC x := by unfold lines; simp
def z35 : List Value := z33 ++ [.string ⟨#[]⟩, .bool false]
theorem fill_line {T : TT} {v : Vtx} {s : ByteArray} {al : Bool} {a b c : Nat} (h1 : Go.SL.look T a = some (vtxV v)) (h2 : Go.SL.look T b = some (.string s)) (h3 : Go.SL.look T c = some (.bool al)) : fillP T z35 [(0, 33, .t a), (33, 1, .t b), (34, 1, .t c)] = some (lineC ⟨v, s, al⟩) := by
 have hv := vtxL_len v
 have e0 : (vtxV v).cells.size = 33 := (List.size_toArray).trans hv
 have f1 : setAt z35 0 (vtxL v) = vtxL v ++ [.string ⟨#[]⟩, .bool false] := by
  rw [setAt_eq _ _ _ (by rw [hv]; decide), hv]
  rfl
 have f2 : setAt (vtxL v ++ [Value.string ⟨#[]⟩, .bool false]) 33 [.string s] = vtxL v ++ [.string s, .bool false] := by
  rw [setAt_eq _ _ _ (by simp [hv]), List.take_append_of_le_length (by omega), List.take_of_length_le (by omega), List.drop_append, List.drop_eq_nil_of_le (by simp [hv])]
  simp [hv]
 have f3 : setAt (vtxL v ++ [Value.string s, .bool false]) 34 [.bool al] = vtxL v ++ [.string s, .bool al] := by
  rw [setAt_eq _ _ _ (by simp [hv]), List.take_append, List.take_of_length_le (by omega)]
  simp [hv]
 simp only [fillP, PV.val, h1, h2, h3]
 rw [if_pos ⟨e0, by decide⟩]
 rw [show (vtxV v).cells.toList = vtxL v from rfl, f1, if_pos ⟨rfl, by simp [hv]⟩, show (Value.string s).cells.toList = [.string s] from rfl, f2, if_pos ⟨rfl, by simp [hv]⟩, show (Value.bool al).cells.toList = [.bool al] from rfl]
 exact congrArg some f3
def lineOf (N : List (Vtx × NodeP)) (v : Vtx) : LineP := ⟨v, (nd N v).text, decide ((nd N v).gone = 0)⟩
theorem filter_snoc (A : List (Vtx × NodeM)) (p : Vtx × NodeM) (f : Vtx -> Bool) : (mks (A ++ [p])).filter f = (mks A).filter f ++ (if f p.1 then [p.1] else []) := by
 unfold mks
 rw [List.map_append, List.filter_append]
 congr 1
 simp only [List.map_cons, List.map_nil, List.filter_cons, List.filter_nil]
end Go.Proofs.Gr

namespace Go.Proofs.Gr
open Go.SL Go.RowKit Go.Proofs Go.GP
set_option maxHeartbeats 1000000
open Go.HP
theorem kahn_start {w0 : World} {X : SS} {m : GrM} (hm : GOk w0 X m) {left : List (Vtx × Int)} {q : List Vtx} {done : List (Vtx × NodeM)} (hd : done.Perm m.nodes) (hlv : ∀ u, lv left u = inN m.gr.nodes u) (hq : q.Perm ((mks done).filter fun u => decide (lv left u = 0))) :
  Kahn ltV m.gr.nodes m.gr.nodes q (lv left) [] [] := by
 have hk : mks m.gr.nodes = mks m.nodes := mks_plN _
 have hn : (mks m.gr.nodes).Nodup := by rw [hk]; exact hm.nkd
 have hdk : (mks done).Perm (mks m.nodes) := hd.map _
 refine ⟨hn, hn, fun p hp => hp, fun u => by rw [hlv, cntV_nil]; omega, hq.nodup_iff.2 ((hdk.nodup_iff.2 hm.nkd).filter _), fun u => ?_, fun L hL => by simpa using hL, fun u hu => by simp at hu, fun u hu => .inr hu⟩
 rw [hq.mem_iff, List.mem_filter, hdk.mem_iff, hk]
 simp
theorem nd_mem {w0 : World} {X : SS} {m : GrM} (hm : GOk w0 X m) {v : Vtx} (hv : v ∈ mks m.nodes) : (v, ((mgt m.nodes v).getD zM).pl) ∈ m.gr.nodes /\ nd m.gr.nodes v = ((mgt m.nodes v).getD zM).pl := by
 obtain ⟨n, hn⟩ := mem_mks.1 hv
 refine ⟨?_, nd_plN _ _⟩
 rw [hn]
 exact List.mem_map.2 ⟨(v, n), mgt_some_mem hn, rfl⟩
theorem nodup_le : ∀ {l l' : List Vtx}, l.Nodup -> (∀ x ∈ l, x ∈ l') -> l.length <= l'.length
 | [], l', _, _ => by simp
 | a :: l, l', hn, h => by
  obtain ⟨h1, h2⟩ := List.nodup_cons.1 hn
  have ha : a ∈ l' := h a (by simp)
  have := nodup_le (l := l) (l' := l'.erase a) h2 (fun x hx => by
   have hne : x ≠ a := fun e => h1 (e ▸ hx)
   exact (List.mem_erase_of_ne hne).2 (h x (by simp [hx])))
  rw [List.length_erase_of_mem ha] at this
  have hp : 0 < l'.length := List.length_pos_of_mem ha
  simp only [List.length_cons]
  omega
theorem kahn_qlen {lt : Vtx -> Vtx -> Bool} {N rem : List (Vtx × NodeP)} {q out pend : List Vtx} {cnt : Vtx -> Int} (K : Kahn lt N rem q cnt out pend) : q.length <= N.length := by
 have := nodup_le (l' := mks N) K.qn (fun x hx => by
  obtain ⟨p, hp, rfl⟩ := List.mem_map.1 ((K.qm x).1 hx).1
  exact List.mem_map.2 ⟨p, K.sub p hp, rfl⟩)
 unfold mks at this
 rwa [List.length_map] at this
theorem kahn_one {lt : Vtx -> Vtx -> Bool} {N rem : List (Vtx × NodeP)} {q out pend : List Vtx} {cnt : Vtx -> Int} {w : Vtx} (K : Kahn lt N rem q cnt out (w :: pend)) : 1 <= cnt w := by
 have := K.ct w
 rw [cntV_hd, if_pos rfl] at this
 have h1 := inN_nonneg rem w
 have h2 := (cntV_le w pend).1
 omega
theorem rem_len {N : List (Vtx × NodeP)} {v : Vtx} (hn : (mks N).Nodup) (hv : v ∈ mks N) : (mdl N v).length + 1 = N.length := by
 have h := mks_mdl_erase hn v
 have := congrArg List.length h
 rw [List.length_erase_of_mem hv] at this
 have hp : 0 < (mks N).length := List.length_pos_of_mem hv
 unfold mks at this hp
 simp only [List.length_map] at this hp
 omega
theorem lines_fc {w0 : World} {S X : SS} {m : GrM} (hm : GOk w0 X m) (hX : Over X S) (hE : (EG m.gr.nodes).length <= 1000000000) (hN : m.nodes.length <= 1000000000) (hT : ∀ e ∈ EG m.gr.nodes, e.2 ∈ mks m.nodes ∨ e.2 = endV) (hend : endV ∉ mks m.nodes) :
  FC Tryz.prog w0 38 [m.ptr] (GS m ++ S) (fun v S' => ∃ seg out, S' = seg :: (GS m ++ S) /\ Topo ltV (EG m.gr.nodes) (mks m.gr.nodes) out /\ SlV 99 35 v out.length (lines (out.map (lineOf m.gr.nodes))) seg) := by
 have hS : Over (GS m ++ X) (GS m ++ S) := Over.both hX
 obtain ⟨z, hz1, hz2⟩ := zero3
 obtain ⟨y, hy1, hy2⟩ := zero100
 have hml := hm.lim
 have hb00 : ∀ u, inN m.gr.nodes u <= 1000000000 := fun u => by unfold inN; have := (cntV_le u (tgts m.gr.nodes)).2; rw [tgts_len] at this; omega
 refine FC.ofD Tryz.known38 (by simp) ?_
 unfold Tryz.pc38
 simp only [argT]
 refine PW.seqOps (OL.dp rfl (OL.nil (PW.k2 0 2 rfl ?_)))
 refine PW.seq fun K1 hK1 => ?_
 refine PW.seqOps (OL.dp rfl (OL.call trivial rfl (is_fc hS) ?_))
 rintro _ Sx ⟨rfl, hSx⟩
 rw [hSx]
 clear hSx
 refine OL.dp rfl (OL.nil (PW.k3 0 2 13 rfl (PW.ite (b := false) rfl ?_)))
 rw [if_neg Bool.false_ne_true]
 refine PW.skip ?_
 refine hK1 _ _ ?_
 refine PW.k2 0 2 rfl (PW.seqOps (OL.dp rfl (OL.call trivial rfl (ahead_fc hm hX hE) ?_)))
 rintro _ _ ⟨ra, left, rfl, rfl, hlk, hlv⟩
 have hb0 : ∀ u, lv left u <= 1000000000 := fun u => by rw [hlv]; exact hb00 u
 refine OL.dp rfl (OL.nil (PW.k3 0 2 3 rfl (PW.seqOps (OL.cons trivial OW.bsl0 ?_))))
 rintro _ _ ⟨r16, rfl, rfl⟩
 refine OL.cons trivial (OW.bx rfl) ?_
 rintro _ _ ⟨r17, rfl, rfl⟩
 change OL _ _ _ _ _ (wseg r17 (.slice (some ⟨r16, 0, none⟩) 0 0) :: [(r16, .cells [] 27 0)] :: [(ra, .gm (gmL vtxV intV left))] :: (GS m ++ S)) _
 have hs0 : SlV 27 33 (.slice (some ⟨r16, 0, none⟩) 0 0) ([] : List Vtx).length (vtxs []) [(r16, .cells [] 27 0)] := SlV.mk' (cap := 0) rfl (Nat.le_refl 0) (by decide)
 obtain ⟨vq, hvq⟩ : ∃ z : Value, z = .slice (some ⟨r16, 0, none⟩) 0 0 := ⟨_, rfl⟩
 obtain ⟨sgq, hsgq⟩ : ∃ z : Seg, z = [(r16, .cells [] 27 0)] := ⟨_, rfl⟩
 rw [<- hvq, <- hsgq] at hs0 ⊢
 refine OL.dp rfl (OL.nil (PW.k4 0 2 3 4 rfl ?_))
 refine PW.seq fun K2 hK2 => ?_
 refine PW.seqOps (OL.dp rfl (OL.det trivial (Yields.nilc rfl) (OL.dp rfl (OL.det trivial (.ld rfl (g_nodes hS.cons.cons.cons)) (OL.cons trivial (OW.rngG (j := 5) (l := m.nodes) Tryz.underlying109 rfl rfl) ?_)))))
 rintro _ _ ⟨ri, en, clk, rfl, hopen, hit0, rfl⟩
 change OL _ _ _ _ _ ([(ri, .obj (.mapIter (some m.nb) clk #[] clk))] :: wseg r17 vq :: sgq :: [(ra, .gm (gmL vtxV intV left))] :: (GO m en clk ++ S)) _
 refine OL.subS (S' := wseg r17 vq :: sgq :: [(ri, .obj (.mapIter (some m.nb) clk #[] clk))] :: [(ra, .gm (gmL vtxV intV left))] :: (GO m en clk ++ S)) (Sub.sel [1, 2, 0] 3 (by decide) ([(ri, .obj (.mapIter (some m.nb) clk #[] clk))] :: wseg r17 vq :: sgq :: [(ra, .gm (gmL vtxV intV left))] :: (GO m en clk ++ S))) ?_
 refine OL.nil (PW.k5 0 2 3 4 22 rfl (PW.block (PW.k5 0 2 3 4 22 rfl ?_)))
 refine PW.loopK (I := fun mm T S' => ∃ (seen : Array Nat) (done rest : List (Vtx × NodeM)) (q : List Vtx) (vq : Value) (sgq : Seg), (It vtxV nodeV en seen m.nodes done rest /\ SlV 27 33 vq q.length (vtxs q) sgq /\ Hp ltV q q.length /\ q.Perm ((mks done).filter fun u => decide (lv left u = 0)) /\ mm = rest.length) /\ T = ([(0, m.ptr), (2, .slice none 0 0), (3, .map (some ra)), (4, .pointer (some ⟨r17, 0, none⟩)), (22, .pointer (some ⟨ri, 0, none⟩))] : TT) /\ S' = wseg r17 vq :: sgq :: [(ri, .obj (.mapIter (some m.nb) clk seen clk))] :: [(ra, .gm (gmL vtxV intV left))] :: (GO m en clk ++ S)) (m := m.nodes.length) ⟨#[], [], m.nodes, [], vq, sgq, ⟨hit0, hs0, (fun k h0 hk => by simp at hk), .nil, rfl⟩, rfl, rfl⟩ ?_
 rintro mm _ _ ⟨seen, done, rest, q, vq, sgq, ⟨hit, hsq, hhp, hqp, hmm⟩, rfl, rfl⟩
 have hql : q.length <= done.length := by have h1 := hqp.length_eq; have h2 := List.length_filter_le (fun u => decide (lv left u = 0)) (mks done); unfold mks at h1 h2; rw [List.length_map] at h2; omega
 refine PW.seqOps (OL.cons trivial (OW.nxtG (j := 2) (b := m.nb) (l := m.nodes) (done := done) (rest := rest) rfl rfl (GO_n (en := en) (clk := clk) (Over.app (b := S)).cons.cons.cons.cons) hopen hit) ?_)
 refine fun v S' h => Or.elim h.symm ?_ ?_
 ·skip
  rintro ⟨ii, p, qq, hri, rfl, hit2, rfl⟩
  refine OL.det trivial (.pure rfl) (OL.nil (PW.k6 0 2 3 4 22 24 rfl ?_))
  refine PW.seq fun K3 hK3 => ?_
  refine PW.ite (b := true) rfl ?_
  rw [if_pos rfl]
  refine PW.skip ?_
  refine hK3 _ _ ?_
  refine PW.k5 0 2 3 4 22 rfl (PW.block (PW.seqOps (OL.det trivial (Yields.entG (b := m.nb) rfl zM2 (GO_n (en := en) (clk := clk) (Over.app (b := S)).cons.cons.cons.cons) hopen hit2) (OL.dp rfl (OL.cons trivial OW.al ?_)))))
  rintro _ _ ⟨r5, rfl, rfl⟩
  refine OL.cons trivial (vtx_st rfl rfl rfl) ?_
  rintro _ _ rfl
  obtain ⟨v, n0⟩ := p
  have hpm := done_get hm hit.perm hri
  have hov : okV v := hm.nk _ hpm
  have hdl : done.length <= m.nodes.length := by have := hit.perm.length_eq; rw [List.length_append] at this; omega
  change OL _ _ _ _ _ (vseg r5 v :: wseg r17 vq :: sgq :: [(ri, .obj (.mapIter (some m.nb) clk (seen.push qq) clk))] :: [(ra, .gm (gmL vtxV intV left))] :: (GO m en clk ++ S)) _
  refine OL.nil (PW.k6 0 2 3 4 5 22 rfl (PW.seqOps (OL.dp rfl (OL.det trivial (.ldA rfl (vtxL_len _) (all_at zM0)) (OL.det trivial (.lookG (okc := false) (a := v) Tryz.underlying153 hz1 hz2 keys32 hlk hov rfl rfl zM4) (OL.dp rfl (OL.nil (PW.k7 0 2 3 4 5 22 30 rfl ?_))))))))
  refine PW.cond rfl (fun c30 => ?_) (fun c30 => ?_)
  ·try simp only [cvS] at c30
   have hz0 : lv left v = 0 := c30
   refine PW.subS (S' := wseg r17 vq :: sgq :: vseg r5 v :: [(ri, .obj (.mapIter (some m.nb) clk (seen.push qq) clk))] :: [(ra, .gm (gmL vtxV intV left))] :: (GO m en clk ++ S)) (Sub.sel [1, 2, 0] 3 (by decide) (vseg r5 v :: wseg r17 vq :: sgq :: [(ri, .obj (.mapIter (some m.nb) clk (seen.push qq) clk))] :: [(ra, .gm (gmL vtxV intV left))] :: (GO m en clk ++ S))) ?_
   refine PW.ops (OL.dp rfl (OL.det trivial (Yields.mkI rfl) (OL.det trivial (.ldA rfl (vtxL_len _) (all_at (c := vtxL v) (E := 27) (tot := 33) zM2)) (OL.det trivial (Yields.mkI rfl) ?_))))
   refine OL.call trivial rfl (hpush_fc (x := v) hsq (by omega)) ?_
   rintro _ _ ⟨rfl, v35, sg35, rfl, hs35⟩
   refine OL.nil ?_
   repeat rw [inBlk_n]
   try rw [thenK_n]
   refine LoopEnd.mkS (Sub.sel [0, 1] 3 (by decide) _) (T'' := [(0, _), (2, _), (3, _), (4, _), (22, _)]) (wi rfl) ?_
   have hil : ii < rest.length := (List.getElem?_eq_some_iff.1 hri).1
   obtain ⟨hp1, hp2⟩ := pushL_spec ltV_ord hhp v
   refine ⟨(rest.eraseIdx ii).length, by rw [List.length_eraseIdx, if_pos hil]; omega, seen.push qq, done ++ [(v, n0)], rest.eraseIdx ii, pushL ltV q v, v35, sg35, ⟨hit2, hs35, hp1, ?_, rfl⟩, rfl, rfl⟩
   rw [filter_snoc, if_pos (by simpa using hz0)]
   exact hp2.trans ((List.Perm.cons v hqp).trans (List.perm_append_singleton v _).symm)
  try simp only [cvS] at c30
  have hz0 : ¬ lv left v = 0 := c30
  refine PW.subS (S' := wseg r17 vq :: sgq :: vseg r5 v :: [(ri, .obj (.mapIter (some m.nb) clk (seen.push qq) clk))] :: [(ra, .gm (gmL vtxV intV left))] :: (GO m en clk ++ S)) (Sub.sel [1, 2, 0] 3 (by decide) (vseg r5 v :: wseg r17 vq :: sgq :: [(ri, .obj (.mapIter (some m.nb) clk (seen.push qq) clk))] :: [(ra, .gm (gmL vtxV intV left))] :: (GO m en clk ++ S))) ?_
  refine PW.skip ?_
  repeat rw [inBlk_n]
  try rw [thenK_n]
  refine LoopEnd.mkS (Sub.sel [0, 1] 3 (by decide) _) (T'' := [(0, _), (2, _), (3, _), (4, _), (22, _)]) (wi rfl) ?_
  have hil : ii < rest.length := (List.getElem?_eq_some_iff.1 hri).1
  refine ⟨(rest.eraseIdx ii).length, by rw [List.length_eraseIdx, if_pos hil]; omega, seen.push qq, done ++ [(v, n0)], rest.eraseIdx ii, q, vq, sgq, ⟨hit2, hsq, hhp, ?_, rfl⟩, rfl, rfl⟩
  rw [filter_snoc, if_neg (by simpa using hz0), List.append_nil]
  exact hqp
 skip
 rintro ⟨hr0, rfl, rfl⟩
 refine OL.tell (k := 6) rfl (fun w hw => hopen.close _ w hw) ?_
 refine OL.subS (S' := wseg r17 vq :: sgq :: [] :: [(ra, .gm (gmL vtxV intV left))] :: (GS m ++ S)) ((Sub.cons (Sub.cons (Sub.nilL (Sub.refl _)))).trans (Sub.sel [0, 1, 3] 4 (by decide) (wseg r17 vq :: sgq :: [(ri, .obj (.mapIter (some m.nb) clk seen clk))] :: [(ra, .gm (gmL vtxV intV left))] :: (GS m ++ S)))) ?_
 refine OL.det trivial (.pure rfl) (OL.nil (PW.k6 0 2 3 4 22 24 rfl ?_))
 refine PW.seq fun K4 hK4 => ?_
 refine PW.ite (b := false) rfl ?_
 rw [if_neg Bool.false_ne_true]
 refine PW.exit ?_
 refine hK2 _ _ ?_
 refine PW.k4 0 2 3 4 rfl ?_
 refine PW.seq fun K5 hK5 => ?_
 refine PW.block (PW.k4 0 2 3 4 rfl ?_)
 refine PW.loopK (I := fun mm T S' => ∃ (q : List Vtx) (vq : Value) (sgq : Seg) (out : List Vtx) (vout : Value) (sgo : Seg) (left : List (Vtx × Int)) (rem : List (Vtx × NodeP)), (Kahn ltV m.gr.nodes rem q (lv left) out [] /\ Hp ltV q q.length /\ SlV 27 33 vq q.length (vtxs q) sgq /\ SlV 99 35 vout out.length (lines (out.map (lineOf m.gr.nodes))) sgo /\ (∀ q ∈ left, okV q.1) /\ (∀ u, lv left u <= 1000000000) /\ mm = rem.length /\ out.length + rem.length <= 1000000000) /\ T = ([(0, m.ptr), (2, vout), (3, .map (some ra)), (4, .pointer (some ⟨r17, 0, none⟩))] : TT) /\ S' = wseg r17 vq :: sgq :: sgo :: [(ra, .gm (gmL vtxV intV left))] :: (GS m ++ S)) (m := m.nodes.length) ⟨q, vq, sgq, [], _, [], left, m.gr.nodes, ⟨kahn_start hm (by have := hit.perm; rwa [hr0, List.append_nil] at this) hlv hqp, hhp, hsq, SlV.nil 99 35, hlk, hb0, (List.length_map _).symm, by rw [show m.gr.nodes.length = m.nodes.length from List.length_map _]; simpa using hN⟩, rfl, rfl⟩ ?_
 rintro mm _ _ ⟨q, vq, sgq, out, vout, sgo, left, rem, ⟨hK, hhp, hsq, hso, hlk, hb, hmm, hor⟩, rfl, rfl⟩
 obtain ⟨Aq, cq, rfl, -, -, -⟩ := slv_rdL (w0 := w0) hsq
 have hqb : q.length <= 1000000000 := by have := kahn_qlen hK; have e : m.gr.nodes.length = m.nodes.length := List.length_map _; omega
 refine PW.seq fun K6 hK6 => ?_
 refine PW.seqOps (OL.dp rfl (OL.det trivial (Yields.nilc rfl) (OL.det trivial (.ld rfl (own_at (j := 0) (c := [.slice Aq q.length cq]) (E := 156) (tot := 1) zM0 rfl)) (OL.call trivial rfl (wlen_fc) ?_))))
 rintro _ Sx ⟨rfl, hSx⟩
 rw [hSx]
 clear hSx
 refine OL.dp rfl (OL.nil (PW.k5 0 2 3 4 40 rfl ?_))
 refine PW.cond rfl (fun c40 => ?_) (fun c40 => ?_)
 ·try simp only [cvS] at c40
  obtain ⟨rq, capq, eq0, rfl, hc1, hc2⟩ := slv_own hsq (by omega)
  simp only [Value.slice.injEq, true_and] at eq0
  obtain ⟨rfl, rfl⟩ := eq0
  obtain ⟨hp1, hp2, hp3, hp4, hp5⟩ := popL_spec ltV_ord hhp (by omega)
  refine PW.skip ?_
  refine hK6 _ _ ?_
  refine PW.k4 0 2 3 4 rfl (PW.block (PW.seqOps (OL.dp rfl (OL.det trivial (Yields.mkI rfl) ?_))))
  refine OL.call trivial rfl (hpop_fc (q := q) (by omega) hc1 hc2 (by omega)) ?_
  rintro _ _ ⟨rfl, rfl⟩
  rw [hp3]
  obtain ⟨v, hv⟩ : ∃ z, z = q[0]! := ⟨_, rfl⟩
  rw [<- hv] at hp2 hp5 ⊢
  have hvq : v ∈ q := hp2.mem_iff.1 (by simp)
  have hvr := ((hK.qm v).1 hvq).1
  have hvk : v ∈ mks m.nodes := by
   obtain ⟨p, hp, rfl⟩ := List.mem_map.1 hvr
   rw [<- mks_plN]
   exact List.mem_map.2 ⟨p, hK.sub p hp, rfl⟩
  have hov : okV v := by
   obtain ⟨n, hn⟩ := mem_mks.1 hvk
   exact hm.nk _ (mgt_some_mem hn)
  have hmin : ∀ x ∈ q, ltV x v = false := by
   intro x hx
   rcases List.mem_cons.1 (hp2.mem_iff.2 hx) with rfl | h
   ·cases h : ltV x x with
    | false => rfl
    | true => have := ltV_ord.asymm x x h; rw [h] at this; cases this
   exact hp5 x h
  obtain ⟨hnm, hnd⟩ := nd_mem hm hvk
  have hK2 := hK.pop hp2 hmin hnm
  have hrl := rem_len hK.nd hvr
  have hs2 : SlV 27 33 (.slice (some ⟨rq, 0, none⟩) (q.length - 1) cq) (popL ltV q).length (vtxs (popL ltV q)) [(rq, .cells (vtxs (popL ltV q)) 27 (cq * 33))] := by
   have := SlV.mk' (E := 27) (sz := 33) (m := (popL ltV q).length) (cap := cq) (r := rq) (xs := vtxs (popL ltV q)) (vtxs_len _) (by omega) hc2
   rw [hp4] at this ⊢
   exact this
  refine OL.det trivial (Yields.tas (ok := true) rfl Tryz.underlying27 (by intro ms h; cases h)) ?_
  refine OL.dp rfl (OL.dp rfl (OL.dp rfl (OL.cons trivial OW.al ?_)))
  rintro _ _ ⟨r6, rfl, rfl⟩
  refine OL.cons trivial (vtx_st rfl rfl rfl) ?_
  rintro _ _ rfl
  refine OL.dp rfl (OL.nil (PW.k6 0 2 3 4 6 7 rfl ?_))
  refine PW.seq fun K7 hK7 => ?_
  refine PW.seqOps (OL.dp rfl (OL.dp rfl (OL.nil (PW.k6 0 2 3 4 6 49 rfl (PW.ite (b := false) rfl ?_)))))
  rw [if_neg Bool.false_ne_true]
  refine PW.skip ?_
  refine hK7 _ _ ?_
  refine PW.k5 0 2 3 4 6 rfl ?_
  refine PW.seq fun K8 hK8 => ?_
  refine PW.quietG (Ss := Over _) (fr := true) [(0, 0), (1, 0), (2, 0), (3, 0), (4, 0), (5, 0), (6, 3)] Tryz.mixed (by decide +kernel) (Over.refl _) (fun _ _ _ h => h.cons) ?_
  refine GL.dp rfl ?_
  refine GL.det trivial (fun Sx hSx => Yields.nilc rfl) ?_
  refine GL.dp rfl ?_
  refine GL.det trivial (fun Sx hSx => Yields.ld rfl (g_nodes (hS.cons.cons.cons.cons.cons.trans hSx))) ?_
  refine GL.det trivial (fun Sx hSx => Yields.ldA rfl (vtxL_len _) (all_at (c := vtxL v) (E := 27) (tot := 33) (hSx _ zM0))) ?_
  refine GL.det trivial (fun Sx hSx => Yields.lookG (okc := false) (a := v) Tryz.underlying109 hy1 hy2 keys32 hm.nk hov rfl rfl (GS_mem (hS.cons.cons.cons.cons.cons.trans hSx)).2.2.1) ?_
  refine GL.fresh trivial fun r8 => ?_
  change OL _ _ _ _ _ ([(r8, .cells [.string ⟨#[]⟩, .int .i64 0, .int .i64 0, .slice none 0 0] 121 4)] :: vseg r6 v :: wseg r17 (.slice (some ⟨rq, 0, none⟩) (q.length - 1) cq) :: qseg rq (cq * 33) (popL ltV q) :: sgo :: [(ra, .gm (gmL vtxV intV left))] :: (GS m ++ S)) _
  change OL _ _ _ [_] _ _ _
  refine OL.cons trivial (node_st rfl rfl _ _ _ _) ?_
  rintro _ _ rfl
  obtain ⟨n0, hn0⟩ : ∃ z, z = (mgt m.nodes v).getD zM := ⟨_, rfl⟩
  rw [<- hn0] at hnd hnm hK2 ⊢
  have hno := getD_ok hm v
  rw [<- hn0] at hno
  have hnl := hno.len
  refine OL.nil ?_
  refine hK8 _ _ ?_
  refine PW.k6 0 2 3 4 6 8 rfl (PW.seqOps (OL.dp rfl (OL.det trivial (.ldA rfl (vtxL_len _) (all_at zM1)) (OL.dp rfl (OL.det trivial (.ld rfl (own_at (j := 0) (c := nodeC n0) (E := 121) (tot := 4) zM0 rfl)) (OL.dp rfl (OL.det trivial (.ld rfl (own_at (j := 1) (c := nodeC n0) (E := 121) (tot := 4) zM0 rfl)) ?_)))))))
  refine OL.det trivial (.to (v' := .bool (decide (n0.gone = 0))) (Yields.pure rfl) (congrArg Value.bool (by rw [Bool.eq_iff_iff]; simp))) ?_
  refine OL.det trivial (.build (fill_line rfl rfl rfl)) ?_
  apply OL.app1 (k := 4)
  ·rfl
  ·rfl
  ·exact (List.size_toArray).trans (lineC_len _)
  ·rfl
  ·rfl
  ·rfl
  ·exact hso
  ·exact lineC_one _
  ·omega
  ·unfold maxLen; omega
  intro v65 sgo2 hso2
  change OL _ _ _ _ _ ([(r8, .cells (nodeC n0) 121 4)] :: vseg r6 v :: wseg r17 (.slice (some ⟨rq, 0, none⟩) (q.length - 1) cq) :: qseg rq (cq * 33) (popL ltV q) :: sgo2 :: [(ra, .gm (gmL vtxV intV left))] :: (GS m ++ S)) _
  obtain ⟨vout2, hvo2⟩ : ∃ z : Value, z = v65 := ⟨_, rfl⟩
  rw [<- hvo2] at hso2 ⊢
  have hso3 : SlV 99 35 vout2 (out ++ [v]).length (lines ((out ++ [v]).map (lineOf m.gr.nodes))) sgo2 := by
   rw [List.map_append, List.map_cons, List.map_nil, lines_snoc, List.length_append]
   have e : lineOf m.gr.nodes v = ⟨v, n0.text, decide (n0.gone = 0)⟩ := by unfold lineOf; rw [hnd]; rfl
   rw [e]
   exact hso2
  refine OL.dp rfl (OL.nil (PW.k5 0 2 3 4 8 rfl (PW.seqOps (OL.dp rfl (OL.det trivial (.ld rfl (own_at (j := 3) (c := nodeC n0) (E := 121) (tot := 4) zM0 rfl)) (OL.dp rfl (OL.dp rfl (OL.nil (PW.k7 0 2 3 4 67 68 69 rfl (PW.block (PW.k7 0 2 3 4 67 68 69 rfl ?_)))))))))))
  refine PW.loopK (I := fun mi T S' => ∃ (k : Nat) (q2 : List Vtx) (vq2 : Value) (sgq2 : Seg) (left2 : List (Vtx × Int)), (k <= n0.next.length /\ mi = n0.next.length - k /\ Kahn ltV m.gr.nodes (mdl rem v) q2 (lv left2) (out ++ [v]) (n0.next.drop k) /\ Hp ltV q2 q2.length /\ SlV 27 33 vq2 q2.length (vtxs q2) sgq2 /\ (∀ q ∈ left2, okV q.1) /\ ∀ u, lv left2 u <= 1000000000) /\ T = ([(0, m.ptr), (2, vout2), (3, .map (some ra)), (4, .pointer (some ⟨r17, 0, none⟩)), (67, .slice n0.A n0.next.length n0.c), (68, .int .i64 (n0.next.length : Int)), (69, .int .i64 k)] : TT) /\ S' = [(r8, .cells (nodeC n0) 121 4)] :: vseg r6 v :: wseg r17 vq2 :: sgq2 :: sgo2 :: [(ra, .gm (gmL vtxV intV left2))] :: (GS m ++ S)) (m := n0.next.length) ⟨0, popL ltV q, _, _, left, ⟨by omega, by omega, hK2, hp1, hs2, hlk, hb⟩, rfl, rfl⟩ ?_
  rintro mi _ _ ⟨k, q2, vq2, sgq2, left2, ⟨hk, hmi, hK3, hhp2, hsq2, hlk2, hb2⟩, rfl, rfl⟩
  refine PW.seqOps (OL.dp rfl (OL.nil (PW.k8 0 2 3 4 67 68 69 70 rfl ?_)))
  refine PW.seq fun K9 hK9 => ?_
  refine PW.cond rfl (fun c70 => ?_) (fun c70 => ?_)
  ·try simp only [cvS] at c70
   have hkl : k < n0.next.length := by omega
   obtain ⟨a0, ha0⟩ := vtxs_some (l := n0.next) hno.rd (by omega)
   have hrd2 : Rd w0 ([(r8, .cells (nodeC n0) 121 4)] :: vseg r6 v :: wseg r17 vq2 :: sgq2 :: sgo2 :: [(ra, .gm (gmL vtxV intV left2))] :: (GS m ++ S)) (some a0) (vtxs n0.next) := by rw [<- ha0]; exact hno.rd.junk hS.cons.cons.cons.cons.cons.cons
   refine PW.skip ?_
   refine hK9 _ _ ?_
   refine PW.k7 0 2 3 4 67 68 69 rfl ?_
   refine PW.seq fun K10 hK10 => ?_
   refine PW.block (PW.seqOps ?_)
   rw [ha0]
   refine OL.det trivial (.ixN rfl rfl rfl (by omega)) ?_
   refine OL.det trivial (.ldA rfl (vtxL_len _) (vtx_at hrd2 hkl)) (OL.cons trivial OW.al ?_)
   rintro _ _ ⟨r10, rfl, rfl⟩
   refine OL.cons trivial (vtx_st rfl rfl rfl) ?_
   rintro _ _ rfl
   obtain ⟨w, hw⟩ : ∃ z, z = n0.next[k] := ⟨_, rfl⟩
   rw [<- hw]
   have how : okV w := by rw [hw]; exact hno.ok _ (List.getElem_mem hkl)
   rw [List.drop_eq_getElem_cons hkl, <- hw] at hK3
   have hw1 := kahn_one hK3
   have hb1 := hb2 w
   have hwT := hT (v, w) (by rw [mem_EG hK3.nn, hnd, hw]; exact List.getElem_mem hkl)
   refine OL.nil (PW.k8 0 2 3 4 10 67 68 69 rfl ?_)
   refine PW.seq fun K11 hK11 => ?_
   refine PW.quietG (Ss := OpS vtxV intV left2 w 0 ra (vseg r10 w :: [(r8, .cells (nodeC n0) 121 4)] :: vseg r6 v :: wseg r17 vq2 :: sgq2 :: [sgo2]) (GS m ++ S)) (fr := false) [(0, 0), (1, 0), (2, 0), (3, 0), (4, 2), (5, 2)] Tryz.mixed (by decide +kernel) (.inl rfl) (fun h => by cases h) ?_
   refine GL.dp rfl ?_
   refine GL.det trivial (fun Sx hSx => Yields.ldA rfl (vtxL_len _) (all_at (c := vtxL w) (E := 27) (tot := 33) (hSx.over _ (by simp)))) ?_
   refine GL.det trivial (fun Sx hSx => Yields.lookOp (u := w) Tryz.underlying153 hz1 hz2 keys32 hlk2 how how rfl rfl hSx) ?_
   refine GL.det trivial (fun Sx hSx => Yields.to (v' := intV (lv left2 w - 1)) (Yields.sub64 rfl rfl (by show _ <= lv left2 w - 1; omega) (by show lv left2 w - 1 <= _; omega)) rfl) ?_
   refine GL.lo trivial (OW.mono (OW.entry (j := 6) (a := w) (z := (0 : Int)) Tryz.underlying153 hz1 hz2 keys32 hlk2 how rfl rfl rfl) ?_)
   rintro _ _ ⟨en2, clk2, qq2, e2, rfl, hop2, hee2, heb2, hek2, rfl⟩
   refine ⟨.inr ⟨en2, clk2, hop2, rfl⟩, ?_⟩
   refine GL.lo trivial (OW.mono (OW.of_yields (Yields.pure rfl)) ?_)
   rintro _ _ ⟨rfl, rfl⟩
   refine ⟨.inr ⟨en2, clk2, hop2, rfl⟩, ?_⟩
   change OL _ _ _ [_] _ _ _
   refine OL.cons trivial (OW.store (j := 6) (v := lv left2 w - 1) (fun a b => vtx_inj') rfl rfl rfl hop2 hee2 heb2 hek2 rfl) ?_
   rintro _ _ rfl
   obtain ⟨left3, hl3⟩ : ∃ z, z = mpt (entL left2 w 0) w (lv left2 w - 1) := ⟨_, rfl⟩
   change OL _ _ _ _ _ (vseg r10 w :: [(r8, .cells (nodeC n0) 121 4)] :: vseg r6 v :: wseg r17 vq2 :: sgq2 :: sgo2 :: [(ra, .gm (gmL vtxV intV (mpt (entL left2 w 0) w (lv left2 w - 1))))] :: (GS m ++ S)) _
   rw [<- hl3]
   have hlk3 : ∀ q ∈ left3, okV q.1 := by rw [hl3]; exact put_ok hlk2 how
   have hlv3 : ∀ u, lv left3 u = if u = w then lv left2 w - 1 else lv left2 u := fun u => by rw [hl3]; exact lv_put _ _ _ _
   have hlw3 : lv left3 w = lv left2 w - 1 := by rw [hlv3, if_pos rfl]
   have hb3 : ∀ u, lv left3 u <= 1000000000 := fun u => by rw [hlv3]; have := hb2 u; split <;> omega
   refine OL.nil ?_
   refine hK11 _ _ ?_
   refine PW.k8 0 2 3 4 10 67 68 69 rfl ?_
   refine PW.seq fun K12 hK12 => ?_
   refine PW.quietK Tryz.mixed (QK.det trivial (.ldA rfl (vtxL_len _) (all_at zM0)) (QK.call trivial rfl (end_fc) (QK.det trivial (.eqD (neg := true) rfl rfl (eqL_vtx _ _)) ?_)))
   refine QK.bool trivial (Yields.pure rfl) (fun g82 => ?_) (fun g82 => ?_)
   ·try simp only [cvS] at g82
    refine QK.det rfl (.pure rfl) (QK.det rfl (.ldA rfl (vtxL_len _) (all_at zM0)) (QK.nil ?_))
    change OL _ _ _ [_, _, _] _ _ _
    refine OL.det rfl (.lookG (okc := false) (a := w) Tryz.underlying153 hz1 hz2 keys32 hlk3 how rfl rfl zM6) (OL.det rfl (.pure rfl) (OL.dp rfl (OL.nil ?_)))
    refine hK12 _ _ ?_
    refine PW.k9 0 2 3 4 10 67 68 69 87 rfl ?_
    refine PW.cond rfl (fun c87 => ?_) (fun c87 => ?_)
    ·try simp only [cvS] at c87
     refine PW.ops (OL.dp rfl (OL.det trivial (Yields.mkI rfl) (OL.det trivial (.ldA rfl (vtxL_len _) (all_at zM0)) (OL.det trivial (Yields.mkI rfl) ?_))))
     refine OL.call trivial rfl (FC.subS (Sub.sel [3, 4, 0, 1, 2] 5 (by decide) (vseg r10 w :: [(r8, .cells (nodeC n0) 121 4)] :: vseg r6 v :: wseg r17 vq2 :: sgq2 :: sgo2 :: [(ra, .gm (gmL vtxV intV left3))] :: (GS m ++ S))) (hpush_fc (x := w) hsq2 (by have := kahn_qlen hK3; have e : m.gr.nodes.length = m.nodes.length := List.length_map _; omega))) ?_
     rintro _ _ ⟨rfl, v92, sg92, rfl, hs92⟩
     refine OL.subS (S' := vseg r10 w :: [(r8, .cells (nodeC n0) 121 4)] :: vseg r6 v :: wseg r17 v92 :: sg92 :: sgo2 :: [(ra, .gm (gmL vtxV intV left3))] :: (GS m ++ S)) (Sub.sel [2, 3, 4, 0, 1] 5 (by decide) (wseg r17 v92 :: sg92 :: vseg r10 w :: [(r8, .cells (nodeC n0) 121 4)] :: vseg r6 v :: sgo2 :: [(ra, .gm (gmL vtxV intV left3))] :: (GS m ++ S))) ?_
     refine OL.nil ?_
     refine hK10 _ _ ?_
     refine PW.k7 0 2 3 4 67 68 69 rfl (PW.ops ?_)
     refine OL.det trivial (.add64 rfl rfl (by omega) (by omega)) ?_
     refine OL.dp rfl (OL.nil ?_)
     repeat rw [inBlk_n]
     try rw [thenK_n]
     refine LoopEnd.mkS (Sub.drop (Sub.refl _)) (T'' := [(0, _), (2, _), (3, _), (4, _), (67, _), (68, _), (69, _)]) (wi rfl) ?_
     rw [ha0]
     obtain ⟨hp1', hp2'⟩ := pushL_spec ltV_ord hhp2 w
     refine ⟨n0.next.length - (k + 1), by omega, k + 1, pushL ltV q2 w, v92, sg92, left3, ⟨by omega, rfl, hK3.dec hlv3 ?_, hp1', hs92, hlk3, hb3⟩, rfl, rfl⟩
     rw [if_pos ⟨by rw [show mks m.gr.nodes = mks m.nodes from mks_plN _]; exact hwT.resolve_right g82, by have : lv left3 w = 0 := c87; omega⟩]
     exact hp2'
    try simp only [cvS] at c87
    refine PW.skip ?_
    refine hK10 _ _ ?_
    refine PW.k7 0 2 3 4 67 68 69 rfl (PW.ops ?_)
    refine OL.det trivial (.add64 rfl rfl (by omega) (by omega)) ?_
    refine OL.dp rfl (OL.nil ?_)
    repeat rw [inBlk_n]
    try rw [thenK_n]
    refine LoopEnd.mkS (Sub.drop (Sub.refl _)) (T'' := [(0, _), (2, _), (3, _), (4, _), (67, _), (68, _), (69, _)]) (wi rfl) ?_
    rw [ha0]
    refine ⟨n0.next.length - (k + 1), by omega, k + 1, q2, vq2, sgq2, left3, ⟨by omega, rfl, hK3.dec hlv3 ?_, hhp2, hsq2, hlk3, hb3⟩, rfl, rfl⟩
    rw [if_neg (fun h => by have : ¬ lv left3 w = 0 := c87; omega)]
   try simp only [cvS] at g82
   refine QK.off rfl rfl (QK.off rfl rfl (QK.nil ?_))
   change OL _ _ _ [_, _, _] _ _ _
   refine OL.off rfl rfl (OL.off rfl rfl (OL.dp rfl (OL.nil ?_)))
   refine hK12 _ _ ?_
   refine PW.k9 0 2 3 4 10 67 68 69 87 rfl (PW.ite (b := false) rfl ?_)
   rw [if_neg Bool.false_ne_true]
   refine PW.skip ?_
   refine hK10 _ _ ?_
   refine PW.k7 0 2 3 4 67 68 69 rfl (PW.ops ?_)
   refine OL.det trivial (.add64 rfl rfl (by omega) (by omega)) ?_
   refine OL.dp rfl (OL.nil ?_)
   repeat rw [inBlk_n]
   try rw [thenK_n]
   refine LoopEnd.mkS (Sub.drop (Sub.refl _)) (T'' := [(0, _), (2, _), (3, _), (4, _), (67, _), (68, _), (69, _)]) (wi rfl) ?_
   rw [ha0]
   refine ⟨n0.next.length - (k + 1), by omega, k + 1, q2, vq2, sgq2, left3, ⟨by omega, rfl, hK3.dec hlv3 ?_, hhp2, hsq2, hlk3, hb3⟩, rfl, rfl⟩
   rw [if_neg (fun h => hend (by rw [<- g82, <- show mks m.gr.nodes = mks m.nodes from mks_plN _]; exact h.1))]
  try simp only [cvS] at c70
  refine PW.exit ?_
  repeat rw [inBlk_n]
  try rw [thenK_n]
  refine LoopEnd.mkS (Sub.sel [2, 3, 4] 5 (by decide) _) (T'' := [(0, _), (2, _), (3, _), (4, _)]) (wi rfl) ?_
  refine ⟨(mdl rem v).length, by omega, q2, vq2, sgq2, out ++ [v], vout2, sgo2, left2, mdl rem v, ⟨?_, hhp2, hsq2, hso3, hlk2, hb2, rfl, by rw [List.length_append, List.length_singleton]; omega⟩, rfl, rfl⟩
  rw [List.drop_eq_nil_of_le (by omega)] at hK3
  exact hK3
 try simp only [cvS] at c40
 refine PW.exit ?_
 refine hK5 _ _ ?_
 refine PW.k1 2 rfl (PW.seqOps (OL.dp rfl (OL.dp rfl (OL.nil (PW.k1 2 rfl (PW.ret ?_))))))
 change (Exit.ret = Exit.normal ∨ Exit.ret = Exit.ret) /\ ∃ v, resV _ _ = some v /\ _
 obtain rfl : q = [] := List.eq_nil_of_length_eq_zero (by omega)
 exact ⟨.inr rfl, _, rfl, _, Sub.sel [2] 4 (by decide) _, sgo, out, rfl, hK.fin, hso⟩
end Go.Proofs.Gr

namespace Go.GP
open Go.SL
theorem mem_outE {ps : List PartP} {v w : Vtx} : w ∈ outE ps v ↔ (v, w) ∈ allE ps := by
 unfold outE
 simp only [List.mem_map, List.mem_filter, decide_eq_true_eq]
 constructor
 ·rintro ⟨e, ⟨h1, h2⟩, rfl⟩; subst h2; exact h1
 intro h; exact ⟨_, ⟨h, rfl⟩, rfl⟩
theorem Inv.edge {ps : List PartP} {G : Gr} (h : Inv ps G) (hs : Sq ps) {e : Vtx × Vtx} : e ∈ EG G.nodes ↔ e ∈ allE ps /\ e.1 ≠ rootV := by
 obtain ⟨v, w⟩ := e
 rw [mem_EG h.nk]
 constructor
 ·intro hw
  cases hv : mgt G.nodes v with
  | none => unfold nd at hw; rw [hv] at hw; simp [zN] at hw
  | some n =>
   have hn := h.node v n hv
   have hnd : nd G.nodes v = n := by unfold nd; rw [hv]; rfl
   rw [hnd] at hw
   exact ⟨mem_outE.1 (hn.next.mem_iff.1 hw), fun e => h.root hs (e ▸ mem_mks.2 ⟨n, hv⟩)⟩
 rintro ⟨h1, h2⟩
 have hk : v ∈ mks G.nodes := (h.keys v).2 ((hs.edge h1).1.resolve_left h2)
 have hv := nd_some hk
 exact (h.node v _ hv).next.mem_iff.2 (mem_outE.2 h1)
theorem Inv.noRoot {ps : List PartP} {G : Gr} (h : Inv ps G) (hs : Sq ps) : ∀ e ∈ EG G.nodes, e.2 ≠ rootV := by
 intro e he hr
 rcases (hs.edge ((h.edge hs).1 he).1).2 with h1 | h1
 ·exact root_ne_end (hr.symm.trans h1)
 exact (hs.line h1).1 hr
theorem Inv.tgt {ps : List PartP} {G : Gr} (h : Inv ps G) (hs : Sq ps) : ∀ e ∈ EG G.nodes, e.2 ∈ mks G.nodes ∨ e.2 = endV := by
 intro e he
 rcases (hs.edge ((h.edge hs).1 he).1).2 with h1 | h1
 ·exact .inr h1
 exact .inl ((h.keys _).2 h1)
theorem Inv.noEnd {ps : List PartP} {G : Gr} (h : Inv ps G) (hs : Sq ps) : endV ∉ mks G.nodes := fun hm => (hs.line ((h.keys _).1 hm)).2 rfl
theorem Inv.has {ps : List PartP} {G : Gr} (h : Inv ps G) {v : Vtx} : HasG G v ↔ HasV ps v := by
 unfold HasG HasV
 rw [h.keys]
theorem Inv.rch {ps : List PartP} {G : Gr} (h : Inv ps G) (hs : Sq ps) {a b : Vtx} (ha : a ≠ rootV) : Rch (EG G.nodes) a b ↔ Rch (allE ps) a b := by
 constructor
 ·exact fun hr => hr.mono fun e he => ((h.edge hs).1 he).1
 intro hr
 induction hr with
 | one h1 => exact .one ((h.edge hs).2 ⟨h1, ha⟩)
 | cons h1 _ ih =>
  have h2 := (h.edge hs).2 ⟨h1, ha⟩
  exact .cons h2 (ih (h.noRoot hs _ h2))
theorem Inv.bef {ps : List PartP} {G : Gr} (h : Inv ps G) (hs : Sq ps) {a b : Vtx} : BefG G a b ↔ Bef ps a b := by
 unfold BefG Bef
 rw [h.has, h.has]
 by_cases ha : a = rootV
 ·simp [ha]
 rw [h.rch hs ha]
theorem Inv.there {ps : List PartP} {G : Gr} (h : Inv ps G) {p : PartP} : ThereG G p ↔ (∃ q ∈ ps, q.name = p.name) ∨ ∃ v ∈ own p, v ∈ allV ps := by
 unfold ThereG
 constructor
 ·rintro (h1 | ⟨v, h1, h2⟩)
  ·obtain ⟨q, hq, hqn⟩ := List.mem_map.1 h1
   have := h.pname q hq
   refine .inl ⟨q.2, (h.part q.2).1 ?_, by rw [<- this]; exact hqn⟩
   rw [<- this]; exact hq
  exact .inr ⟨v, h1, (h.keys v).1 h2⟩
 rintro (⟨q, hq, hqn⟩ | ⟨v, h1, h2⟩)
 ·exact .inl (List.mem_map.2 ⟨_, (h.part q).2 hq, hqn⟩)
 exact .inr ⟨v, h1, (h.keys v).2 h2⟩
theorem Inv.new {ps : List PartP} {G : Gr} (h : Inv ps G) (hs : Sq ps) {p : PartP} : (¬ ThereG G p /\ Formed p /\ HasG G p.up /\ HasG G p.down /\ (∀ v ∈ p.gone, v ∈ mks G.nodes) /\ BefG G p.up p.down) ↔ New ps p := by
 constructor
 ·rintro ⟨h1, h2, h3, h4, h5, h6⟩
  exact ⟨fun q hq e => h1 (h.there.2 (.inl ⟨q, hq, e⟩)), fun v hv hm => h1 (h.there.2 (.inr ⟨v, hv, hm⟩)), h2.first, h2.upE, h2.downR, h2.gone0, h2.goneR, h.has.1 h3, h.has.1 h4, fun v hv => (h.keys v).1 (h5 v hv), (h.bef hs).1 h6⟩
 intro n
 refine ⟨fun ht => ?_, ⟨n.gone0, n.goneR, n.first, n.upE, n.downR⟩, h.has.2 n.up, h.has.2 n.down, fun v hv => (h.keys v).2 (n.gone v hv), (h.bef hs).2 n.bef⟩
 rcases h.there.1 ht with ⟨q, hq, e⟩ | ⟨v, hv, hm⟩
 ·exact n.name q hq e
 exact n.own v hv hm
theorem len_le : ∀ {l l' : List Vtx}, l.Nodup -> (∀ x ∈ l, x ∈ l') -> l.length <= l'.length
 | [], l', _, _ => by simp
 | a :: l, l', hn, h => by
  obtain ⟨h1, h2⟩ := List.nodup_cons.1 hn
  have ha : a ∈ l' := h a (by simp)
  have := len_le (l := l) (l' := l'.erase a) h2 (fun x hx => by
   have hne : x ≠ a := fun e => h1 (e ▸ hx)
   exact (List.mem_erase_of_ne hne).2 (h x (by simp [hx])))
  rw [List.length_erase_of_mem ha] at this
  have hp : 0 < l'.length := List.length_pos_of_mem ha
  simp only [List.length_cons]
  omega
theorem Inv.nodesLen {ps : List PartP} {G : Gr} (h : Inv ps G) : G.nodes.length <= (allV ps).length := by
 have := len_le h.nk (fun x hx => (h.keys x).1 hx)
 unfold mks at this
 rwa [List.length_map] at this
theorem outs_le (E : List (Vtx × Vtx)) : ∀ {K : List Vtx}, K.Nodup -> (K.flatMap fun v => E.filter fun e => decide (e.1 = v)).length <= E.length := by
 intro K hK
 induction E with
 | nil =>
  have : (K.flatMap fun v => ([] : List (Vtx × Vtx)).filter fun e => decide (e.1 = v)) = [] := by simp
  rw [this]; simp
 | cons e E ih =>
  have key : ∀ {K : List Vtx}, K.Nodup -> (K.flatMap fun v => (e :: E).filter fun x => decide (x.1 = v)).length <= (K.flatMap fun v => E.filter fun x => decide (x.1 = v)).length + if e.1 ∈ K then 1 else 0 := by
   intro K hK
   induction K with
   | nil => simp
   | cons a K ih =>
    obtain ⟨h1, h2⟩ := List.nodup_cons.1 hK
    have := ih h2
    rw [List.flatMap_cons, List.flatMap_cons, List.length_append, List.length_append, List.filter_cons]
    by_cases ha : e.1 = a
    ·subst ha
     rw [if_neg h1] at this
     simp only [decide_true, if_true, List.length_cons, List.mem_cons, true_or]
     omega
    have e2 : (e.1 ∈ a :: K) ↔ e.1 ∈ K := by simp [ha]
    simp only [ha, decide_false, Bool.false_eq_true, if_false, e2]
    omega
  have := key hK
  simp only [List.length_cons]
  split at this <;> omega
theorem Inv.edgesLen {ps : List PartP} {G : Gr} (h : Inv ps G) : (EG G.nodes).length <= (allE ps).length := by
 refine Nat.le_trans (Nat.le_of_eq ?_) (outs_le (allE ps) h.nk)
 unfold EG mks
 have : ∀ N : List (Vtx × NodeP), (∀ p ∈ N, p ∈ G.nodes) -> (N.flatMap fun p => p.2.next.map fun w => (p.1, w)).length = ((N.map (·.1)).flatMap fun v => (allE ps).filter fun e => decide (e.1 = v)).length := by
  intro N hN
  induction N with
  | nil => rfl
  | cons p N ih =>
   have hp := hN p (by simp)
   have hn := h.node p.1 p.2 ((mgt_mem h.nk).2 hp)
   have hl := hn.next.length_eq
   unfold outE at hl
   rw [List.length_map] at hl
   rw [List.flatMap_cons, List.map_cons, List.flatMap_cons, List.length_append, List.length_append, List.length_map, hl, ih fun q hq => hN q (by simp [hq])]
 exact this G.nodes fun p hp => hp
theorem allV_app (A B : List PartP) : allV (A ++ B) = allV A ++ allV B := by unfold allV; simp
end Go.GP

namespace Go.Proofs.Gr
open Go.SL Go.RowKit Go.Proofs Go.GP
theorem befB_iff {G : Gr} {a b : Vtx} : befB G a b = true ↔ BefG G a b := by
 constructor
 ·intro h
  exact Classical.byContradiction fun k => by rw [befB_false k] at h; cases h
 exact befB_true
theorem addE_zero' {G : Gr} {p : PartP} : addE G p = 0 ↔ ¬ ThereG G p /\ Formed p /\ HasG G p.up /\ HasG G p.down /\ (∀ v ∈ p.gone, v ∈ mks G.nodes) /\ BefG G p.up p.down := by
 constructor
 ·intro h
  by_cases h1 : ThereG G p
  ·rw [addE_there h1] at h; omega
  by_cases h2 : Formed p
  ·by_cases h3 : ¬ HasG G p.up ∨ ¬ HasG G p.down ∨ ∃ v ∈ p.gone, v ∉ mks G.nodes
   ·rw [addE_dep h1 h2 h3] at h; omega
   have k1 : HasG G p.up := Classical.byContradiction fun k => h3 (.inl k)
   have k2 : HasG G p.down := Classical.byContradiction fun k => h3 (.inr (.inl k))
   have k3 : ∀ v ∈ p.gone, v ∈ mks G.nodes := fun v hv => Classical.byContradiction fun k => h3 (.inr (.inr ⟨v, hv, k⟩))
   rw [addE_bef h1 h2 k1 k2 k3] at h
   split at h
   ·omega
   rename_i h4
   exact ⟨h1, h2, k1, k2, k3, befB_iff.1 (by simpa using h4)⟩
  rw [addE_form h1 h2] at h; omega
 rintro ⟨h1, h2, h3, h4, h5, h6⟩
 rw [addE_bef h1 h2 h3 h4 h5, if_neg (by rw [befB_iff.2 h6]; simp)]
theorem addE_zero {ps : List PartP} {G : Gr} (h : Inv ps G) (hs : Sq ps) {p : PartP} : addE G p = 0 ↔ New ps p := addE_zero'.trans (h.new hs)
open Classical in
noncomputable def came (ps : List PartP) (p : PartP) : List PartP := if New ps p then p :: ps else ps
open Classical in
theorem came_new {ps : List PartP} {p : PartP} (h : New ps p) : came ps p = p :: ps := by unfold came; rw [if_pos h]
open Classical in
theorem came_not {ps : List PartP} {p : PartP} (h : ¬ New ps p) : came ps p = ps := by unfold came; rw [if_neg h]
theorem addT_inv {ps : List PartP} {G : Gr} (h : Inv ps G) (hs : Sq ps) (p : PartP) : Inv (came ps p) (addT G p) /\ Sq (came ps p) := by
 unfold addT
 by_cases hn : New ps p
 ·rw [if_pos ((addE_zero h hs).2 hn), came_new hn]
  exact ⟨h.add hs hn, .cons hn hs⟩
 rw [if_neg (fun e => hn ((addE_zero h hs).1 e)), came_not hn]
 exact ⟨h, hs⟩
theorem Inv.get {ps : List PartP} {G : Gr} (h : Inv ps G) {p : PartP} (hp : p ∈ ps) : mgt G.parts p.name = some p := (mgt_mem h.pk).2 ((h.part p).2 hp)
end Go.Proofs.Gr

namespace Go.SL
open Go.ChangeShapes Go.WideShapes Go.ChangeAt Go.RowKit
section
variable {H : Type} {enc : TypeId × Value -> H} {P : Program} {W : World}
theorem trod_parts {fs : Array Field} {t : TypeId} {n : Nat} {cs : List Value} {y : DataW H × List MemPlace} (hu : P.underlying t = some (.struct fs)) (h : DataW.trod enc P W 0 (fun _ => true) true n t cs = some y) (hw : ∀ k ∈ y.1.weights P t, k <= reachBytes) :
  ∃ (m : Nat) (xs : List (DataW H × List MemPlace)), cs.length = P.cellsOf t /\ (DataW.weightsEach P (fs.toList.map (·.type)) (xs.map (·.1))).all (· <= reachBytes) = true /\
   ∀ (i : Nat) (f : Field), fs[i]? = some f -> ∃ y', xs[i]? = some y' /\ DataW.trod enc P W 0 (fun _ => true) true m f.type ((cs.drop f.offset).take (P.cellsOf f.type)) = some y' := by
 obtain ⟨xs, m, _, hx, hl, hlx, hq⟩ := DataW.trod_struct hu h
 have hd' : y.1 = .agg (xs.map (·.1)) := congrArg Prod.fst hx
 refine ⟨m, xs, hl, ?_, fun i f hi => ?_⟩
 ·rw [List.all_eq_true]
  intro k hk
  have := hw k (by rw [hd']; simp only [DataW.weights, hu]; exact hk)
  simpa using this
 have h1 := hq i f hi
 have hil : i < xs.length := by
  have := (Array.getElem?_eq_some_iff.1 hi).1
  omega
 rw [List.getElem?_eq_getElem hil] at h1
 exact ⟨_, List.getElem?_eq_getElem hil, by simpa using h1⟩
end
end Go.SL

namespace Go.Proofs.Gr
open Go.SL Go.RowKit Go.Proofs Go.GP
theorem bytes_of : ∀ {n : Nat} {cs : List Value}, FitsAll (List.replicate n (.int .u8)) cs -> ∃ l : List UInt8, l.length = n /\ cs = bytesC l
 | 0, [], _ => ⟨[], rfl, rfl⟩
 | 0, _ :: _, h => h.elim
 | n + 1, [], h => h.elim
 | n + 1, v :: cs, h => by
  obtain ⟨h1, h2⟩ := h
  obtain ⟨l, hl, rfl⟩ := bytes_of h2
  obtain ⟨z, hz, hw⟩ : ∃ z : Int, v = .int .u8 z /\ (Lit.int .u8 z).wf = true := h1
  subst hz
  simp only [Lit.wf, Bool.and_eq_true, decide_eq_true_eq] at hw
  have h0 : (0 : Int) <= z := hw.1
  have h3 : z <= 255 := hw.2
  refine ⟨UInt8.ofNat z.toNat :: l, by simp [hl], ?_⟩
  have e : ((UInt8.ofNat z.toNat).toNat : Int) = z := by
   rw [UInt8.toNat_ofNat']
   omega
  show _ = Value.int .u8 ((UInt8.ofNat z.toNat).toNat : Int) :: bytesC l
  rw [e]
theorem FitsAll.parts : ∀ {s t : List CK} {cs : List Value}, FitsAll (s ++ t) cs -> ∃ a b, cs = a ++ b /\ FitsAll s a /\ FitsAll t b
 | [], t, cs, h => ⟨[], cs, rfl, trivial, h⟩
 | c :: s, t, [], h => h.elim
 | c :: s, t, v :: cs, h => by
  obtain ⟨h1, h2⟩ := h
  obtain ⟨a, b, rfl, h3, h4⟩ := FitsAll.parts h2
  exact ⟨v :: a, b, rfl, ⟨h1, h3⟩, h4⟩
theorem one_of {b : List Value} {k : IntKind} (h : FitsAll [.int k] b) : ∃ z : Int, b = [.int k z] /\ (Lit.int k z).wf = true := by
 cases b with
 | nil => exact h.elim
 | cons u b =>
  cases b with
  | nil =>
   obtain ⟨z, rfl, hw⟩ : ∃ z : Int, u = .int k z /\ (Lit.int k z).wf = true := h.1
   exact ⟨z, rfl, hw⟩
  | cons v b => exact h.2.elim
theorem vtx_of {cs : List Value} (h : FitsAll (List.replicate 32 (.int .u8) ++ [.int .i64]) cs) : ∃ v : Vtx, cs = vtxL v /\ okV v := by
 obtain ⟨a, b, rfl, h1, h2⟩ := FitsAll.parts h
 obtain ⟨l, hl, rfl⟩ := bytes_of h1
 obtain ⟨z, rfl, hw⟩ := one_of h2
 simp only [Lit.wf, Bool.and_eq_true, decide_eq_true_eq] at hw
 exact ⟨(⟨l, hl⟩, z), rfl, hw.1, hw.2⟩
structure PartA (W : World) (p : PartM) : Prop where
 at_ : -9223372036854775808 <= p.at_ /\ p.at_ <= 9223372036854775807
 first : -9223372036854775808 <= p.first /\ p.first <= 9223372036854775807
 up : okV p.up
 down : okV p.down
 gone : ∀ v ∈ p.gone, okV v
 text : ∀ s ∈ p.lines, s.size <= 140737488351232
 rdL : Rd W [] p.LA (strs p.lines)
 rdG : Rd W [] p.GA (vtxs p.gone)
 gnil : p.GA = none -> p.gc = 0
 gcap : p.gone.length <= p.gc
 len : p.lines.length <= 1000000000000000 /\ p.gone.length <= 1000000000000000
theorem cut7 {α : Type} {cs : List α} (h : cs.length = 102) : cs = (cs.drop 0).take 32 ++ ((cs.drop 32).take 1 ++ ((cs.drop 33).take 1 ++ ((cs.drop 34).take 33 ++ ((cs.drop 67).take 33 ++ ((cs.drop 100).take 1 ++ (cs.drop 101).take 1))))) := by
 have cut : ∀ k n, cs.drop k = (cs.drop k).take n ++ cs.drop (k + n) := fun k n => by rw [<- List.drop_drop, List.take_append_drop]
 have e7 : (cs.drop 101).take 1 = cs.drop 101 := List.take_of_length_le (by rw [List.length_drop]; omega)
 rw [e7, <- cut 100 1, <- cut 67 33, <- cut 34 33, <- cut 33 1, <- cut 32 1, <- cut 0 32]
 rfl
set_option maxRecDepth 100000 in
theorem part_of {H : Type} {enc : TypeId × Value -> H} {W : World} {n : Nat} {cs : List Value} {y : DataW H × List MemPlace} (h : DataW.trod enc Tryz.prog W 0 (fun _ => true) true n 59 cs = some y) (hw : ∀ k ∈ y.1.weights Tryz.prog 59, k <= reachBytes) : ∃ p : PartM, cs = partC p /\ PartA W p := by
 obtain ⟨m, xs, hl, hsz, hf⟩ := trod_parts Tryz.underlying59 h hw
 rw [show Tryz.prog.cellsOf 59 = 102 by kernel_rfl] at hl
 have c30 : Tryz.prog.cellsOf 25 = 32 := by kernel_rfl
 have c3 : Tryz.prog.cellsOf 3 = 1 := by kernel_rfl
 have c32 : Tryz.prog.cellsOf 27 = 33 := by kernel_rfl
 have c33 : Tryz.prog.cellsOf 23 = 1 := by kernel_rfl
 have c34 : Tryz.prog.cellsOf 44 = 1 := by kernel_rfl
 obtain ⟨y0, _, t0⟩ := hf 0 _ rfl
 obtain ⟨y1, _, t1⟩ := hf 1 _ rfl
 obtain ⟨y2, _, t2⟩ := hf 2 _ rfl
 obtain ⟨y3, _, t3⟩ := hf 3 _ rfl
 obtain ⟨y4, _, t4⟩ := hf 4 _ rfl
 obtain ⟨y5, e5, t5⟩ := hf 5 _ rfl
 obtain ⟨y6, e6, t6⟩ := hf 6 _ rfl
 have s0 : DataW.trod enc Tryz.prog W 0 (fun _ => true) true m 25 ((cs.drop 0).take (Tryz.prog.cellsOf 25)) = some y0 := t0
 rw [c30] at s0
 have s1 : DataW.trod enc Tryz.prog W 0 (fun _ => true) true m 3 ((cs.drop 32).take (Tryz.prog.cellsOf 3)) = some y1 := t1
 rw [c3] at s1
 have s2 : DataW.trod enc Tryz.prog W 0 (fun _ => true) true m 3 ((cs.drop 33).take (Tryz.prog.cellsOf 3)) = some y2 := t2
 rw [c3] at s2
 have s3 : DataW.trod enc Tryz.prog W 0 (fun _ => true) true m 27 ((cs.drop 34).take (Tryz.prog.cellsOf 27)) = some y3 := t3
 rw [c32] at s3
 have s4 : DataW.trod enc Tryz.prog W 0 (fun _ => true) true m 27 ((cs.drop 67).take (Tryz.prog.cellsOf 27)) = some y4 := t4
 rw [c32] at s4
 have s5 : DataW.trod enc Tryz.prog W 0 (fun _ => true) true m 23 ((cs.drop 100).take (Tryz.prog.cellsOf 23)) = some y5 := t5
 rw [c33] at s5
 have s6 : DataW.trod enc Tryz.prog W 0 (fun _ => true) true m 44 ((cs.drop 101).take (Tryz.prog.cellsOf 44)) = some y6 := t6
 rw [c34] at s6
 have f0 := deep_fits 6 m 25 (List.replicate 32 (.int .u8)) _ y0 (by kernel_rfl) s0 (by rw [List.length_take, List.length_drop, hl]; rfl)
 have f3 := deep_fits 6 m 27 (List.replicate 32 (.int .u8) ++ [.int .i64]) _ y3 (by kernel_rfl) s3 (by rw [List.length_take, List.length_drop, hl]; rfl)
 have f4 := deep_fits 6 m 27 (List.replicate 32 (.int .u8) ++ [.int .i64]) _ y4 (by kernel_rfl) s4 (by rw [List.length_take, List.length_drop, hl]; rfl)
 obtain ⟨hb, hbl, e0⟩ := bytes_of f0
 obtain ⟨at_, e1, w1⟩ := DataW.trod_int Tryz.underlying3 s1
 obtain ⟨first, e2, w2⟩ := DataW.trod_int Tryz.underlying3 s2
 obtain ⟨up, e3, o3⟩ := vtx_of f3
 obtain ⟨down, e4, o4⟩ := vtx_of f4
 obtain ⟨LA, ll, lc, e5', T5⟩ := trod_slice1 Tryz.underlying23 s5
 obtain ⟨GA, gl, gc, e6', T6⟩ := trod_slice1 Tryz.underlying44 s6
 have e := cut7 hl
 obtain ⟨L, rfl, hLr, hLs, hLb, hLc⟩ := arg_stringW_list (j := 5) Tryz.underlying23 Tryz.underlying9 T5 hsz rfl (by rw [List.getElem?_map, e5]; rfl)
 obtain ⟨Gs, rfl, hGr, hGs, hGb, hGc⟩ := arg_list (j := 6) (f := vtxL) (R := okV) Tryz.underlying44 (fun n cs y hh hl => by
  rw [c32] at hl
  exact vtx_of (deep_fits 6 n 27 (List.replicate 32 (.int .u8) ++ [.int .i64]) cs y (by kernel_rfl) hh (by rw [hl]; rfl))) T6 hsz rfl (by rw [List.getElem?_map, e6]; rfl)
 rw [show Tryz.prog.bytesOf 9 = 16 by kernel_rfl] at hLb
 rw [show Tryz.prog.bytesOf 27 = 40 by kernel_rfl] at hGb
 simp only [reachBytes] at hLb hGb
 simp only [Lit.wf, Bool.and_eq_true, decide_eq_true_eq] at w1 w2
 refine ⟨⟨⟨hb, hbl⟩, at_, first, up, down, LA, lc, L, GA, gc, Gs⟩, ?_, ⟨w1.2, w2.2, o3, o4, hGs, hLs, hLr, hGr, nil_cap Tryz.underlying44 T6, hGc, (by show L.length <= _; omega), (by show Gs.length <= _; omega)⟩⟩
 rw [e, e0, e1, e2, e3, e4, e5', e6', partC_split]
end Go.Proofs.Gr

namespace Go.Proofs.Gr
open Go.SL Go.RowKit Go.Proofs Go.GP Go.HP
section
variable {V : Type} [DecidableEq V] {lt : V -> V -> Bool}
theorem Ord.irr (hO : Ord lt) (a : V) : lt a a = false := by
 cases h : lt a a with
 | false => rfl
 | true => have := hO.asymm a a h; rw [h] at this; cases this
def freeB (E : List (V × V)) (left : List V) (v : V) : Bool := E.all fun e => !(decide (e.2 = v) && decide (e.1 ∈ left))
theorem freeB_iff {E : List (V × V)} {left : List V} {v : V} : freeB E left v = true ↔ Free E left v := by
 unfold freeB Free
 rw [List.all_eq_true]
 constructor
 ·intro h e he h2 h1
  have := h e he
  simp [h1, h2] at this
 intro h e he
 by_cases h2 : e.2 = v
 ·have := h e he h2
  simp [this]
 simp [h2]
def leastL (lt : V -> V -> Bool) : List V -> Option V
 | [] => none
 | v :: l => match leastL lt l with | none => some v | some w => if lt w v then some w else some v
theorem leastL_none {l : List V} (h : leastL lt l = none) : l = [] := by
 cases l with
 | nil => rfl
 | cons v l =>
  unfold leastL at h
  cases e : leastL lt l with
  | none => rw [e] at h; cases h
  | some w => rw [e] at h; simp only at h; split at h <;> cases h
theorem leastL_some (hO : Ord lt) : ∀ {l : List V} {v : V}, leastL lt l = some v -> v ∈ l /\ ∀ u ∈ l, lt u v = false
 | [], v, h => by cases h
 | a :: l, v, h => by
  unfold leastL at h
  cases e : leastL lt l with
  | none =>
   rw [e] at h
   obtain rfl := Option.some.inj h
   rw [leastL_none e]
   exact ⟨by simp, fun u hu => by simp at hu; subst hu; exact Ord.irr hO u⟩
  | some w =>
   rw [e] at h
   obtain ⟨h1, h2⟩ := leastL_some hO e
   simp only at h
   split at h
   ·rename_i h3
    obtain rfl := Option.some.inj h
    refine ⟨by simp [h1], fun u hu => ?_⟩
    rcases List.mem_cons.1 hu with rfl | hu
    ·exact hO.asymm _ _ h3
    exact h2 u hu
   rename_i h3
   obtain rfl := Option.some.inj h
   refine ⟨by simp, fun u hu => ?_⟩
   rcases List.mem_cons.1 hu with rfl | hu
   ·exact Ord.irr hO u
   have h4 := h2 u hu
   cases h5 : lt u a with
   | false => rfl
   | true =>
    exfalso
    have h6 : lt w a = false := by simpa using h3
    have := hO.trans _ _ _ h6 h4
    rw [this] at h5; cases h5
def kahnF (lt : V -> V -> Bool) (E : List (V × V)) : Nat -> List V -> List V
 | 0, _ => []
 | n + 1, left => match leastL lt (left.filter (freeB E left)) with | none => [] | some v => v :: kahnF lt E n (left.erase v)
theorem kahnF_topo (hO : Ord lt) {E : List (V × V)} : ∀ (n : Nat) (left : List V), left.length <= n -> Topo lt E left (kahnF lt E n left)
 | 0, left, h => by
  have : left = [] := List.eq_nil_of_length_eq_zero (by omega)
  subst this
  exact .nil fun v hv => by cases hv
 | n + 1, left, h => by
  unfold kahnF
  cases e : leastL lt (left.filter (freeB E left)) with
  | none =>
   have h0 := leastL_none e
   refine .nil fun v hv hf => ?_
   have : v ∈ left.filter (freeB E left) := List.mem_filter.2 ⟨hv, freeB_iff.2 hf⟩
   rw [h0] at this
   cases this
  | some v =>
   obtain ⟨h1, h2⟩ := leastL_some hO e
   rw [List.mem_filter] at h1
   refine .cons h1.1 (freeB_iff.1 h1.2) (fun u hu hf => h2 u (List.mem_filter.2 ⟨hu, freeB_iff.2 hf⟩)) (kahnF_topo hO n _ ?_)
   rw [List.length_erase_of_mem h1.1]
   omega
theorem Topo.congr {E : List (V × V)} {left L : List V} (h : Topo lt E left L) : ∀ {E' : List (V × V)} {left' : List V}, (∀ e, e.1 ∈ left -> (e ∈ E ↔ e ∈ E')) -> left.Perm left' -> Topo lt E' left' L := by
 have fr : ∀ {E E' : List (V × V)} {left left' : List V} {v : V}, (∀ e, e.1 ∈ left -> (e ∈ E ↔ e ∈ E')) -> left.Perm left' -> Free E left v -> Free E' left' v := fun hE hp hf e he hv hm => by
  have hm' := hp.mem_iff.2 hm
  exact hf e ((hE e hm').2 he) hv hm'
 have fr' : ∀ {E E' : List (V × V)} {left left' : List V} {v : V}, (∀ e, e.1 ∈ left -> (e ∈ E ↔ e ∈ E')) -> left.Perm left' -> Free E' left' v -> Free E left v := fun hE hp hf e he hv hm => by
  exact hf e ((hE e hm).1 he) hv (hp.mem_iff.1 hm)
 induction h with
 | nil h =>
  intro E' left' hE hp
  exact .nil fun v hv hf => h v (hp.mem_iff.2 hv) (fr' hE hp hf)
 | cons h1 h2 h3 h4 ih =>
  intro E' left' hE hp
  exact .cons (hp.mem_iff.1 h1) (fr hE hp h2) (fun u hu hf => h3 u (hp.mem_iff.2 hu) (fr' hE hp hf)) (ih (fun e he => hE e (List.mem_of_mem_erase he)) (hp.erase _))
end
def topoF (ps : List PartP) : List Vtx := kahnF ltV (allE ps) (allV ps).length (allV ps)
theorem topoF_topo (ps : List PartP) : Topo ltV (allE ps) (allV ps) (topoF ps) := kahnF_topo ltV_ord _ _ (Nat.le_refl _)
theorem _root_.Go.GP.Sq.nodup {ps : List PartP} (h : Sq ps) : (allV ps).Nodup := by
 induction h with
 | nil => exact List.nodup_nil
 | @cons p ps h t ih =>
  rw [allV_cons, List.nodup_append]
  exact ⟨own_nodup p, ih, fun a ha b hb e => h.own a ha (e ▸ hb)⟩
theorem _root_.Go.GP.Inv.nodes_perm {ps : List PartP} {G : Gr} (h : Inv ps G) (hs : Sq ps) : (mks G.nodes).Perm (allV ps) := by
 rw [List.perm_iff_count]
 intro v
 rw [List.Nodup.count h.nk, List.Nodup.count (Sq.nodup hs)]
 simp only [h.keys]
theorem _root_.Go.GP.Inv.told {ps : List PartP} {G : Gr} (h : Inv ps G) (hs : Sq ps) {out : List Vtx} (ht : Topo ltV (EG G.nodes) (mks G.nodes) out) : out = topoF ps := by
 refine Topo.unique ltV_tot (Topo.congr ht (E' := allE ps) (fun e he => ?_) (h.nodes_perm hs)) (fun e => Iff.rfl) (List.Perm.refl _) (topoF_topo ps)
 rw [h.edge hs]
 constructor
 ·exact fun h => h.1
 intro h2
 exact ⟨h2, fun e2 => (Sq.line hs ((h.keys _).1 he)).1 e2⟩
def textV (ps : List PartP) (v : Vtx) : ByteArray := (((ps.flatMap fun p => (own p).zip p.lines).find? fun q => decide (q.1 = v)).map (·.2)).getD ⟨#[]⟩
def aliveV (ps : List PartP) (v : Vtx) : Bool := !((ps.flatMap (·.gone)).contains v)
def lineP (ps : List PartP) (v : Vtx) : LineP := ⟨v, textV ps v, aliveV ps v⟩
def linesP (ps : List PartP) : List LineP := (topoF ps).map (lineP ps)
theorem zip_mem {p : PartP} {q : Vtx × ByteArray} : q ∈ (own p).zip p.lines ↔ ∃ i, p.lines[i]? = some q.2 /\ p.vtx i = q.1 := by
 obtain ⟨v, s⟩ := q
 rw [List.mem_iff_getElem?]
 constructor
 ·rintro ⟨i, hi⟩
  rw [List.getElem?_zip_eq_some] at hi
  obtain ⟨h1, h2⟩ := hi
  refine ⟨i, h2, ?_⟩
  unfold own at h1
  rw [List.getElem?_map] at h1
  obtain ⟨k, hk, e⟩ := Option.map_eq_some_iff.1 h1
  rw [List.getElem?_range (by have := (List.getElem?_eq_some_iff.1 h2).1; omega)] at hk
  obtain rfl := Option.some.inj hk
  exact e
 rintro ⟨i, h1, h2⟩
 have hl := (List.getElem?_eq_some_iff.1 h1).1
 refine ⟨i, ?_⟩
 rw [List.getElem?_zip_eq_some]
 refine ⟨?_, h1⟩
 unfold own
 rw [List.getElem?_map, List.getElem?_range hl]
 exact congrArg some h2
theorem _root_.Go.GP.Inv.textV {ps : List PartP} {G : Gr} (h : Inv ps G) {v : Vtx} (hv : v ∈ allV ps) : Gr.textV ps v = (nd G.nodes v).text := by
 unfold Gr.textV
 obtain ⟨p, hp, hvo⟩ := mem_allV.1 hv
 obtain ⟨i, hi, rfl⟩ := mem_own.1 hvo
 have hm : (p.vtx i, p.lines[i]) ∈ ps.flatMap fun p => (own p).zip p.lines := List.mem_flatMap.2 ⟨p, hp, zip_mem.2 ⟨i, List.getElem?_eq_getElem hi, rfl⟩⟩
 cases e : (ps.flatMap fun p => (own p).zip p.lines).find? fun q => decide (q.1 = p.vtx i) with
 | none =>
  have := List.find?_eq_none.1 e _ hm
  simp at this
 | some q =>
  have h1 := List.find?_some e
  have h2 := List.mem_of_find?_eq_some e
  simp only [decide_eq_true_eq] at h1
  obtain ⟨p', hp', hz⟩ := List.mem_flatMap.1 h2
  obtain ⟨j, hj, hj2⟩ := zip_mem.1 hz
  have := h.text p' hp' j _ hj
  rw [hj2, h1] at this
  exact this.symm
theorem _root_.Go.GP.Inv.lineP {ps : List PartP} {G : Gr} (h : Inv ps G) {v : Vtx} (hv : v ∈ allV ps) : lineOf G.nodes v = Gr.lineP ps v := by
 unfold lineOf Gr.lineP
 rw [h.textV hv]
 have hn := (h.node v _ (nd_some ((h.keys v).2 hv))).gone
 rw [hn]
 congr 1
 unfold aliveV cntV
 rw [Bool.eq_iff_iff]
 simp only [decide_eq_true_eq, Bool.not_eq_true', List.contains_eq_mem, decide_eq_false_iff_not]
 rw [show (((ps.flatMap (·.gone)).count v : Nat) : Int) = 0 ↔ (ps.flatMap (·.gone)).count v = 0 by omega, List.count_eq_zero]
theorem topoF_mem {ps : List PartP} {v : Vtx} (h : v ∈ topoF ps) : v ∈ allV ps := Topo.sub (topoF_topo ps) v h
theorem _root_.Go.GP.Inv.lines {ps : List PartP} {G : Gr} (h : Inv ps G) : (topoF ps).map (lineOf G.nodes) = linesP ps := List.map_congr_left fun v hv => h.lineP (topoF_mem hv)
theorem topoF_perm_all {ps : List PartP} (hs : Sq ps) : (topoF ps).Perm (allV ps) := by
 obtain ⟨r, hr, _⟩ := hs.rank
 exact Topo.perm (topoF_topo ps) r fun e he _ _ => hr e he
theorem topoF_nodup {ps : List PartP} (hs : Sq ps) : (topoF ps).Nodup := (topoF_perm_all hs).nodup_iff.2 (Sq.nodup hs)
theorem topoF_order {ps : List PartP} (hs : Sq ps) {i k : Nat} (hi : i < (topoF ps).length) (hk : k <= i) : ¬ Bef ps (topoF ps)[i] (topoF ps)[k] := by
 intro h
 have hkl : k < (topoF ps).length := by omega
 obtain ⟨h1, h2⟩ := Topo.order (topoF_topo ps) (Sq.nodup hs)
 have hnr := (Sq.line hs (topoF_mem (List.getElem_mem hi))).1
 have hne := (Sq.line hs (topoF_mem (List.getElem_mem hkl))).2
 have hr := (h.2.2.2.2.2.resolve_left hnr).resolve_left hne
 have key : ∀ a b : Vtx, Rch (allE ps) a b -> ∀ (i k : Nat) (hi : i < (topoF ps).length) (hk : k < (topoF ps).length), (topoF ps)[i] = a -> (topoF ps)[k] = b -> i < k := by
  intro a b hab
  induction hab with
  | one he =>
   intro i k hi hk ha hb
   refine Classical.byContradiction fun hc => ?_
   by_cases e : k = i
   ·subst e
    rw [<- ha, <- hb] at he
    exact hs.irrefl (.one he)
   have := (List.pairwise_iff_getElem.1 h1) k i hk hi (by omega)
   rw [ha, hb] at this
   exact this he
  | @cons a c b he hcb ih =>
   intro i k hi hk ha hb
   obtain ⟨d, hd⟩ := hcb.src
   have hcs := (hs.edge hd).1
   have hct := (hs.edge he).2
   have hcv : c ∈ allV ps := by
    rcases hct with e | h3
    ·exfalso
     subst e
     exact hs.noEnd hcb
    exact h3
   obtain ⟨j, hj, hjc⟩ := List.mem_iff_getElem.1 ((topoF_perm_all hs).mem_iff.2 hcv)
   have hjk := ih j k hj hk hjc hb
   refine Classical.byContradiction fun hc => ?_
   by_cases e : j = i
   ·subst e
    rw [hjc] at ha
    rw [ha] at he
    exact hs.irrefl (.one he)
   have := (List.pairwise_iff_getElem.1 h1) j i hj hi (by omega)
   rw [ha, hjc] at this
   exact this he
 have := key _ _ hr i k hi hkl rfl rfl
 omega
end Go.Proofs.Gr

namespace Go.Proofs.Gr
open Go.SL Go.RowKit Go.Proofs Go.GP
set_option maxHeartbeats 1000000
structure GG (w0 : World) (X : SS) (m : GrM) (ps : List PartP) : Prop where
 ok : GOk w0 X m
 inv : GP.Inv ps m.gr
 sq : Sq ps
 n : (allV ps).length + ps.length <= 1000000
 lim : m.lim <= 500000000000
theorem edges_len (p : PartP) : (edges p).length <= (own p).length + 2 := by
 unfold edges
 split
 ·simp
 rw [edgeL_len]
 unfold way
 simp
theorem allE_len (ps : List PartP) : (allE ps).length <= (allV ps).length + 2 * ps.length := by
 induction ps with
 | nil => simp [allE]
 | cons p ps ih =>
  have := edges_len p
  unfold allE allV at ih ⊢
  rw [List.flatMap_cons, List.flatMap_cons, List.length_append, List.length_append, List.length_cons]
  omega
theorem GG.nE {w0 : World} {X : SS} {m : GrM} {ps : List PartP} (h : GG w0 X m ps) : (EG m.gr.nodes).length <= 1000000000 := by
 have := h.inv.edgesLen
 have := allE_len ps
 have := h.n
 omega
theorem GG.nN {w0 : World} {X : SS} {m : GrM} {ps : List PartP} (h : GG w0 X m ps) : m.nodes.length <= 1000000000 := by
 have h1 := h.inv.nodesLen
 have h2 : m.gr.nodes.length = m.nodes.length := List.length_map _
 have := h.n
 omega
theorem lines2_fc {w0 : World} {S X : SS} {m : GrM} {ps : List PartP} (h : GG w0 X m ps) (hX : Over X S) :
  FC Tryz.prog w0 38 [m.ptr] (GS m ++ S) (fun v S' => ∃ seg, S' = seg :: (GS m ++ S) /\ SlV 99 35 v (linesP ps).length (lines (linesP ps)) seg) := by
 have hk : mks m.gr.nodes = mks m.nodes := mks_plN _
 refine (lines_fc h.ok hX h.nE h.nN (fun e he => ?_) (fun he => ?_)).mono ?_
 ·rw [<- hk]; exact h.inv.tgt h.sq e he
 ·rw [<- hk] at he; exact h.inv.noEnd h.sq he
 rintro v S' ⟨seg, out, rfl, ht, hs⟩
 have e := h.inv.told h.sq ht
 subst e
 refine ⟨seg, rfl, ?_⟩
 rw [h.inv.lines] at hs
 have : (topoF ps).length = (linesP ps).length := (List.length_map _).symm
 rwa [this] at hs
open Classical in
noncomputable def befP (ps : List PartP) (a b : Vtx) : Bool := decide (Bef ps a b)
open Classical in
theorem befP_iff {ps : List PartP} {a b : Vtx} : befP ps a b = true ↔ Bef ps a b := by unfold befP; exact decide_eq_true_iff
theorem GG.bef {w0 : World} {X : SS} {m : GrM} {ps : List PartP} (h : GG w0 X m ps) {a b : Vtx} : befB m.gr a b = befP ps a b := by
 rw [Bool.eq_iff_iff, befB_iff, befP_iff, h.inv.bef h.sq]
theorem before2_fc {w0 : World} {S X : SS} {m : GrM} {ps : List PartP} (h : GG w0 X m ps) (hS : Over (GS m ++ X) S) {a b : Vtx} (ha : okV a) (hb : okV b) :
  FC Tryz.prog w0 52 [m.ptr, vtxV a, vtxV b] S (fun u S' => u = .bool (befP ps a b) /\ S' = S) := by
 rw [<- h.bef]
 exact before_fc h.ok hS ha hb (h.inv.noRoot h.sq) h.nE
theorem came_n (ps : List PartP) (p : PartP) : (allV (came ps p)).length + (came ps p).length <= (allV ps).length + ps.length + p.lines.length + 1 := by
 by_cases h : New ps p
 ·rw [came_new h, allV_cons, List.length_append, own_len, List.length_cons]
  omega
 rw [came_not h]; omega
theorem add2_fc {w0 : World} {S X : SS} {m : GrM} {ps : List PartP} (h : GG w0 X m ps) (hX : Over X S) {p : PartM} (hp : PartR p) (hrL : Rd w0 S p.LA (strs p.lines)) (hrG : Rd w0 S p.GA (vtxs p.gone))
  (hn : (allV ps).length + ps.length + p.lines.length + 1 <= 1000000) (hlim : m.lim + addL p <= 500000000000) :
  FC Tryz.prog w0 25 [m.ptr, partV p] (GS m ++ S) (fun v S' => ∃ m', v = .int .i64 (addE m.gr p.pl) /\ S' = GS m' ++ S /\ GG w0 X m' (came ps p.pl) /\ m'.lim <= m.lim + addL p /\ m'.r = m.r /\ ∀ x ∈ m.junk, x ∈ m'.junk) := by
 refine (add_fc h.ok hX hp hrL hrG (h.inv.noRoot h.sq) h.nE (by omega)).mono ?_
 rintro v S' ⟨m', h1, h2, h3, h4, h5, h6, h7⟩
 obtain ⟨i, s⟩ := addT_inv h.inv h.sq p.pl
 have hc := came_n ps p.pl
 have hl : p.pl.lines.length = p.lines.length := rfl
 exact ⟨m', h1, h2, ⟨h3, h4 ▸ i, s, by omega, by omega⟩, h6, h5, h7⟩
instance : Inhabited LineP := ⟨⟨v0, ⟨#[]⟩, false⟩⟩
theorem lines_get {l : List LineP} {k : Nat} (hk : k < l.length) {j : Nat} (hj : j < 35) : (lines l)[k * 35 + j]? = (lineC l[k])[j]? := by
 unfold lines
 rw [flat_get lineC_len l (k * 35 + j) (by omega), show (k * 35 + j) / 35 = k from by omega, show (k * 35 + j) % 35 = j from by omega, getElem!_pos l k hk]
theorem lines_some {w0 : World} {S : SS} {A : Option Addr} {l : List LineP} (h : Rd w0 S A (lines l)) (hk : 0 < l.length) : ∃ a, A = some a :=
 h.some (fun e => by have := lines_len l; rw [e] at this; simp at this; omega)
section
variable {w0 : World} {S : SS} {a : Addr} {l : List LineP} {k : Nat}
theorem line_at (h : Rd w0 S (some a) (lines l)) (hk : k < l.length) : ∀ (j : Nat) (v : Value), (lineC l[k])[j]? = some v -> Cell w0 S ((a.add (k * 35)).add j) v := by
 intro j v hj
 have hj2 : j < 35 := by have := (List.getElem?_eq_some_iff.1 hj).1; rwa [lineC_len] at this
 rw [addr_add_add]
 exact h.at (by rw [lines_get hk hj2]; exact hj)
theorem lineC_text (l : LineP) : (lineC l)[33]? = some (.string l.text) /\ (lineC l)[34]? = some (.bool l.alive) := by
 have h := vtxL_len l.v
 unfold lineC
 constructor
 ·rw [List.getElem?_append_right (by omega), h]; rfl
 rw [List.getElem?_append_right (by omega), h]; rfl
theorem line_text (h : Rd w0 S (some a) (lines l)) (hk : k < l.length) : Cell w0 S ((a.add (k * 35)).add 33) (.string l[k].text) := line_at h hk _ _ (lineC_text _).1
theorem line_vtx (h : Rd w0 S (some a) (lines l)) (hk : k < l.length) : ∀ (j : Nat) (v : Value), (vtxL l[k].v)[j]? = some v -> Cell w0 S (((a.add (k * 35)).add 0).add j) v := by
 intro j v hj
 rw [addr_add_add (a.add (k * 35)), Nat.zero_add]
 refine line_at h hk j v ?_
 unfold lineC
 rw [List.getElem?_append_left (List.getElem?_eq_some_iff.1 hj).1]
 exact hj
end
theorem ltake_snoc {α : Type} {l : List α} {k : Nat} (hk : k < l.length) : l.take (k + 1) = l.take k ++ [l[k]] := by
 rw [List.take_add_one, List.getElem?_eq_getElem hk]; rfl
theorem linesP_len {ps : List PartP} (hs : Sq ps) : (linesP ps).length = (allV ps).length := by
 unfold linesP
 rw [List.length_map, (topoF_perm_all hs).length_eq]
def hb1 (b : UInt8) : HashB := ⟨b :: List.replicate 31 0, by simp⟩
def str1 (b : UInt8) : ByteArray := ⟨#[b]⟩
def p1 (r : Nat) : PartM := ⟨hb1 1, 0, 0, rootV, endV, some ⟨r, 0, none⟩, 2, [str1 97, str1 98], none, 0, []⟩
def p2 (r : Nat) : PartM := ⟨hb1 2, 0, 0, (hb1 1, 0), (hb1 1, 1), some ⟨r, 0, none⟩, 1, [str1 120], none, 0, []⟩
def p3 (r g : Nat) : PartM := ⟨hb1 3, 0, 0, (hb1 1, 0), (hb1 1, 1), some ⟨r, 0, none⟩, 1, [str1 121], some ⟨g, 0, none⟩, 1, [(hb1 1, 0)]⟩
theorem part_stk {w0 : World} {S : SS} {P : Program} {n r k : Nat} {T : TT} {x v : PV} {u : PartM} {z : List Value} (hk : S[k]? = some [(r, .cells z 59 102)]) (hx : x.val T = some (.pointer (some ⟨r, 0, none⟩))) (hv : v.val T = some (partV u)) (hz : z.length = 102) :
  OW P w0 n (.st 102 x v) T S (fun _ S' => S' = S.set k (pseg r u)) := by
 refine (OW.st (k := k) (c := z) (u := partV u) hx hv hk ((List.size_toArray).trans (partC_len u)) (by omega) (partC_one u)).mono ?_
 rintro _ _ rfl
 rw [part_box, setAll (by rw [partC_len, hz])]
structure ActM where
 rm : Bool
 p : PartM
instance : Inhabited ActM := ⟨⟨false, zPart⟩⟩
theorem PartA.rng {W : World} {p : PartM} (h : PartA W p) (h1 : p.lines.length <= 12) (h2 : p.gone.length <= 12) (h3 : p.first <= 1000000) : PartR p :=
 ⟨h.at_, ⟨h.first.1, by omega⟩, by omega, by omega, h.gcap, h.gnil, h.up, h.down, h.gone⟩
end Go.Proofs.Gr

namespace Go.Proofs.Gr
open Go.SL Go.RowKit Go.Proofs Go.GP
def stepR (E : List (Vtx × Vtx)) (l : List Vtx) : List Vtx := l ++ (E.filter fun e => decide (e.1 ∈ l) && !decide (e.2 ∈ l)).map (·.2)
def iterR (E : List (Vtx × Vtx)) : Nat -> List Vtx -> List Vtx
 | 0, l => l
 | n + 1, l => iterR E n (stepR E l)
def reachL (E : List (Vtx × Vtx)) (a : Vtx) : List Vtx := iterR E E.length ((E.filter fun e => decide (e.1 = a)).map (·.2))
def closedB (E : List (Vtx × Vtx)) (a : Vtx) : Bool := E.all fun e => !(decide (e.1 = a) || decide (e.1 ∈ reachL E a)) || decide (e.2 ∈ reachL E a)
theorem iterR_sound {E : List (Vtx × Vtx)} {a : Vtx} : ∀ (n : Nat) (l : List Vtx), (∀ v ∈ l, Rch E a v) -> ∀ v ∈ iterR E n l, Rch E a v
 | 0, l, h => h
 | n + 1, l, h => by
  refine iterR_sound n _ fun v hv => ?_
  unfold stepR at hv
  rcases List.mem_append.1 hv with hv | hv
  ·exact h v hv
  obtain ⟨e, he, rfl⟩ := List.mem_map.1 hv
  rw [List.mem_filter, Bool.and_eq_true, decide_eq_true_eq] at he
  exact (h _ he.2.1).snoc he.1
theorem rch_iff {E : List (Vtx × Vtx)} {a b : Vtx} (hc : closedB E a = true) : Rch E a b ↔ b ∈ reachL E a := by
 unfold closedB at hc
 rw [List.all_eq_true] at hc
 have hc' : ∀ e ∈ E, (e.1 = a ∨ e.1 ∈ reachL E a) -> e.2 ∈ reachL E a := by
  intro e he h
  have := hc e he
  rcases h with h | h
  ·simpa [h] using this
  simpa [h] using this
 constructor
 ·have key : ∀ x y, Rch E x y -> (x = a ∨ x ∈ reachL E a) -> y ∈ reachL E a := by
   intro x y h
   induction h with
   | one h => exact fun hx => hc' _ h hx
   | cons h1 h2 ih => exact fun hx => ih (.inr (hc' _ h1 hx))
  exact fun h => key _ _ h (.inl rfl)
 exact iterR_sound _ _ (fun v hv => by
  obtain ⟨e, he, rfl⟩ := List.mem_map.1 hv
  rw [List.mem_filter, decide_eq_true_eq] at he
  obtain ⟨h1, h2⟩ := he
  subst h2
  exact .one h1) b
def hasC (ps : List PartP) (v : Vtx) : Bool := decide (v = rootV) || decide (v = endV) || decide (v ∈ allV ps)
theorem hasC_iff {ps : List PartP} {v : Vtx} : hasC ps v = true ↔ HasV ps v := by
 unfold hasC HasV
 simp [or_assoc]
def befC (ps : List PartP) (a b : Vtx) : Bool := hasC ps a && hasC ps b && !decide (a = b) && !decide (a = endV) && !decide (b = rootV) && (decide (a = rootV) || decide (b = endV) || decide (b ∈ reachL (allE ps) a))
theorem befC_iff {ps : List PartP} {a b : Vtx} (hc : closedB (allE ps) a = true) : befC ps a b = true ↔ Bef ps a b := by
 unfold befC Bef
 rw [rch_iff hc]
 simp only [Bool.and_eq_true, hasC_iff, Bool.or_eq_true, decide_eq_true_eq, Bool.not_eq_true', decide_eq_false_iff_not, and_assoc, ne_eq, or_assoc]
def formedC (p : PartP) : Bool := decide p.gone.Nodup && (p.gone.all fun v => !decide (v = rootV) && !decide (v = endV)) && decide (0 <= p.first) && !decide (p.up = endV) && !decide (p.down = rootV)
theorem formedC_iff {p : PartP} : formedC p = true ↔ Formed p := by
 unfold formedC
 simp only [Bool.and_eq_true, decide_eq_true_eq, Bool.not_eq_true', decide_eq_false_iff_not, List.all_eq_true]
 constructor
 ·rintro ⟨⟨⟨⟨h1, h2⟩, h3⟩, h4⟩, h5⟩
  exact ⟨h1, fun v hv => h2 v hv, h3, h4, h5⟩
 rintro ⟨h1, h2, h3, h4, h5⟩
 exact ⟨⟨⟨⟨h1, fun v hv => h2 v hv⟩, h3⟩, h4⟩, h5⟩
def thereC (ps : List PartP) (p : PartP) : Bool := (ps.any fun q => decide (q.name = p.name)) || (own p).any fun v => decide (v ∈ allV ps)
def addC (ps : List PartP) (p : PartP) : Int :=
 if thereC ps p then 6 else if !formedC p then 4 else if !hasC ps p.up || !hasC ps p.down || (p.gone.any fun v => !decide (v ∈ allV ps)) then 10 else if !befC ps p.up p.down then 4 else 0
theorem thereC_iff {ps : List PartP} {G : Gr} (h : GP.Inv ps G) {p : PartP} : thereC ps p = true ↔ ThereG G p := by
 rw [h.there]
 unfold thereC
 simp only [Bool.or_eq_true, List.any_eq_true, decide_eq_true_eq]
theorem addC_eq {ps : List PartP} {G : Gr} (h : GP.Inv ps G) (hs : Sq ps) {p : PartP} (hc : closedB (allE ps) p.up = true) : addE G p = addC ps p := by
 unfold addC
 by_cases h1 : ThereG G p
 ·rw [addE_there h1, if_pos ((thereC_iff h).2 h1)]
 rw [if_neg (fun k => h1 ((thereC_iff h).1 k))]
 by_cases h2 : ¬ Formed p
 ·rw [addE_form h1 h2, if_pos (by
   cases e : formedC p with
   | false => rfl
   | true => exact absurd (formedC_iff.1 e) h2)]
 have h2 := Classical.not_not.1 h2
 rw [if_neg (by rw [formedC_iff.2 h2]; simp)]
 have hh : ∀ v, hasC ps v = false ↔ ¬ HasG G v := fun v => by
  rw [h.has, <- hasC_iff]; simp
 have hg : (p.gone.any fun v => !decide (v ∈ allV ps)) = true ↔ ∃ v ∈ p.gone, v ∉ mks G.nodes := by
  simp only [List.any_eq_true, Bool.not_eq_true', decide_eq_false_iff_not, h.keys]
 by_cases h3 : ¬ HasG G p.up ∨ ¬ HasG G p.down ∨ ∃ v ∈ p.gone, v ∉ mks G.nodes
 ·rw [addE_dep h1 h2 h3, if_pos]
  simp only [Bool.or_eq_true, Bool.not_eq_true', hh, hg, or_assoc]
  exact h3
 rw [if_neg (by
  simp only [Bool.or_eq_true, Bool.not_eq_true', hh, hg, or_assoc]
  exact h3)]
 have k1 : HasG G p.up := Classical.byContradiction fun k => h3 (.inl k)
 have k2 : HasG G p.down := Classical.byContradiction fun k => h3 (.inr (.inl k))
 have k3 : ∀ v ∈ p.gone, v ∈ mks G.nodes := fun v hv => Classical.byContradiction fun k => h3 (.inr (.inr ⟨v, hv, k⟩))
 rw [addE_bef h1 h2 k1 k2 k3]
 have hb : befB G p.up p.down = befC ps p.up p.down := by
  rw [Bool.eq_iff_iff, befB_iff, h.bef hs, befC_iff hc]
 rw [hb]
 simp only [Bool.not_eq_true']
def newC (ps : List PartP) (p : PartP) : Bool := decide (addC ps p = 0) && closedB (allE ps) p.up
theorem newC_new {ps : List PartP} {p : PartP} (hs : Sq ps) (hi : ∃ G, GP.Inv ps G) (h : newC ps p = true) : New ps p := by
 unfold newC at h
 rw [Bool.and_eq_true, decide_eq_true_eq] at h
 obtain ⟨G, hG⟩ := hi
 exact (addE_zero hG hs).1 ((addC_eq hG hs h.2).trans h.1)
end Go.Proofs.Gr

namespace Go.Proofs.Gr
open Go.SL Go.RowKit Go.Proofs Go.GP
set_option maxHeartbeats 1000000
def partS (l : List PartM) : List Value := l.flatMap partC
theorem partS_len (l : List PartM) : (partS l).length = l.length * 102 := by unfold partS; rw [List.length_flatMap]; simp [partC_len, List.map_const']
theorem partS_get {l : List PartM} {k : Nat} (hk : k < l.length) {j : Nat} (hj : j < 102) : (partS l)[k * 102 + j]? = (partC l[k])[j]? := by
 unfold partS
 rw [flat_get partC_len l (k * 102 + j) (by omega), show (k * 102 + j) / 102 = k from by omega, show (k * 102 + j) % 102 = j from by omega, getElem!_pos l k hk]
theorem partS_some {w0 : World} {S : SS} {A : Option Addr} {l : List PartM} (h : Rd w0 S A (partS l)) (hk : 0 < l.length) : ∃ a, A = some a :=
 h.some (fun e => by have := partS_len l; rw [e] at this; simp at this; omega)
theorem partS_at {w0 : World} {S : SS} {a : Addr} {l : List PartM} {k : Nat} (h : Rd w0 S (some a) (partS l)) (hk : k < l.length) : ∀ (j : Nat) (v : Value), (partC l[k])[j]? = some v -> Cell w0 S ((a.add (k * 102)).add j) v := by
 intro j v hj
 have hj2 : j < 102 := by have := (List.getElem?_eq_some_iff.1 hj).1; rwa [partC_len] at this
 rw [addr_add_add]
 exact h.at (by rw [partS_get hk hj2]; exact hj)
structure PartRd (w0 : World) (S : SS) (p : PartM) : Prop where
 rdL : Rd w0 S p.LA (strs p.lines)
 rdG : Rd w0 S p.GA (vtxs p.gone)
 rng : PartR p
 small : p.lines.length <= 100 /\ p.gone.length <= 100
theorem PartRd.mono {w0 : World} {S S' : SS} {p : PartM} (h : PartRd w0 S p) (hs : Over S S') : PartRd w0 S' p := ⟨h.rdL.mono hs, h.rdG.mono hs, h.rng, h.small⟩
theorem over_nil {S : SS} : Over [] S := fun q h => by simp at h
def pls (l : List PartM) : List PartP := l.map PartM.pl
def q1 : PartP := (p1 0).pl
def q2 : PartP := (p2 0).pl
def q3 : PartP := (p3 0 0).pl
theorem GG.okV {w0 : World} {X : SS} {m : GrM} {ps : List PartP} (h : GG w0 X m ps) {v : Vtx} (hv : v ∈ allV ps) : Gr.okV v := by
 have hk : mks m.gr.nodes = mks m.nodes := mks_plN _
 have hv2 := (h.inv.keys v).2 hv
 rw [hk] at hv2
 obtain ⟨n, hn⟩ := mem_mks.1 hv2
 exact h.ok.nk _ (mgt_some_mem hn)
theorem linesP_order {ps : List PartP} (hs : Sq ps) {i k : Nat} (hi : i < (linesP ps).length) (hk : k <= i) : befP ps (linesP ps)[i].v ((linesP ps)[k]'(by omega)).v = false := by
 cases e : befP ps (linesP ps)[i].v ((linesP ps)[k]'(by omega)).v with
 | false => rfl
 | true =>
  have h := befP_iff.1 e
  have hl : (linesP ps).length = (topoF ps).length := List.length_map _
  have e : ∀ (j : Nat) (hj : j < (linesP ps).length), (linesP ps)[j].v = (topoF ps)[j]'(by omega) := fun j hj => congrArg LineP.v (List.getElem_map (lineP ps) (h := hj))
  rw [e, e] at h
  exact absurd h (topoF_order hs (by omega) hk)
theorem befP_trans {ps : List PartP} (hs : Sq ps) {a b c : Vtx} (h : befP ps a b = true) (k : befP ps b c = true) : befP ps a c = true := befP_iff.2 ((befP_iff.1 h).trans hs (befP_iff.1 k))
end Go.Proofs.Gr
