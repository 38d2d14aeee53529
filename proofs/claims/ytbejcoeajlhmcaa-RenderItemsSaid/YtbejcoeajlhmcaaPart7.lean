/- Walks. -/
import Derived.Test.YtbejcoeajlhmcaaPart6
set_option linter.unusedVariables false
set_option linter.unusedSimpArgs false
set_option linter.unusedSectionVars false

namespace Go.Proofs.Gr
open Go.SL Go.RowKit Go.Proofs Go.GP
set_option maxHeartbeats 1000000
structure ItemOk (w0 : World) (j : Seg) (x : ItemM) : Prop where
 rdL : Rd w0 (j :: []) x.LA (lines x.lines)
 rdM : Rd w0 (j :: []) x.MA (ints x.mids)
 nL : x.lines.length <= 60000
 nM : x.mids.length <= 60000
theorem ItemOk.more {w0 : World} {j j' : Seg} {x : ItemM} (h : ItemOk w0 j x) (hs : ∀ p ∈ j, p ∈ j') : ItemOk w0 j' x :=
 ⟨h.rdL.mono fun p hp => by simp at hp ⊢; exact hs p hp, h.rdM.mono fun p hp => by simp at hp ⊢; exact hs p hp, h.nL, h.nM⟩
theorem fill_line1 {T : TT} {x : PV} {u : LineP} {zero : List Value} (hx : x.val T = some (lineV u)) (hz : zero.length = 35) : fillP T zero [(0, 35, x)] = some (lineC u) := by
 simp only [fillP, hx]
 rw [if_pos ⟨(List.size_toArray).trans (lineC_len u), by omega⟩]
 exact congrArg some (setAll (by rw [hz]; exact (lineC_len u).symm))
theorem sub_pack {a b c p j : Seg} {S : SS} : Sub (b :: c :: [] :: (a ++ (p ++ j)) :: S) (a :: b :: c :: p :: j :: S) :=
 (Sub.cons (Sub.cons (Sub.nilL (Sub.refl _)))).trans ((Sub.cons (Sub.cons Sub.join)).trans ((Sub.cons (Sub.cons (Sub.cons Sub.join))).trans (Sub.sel [1, 2, 0, 3, 4] 5 (by decide) (a :: b :: c :: p :: j :: S))))
theorem sub_pack2 {a b c p j : Seg} {S : SS} : Sub (c :: p :: (a ++ j) :: S) (a :: b :: c :: p :: j :: S) :=
 (Sub.cons (Sub.cons Sub.join)).trans (Sub.sel [2, 3, 0, 4] 5 (by decide) (a :: b :: c :: p :: j :: S))
theorem sub_pack3 {a c p j s : Seg} {S : SS} : Sub (c :: (a ++ (p ++ j)) :: S) (a :: c :: p :: j :: s :: S) :=
 (Sub.cons Sub.join).trans ((Sub.cons (Sub.cons Sub.join)).trans (Sub.sel [1, 0, 2, 3] 5 (by decide) (a :: c :: p :: j :: s :: S)))
theorem sub_pack4 {c p j s : Seg} {S : SS} : Sub (c :: j :: S) (c :: p :: j :: s :: S) := Sub.sel [0, 2] 4 (by decide) (c :: p :: j :: s :: S)
theorem item_snoc {v : Value} {l : List ItemM} {x : ItemM} {seg : Seg} (h : SlV 73 3 v (l.length + 1) (itemS l ++ itemC x) seg) : SlV 73 3 v (l ++ [x]).length (itemS (l ++ [x])) seg := by
 rw [List.length_append, itemS_app]
 have : itemS [x] = itemC x := by simp [itemS]
 rw [this]
 exact h
theorem line_snoc {v : Value} {l : List LineP} {x : LineP} {seg : Seg} (h : SlV 43 35 v (l.length + 1) (lines l ++ lineC x) seg) : SlV 43 35 v (l ++ [x]).length (lines (l ++ [x])) seg := by
 rw [List.length_append, lines_app]
 have : lines [x] = lineC x := by simp [lines]
 rw [this]
 exact h
theorem midsK_len (ps : List PartP) (l : List LineP) (k : Nat) : (midsK ps l k).length <= k := by
 unfold midsK
 rw [List.length_map]
 exact Nat.le_trans (List.length_filter_le _ _) (by simp)
theorem blockM_ok {w0 : World} {ps : List PartP} {A M : Option Addr} {c mc : Nat} {l : List LineP} {s p j : Seg} (hs : SlV 3 1 (.slice M (midsK ps l l.length).length mc) (midsK ps l l.length).length (ints (midsK ps l l.length)) s) (hp : SlV 43 35 (.slice A l.length c) l.length (lines l) p) (hl : l.length <= 60000) :
  ItemOk w0 (s ++ (p ++ j)) ⟨A, c, l, true, M, mc, midsK ps l l.length⟩ := by
 obtain ⟨A1, c1, e1, _, _, r1⟩ := slv_rdL (w0 := w0) hs
 obtain ⟨A2, c2, e2, _, _, r2⟩ := slv_rdL (w0 := w0) hp
 obtain ⟨rfl, rfl⟩ : M = A1 /\ mc = c1 := by simpa using e1
 obtain ⟨rfl, rfl⟩ : A = A2 /\ c = c2 := by simpa using e2
 have := midsK_len ps l l.length
 exact ⟨(r2 []).mono fun q hq => by simp at hq ⊢; exact .inr (.inl hq), (r1 []).mono fun q hq => by simp at hq ⊢; exact .inl hq, hl, Nat.le_trans this hl⟩
theorem solidP_iff {ps : List PartP} {l : List LineP} {x : LineP} : solidP ps l x = true ↔ ∀ y ∈ l, (decide (x.v = y.v) || ordP ps x.v y.v) = true := by unfold solidP; rw [List.all_eq_true]
theorem items_fc {w0 : World} {S X : SS} {m : GrM} {ps : List PartP} (h : GG w0 X m ps) (hX : Over X S) (hn : (allV ps).length <= 60000) :
  FC Try.prog w0 33 [m.ptr] (GS m ++ S) (fun v S' => ∃ its seg junk, S' = seg :: junk :: (GS m ++ S) /\ its.map ItemM.pl = itemsP ps /\ SlV 73 3 v its.length (itemS its) seg /\ (∀ x ∈ its, ItemOk w0 junk x) /\ its.length <= 120001) := by
 refine FC.ofD Try.known33 (by simp) ?_
 unfold Try.pc33
 simp only [argT]
 refine PW.seqOps ?_
 refine OL.dp rfl ?_
 refine OL.nil ?_
 refine PW.k1 0 rfl ?_
 refine PW.scope ?_
 refine PW.seqOps ?_
 refine OL.dp rfl ?_
 refine OL.call trivial rfl (lines2_fc h hX) ?_
 rintro _ _ ⟨seg0, rfl, hsl0⟩
 obtain ⟨LA, lc, rfl, hLn, hLc, hrd0⟩ := slv_rdL (w0 := w0) hsl0
 have hln := linesP_len h.sq
 refine OL.call trivial rfl (deleteDead_fc hsl0 (by omega)) ?_
 rintro _ _ ⟨segl, rfl, hsl⟩
 obtain ⟨LB, lcB, rfl, hnB, hcB, hrdB⟩ := slv_rdL (w0 := w0) hsl
 have hlv := live_len (linesP ps)
 have hok : ∀ x ∈ live (linesP ps), okV x.v := fun x hx => by
  obtain ⟨v, hv, rfl⟩ := List.mem_map.1 (List.mem_filter.1 hx).1
  exact h.okV (topoF_mem hv)
 obtain ⟨L, hL⟩ : ∃ z, z = live (linesP ps) := ⟨_, rfl⟩
 have hip : itemsP ps = itemsL ps L := by rw [hL]; rfl
 rw [<- hL] at hrdB hcB hlv hok ⊢
 have hLn : L.length <= 60000 := by omega
 refine OL.dp rfl ?_
 refine OL.nil ?_
 refine PW.k2 0 3 rfl rfl ?_
 refine PW.seqOps ?_
 refine OL.dp rfl ?_
 refine OL.nil ?_
 refine PW.k3 0 3 4 rfl rfl rfl ?_
 refine PW.seqOps ?_
 refine OL.dp rfl ?_
 refine OL.nil ?_
 refine PW.k4 0 3 4 5 rfl rfl rfl rfl ?_
 refine PW.seq fun K1 hK1 => ?_
 refine PW.label ?_
 refine hK1 _ _ ?_
 refine PW.k4 0 3 4 5 rfl rfl rfl rfl ?_
 refine PW.seq fun K2 hK2 => ?_
 refine PW.seqOps ?_
 refine OL.subS (S' := [] :: [] :: [] :: segl :: (GS m ++ S)) (Sub.nilL (Sub.nilL (Sub.nilL (Sub.refl _)))) ?_
 refine OL.dp rfl ?_
 refine OL.dp rfl ?_
 refine OL.dp rfl ?_
 refine OL.nil ?_
 refine PW.k7 0 3 4 5 13 14 15 rfl rfl rfl rfl rfl rfl rfl ?_
 refine PW.block ?_
 refine PW.k7 0 3 4 5 13 14 15 rfl rfl rfl rfl rfl rfl rfl ?_
 refine PW.loopK (I := fun mm T S' => ∃ (k : Nat) (its : List ItemM) (op : List LineP) (vo vp : Value) (sgo sgp junk : Seg), (k <= L.length /\ mm = L.length - k /\ (its.map ItemM.pl, op) = foldI ps L k /\ its.length <= 2 * k /\ op.length <= k /\ SlV 73 3 vo its.length (itemS its) sgo /\ SlV 43 35 vp op.length (lines op) sgp /\ (∀ x ∈ its, ItemOk w0 junk x) /\ (∀ x ∈ op, x ∈ L)) /\ T = ([(0, m.ptr), (3, .slice LB L.length lcB), (4, vo), (5, vp), (13, .slice LB L.length lcB), (14, .int .i64 (L.length : Int)), (15, .int .i64 k)] : TT) /\ S' = sgo :: sgp :: junk :: segl :: (GS m ++ S)) (m := L.length) ⟨0, [], [], _, _, [], [], [], ⟨by omega, by omega, rfl, Nat.zero_le _, Nat.zero_le _, SlV.nil 73 3, SlV.nil 43 35, (fun x hx => by cases hx), (fun x hx => by cases hx)⟩, rfl, rfl⟩ ?_
 rintro mm _ _ ⟨k, its, op, vo, vp, sgo, sgp, junk, ⟨hk, hmm, hfold, hitl, hopl, hso, hsp, hio, hin⟩, rfl, rfl⟩
 obtain ⟨Ap, cp, rfl, hnp, hcp, hrdp⟩ := slv_rdL (w0 := w0) hsp
 refine PW.seqOps ?_
 refine OL.dp rfl ?_
 refine OL.nil ?_
 refine PW.k8 0 3 4 5 13 14 15 16 rfl rfl rfl rfl rfl rfl rfl rfl ?_
 refine PW.seq fun K3 hK3 => ?_
 refine PW.cond rfl (fun c16 => ?_) (fun c16 => ?_)
 ·try simp only [cvS] at c16
  have hkl : k < L.length := by omega
  obtain ⟨a0, rfl⟩ := lines_some (hrdB []) (by omega)
  refine PW.skip ?_
  refine hK3 _ _ ?_
  refine PW.k7 0 3 4 5 13 14 15 rfl rfl rfl rfl rfl rfl rfl ?_
  refine PW.seq fun K4 hK4 => ?_
  refine PW.block ?_
  refine PW.seqOps ?_
  refine OL.det trivial (.ixN rfl rfl rfl hkl) ?_
  refine OL.det trivial (.ldA rfl (lineC_len _) (line_at (rd_mem (hrdB []) (by simp)) hkl)) ?_
  refine OL.cons trivial OW.al ?_
  rintro _ _ ⟨r7, rfl, rfl⟩
  refine OL.cons trivial (line_st rfl rfl rfl) ?_
  rintro _ _ rfl
  change OL _ _ _ _ _ (lseg r7 L[k] :: sgo :: sgp :: junk :: segl :: (GS m ++ S)) _
  refine OL.nil ?_
  refine PW.k8 0 3 4 5 7 13 14 15 rfl rfl rfl rfl rfl rfl rfl rfl ?_
  refine PW.seq fun K5 hK5 => ?_
  refine PW.seqOps ?_
  refine OL.dp rfl ?_
  refine OL.dp rfl ?_
  refine OL.dp rfl ?_
  refine OL.nil ?_
  refine PW.k11 0 3 4 5 7 13 14 15 19 20 21 rfl rfl rfl rfl rfl rfl rfl rfl rfl rfl rfl ?_
  refine PW.block ?_
  refine PW.k11 0 3 4 5 7 13 14 15 19 20 21 rfl rfl rfl rfl rfl rfl rfl rfl rfl rfl rfl ?_
  refine PW.loopK (I := fun mj T S' => ∃ j : Nat, (j <= L.length /\ mj = L.length - j /\ ∀ y ∈ L.take j, (decide (L[k].v = y.v) || ordP ps L[k].v y.v) = true) /\ T = ([(0, m.ptr), (3, .slice (some a0) L.length lcB), (4, vo), (5, .slice Ap op.length cp), (7, .pointer (some ⟨r7, 0, none⟩)), (13, .slice (some a0) L.length lcB), (14, .int .i64 (L.length : Int)), (15, .int .i64 k), (19, .slice (some a0) L.length lcB), (20, .int .i64 (L.length : Int)), (21, .int .i64 j)] : TT) /\ S' = lseg r7 L[k] :: sgo :: sgp :: junk :: segl :: (GS m ++ S)) (m := L.length) ⟨0, ⟨by omega, by omega, by simp⟩, rfl, rfl⟩ ?_
  rintro mj _ _ ⟨j, ⟨hj, hmj, hall⟩, rfl, rfl⟩
  refine PW.seqOps ?_
  refine OL.dp rfl ?_
  refine OL.nil ?_
  refine PW.k12 0 3 4 5 7 13 14 15 19 20 21 22 rfl rfl rfl rfl rfl rfl rfl rfl rfl rfl rfl rfl ?_
  refine PW.seq fun K6 hK6 => ?_
  refine PW.cond rfl (fun c22 => ?_) (fun c22 => ?_)
  ·try simp only [cvS] at c22
   have hjl : j < L.length := by omega
   refine PW.skip ?_
   refine hK6 _ _ ?_
   refine PW.k11 0 3 4 5 7 13 14 15 19 20 21 rfl rfl rfl rfl rfl rfl rfl rfl rfl rfl rfl ?_
   refine PW.seq fun K7 hK7 => ?_
   refine PW.block ?_
   refine PW.seqOps ?_
   refine OL.det trivial (.ixN rfl rfl rfl hjl) ?_
   refine OL.det trivial (.ldA rfl (lineC_len _) (line_at (rd_mem (hrdB []) (by simp)) hjl)) ?_
   refine OL.cons trivial OW.al ?_
   rintro _ _ ⟨r9, rfl, rfl⟩
   refine OL.cons trivial (line_st rfl rfl rfl) ?_
   rintro _ _ rfl
   change OL _ _ _ _ _ (lseg r9 L[j] :: lseg r7 L[k] :: sgo :: sgp :: junk :: segl :: (GS m ++ S)) _
   refine OL.nil ?_
   refine PW.k12 0 3 4 5 7 9 13 14 15 19 20 21 rfl rfl rfl rfl rfl rfl rfl rfl rfl rfl rfl rfl ?_
   refine PW.seqOps ?_
   refine OL.dp rfl ?_
   refine OL.det trivial (.ldA rfl (vtxL_len _) (lcell_vtx (x := L[k]) (E := 43) (tot := 35) (List.mem_flatten.2 ⟨_, .tail _ (.head _), List.mem_singleton.2 rfl⟩))) ?_
   refine OL.dp rfl ?_
   refine OL.det trivial (.ldA rfl (vtxL_len _) (lcell_vtx (x := L[j]) (E := 43) (tot := 35) (List.mem_flatten.2 ⟨_, .head _, List.mem_singleton.2 rfl⟩))) ?_
   refine OL.det trivial (.eqD (neg := true) rfl rfl (eqL_vtx _ _)) ?_
   refine OL.bool trivial (Yields.pure rfl) (fun g30 => ?_) (fun g30 => ?_)
   ·try simp only [cvS] at g30
    refine OL.det rfl (.pure rfl) ?_
    refine OL.det rfl (.ldA rfl (lineC_len _) (lcell (x := L[k]) (E := 43) (tot := 35) (List.mem_flatten.2 ⟨_, .tail _ (.head _), List.mem_singleton.2 rfl⟩))) ?_
    refine OL.det rfl (.ldA rfl (lineC_len _) (lcell (x := L[j]) (E := 43) (tot := 35) (List.mem_flatten.2 ⟨_, .head _, List.mem_singleton.2 rfl⟩))) ?_
    refine OL.call rfl rfl (ordered_fc (x := L[k]) (y := L[j]) h ((Over.both hX).cons.cons.cons.cons.cons.cons) (hok _ (List.getElem_mem _)) (hok _ (List.getElem_mem _))) ?_
    rintro _ Sx ⟨rfl, hSx⟩
    rw [hSx]
    clear hSx
    refine OL.det rfl (.pure rfl) ?_
    refine OL.dp rfl ?_
    refine OL.nil ?_
    refine PW.k12 0 3 4 5 7 13 14 15 19 20 21 36 rfl rfl rfl rfl rfl rfl rfl rfl rfl rfl rfl rfl ?_
    refine PW.cond rfl (fun c36 => ?_) (fun c36 => ?_)
    ·skip
     refine PW.seqOps ?_
     refine OL.dp rfl ?_
     refine OL.det trivial (.ldA rfl (lineC_len _) (lcell (x := L[k]) (E := 43) (tot := 35) (List.mem_flatten.2 ⟨_, .tail _ (.head _), List.mem_singleton.2 rfl⟩))) ?_
     apply OL.app1 (k := 3)
     ·rfl
     ·rfl
     ·exact (List.size_toArray).trans (lineC_len _)
     ·rfl
     ·rfl
     ·rfl
     ·exact hsp
     ·exact lineC_one _
     ·omega
     ·unfold maxLen; omega
     intro v40 seg40 hsl40
     refine OL.dp rfl ?_
     refine OL.nil ?_
     refine PW.k7 0 3 4 5 13 14 15 rfl rfl rfl rfl rfl rfl rfl ?_
     refine PW.exit ?_
     refine hK4 _ _ ?_
     refine PW.k7 0 3 4 5 13 14 15 rfl rfl rfl rfl rfl rfl rfl ?_
     refine PW.ops ?_
     refine OL.det trivial (.add64 rfl rfl (by omega) (by omega)) ?_
     refine OL.dp rfl ?_
     refine OL.nil ?_
     repeat rw [inBlk_n]
     try rw [thenK_n]
     refine LoopEnd.mkS (Sub.drop (Sub.drop (Sub.refl _))) (T'' := [(0, _), (3, _), (4, _), (5, _), (13, _), (14, _), (15, _)]) ⟨rfl, rfl, rfl, rfl, rfl, rfl, rfl, trivial⟩ ?_
     have hsc := foldI_succ (ps := ps) hkl
     rw [<- hfold] at hsc
     unfold stepI at hsc
     have hkl2 : L.length - (k + 1) < mm := by omega
     have hns : ¬ solidP ps L L[k] = true := fun hs => by
      have h1 := solidP_iff.1 hs L[j] (List.getElem_mem hjl)
      simp at g30 c36
      simp [g30, c36] at h1
     rw [if_neg hns] at hsc
     exact ⟨_, hkl2, k + 1, its, op ++ [L[k]], vo, _, sgo, seg40, junk, ⟨by omega, rfl, hsc.symm, by omega, by rw [List.length_append]; exact Nat.succ_le_succ hopl, hso, line_snoc hsl40, hio, fun x hx => by
      rcases List.mem_append.1 hx with h | h
      ·exact hin x h
      rw [List.mem_singleton] at h; subst h; exact List.getElem_mem _⟩, rfl, rfl⟩
    skip
    refine PW.skip ?_
    refine hK7 _ _ ?_
    refine PW.k11 0 3 4 5 7 13 14 15 19 20 21 rfl rfl rfl rfl rfl rfl rfl rfl rfl rfl rfl ?_
    refine PW.ops ?_
    refine OL.det trivial (.add64 rfl rfl (by omega) (by omega)) ?_
    refine OL.dp rfl ?_
    refine OL.nil ?_
    repeat rw [inBlk_n]
    try rw [thenK_n]
    refine LoopEnd.mkS (Sub.drop (Sub.refl _)) (T'' := [(0, _), (3, _), (4, _), (5, _), (7, _), (13, _), (14, _), (15, _), (19, _), (20, _), (21, _)]) ⟨rfl, rfl, rfl, rfl, rfl, rfl, rfl, rfl, rfl, rfl, rfl, trivial⟩ ?_
    refine ⟨L.length - (j + 1), by omega, j + 1, ⟨by omega, rfl, fun y hy => ?_⟩, rfl, rfl⟩
    rw [ltake_snoc hjl] at hy
    rcases List.mem_append.1 hy with h | h
    ·exact hall y h
    rw [List.mem_singleton] at h
    subst h
    first
     | (simp [g30]; done)
     | (simp at c36; simp [c36]; done)
     | (simp [c36]; done)
   try simp only [cvS] at g30
   refine OL.off rfl rfl ?_
   refine OL.off rfl rfl ?_
   refine OL.off rfl rfl ?_
   refine OL.off rfl rfl ?_
   refine OL.off rfl rfl ?_
   refine OL.dp rfl ?_
   refine OL.nil ?_
   refine PW.k12 0 3 4 5 7 13 14 15 19 20 21 36 rfl rfl rfl rfl rfl rfl rfl rfl rfl rfl rfl rfl ?_
   refine PW.ite (b := false) rfl ?_
   rw [if_neg Bool.false_ne_true]
   refine PW.skip ?_
   refine hK7 _ _ ?_
   refine PW.k11 0 3 4 5 7 13 14 15 19 20 21 rfl rfl rfl rfl rfl rfl rfl rfl rfl rfl rfl ?_
   refine PW.ops ?_
   refine OL.det trivial (.add64 rfl rfl (by omega) (by omega)) ?_
   refine OL.dp rfl ?_
   refine OL.nil ?_
   repeat rw [inBlk_n]
   try rw [thenK_n]
   refine LoopEnd.mkS (Sub.drop (Sub.refl _)) (T'' := [(0, _), (3, _), (4, _), (5, _), (7, _), (13, _), (14, _), (15, _), (19, _), (20, _), (21, _)]) ⟨rfl, rfl, rfl, rfl, rfl, rfl, rfl, rfl, rfl, rfl, rfl, trivial⟩ ?_
   refine ⟨L.length - (j + 1), by omega, j + 1, ⟨by omega, rfl, fun y hy => ?_⟩, rfl, rfl⟩
   rw [ltake_snoc hjl] at hy
   rcases List.mem_append.1 hy with h | h
   ·exact hall y h
   rw [List.mem_singleton] at h
   subst h
   first
    | (simp [g30]; done)
    | (simp at c36; simp [c36]; done)
    | (simp [c36]; done)
  try simp only [cvS] at c22
  refine PW.exit ?_
  refine hK5 _ _ ?_
  refine PW.k8 0 3 4 5 7 13 14 15 rfl rfl rfl rfl rfl rfl rfl rfl ?_
  refine PW.seq fun K8 hK8 => ?_
  refine PW.seqOps ?_
  refine OL.dp rfl ?_
  refine OL.dp rfl ?_
  refine OL.dp rfl ?_
  refine OL.nil ?_
  refine PW.k9 0 3 4 5 7 13 14 15 44 rfl rfl rfl rfl rfl rfl rfl rfl rfl ?_
  refine PW.cond rfl (fun c44 => ?_) (fun c44 => ?_)
  ·try simp only [cvS] at c44
   refine PW.seqOps ?_
   refine OL.dp rfl ?_
   refine OL.dp rfl ?_
   refine OL.dp rfl ?_
   refine OL.call trivial rfl (by exact block_fc (X := X) h ((Over.both hX).cons.cons.cons.cons.cons) (rd_mem (hrdp []) (by simp)) (fun x hx => hok x (hin x hx)) (by omega)) ?_
   rintro _ _ ⟨Mb, mcb, segm, rfl, rfl, hsm⟩
   apply OL.app1 (k := 2)
   ·rfl
   ·rfl
   ·rfl
   ·rfl
   ·rfl
   ·rfl
   ·exact hso
   ·rfl
   ·omega
   ·unfold maxLen; omega
   intro v50 seg50 hsl50
   refine OL.subS (S' := lseg r7 L[k] :: seg50 :: [] :: (segm ++ (sgp ++ junk)) :: segl :: (GS m ++ S)) sub_pack ?_
   have hok2 := blockM_ok (j := junk) hsm hsp (w0 := w0) (by omega)
   have hso2 := item_snoc (x := ⟨Ap, cp, op, true, Mb, mcb, midsK ps op op.length⟩) hsl50
   refine OL.dp rfl ?_
   refine OL.nil ?_
   refine PW.k7 0 3 4 7 13 14 15 rfl rfl rfl rfl rfl rfl rfl ?_
   refine PW.ops ?_
   refine OL.dp rfl ?_
   refine OL.nil ?_
   refine hK8 _ _ ?_
   refine PW.k8 0 3 4 5 7 13 14 15 rfl rfl rfl rfl rfl rfl rfl rfl ?_
   refine PW.ops ?_
   refine OL.dp rfl ?_
   refine OL.det trivial (.ldA rfl (lineC_len _) (lcell (x := L[k]) (E := 43) (tot := 35) (List.mem_flatten.2 ⟨_, .head _, List.mem_singleton.2 rfl⟩))) ?_
   refine OL.cons trivial (OW.bsl (cs := lineC L[k]) (fill_line1 rfl rfl)) ?_
   rintro _ _ ⟨r53, rfl, rfl⟩
   rw [lineC_len]
   refine OL.det trivial (.build (cs := itemC ⟨some ⟨r53, 0, none⟩, 1, [L[k]], false, none, 0, []⟩) rfl) ?_
   apply OL.app1 (k := 2)
   ·rfl
   ·rfl
   ·rfl
   ·rfl
   ·rfl
   ·rfl
   ·exact (by first | exact hso2 | exact hso)
   ·rfl
   ·(first | omega | (simp only [List.length_append, List.length_cons, List.length_nil]; omega))
   ·unfold maxLen; (first | omega | (simp only [List.length_append, List.length_cons, List.length_nil]; omega))
   intro v56 seg56 hsl56
   refine OL.dp rfl ?_
   refine OL.nil ?_
   refine hK4 _ _ ?_
   refine PW.k7 0 3 4 5 13 14 15 rfl rfl rfl rfl rfl rfl rfl ?_
   refine PW.ops ?_
   refine OL.det trivial (.add64 rfl rfl (by omega) (by omega)) ?_
   refine OL.dp rfl ?_
   refine OL.nil ?_
   repeat rw [inBlk_n]
   try rw [thenK_n]
   refine LoopEnd.mkS (sub_pack2) (T'' := [(0, _), (3, _), (4, _), (5, _), (13, _), (14, _), (15, _)]) ⟨rfl, rfl, rfl, rfl, rfl, rfl, rfl, trivial⟩ ?_
   have hsc := foldI_succ (ps := ps) hkl
   rw [<- hfold] at hsc
   unfold stepI at hsc
   have hkl2 : L.length - (k + 1) < mm := by omega
   have hs : solidP ps L L[k] = true := solidP_iff.2 fun y hy => hall y (by rw [List.take_of_length_le (by omega)]; exact hy)
   have hne : op ≠ [] := fun e => by subst e; simp at c44
   rw [if_pos hs] at hsc
   unfold shut at hsc
   rw [if_neg hne] at hsc
   have hrow : ItemOk w0 ([(r53, AO.cells (lineC L[k]) 43 35)] ++ (segm ++ (sgp ++ junk))) ⟨some ⟨r53, 0, none⟩, 1, [L[k]], false, none, 0, []⟩ := ⟨(Rd.own (E := 43) (tot := 35) (by simp [lines])).mono (fun q hq => hq), Rd.nil, Nat.succ_le_succ (Nat.zero_le _), Nat.zero_le _⟩
   exact ⟨_, hkl2, k + 1, its ++ [⟨Ap, cp, op, true, Mb, mcb, midsK ps op op.length⟩] ++ [⟨some ⟨r53, 0, none⟩, 1, [L[k]], false, none, 0, []⟩], [], _, _, seg56, [], [(r53, AO.cells (lineC L[k]) 43 35)] ++ (segm ++ (sgp ++ junk)), ⟨by omega, rfl, by rw [hsc, List.map_append, List.map_append]; rfl, by simp only [List.length_append, List.length_cons, List.length_nil]; omega, Nat.zero_le _, item_snoc hsl56, SlV.nil 43 35, fun x hx => by
    rcases List.mem_append.1 hx with h | h
    ·rcases List.mem_append.1 h with h | h
     ·exact (hio x h).more fun q hq => by simp [hq]
     rw [List.mem_singleton] at h; subst h; exact hok2.more fun q hq => List.mem_append_right _ hq
    rw [List.mem_singleton] at h; subst h; exact hrow, fun x hx => by cases hx⟩, rfl, rfl⟩
  try simp only [cvS] at c44
  refine PW.skip ?_
  refine hK8 _ _ ?_
  refine PW.k8 0 3 4 5 7 13 14 15 rfl rfl rfl rfl rfl rfl rfl rfl ?_
  refine PW.ops ?_
  refine OL.dp rfl ?_
  refine OL.det trivial (.ldA rfl (lineC_len _) (lcell (x := L[k]) (E := 43) (tot := 35) (List.mem_flatten.2 ⟨_, .head _, List.mem_singleton.2 rfl⟩))) ?_
  refine OL.cons trivial (OW.bsl (cs := lineC L[k]) (fill_line1 rfl rfl)) ?_
  rintro _ _ ⟨r53, rfl, rfl⟩
  rw [lineC_len]
  refine OL.det trivial (.build (cs := itemC ⟨some ⟨r53, 0, none⟩, 1, [L[k]], false, none, 0, []⟩) rfl) ?_
  apply OL.app1 (k := 2)
  ·rfl
  ·rfl
  ·rfl
  ·rfl
  ·rfl
  ·rfl
  ·exact (by first | exact hso2 | exact hso)
  ·rfl
  ·(first | omega | (simp only [List.length_append, List.length_cons, List.length_nil]; omega))
  ·unfold maxLen; (first | omega | (simp only [List.length_append, List.length_cons, List.length_nil]; omega))
  intro v56 seg56 hsl56
  refine OL.dp rfl ?_
  refine OL.nil ?_
  refine hK4 _ _ ?_
  refine PW.k7 0 3 4 5 13 14 15 rfl rfl rfl rfl rfl rfl rfl ?_
  refine PW.ops ?_
  refine OL.det trivial (.add64 rfl rfl (by omega) (by omega)) ?_
  refine OL.dp rfl ?_
  refine OL.nil ?_
  repeat rw [inBlk_n]
  try rw [thenK_n]
  refine LoopEnd.mkS (sub_pack2) (T'' := [(0, _), (3, _), (4, _), (5, _), (13, _), (14, _), (15, _)]) ⟨rfl, rfl, rfl, rfl, rfl, rfl, rfl, trivial⟩ ?_
  have hsc := foldI_succ (ps := ps) hkl
  rw [<- hfold] at hsc
  unfold stepI at hsc
  have hkl2 : L.length - (k + 1) < mm := by omega
  have hs : solidP ps L L[k] = true := solidP_iff.2 fun y hy => hall y (by rw [List.take_of_length_le (by omega)]; exact hy)
  have hne : op = [] := List.eq_nil_of_length_eq_zero (by omega)
  rw [if_pos hs] at hsc
  unfold shut at hsc
  rw [if_pos hne] at hsc
  have hrow : ItemOk w0 ([(r53, AO.cells (lineC L[k]) 43 35)] ++ junk) ⟨some ⟨r53, 0, none⟩, 1, [L[k]], false, none, 0, []⟩ := ⟨(Rd.own (E := 43) (tot := 35) (by simp [lines])).mono (fun q hq => hq), Rd.nil, Nat.succ_le_succ (Nat.zero_le _), Nat.zero_le _⟩
  exact ⟨_, hkl2, k + 1, its ++ [⟨some ⟨r53, 0, none⟩, 1, [L[k]], false, none, 0, []⟩], [], _, _, seg56, sgp, [(r53, AO.cells (lineC L[k]) 43 35)] ++ junk, ⟨by omega, rfl, by rw [hsc, List.map_append]; simp; rfl, by simp only [List.length_append, List.length_cons, List.length_nil]; omega, Nat.zero_le _, item_snoc hsl56, by subst hne; exact hsp, fun x hx => by
   rcases List.mem_append.1 hx with h | h
   ·exact (hio x h).more fun q hq => by simp [hq]
   rw [List.mem_singleton] at h; subst h; exact hrow, fun x hx => by cases hx⟩, rfl, rfl⟩
 try simp only [cvS] at c16
 refine PW.exit ?_
 refine hK2 _ _ ?_
 refine PW.k3 0 4 5 rfl rfl rfl ?_
 refine PW.seq fun K9 hK9 => ?_
 refine PW.seqOps ?_
 refine OL.dp rfl ?_
 refine OL.dp rfl ?_
 refine OL.dp rfl ?_
 refine OL.nil ?_
 refine PW.k4 0 4 5 60 rfl rfl rfl rfl ?_
 refine PW.cond rfl (fun c60 => ?_) (fun c60 => ?_)
 ·try simp only [cvS] at c60
  refine PW.ops ?_
  refine OL.dp rfl ?_
  refine OL.dp rfl ?_
  refine OL.dp rfl ?_
  refine OL.call trivial rfl (by exact block_fc (X := X) h ((Over.both hX).cons.cons.cons.cons) (rd_mem (hrdp []) (by simp)) (fun x hx => hok x (hin x hx)) (by omega)) ?_
  rintro _ _ ⟨Mb, mcb, segm, rfl, rfl, hsm⟩
  apply OL.app1 (k := 1)
  ·rfl
  ·rfl
  ·rfl
  ·rfl
  ·rfl
  ·rfl
  ·exact hso
  ·rfl
  ·omega
  ·unfold maxLen; omega
  intro v66 seg66 hsl66
  have hok2 := blockM_ok (j := junk) hsm hsp (w0 := w0) (by omega)
  have hso2 := item_snoc (x := ⟨Ap, cp, op, true, Mb, mcb, midsK ps op op.length⟩) hsl66
  have hke : k = L.length := by omega
  have hsub : Sub (seg66 :: (segm ++ (sgp ++ junk)) :: (GS m ++ S)) (segm :: seg66 :: sgp :: junk :: segl :: (GS m ++ S)) := sub_pack3
  have hpost : ∃ its2 seg2 junk2, seg66 :: (segm ++ (sgp ++ junk)) :: (GS m ++ S) = seg2 :: junk2 :: (GS m ++ S) /\ its2.map ItemM.pl = itemsP ps /\ SlV 73 3 v66 its2.length (itemS its2) seg2 /\ (∀ x ∈ its2, ItemOk w0 junk2 x) /\ its2.length <= 120001 := ⟨its ++ [⟨Ap, cp, op, true, Mb, mcb, midsK ps op op.length⟩], seg66, segm ++ (sgp ++ junk), rfl, by
   subst hke
   have hne : op ≠ [] := fun e => by subst e; simp at c60
   rw [hip]
   unfold itemsL
   rw [<- hfold]
   unfold shut
   rw [if_neg hne, List.map_append]
   rfl, hso2, (fun x hx => by
   rcases List.mem_append.1 hx with h | h
   ·exact (hio x h).more fun q hq => by simp [hq]
   rw [List.mem_singleton] at h; subst h; exact hok2), by rw [List.length_append]; simp only [List.length_cons, List.length_nil]; omega⟩
  refine OL.dp rfl ?_
  refine OL.nil ?_
  refine hK9 _ _ ?_
  refine PW.k1 4 rfl ?_
  refine PW.seqOps ?_
  refine OL.dp rfl ?_
  refine OL.dp rfl ?_
  refine OL.nil ?_
  refine PW.k1 2 rfl ?_
  refine PW.ret ?_
  change (Exit.ret = Exit.normal ∨ Exit.ret = Exit.ret) /\ ∃ v, resV _ _ = some v /\ _
  exact ⟨.inr rfl, _, rfl, _, hsub, hpost⟩
 try simp only [cvS] at c60
 have hke : k = L.length := by omega
 have hsub : Sub (sgo :: junk :: (GS m ++ S)) (sgo :: sgp :: junk :: segl :: (GS m ++ S)) := sub_pack4
 have hpost : ∃ its2 seg2 junk2, sgo :: junk :: (GS m ++ S) = seg2 :: junk2 :: (GS m ++ S) /\ its2.map ItemM.pl = itemsP ps /\ SlV 73 3 vo its2.length (itemS its2) seg2 /\ (∀ x ∈ its2, ItemOk w0 junk2 x) /\ its2.length <= 120001 := ⟨its, sgo, junk, rfl, by
  subst hke
  have hne : op = [] := List.eq_nil_of_length_eq_zero (by omega)
  rw [hip]
  unfold itemsL
  rw [<- hfold]
  unfold shut
  rw [if_pos hne]
  simp, hso, hio, by omega⟩
 refine PW.skip ?_
 refine hK9 _ _ ?_
 refine PW.k1 4 rfl ?_
 refine PW.seqOps ?_
 refine OL.dp rfl ?_
 refine OL.dp rfl ?_
 refine OL.nil ?_
 refine PW.k1 2 rfl ?_
 refine PW.ret ?_
 change (Exit.ret = Exit.normal ∨ Exit.ret = Exit.ret) /\ ∃ v, resV _ _ = some v /\ _
 exact ⟨.inr rfl, _, rfl, _, hsub, hpost⟩
end Go.Proofs.Gr

namespace Go.Proofs.Gr
open Go.SL Go.RowKit Go.Proofs Go.GP
set_option maxHeartbeats 1000000
theorem ints_at {w0 : World} {S : SS} {a : Addr} {l : List Int} (h : Rd w0 S (some a) (ints l)) {k : Nat} (hk : k < l.length) : Cell w0 S (a.add k) (.int .i64 l[k]) := h.at (by unfold ints; rw [List.getElem?_map, List.getElem?_eq_getElem hk]; rfl)
theorem ints_some {w0 : World} {S : SS} {A : Option Addr} {l : List Int} (h : Rd w0 S A (ints l)) (hk : 0 < l.length) : ∃ a, A = some a :=
 h.some (fun e => by have := congrArg List.length e; simp [ints] at this; subst this; simp at hk)
theorem itemS_get {l : List ItemM} {k : Nat} (hk : k < l.length) {j : Nat} (hj : j < 3) : (itemS l)[k * 3 + j]? = (itemC l[k])[j]? := by
 unfold itemS
 rw [flat_get itemC_len l (k * 3 + j) (by omega), show (k * 3 + j) / 3 = k from by omega, show (k * 3 + j) % 3 = j from by omega, getElem!_pos l k hk]
theorem itemS_some {w0 : World} {S : SS} {A : Option Addr} {l : List ItemM} (h : Rd w0 S A (itemS l)) (hk : 0 < l.length) : ∃ a, A = some a :=
 h.some (fun e => by have := itemS_len l; rw [e] at this; simp at this; omega)
theorem item_at {w0 : World} {S : SS} {a : Addr} {l : List ItemM} (h : Rd w0 S (some a) (itemS l)) {k : Nat} (hk : k < l.length) : ∀ (j : Nat) (v : Value), (itemC l[k])[j]? = some v -> Cell w0 S ((a.add (k * 3)).add j) v := by
 intro j v hj
 have hj2 : j < 3 := by have := (List.getElem?_eq_some_iff.1 hj).1; rwa [itemC_len] at this
 rw [addr_add_add]
 exact h.at (by rw [itemS_get hk hj2]; exact hj)
theorem toL_inj {a b : ByteArray} : a.toList = b.toList ↔ a = b := by
 constructor
 ·intro h; rw [ByteArray.toList_eq, ByteArray.toList_eq] at h; cases a; cases b; congr 1; exact Array.toList_inj.1 h
 rintro rfl; rfl
theorem item_st {w0 : World} {S : SS} {P : Program} {n r : Nat} {T : TT} {x v : PV} {u : ItemM} {z : List Value} (hx : x.val T = some (.pointer (some ⟨r, 0, none⟩))) (hv : v.val T = some (itemV u)) (hz : z.length = 3) :
  OW P w0 n (.st 3 x v) T ([(r, .cells z 73 3)] :: S) (fun _ S' => S' = [(r, .cells (itemC u) 73 3)] :: S) := by
 refine (OW.st (k := 0) (c := z) (u := itemV u) hx hv rfl (show (itemV u).cells.size = 3 from rfl) (by omega) rfl).mono ?_
 rintro _ _ rfl
 rw [item_box, setAll (by rw [itemC_len, hz])]
 rfl
theorem indexI_fc {w0 : World} {S : SS} {A : Option Addr} {c : Nat} {l : List Int} {z : Int} {q : Int -> Bool} (hqd : q = fun x => decide (z = x)) (hx : Rd w0 S A (ints l)) (hb : l.length <= 1000000000000) :
  FC Try.prog w0 98 [.slice A l.length c, .int .i64 z] S (fun u S' => u = .int .i64 (gidx q l) /\ S' = S) := by
 refine FC.of Try.known98 (by simp) ?_
 unfold Try.pc98
 simp only [argT]
 refine PW.seqOps ?_
 refine OL.dp rfl ?_
 refine OL.nil ?_
 refine PW.k2 0 1 rfl rfl ?_
 refine PW.seq fun K1 hK1 => ?_
 refine PW.seqOps ?_
 refine OL.dp rfl ?_
 refine OL.dp rfl ?_
 refine OL.dp rfl ?_
 refine OL.nil ?_
 refine PW.k4 0 1 7 8 rfl rfl rfl rfl ?_
 refine PW.block ?_
 refine PW.k4 0 1 7 8 rfl rfl rfl rfl ?_
 refine PW.loopK (I := fun m T S' => ∃ (k : Nat), (k <= l.length /\ m = l.length - k /\ ∀ x ∈ l.take k, q x = false) /\ T = ([(0, .slice A l.length c), (1, .int .i64 z), (7, .int .i64 (l.length : Int)), (8, .int .i64 k)] : TT) /\ S' = S) (m := l.length) ⟨0, ⟨by omega, by omega, by simp⟩, rfl, rfl⟩ ?_
 rintro m _ _ ⟨k, ⟨hk, hm, hall⟩, rfl, rfl⟩
 refine PW.seqOps ?_
 refine OL.dp rfl ?_
 refine OL.nil ?_
 refine PW.k5 0 1 7 8 9 rfl rfl rfl rfl rfl ?_
 refine PW.seq fun K2 hK2 => ?_
 refine PW.cond rfl (fun c9 => ?_) (fun c9 => ?_)
 ·try simp only [cvS] at c9
  have hkl : k < l.length := by omega
  obtain ⟨a0, rfl⟩ := ints_some hx (by omega)
  refine PW.skip ?_
  refine hK2 _ _ ?_
  refine PW.k4 0 1 7 8 rfl rfl rfl rfl ?_
  refine PW.seq fun K3 hK3 => ?_
  refine PW.block ?_
  refine PW.seqOps ?_
  refine OL.dp rfl ?_
  refine OL.dp rfl ?_
  refine OL.nil ?_
  refine PW.k5 0 1 5 7 8 rfl rfl rfl rfl rfl ?_
  refine PW.seqOps ?_
  refine OL.dp rfl ?_
  refine OL.dp rfl ?_
  refine OL.dp rfl ?_
  refine OL.det trivial (.ixN1 rfl rfl rfl (by omega)) ?_
  refine OL.det trivial (.ld rfl (ints_at hx hkl)) ?_
  refine OL.dp rfl ?_
  refine OL.nil ?_
  refine PW.k6 0 1 5 7 8 16 rfl rfl rfl rfl rfl rfl ?_
  refine PW.cond rfl (fun c16 => ?_) (fun c16 => ?_)
  ·skip
   have hqt : q l[k] = true := by rw [hqd]; simpa using c16
   refine PW.seqOps ?_
   refine OL.dp rfl ?_
   refine OL.dp rfl ?_
   refine OL.nil ?_
   refine PW.k1 4 rfl ?_
   refine PW.ret ?_
   change (Exit.ret = Exit.normal ∨ Exit.ret = Exit.ret) /\ ∃ v, resV _ _ = some v /\ _
   exact ⟨.inr rfl, _, rfl, by rw [gidx_take hkl hall hqt], rfl⟩
  skip
  refine PW.skip ?_
  refine hK3 _ _ ?_
  refine PW.k4 0 1 7 8 rfl rfl rfl rfl ?_
  refine PW.ops ?_
  refine OL.det trivial (.add64 rfl rfl (by omega) (by omega)) ?_
  refine OL.dp rfl ?_
  refine OL.nil ?_
  repeat rw [inBlk_n]
  try rw [thenK_n]
  refine LoopEnd.mk (T'' := [(0, _), (1, _), (7, _), (8, _)]) ⟨rfl, rfl, rfl, rfl, trivial⟩ ?_
  refine ⟨l.length - (k + 1), by omega, k + 1, ⟨by omega, rfl, fun x hx => ?_⟩, rfl, rfl⟩
  rw [ltake_snoc hkl] at hx
  rcases List.mem_append.1 hx with h | h
  ·exact hall x h
  rw [List.mem_singleton] at h; subst h; simpa [hqd] using c16
 try simp only [cvS] at c9
 refine PW.exit ?_
 refine hK1 _ _ ?_
 refine PW.keep (T' := []) trivial ?_
 refine PW.seqOps ?_
 refine OL.dp rfl ?_
 refine OL.nil ?_
 refine PW.k1 4 rfl ?_
 refine PW.ret ?_
 change (Exit.ret = Exit.normal ∨ Exit.ret = Exit.ret) /\ ∃ v, resV _ _ = some v /\ _
 exact ⟨.inr rfl, _, rfl, by rw [gidx_no (fun x hx => hall x (by rw [List.take_of_length_le (by omega)]; exact hx))], rfl⟩
theorem containsI_fc {w0 : World} {S : SS} {A : Option Addr} {c : Nat} {l : List Int} {z : Int} (hx : Rd w0 S A (ints l)) (hb : l.length <= 1000000000000) :
  FC Try.prog w0 76 [.slice A l.length c, .int .i64 z] S (fun u S' => u = .bool (l.contains z) /\ S' = S) := by
 refine FC.of Try.known76 (by simp) ?_
 unfold Try.pc76
 simp only [argT]
 refine PW.seqOps ?_
 refine OL.dp rfl ?_
 refine OL.nil ?_
 refine PW.k2 0 1 rfl rfl ?_
 refine PW.seqOps ?_
 refine OL.dp rfl ?_
 refine OL.dp rfl ?_
 refine OL.call trivial rfl (indexI_fc (q := fun x => decide (z = x)) rfl hx hb) ?_
 rintro _ Sx ⟨rfl, hSx⟩
 rw [hSx]
 clear hSx
 refine OL.dp rfl ?_
 refine OL.dp rfl ?_
 refine OL.nil ?_
 refine PW.k1 4 rfl ?_
 refine PW.ret ?_
 change (Exit.ret = Exit.normal ∨ Exit.ret = Exit.ret) /\ ∃ v, resV _ _ = some v /\ _
 refine ⟨.inr rfl, _, rfl, congrArg Value.bool ?_, rfl⟩
 rw [Bool.eq_iff_iff, decide_eq_true_eq, iff_of_eq gidx_any, List.any_eq_true, List.contains_iff_mem]
 constructor
 ·rintro ⟨x, hx, h⟩
  obtain rfl := of_decide_eq_true h
  exact hx
 exact fun h => ⟨z, h, by simp⟩
theorem isBlock_fc {w0 : World} {S : SS} {x : ItemM} : FC Try.prog w0 79 [itemV x] S (fun v S' => v = .bool x.block /\ S' = S) := by
 refine FC.ofD Try.known79 (by simp) ?_
 unfold Try.pc79
 simp only [argT]
 refine PW.seqOps ?_
 refine OL.cons trivial (OW.bx rfl) ?_
 rintro _ _ ⟨r1, rfl, rfl⟩
 rw [item_box, itemC_len]
 refine OL.dp rfl ?_
 refine OL.nil ?_
 refine PW.k1 1 rfl ?_
 refine PW.seqOps ?_
 refine OL.dp rfl ?_
 refine OL.det trivial (.ld rfl (own_at (j := 1) (c := itemC x) (E := 73) (tot := 3) (List.mem_flatten.2 ⟨_, .head _, List.mem_singleton.2 rfl⟩) rfl)) ?_
 refine OL.dp rfl ?_
 refine OL.nil ?_
 refine PW.k1 2 rfl ?_
 refine PW.ret ?_
 change (Exit.ret = Exit.normal ∨ Exit.ret = Exit.ret) /\ ∃ v, resV _ _ = some v /\ _
 exact ⟨.inr rfl, _, rfl, _, Sub.drop (Sub.refl _), rfl, rfl⟩
theorem indexFuncI_fc {w0 : World} {S : SS} {A : Option Addr} {c : Nat} {l : List ItemM} {g : FuncId} {ca : List Value} {q : ItemM -> Bool} (hx : Rd w0 S A (itemS l)) (hb : l.length <= 1000000000000) (hok : fnOk Try.prog g = true)
  (hq : ∀ x ∈ l, FC Try.prog w0 g ([] ++ [itemV x] ++ ca) S (fun u S' => u = .bool (q x) /\ S' = S)) :
  FC Try.prog w0 99 [.slice A l.length c, .func (.func g) #[] ca.toArray] S (fun u S' => u = .int .i64 (gidx q l) /\ S' = S) := by
 refine FC.of Try.known99 (by simp) ?_
 unfold Try.pc99
 simp only [argT]
 refine PW.seqOps ?_
 refine OL.dp rfl ?_
 refine OL.nil ?_
 refine PW.k2 0 1 rfl rfl ?_
 refine PW.seq fun K1 hK1 => ?_
 refine PW.seqOps ?_
 refine OL.dp rfl ?_
 refine OL.dp rfl ?_
 refine OL.dp rfl ?_
 refine OL.nil ?_
 refine PW.k4 0 1 7 8 rfl rfl rfl rfl ?_
 refine PW.block ?_
 refine PW.k4 0 1 7 8 rfl rfl rfl rfl ?_
 refine PW.loopK (I := fun m T S' => ∃ (k : Nat), (k <= l.length /\ m = l.length - k /\ ∀ x ∈ l.take k, q x = false) /\ T = ([(0, .slice A l.length c), (1, .func (.func g) #[] ca.toArray), (7, .int .i64 (l.length : Int)), (8, .int .i64 k)] : TT) /\ S' = S) (m := l.length) ⟨0, ⟨by omega, by omega, by simp⟩, rfl, rfl⟩ ?_
 rintro m _ _ ⟨k, ⟨hk, hm, hall⟩, rfl, rfl⟩
 refine PW.seqOps ?_
 refine OL.dp rfl ?_
 refine OL.nil ?_
 refine PW.k5 0 1 7 8 9 rfl rfl rfl rfl rfl ?_
 refine PW.seq fun K2 hK2 => ?_
 refine PW.cond rfl (fun c9 => ?_) (fun c9 => ?_)
 ·try simp only [cvS] at c9
  have hkl : k < l.length := by omega
  obtain ⟨a0, rfl⟩ := itemS_some hx (by omega)
  refine PW.skip ?_
  refine hK2 _ _ ?_
  refine PW.k4 0 1 7 8 rfl rfl rfl rfl ?_
  refine PW.seq fun K3 hK3 => ?_
  refine PW.block ?_
  refine PW.seqOps ?_
  refine OL.dp rfl ?_
  refine OL.dp rfl ?_
  refine OL.nil ?_
  refine PW.k5 0 1 5 7 8 rfl rfl rfl rfl rfl ?_
  refine PW.seqOps ?_
  refine OL.dp rfl ?_
  refine OL.dp rfl ?_
  refine OL.dp rfl ?_
  refine OL.det trivial (.ixN rfl rfl rfl (by omega)) ?_
  refine OL.det trivial (.ldA rfl (itemC_len _) (item_at hx hkl)) ?_
  refine OL.cons trivial (OW.callv (fi := []) (ca := ca) rfl hok rfl (hq _ (List.getElem_mem hkl))) ?_
  rintro _ Sx ⟨rfl, hSx⟩
  rw [hSx]
  clear hSx
  refine OL.nil ?_
  refine PW.k6 0 1 5 7 8 16 rfl rfl rfl rfl rfl rfl ?_
  refine PW.cond rfl (fun c16 => ?_) (fun c16 => ?_)
  ·skip
   have hqt : q l[k] = true := by simpa using c16
   refine PW.seqOps ?_
   refine OL.dp rfl ?_
   refine OL.dp rfl ?_
   refine OL.nil ?_
   refine PW.k1 4 rfl ?_
   refine PW.ret ?_
   change (Exit.ret = Exit.normal ∨ Exit.ret = Exit.ret) /\ ∃ v, resV _ _ = some v /\ _
   exact ⟨.inr rfl, _, rfl, by rw [gidx_take hkl hall hqt], rfl⟩
  skip
  refine PW.skip ?_
  refine hK3 _ _ ?_
  refine PW.k4 0 1 7 8 rfl rfl rfl rfl ?_
  refine PW.ops ?_
  refine OL.det trivial (.add64 rfl rfl (by omega) (by omega)) ?_
  refine OL.dp rfl ?_
  refine OL.nil ?_
  repeat rw [inBlk_n]
  try rw [thenK_n]
  refine LoopEnd.mk (T'' := [(0, _), (1, _), (7, _), (8, _)]) ⟨rfl, rfl, rfl, rfl, trivial⟩ ?_
  refine ⟨l.length - (k + 1), by omega, k + 1, ⟨by omega, rfl, fun x hx => ?_⟩, rfl, rfl⟩
  rw [ltake_snoc hkl] at hx
  rcases List.mem_append.1 hx with h | h
  ·exact hall x h
  rw [List.mem_singleton] at h; subst h; simpa using c16
 try simp only [cvS] at c9
 refine PW.exit ?_
 refine hK1 _ _ ?_
 refine PW.keep (T' := []) trivial ?_
 refine PW.seqOps ?_
 refine OL.dp rfl ?_
 refine OL.nil ?_
 refine PW.k1 4 rfl ?_
 refine PW.ret ?_
 change (Exit.ret = Exit.normal ∨ Exit.ret = Exit.ret) /\ ∃ v, resV _ _ = some v /\ _
 exact ⟨.inr rfl, _, rfl, by rw [gidx_no (fun x hx => hall x (by rw [List.take_of_length_le (by omega)]; exact hx))], rfl⟩
theorem containsFuncI_fc {w0 : World} {S : SS} {A : Option Addr} {c : Nat} {l : List ItemM} {g : FuncId} {ca : List Value} {q : ItemM -> Bool} (hx : Rd w0 S A (itemS l)) (hb : l.length <= 1000000000000) (hok : fnOk Try.prog g = true)
  (hq : ∀ x ∈ l, FC Try.prog w0 g ([] ++ [itemV x] ++ ca) S (fun u S' => u = .bool (q x) /\ S' = S)) :
  FC Try.prog w0 78 [.slice A l.length c, .func (.func g) #[] ca.toArray] S (fun u S' => u = .bool (l.any q) /\ S' = S) := by
 refine FC.of Try.known78 (by simp) ?_
 unfold Try.pc78
 simp only [argT]
 refine PW.seqOps ?_
 refine OL.dp rfl ?_
 refine OL.nil ?_
 refine PW.k2 0 1 rfl rfl ?_
 refine PW.seqOps ?_
 refine OL.dp rfl ?_
 refine OL.dp rfl ?_
 refine OL.call trivial rfl (indexFuncI_fc (q := q) hx hb hok hq) ?_
 rintro _ Sx ⟨rfl, hSx⟩
 rw [hSx]
 clear hSx
 refine OL.dp rfl ?_
 refine OL.dp rfl ?_
 refine OL.nil ?_
 refine PW.k1 4 rfl ?_
 refine PW.ret ?_
 change (Exit.ret = Exit.normal ∨ Exit.ret = Exit.ret) /\ ∃ v, resV _ _ = some v /\ _
 exact ⟨.inr rfl, _, rfl, congrArg Value.bool (by rw [Bool.eq_iff_iff, decide_eq_true_eq, iff_of_eq gidx_any]), rfl⟩
theorem conflict_fc {w0 : World} {S : SS} {A : Option Addr} {c : Nat} {l : List ItemM} (hx : Rd w0 S A (itemS l)) (hb : l.length <= 1000000000000) :
  FC Try.prog w0 39 [.slice A l.length c] S (fun u S' => u = .bool (l.any (·.block)) /\ S' = S) := by
 refine FC.of Try.known39 (by simp) ?_
 unfold Try.pc39
 simp only [argT]
 refine PW.seqOps ?_
 refine OL.dp rfl ?_
 refine OL.nil ?_
 refine PW.k1 0 rfl ?_
 refine PW.seqOps ?_
 refine OL.dp rfl ?_
 refine OL.call trivial rfl (containsFuncI_fc (g := 79) (ca := []) (q := fun x => x.block) hx hb (by kernel_rfl) (fun x _ => isBlock_fc)) ?_
 rintro _ Sx ⟨rfl, hSx⟩
 rw [hSx]
 clear hSx
 refine OL.dp rfl ?_
 refine OL.nil ?_
 refine PW.k1 2 rfl ?_
 refine PW.ret ?_
 change (Exit.ret = Exit.normal ∨ Exit.ret = Exit.ret) /\ ∃ v, resV _ _ = some v /\ _
 exact ⟨.inr rfl, _, rfl, rfl, rfl⟩
theorem sameS_fc {w0 : World} {S : SS} {A B : Option Addr} {c d : Nat} {a b : List ByteArray} (hx : Rd w0 S A (strs a)) (hy : Rd w0 S B (strs b)) (ha : a.length <= 1000000000000) (hb : b.length <= 1000000000000) :
  FC Try.prog w0 35 [.slice A a.length c, .slice B b.length d] S (fun u S' => u = .bool (decide (a = b)) /\ S' = S) := by
 refine FC.of Try.known35 (by simp) ?_
 unfold Try.pc35
 simp only [argT]
 refine PW.seqOps ?_
 refine OL.dp rfl ?_
 refine OL.nil ?_
 refine PW.k2 0 1 rfl rfl ?_
 refine PW.seq fun K1 hK1 => ?_
 refine PW.seqOps ?_
 refine OL.dp rfl ?_
 refine OL.dp rfl ?_
 refine OL.dp rfl ?_
 refine OL.dp rfl ?_
 refine OL.dp rfl ?_
 refine OL.nil ?_
 refine PW.k3 0 1 10 rfl rfl rfl ?_
 refine PW.cond rfl (fun c10 => ?_) (fun c10 => ?_)
 ·try simp only [cvS] at c10
  refine PW.seqOps ?_
  refine OL.dp rfl ?_
  refine OL.nil ?_
  refine PW.k1 4 rfl ?_
  refine PW.ret ?_
  change (Exit.ret = Exit.normal ∨ Exit.ret = Exit.ret) /\ ∃ v, resV _ _ = some v /\ _
  refine ⟨.inr rfl, _, rfl, congrArg Value.bool (Eq.symm (decide_eq_false fun e => ?_)), rfl⟩
  subst e
  exact absurd rfl c10
 try simp only [cvS] at c10
 refine PW.skip ?_
 refine hK1 _ _ ?_
 refine PW.k2 0 1 rfl rfl ?_
 refine PW.seq fun K2 hK2 => ?_
 refine PW.seqOps ?_
 refine OL.dp rfl ?_
 refine OL.nil ?_
 refine PW.k3 0 1 5 rfl rfl rfl ?_
 refine PW.block ?_
 refine PW.k3 0 1 5 rfl rfl rfl ?_
 refine PW.loopK (I := fun m T S' => ∃ (k : Nat), (k <= a.length /\ a.length = b.length /\ m = a.length - k /\ a.take k = b.take k) /\ T = ([(0, .slice A a.length c), (1, .slice B b.length d), (5, .int .i64 k)] : TT) /\ S' = S) (m := a.length) ⟨0, ⟨by omega, by omega, by omega, rfl⟩, rfl, rfl⟩ ?_
 rintro m _ _ ⟨k, ⟨hk, hab, hm, ht⟩, rfl, rfl⟩
 refine PW.seq fun K3 hK3 => ?_
 refine PW.seqOps ?_
 refine OL.dp rfl ?_
 refine OL.dp rfl ?_
 refine OL.dp rfl ?_
 refine OL.dp rfl ?_
 refine OL.nil ?_
 refine PW.k4 0 1 5 14 rfl rfl rfl rfl ?_
 refine PW.cond rfl (fun c14 => ?_) (fun c14 => ?_)
 ·try simp only [cvS] at c14
  have hkl : k < a.length := by omega
  obtain ⟨a0, rfl⟩ := strs_some hx (by omega)
  obtain ⟨b0, rfl⟩ := strs_some hy (by omega)
  have hx2 := hx
  have hy2 := hy
  refine PW.skip ?_
  refine hK3 _ _ ?_
  refine PW.k3 0 1 5 rfl rfl rfl ?_
  refine PW.seq fun K4 hK4 => ?_
  refine PW.block ?_
  refine PW.seq fun K5 hK5 => ?_
  refine PW.quietK Try.mixed ?_
  refine QK.dp rfl ?_
  refine QK.dp rfl ?_
  refine QK.det trivial (.ixN1 rfl rfl rfl (by omega)) ?_
  refine QK.det trivial (.ld rfl (str_at hx2 hkl)) ?_
  refine QK.dp rfl ?_
  refine QK.dp rfl ?_
  refine QK.det trivial (.ixN1 rfl rfl rfl (by omega)) ?_
  refine QK.det trivial (.ld rfl (str_at hy2 (by omega))) ?_
  refine QK.nil ?_
  change OL _ _ _ [_] _ _ _
  refine OL.dp rfl ?_
  refine OL.nil ?_
  refine hK5 _ _ ?_
  refine PW.k4 0 1 5 25 rfl rfl rfl rfl ?_
  refine PW.cond rfl (fun c25 => ?_) (fun c25 => ?_)
  ·skip
   refine PW.seqOps ?_
   refine OL.dp rfl ?_
   refine OL.nil ?_
   refine PW.k1 4 rfl ?_
   refine PW.ret ?_
   change (Exit.ret = Exit.normal ∨ Exit.ret = Exit.ret) /\ ∃ v, resV _ _ = some v /\ _
   refine ⟨.inr rfl, _, rfl, congrArg Value.bool (Eq.symm (decide_eq_false fun e => ?_)), rfl⟩
   subst e
   simp at c25
  skip
  refine PW.skip ?_
  refine hK4 _ _ ?_
  refine PW.k3 0 1 5 rfl rfl rfl ?_
  refine PW.ops ?_
  refine OL.dp rfl ?_
  refine OL.det trivial (.add64 rfl rfl (by omega) (by omega)) ?_
  refine OL.dp rfl ?_
  refine OL.nil ?_
  repeat rw [inBlk_n]
  try rw [thenK_n]
  refine LoopEnd.mk (T'' := [(0, _), (1, _), (5, _)]) ⟨rfl, rfl, rfl, trivial⟩ ?_
  have he : a[k] = b[k]'(by omega) := by
   have h1 : a[k].toList = (b[k]'(by omega)).toList := by simpa using c25
   exact toL_inj.1 h1
  exact ⟨a.length - (k + 1), by omega, k + 1, ⟨by omega, hab, rfl, by rw [ltake_snoc hkl, ltake_snoc (show k < b.length by omega), ht, he]⟩, rfl, rfl⟩
 try simp only [cvS] at c14
 refine PW.exit ?_
 refine hK2 _ _ ?_
 refine PW.keep (T' := []) trivial ?_
 refine PW.seqOps ?_
 refine OL.dp rfl ?_
 refine OL.nil ?_
 refine PW.k1 4 rfl ?_
 refine PW.ret ?_
 change (Exit.ret = Exit.normal ∨ Exit.ret = Exit.ret) /\ ∃ v, resV _ _ = some v /\ _
 refine ⟨.inr rfl, _, rfl, congrArg Value.bool (Eq.symm (decide_eq_true ?_)), rfl⟩
 have h1 : k = a.length := by omega
 rw [h1, List.take_length] at ht
 rw [ht, hab, List.take_length]
end Go.Proofs.Gr

namespace Go.Proofs.Gr
open Go.SL Go.RowKit Go.Proofs Go.GP
set_option maxHeartbeats 1000000
structure ItemRd (w0 : World) (S : SS) (x : ItemM) : Prop where
 rdL : Rd w0 S x.LA (lines x.lines)
 rdM : Rd w0 S x.MA (ints x.mids)
 nL : x.lines.length <= 60000
 nM : x.mids.length <= 60000
theorem ItemOk.rd {w0 : World} {j : Seg} {x : ItemM} {S : SS} (h : ItemOk w0 j x) (hj : j ∈ S) : ItemRd w0 S x := ⟨rd_mem h.rdL hj, rd_mem h.rdM hj, h.nL, h.nM⟩
theorem strs_snoc {v : Value} {l : List ByteArray} {z : ByteArray} {seg : Seg} (h : SlV 9 1 v (l.length + 1) (strs l ++ [Value.string z]) seg) : SlV 9 1 v (l ++ [z]).length (strs (l ++ [z])) seg := by
 rw [List.length_append]
 unfold strs at h ⊢
 rw [List.map_append]
 exact h
def pli (l : List ItemM) : List ItemP := l.map ItemM.pl
theorem pli_get {l : List ItemM} {k : Nat} (hk : k < l.length) : (pli l)[k]'(by unfold pli; rw [List.length_map]; exact hk) = l[k].pl := List.getElem_map _
theorem textI_fc {w0 : World} {S : SS} {A : Option Addr} {c : Nat} {l : List ItemM} (hx : Rd w0 S A (itemS l)) (hr : ∀ x ∈ l, ItemRd w0 S x) (hb : l.length <= 1000000) :
  FC Try.prog w0 36 [.slice A l.length c] S (fun u S' => ∃ seg, S' = seg :: S /\ SlV 9 1 u (textI (pli l)).length (strs (textI (pli l))) seg /\ (textI (pli l)).length <= 120003000000) := by
 have hpl0 : (pli l).length = l.length := List.length_map _
 have hNL : ∀ x ∈ pli l, x.lines.length <= 60000 := fun x hx => by
  obtain ⟨y, hy, rfl⟩ := List.mem_map.1 hx
  exact (hr y hy).nL
 refine FC.ofD Try.known36 (by simp) ?_
 unfold Try.pc36
 simp only [argT]
 refine PW.seqOps ?_
 refine OL.dp rfl ?_
 refine OL.nil ?_
 refine PW.k1 0 rfl ?_
 refine PW.seqOps ?_
 refine OL.dp rfl ?_
 refine OL.nil ?_
 refine PW.k2 0 3 rfl rfl ?_
 refine PW.seq fun K1 hK1 => ?_
 refine PW.seqOps ?_
 refine OL.subS (S' := [] :: S) (Sub.nilL (Sub.refl _)) ?_
 refine OL.dp rfl ?_
 refine OL.dp rfl ?_
 refine OL.dp rfl ?_
 refine OL.nil ?_
 refine PW.k4 3 8 9 10 rfl rfl rfl rfl ?_
 refine PW.block ?_
 refine PW.k4 3 8 9 10 rfl rfl rfl rfl ?_
 refine PW.loopK (I := fun mm T S' => ∃ (k : Nat) (vo : Value) (sgo : Seg), (k <= l.length /\ mm = l.length - k /\ SlV 9 1 vo (textI ((pli l).take k)).length (strs (textI ((pli l).take k))) sgo) /\ T = ([(3, vo), (8, .slice A l.length c), (9, .int .i64 (l.length : Int)), (10, .int .i64 k)] : TT) /\ S' = sgo :: S) (m := l.length) ⟨0, _, [], ⟨by omega, by omega, by simp [textI]; exact SlV.nil 9 1⟩, rfl, rfl⟩ ?_
 rintro mm _ _ ⟨k, vo, sgo, ⟨hk, hmm, hso⟩, rfl, rfl⟩
 refine PW.seqOps ?_
 refine OL.dp rfl ?_
 refine OL.nil ?_
 refine PW.k5 3 8 9 10 11 rfl rfl rfl rfl rfl ?_
 refine PW.seq fun K2 hK2 => ?_
 refine PW.cond rfl (fun c11 => ?_) (fun c11 => ?_)
 ·try simp only [cvS] at c11
  have hkl : k < l.length := by omega
  obtain ⟨a0, rfl⟩ := itemS_some hx (by omega)
  have hx2 := hx
  have hrk := hr _ (List.getElem_mem hkl)
  have hnL := hrk.nL
  have hnM := hrk.nM
  have htl := textI_len hNL k (by omega)
  refine PW.skip ?_
  refine hK2 _ _ ?_
  refine PW.k4 3 8 9 10 rfl rfl rfl rfl ?_
  refine PW.seq fun K3 hK3 => ?_
  refine PW.block ?_
  refine PW.seqOps ?_
  refine OL.det trivial (.ixN rfl rfl rfl hkl) ?_
  refine OL.det trivial (.ldA rfl (itemC_len _) (item_at hx2.cons hkl)) ?_
  refine OL.cons trivial OW.al ?_
  rintro _ _ ⟨r5, rfl, rfl⟩
  refine OL.cons trivial (item_st rfl rfl rfl) ?_
  rintro _ _ rfl
  change OL _ _ _ _ _ ([(r5, .cells (itemC l[k]) 73 3)] :: sgo :: S) _
  refine OL.nil ?_
  refine PW.k5 3 5 8 9 10 rfl rfl rfl rfl rfl ?_
  refine PW.seq fun K4 hK4 => ?_
  refine PW.seqOps ?_
  refine OL.dp rfl ?_
  refine OL.det trivial (.ld rfl (own_at (j := 1) (c := itemC l[k]) (E := 73) (tot := 3) (List.mem_flatten.2 ⟨_, .head _, List.mem_singleton.2 rfl⟩) rfl)) ?_
  refine OL.nil ?_
  refine PW.k6 3 5 8 9 10 15 rfl rfl rfl rfl rfl rfl ?_
  refine PW.cond rfl (fun c15 => ?_) (fun c15 => ?_)
  ·skip
   refine PW.ops ?_
   refine OL.dp rfl ?_
   apply OL.app1 (k := 1)
   ·rfl
   ·rfl
   ·rfl
   ·rfl
   ·rfl
   ·rfl
   ·exact hso
   ·rfl
   ·omega
   ·unfold maxLen; omega
   intro v18 seg18 hsl18
   obtain ⟨pre, hpre⟩ : ∃ z, z = textI ((pli l).take k) ++ (if l[k].block then [beginB] else []) := ⟨_, rfl⟩
   have hp : SlV 9 1 v18 pre.length (strs pre) seg18 := by
    rw [hpre, if_pos c15]
    exact strs_snoc (z := beginB) hsl18
   have hpl : pre.length <= 120003 * k + 1 := by rw [hpre, List.length_append]; have := textI_len hNL k (by rw [hpl0]; omega); split <;> simp <;> omega
   refine OL.dp rfl ?_
   refine OL.nil ?_
   refine hK4 _ _ ?_
   refine PW.k5 3 5 8 9 10 rfl rfl rfl rfl rfl ?_
   refine PW.seq fun K5 hK5 => ?_
   refine PW.seqOps ?_
   refine OL.dp rfl ?_
   refine OL.det trivial (.ld rfl (own_at (j := 0) (c := itemC l[k]) (E := 73) (tot := 3) (List.mem_flatten.2 ⟨_, .head _, List.mem_singleton.2 rfl⟩) rfl)) ?_
   refine OL.dp rfl ?_
   refine OL.dp rfl ?_
   refine OL.nil ?_
   refine PW.k8 3 5 8 9 10 20 21 22 rfl rfl rfl rfl rfl rfl rfl rfl ?_
   refine PW.block ?_
   refine PW.k8 3 5 8 9 10 20 21 22 rfl rfl rfl rfl rfl rfl rfl rfl ?_
   refine PW.loopK (I := fun mi T S' => ∃ (i : Nat) (vi : Value) (sgi : Seg), (i <= l[k].lines.length /\ mi = l[k].lines.length - i /\ SlV 9 1 vi (pre ++ rowsT l[k].pl i).length (strs (pre ++ rowsT l[k].pl i)) sgi) /\ T = ([(3, vi), (5, .pointer (some ⟨r5, 0, none⟩)), (8, .slice (some a0) l.length c), (9, .int .i64 (l.length : Int)), (10, .int .i64 k), (20, .slice l[k].LA l[k].lines.length l[k].lc), (21, .int .i64 (l[k].lines.length : Int)), (22, .int .i64 i)] : TT) /\ S' = [(r5, .cells (itemC l[k]) 73 3)] :: sgi :: S) (m := l[k].lines.length) ⟨0, _, _, ⟨by omega, by omega, by simpa [rowsT] using hp⟩, rfl, rfl⟩ ?_
   rintro mi _ _ ⟨i, vi, sgi, ⟨hi, hmi, hsi⟩, rfl, rfl⟩
   refine PW.seqOps ?_
   refine OL.dp rfl ?_
   refine OL.nil ?_
   refine PW.k9 3 5 8 9 10 20 21 22 23 rfl rfl rfl rfl rfl rfl rfl rfl rfl ?_
   refine PW.seq fun K6 hK6 => ?_
   refine PW.cond rfl (fun c23 => ?_) (fun c23 => ?_)
   ·try simp only [cvS] at c23
    have hil : i < l[k].lines.length := by omega
    obtain ⟨b0, hb0⟩ := lines_some hrk.rdL (by omega)
    have hrl2 := hrk.rdL
    rw [hb0] at hrl2 ⊢
    have hrs := rowsT_succ l[k].pl i
    have hge : l[k].pl.lines[i]! = l[k].lines[i] := getElem!_pos l[k].lines i hil
    have hrl := rowsT_len l[k].pl i
    have hpa : (pre ++ rowsT l[k].pl i).length = pre.length + (rowsT l[k].pl i).length := List.length_append
    refine PW.skip ?_
    refine hK6 _ _ ?_
    refine PW.k8 3 5 8 9 10 20 21 22 rfl rfl rfl rfl rfl rfl rfl rfl ?_
    refine PW.seq fun K7 hK7 => ?_
    refine PW.block ?_
    refine PW.seqOps ?_
    refine OL.dp rfl ?_
    refine OL.det trivial (.ixN rfl rfl rfl hil) ?_
    refine OL.det trivial (.ldA rfl (lineC_len _) (line_at hrl2.cons.cons hil)) ?_
    refine OL.cons trivial OW.al ?_
    rintro _ _ ⟨r7, rfl, rfl⟩
    refine OL.dp rfl ?_
    refine OL.cons trivial (line_st rfl rfl rfl) ?_
    rintro _ _ rfl
    change OL _ _ _ _ _ (lseg r7 l[k].lines[i] :: [(r5, .cells (itemC l[k]) 73 3)] :: sgi :: S) _
    refine OL.nil ?_
    refine PW.k10 3 5 6 7 8 9 10 20 21 22 rfl rfl rfl rfl rfl rfl rfl rfl rfl rfl ?_
    refine PW.seq fun K8 hK8 => ?_
    refine PW.seqOps ?_
    refine OL.dp rfl ?_
    refine OL.det trivial (.ld rfl (own_at (j := 1) (c := itemC l[k]) (E := 73) (tot := 3) (List.mem_flatten.2 ⟨_, .tail _ (.head _), List.mem_singleton.2 rfl⟩) rfl)) ?_
    refine OL.bool trivial (Yields.pure rfl) (fun g29 => ?_) (fun g29 => ?_)
    ·try simp only [cvS] at g29
     refine OL.det rfl (.pure rfl) ?_
     refine OL.det rfl (.ld rfl (own_at (j := 2) (c := itemC l[k]) (E := 73) (tot := 3) (List.mem_flatten.2 ⟨_, .tail _ (.head _), List.mem_singleton.2 rfl⟩) rfl)) ?_
     refine OL.det rfl (.pure rfl) ?_
     refine OL.call rfl rfl (containsI_fc (hrk.rdM.cons.cons.cons) (by omega)) ?_
     rintro _ Sx ⟨rfl, hSx⟩
     rw [hSx]
     clear hSx
     refine OL.dp rfl ?_
     refine OL.nil ?_
     refine PW.k10 3 5 7 8 9 10 20 21 22 34 rfl rfl rfl rfl rfl rfl rfl rfl rfl rfl ?_
     refine PW.cond rfl (fun c34 => ?_) (fun c34 => ?_)
     ·skip
      refine PW.ops ?_
      refine OL.dp rfl ?_
      apply OL.app1 (k := 2)
      ·rfl
      ·rfl
      ·rfl
      ·rfl
      ·rfl
      ·rfl
      ·exact hsi
      ·rfl
      ·omega
      ·unfold maxLen; omega
      intro v37 seg37 hsl37
      have hsi2 := strs_snoc (l := pre ++ rowsT l[k].pl i) (z := middleB) hsl37
      refine OL.dp rfl ?_
      refine OL.nil ?_
      refine hK8 _ _ ?_
      refine PW.k9 3 5 7 8 9 10 20 21 22 rfl rfl rfl rfl rfl rfl rfl rfl rfl ?_
      refine PW.ops ?_
      refine OL.dp rfl ?_
      refine OL.dp rfl ?_
      refine OL.det trivial (.ld rfl (lcell_text (x := l[k].lines[i]) (E := 43) (tot := 35) (List.mem_flatten.2 ⟨_, .head _, List.mem_singleton.2 rfl⟩))) ?_
      apply OL.app1 (k := 2)
      ·rfl
      ·rfl
      ·rfl
      ·rfl
      ·rfl
      ·rfl
      ·exact (by first | exact hsi2 | exact hsi)
      ·rfl
      ·(first | omega | (simp only [List.length_append, List.length_cons, List.length_nil] at *; omega))
      ·unfold maxLen; (first | omega | (simp only [List.length_append, List.length_cons, List.length_nil] at *; omega))
      intro v42 seg42 hsl42
      refine OL.dp rfl ?_
      refine OL.nil ?_
      refine hK7 _ _ ?_
      refine PW.k8 3 5 8 9 10 20 21 22 rfl rfl rfl rfl rfl rfl rfl rfl ?_
      refine PW.ops ?_
      refine OL.det trivial (.add64 rfl rfl (by omega) (by omega)) ?_
      refine OL.dp rfl ?_
      refine OL.nil ?_
      repeat rw [inBlk_n]
      try rw [thenK_n]
      refine LoopEnd.mkS (Sub.drop (Sub.refl _)) (T'' := [(3, _), (5, _), (8, _), (9, _), (10, _), (20, _), (21, _), (22, _)]) ⟨rfl, rfl, rfl, rfl, rfl, rfl, rfl, rfl, trivial⟩ ?_
      rw [hb0]
      have he : pre ++ rowsT l[k].pl (i + 1) = pre ++ rowsT l[k].pl i ++ [middleB] ++ [l[k].lines[i].text] := by
       rw [hrs, hge, if_pos (by show (l[k].block && l[k].mids.contains (i : Int)) = true; rw [g29, c34]; rfl)]
       simp only [List.append_assoc]
      have := strs_snoc (z := l[k].lines[i].text) hsl42
      exact ⟨l[k].lines.length - (i + 1), by omega, i + 1, _, seg42, ⟨by omega, rfl, by rw [he]; exact this⟩, rfl, rfl⟩
     skip
     refine PW.skip ?_
     refine hK8 _ _ ?_
     refine PW.k9 3 5 7 8 9 10 20 21 22 rfl rfl rfl rfl rfl rfl rfl rfl rfl ?_
     refine PW.ops ?_
     refine OL.dp rfl ?_
     refine OL.dp rfl ?_
     refine OL.det trivial (.ld rfl (lcell_text (x := l[k].lines[i]) (E := 43) (tot := 35) (List.mem_flatten.2 ⟨_, .head _, List.mem_singleton.2 rfl⟩))) ?_
     apply OL.app1 (k := 2)
     ·rfl
     ·rfl
     ·rfl
     ·rfl
     ·rfl
     ·rfl
     ·exact (by first | exact hsi2 | exact hsi)
     ·rfl
     ·(first | omega | (simp only [List.length_append, List.length_cons, List.length_nil] at *; omega))
     ·unfold maxLen; (first | omega | (simp only [List.length_append, List.length_cons, List.length_nil] at *; omega))
     intro v42 seg42 hsl42
     refine OL.dp rfl ?_
     refine OL.nil ?_
     refine hK7 _ _ ?_
     refine PW.k8 3 5 8 9 10 20 21 22 rfl rfl rfl rfl rfl rfl rfl rfl ?_
     refine PW.ops ?_
     refine OL.det trivial (.add64 rfl rfl (by omega) (by omega)) ?_
     refine OL.dp rfl ?_
     refine OL.nil ?_
     repeat rw [inBlk_n]
     try rw [thenK_n]
     refine LoopEnd.mkS (Sub.drop (Sub.refl _)) (T'' := [(3, _), (5, _), (8, _), (9, _), (10, _), (20, _), (21, _), (22, _)]) ⟨rfl, rfl, rfl, rfl, rfl, rfl, rfl, rfl, trivial⟩ ?_
     rw [hb0]
     have he : pre ++ rowsT l[k].pl (i + 1) = pre ++ rowsT l[k].pl i ++ [l[k].lines[i].text] := by
      rw [hrs, hge, if_neg (by show ¬ (l[k].block && l[k].mids.contains (i : Int)) = true; rw [g29, c34]; simp)]
      simp only [List.nil_append, List.append_assoc]
     have := strs_snoc (z := l[k].lines[i].text) hsl42
     exact ⟨l[k].lines.length - (i + 1), by omega, i + 1, _, seg42, ⟨by omega, rfl, by rw [he]; exact this⟩, rfl, rfl⟩
    try simp only [cvS] at g29
    refine OL.off rfl rfl ?_
    refine OL.off rfl rfl ?_
    refine OL.off rfl rfl ?_
    refine OL.off rfl rfl ?_
    refine OL.dp rfl ?_
    refine OL.nil ?_
    refine PW.k10 3 5 7 8 9 10 20 21 22 34 rfl rfl rfl rfl rfl rfl rfl rfl rfl rfl ?_
    refine PW.ite (b := false) rfl ?_
    rw [if_neg Bool.false_ne_true]
    refine PW.skip ?_
    refine hK8 _ _ ?_
    refine PW.k9 3 5 7 8 9 10 20 21 22 rfl rfl rfl rfl rfl rfl rfl rfl rfl ?_
    refine PW.ops ?_
    refine OL.dp rfl ?_
    refine OL.dp rfl ?_
    refine OL.det trivial (.ld rfl (lcell_text (x := l[k].lines[i]) (E := 43) (tot := 35) (List.mem_flatten.2 ⟨_, .head _, List.mem_singleton.2 rfl⟩))) ?_
    apply OL.app1 (k := 2)
    ·rfl
    ·rfl
    ·rfl
    ·rfl
    ·rfl
    ·rfl
    ·exact (by first | exact hsi2 | exact hsi)
    ·rfl
    ·(first | omega | (simp only [List.length_append, List.length_cons, List.length_nil] at *; omega))
    ·unfold maxLen; (first | omega | (simp only [List.length_append, List.length_cons, List.length_nil] at *; omega))
    intro v42 seg42 hsl42
    refine OL.dp rfl ?_
    refine OL.nil ?_
    refine hK7 _ _ ?_
    refine PW.k8 3 5 8 9 10 20 21 22 rfl rfl rfl rfl rfl rfl rfl rfl ?_
    refine PW.ops ?_
    refine OL.det trivial (.add64 rfl rfl (by omega) (by omega)) ?_
    refine OL.dp rfl ?_
    refine OL.nil ?_
    repeat rw [inBlk_n]
    try rw [thenK_n]
    refine LoopEnd.mkS (Sub.drop (Sub.refl _)) (T'' := [(3, _), (5, _), (8, _), (9, _), (10, _), (20, _), (21, _), (22, _)]) ⟨rfl, rfl, rfl, rfl, rfl, rfl, rfl, rfl, trivial⟩ ?_
    rw [hb0]
    have he : pre ++ rowsT l[k].pl (i + 1) = pre ++ rowsT l[k].pl i ++ [l[k].lines[i].text] := by
     rw [hrs, hge, if_neg (by show ¬ (l[k].block && l[k].mids.contains (i : Int)) = true; rw [g29]; simp)]
     simp only [List.nil_append, List.append_assoc]
    have := strs_snoc (z := l[k].lines[i].text) hsl42
    exact ⟨l[k].lines.length - (i + 1), by omega, i + 1, _, seg42, ⟨by omega, rfl, by rw [he]; exact this⟩, rfl, rfl⟩
   try simp only [cvS] at c23
   have hie : i = l[k].lines.length := by omega
   have hpg := pli_get hkl
   have hts := textI_snoc (l := pli l) (k := k) (by omega)
   rw [hpg] at hts
   unfold oneT at hts
   have hts : textI ((pli l).take (k + 1)) = textI ((pli l).take k) ++ ((if l[k].block = true then [beginB] else []) ++ rowsT l[k].pl l[k].lines.length ++ (if l[k].block = true then [closeB] else [])) := hts
   have hrl := rowsT_len l[k].pl i
   have hpa : (pre ++ rowsT l[k].pl i).length = pre.length + (rowsT l[k].pl i).length := List.length_append
   refine PW.exit ?_
   refine hK5 _ _ ?_
   refine PW.k5 3 5 8 9 10 rfl rfl rfl rfl rfl ?_
   refine PW.seqOps ?_
   refine OL.dp rfl ?_
   refine OL.det trivial (.ld rfl (own_at (j := 1) (c := itemC l[k]) (E := 73) (tot := 3) (List.mem_flatten.2 ⟨_, .head _, List.mem_singleton.2 rfl⟩) rfl)) ?_
   refine OL.nil ?_
   refine PW.k5 3 8 9 10 45 rfl rfl rfl rfl rfl ?_
   refine PW.cond rfl (fun c45 => ?_) (fun c45 => ?_)
   ·skip
    refine PW.ops ?_
    refine OL.dp rfl ?_
    apply OL.app1 (k := 1)
    ·rfl
    ·rfl
    ·rfl
    ·rfl
    ·rfl
    ·rfl
    ·exact hsi
    ·rfl
    ·omega
    ·unfold maxLen; omega
    intro v48 seg48 hsl48
    refine OL.dp rfl ?_
    refine OL.nil ?_
    refine hK3 _ _ ?_
    refine PW.k4 3 8 9 10 rfl rfl rfl rfl ?_
    refine PW.ops ?_
    refine OL.det trivial (.add64 rfl rfl (by omega) (by omega)) ?_
    refine OL.dp rfl ?_
    refine OL.nil ?_
    repeat rw [inBlk_n]
    try rw [thenK_n]
    refine LoopEnd.mkS (Sub.drop (Sub.refl _)) (T'' := [(3, _), (8, _), (9, _), (10, _)]) ⟨rfl, rfl, rfl, rfl, trivial⟩ ?_
    have he : textI ((pli l).take (k + 1)) = pre ++ rowsT l[k].pl i ++ [closeB] := by
     rw [hts, hpre, hie]
     simp only [c45, if_true, List.append_assoc]
    have := strs_snoc (z := closeB) hsl48
    exact ⟨l.length - (k + 1), by omega, k + 1, _, seg48, ⟨by omega, rfl, by rw [he]; exact this⟩, rfl, rfl⟩
   skip
   refine PW.skip ?_
   refine hK3 _ _ ?_
   refine PW.k4 3 8 9 10 rfl rfl rfl rfl ?_
   refine PW.ops ?_
   refine OL.det trivial (.add64 rfl rfl (by omega) (by omega)) ?_
   refine OL.dp rfl ?_
   refine OL.nil ?_
   repeat rw [inBlk_n]
   try rw [thenK_n]
   refine LoopEnd.mkS (Sub.drop (Sub.refl _)) (T'' := [(3, _), (8, _), (9, _), (10, _)]) ⟨rfl, rfl, rfl, rfl, trivial⟩ ?_
   have he : textI ((pli l).take (k + 1)) = pre ++ rowsT l[k].pl i := by
    rw [hts, hpre, hie]
    simp only [c45, Bool.false_eq_true, if_false, List.append_nil, List.nil_append, List.append_assoc]
   exact ⟨l.length - (k + 1), by omega, k + 1, vi, sgi, ⟨by omega, rfl, by rw [he]; exact hsi⟩, rfl, rfl⟩
  skip
  obtain ⟨pre, hpre⟩ : ∃ z, z = textI ((pli l).take k) ++ (if l[k].block then [beginB] else []) := ⟨_, rfl⟩
  have hp : SlV 9 1 vo pre.length (strs pre) sgo := by
   rw [hpre, if_neg (by rw [c15]; simp), List.append_nil]
   exact hso
  have hpl : pre.length <= 120003 * k + 1 := by rw [hpre, List.length_append]; have := textI_len hNL k (by rw [hpl0]; omega); split <;> simp <;> omega
  refine PW.skip ?_
  refine hK4 _ _ ?_
  refine PW.k5 3 5 8 9 10 rfl rfl rfl rfl rfl ?_
  refine PW.seq fun K9 hK9 => ?_
  refine PW.seqOps ?_
  refine OL.dp rfl ?_
  refine OL.det trivial (.ld rfl (own_at (j := 0) (c := itemC l[k]) (E := 73) (tot := 3) (List.mem_flatten.2 ⟨_, .head _, List.mem_singleton.2 rfl⟩) rfl)) ?_
  refine OL.dp rfl ?_
  refine OL.dp rfl ?_
  refine OL.nil ?_
  refine PW.k8 3 5 8 9 10 20 21 22 rfl rfl rfl rfl rfl rfl rfl rfl ?_
  refine PW.block ?_
  refine PW.k8 3 5 8 9 10 20 21 22 rfl rfl rfl rfl rfl rfl rfl rfl ?_
  refine PW.loopK (I := fun mi T S' => ∃ (i : Nat) (vi : Value) (sgi : Seg), (i <= l[k].lines.length /\ mi = l[k].lines.length - i /\ SlV 9 1 vi (pre ++ rowsT l[k].pl i).length (strs (pre ++ rowsT l[k].pl i)) sgi) /\ T = ([(3, vi), (5, .pointer (some ⟨r5, 0, none⟩)), (8, .slice (some a0) l.length c), (9, .int .i64 (l.length : Int)), (10, .int .i64 k), (20, .slice l[k].LA l[k].lines.length l[k].lc), (21, .int .i64 (l[k].lines.length : Int)), (22, .int .i64 i)] : TT) /\ S' = [(r5, .cells (itemC l[k]) 73 3)] :: sgi :: S) (m := l[k].lines.length) ⟨0, _, _, ⟨by omega, by omega, by simpa [rowsT] using hp⟩, rfl, rfl⟩ ?_
  rintro mi _ _ ⟨i, vi, sgi, ⟨hi, hmi, hsi⟩, rfl, rfl⟩
  refine PW.seqOps ?_
  refine OL.dp rfl ?_
  refine OL.nil ?_
  refine PW.k9 3 5 8 9 10 20 21 22 23 rfl rfl rfl rfl rfl rfl rfl rfl rfl ?_
  refine PW.seq fun K10 hK10 => ?_
  refine PW.cond rfl (fun c23 => ?_) (fun c23 => ?_)
  ·try simp only [cvS] at c23
   have hil : i < l[k].lines.length := by omega
   obtain ⟨b0, hb0⟩ := lines_some hrk.rdL (by omega)
   have hrl2 := hrk.rdL
   rw [hb0] at hrl2 ⊢
   have hrs := rowsT_succ l[k].pl i
   have hge : l[k].pl.lines[i]! = l[k].lines[i] := getElem!_pos l[k].lines i hil
   have hrl := rowsT_len l[k].pl i
   have hpa : (pre ++ rowsT l[k].pl i).length = pre.length + (rowsT l[k].pl i).length := List.length_append
   refine PW.skip ?_
   refine hK10 _ _ ?_
   refine PW.k8 3 5 8 9 10 20 21 22 rfl rfl rfl rfl rfl rfl rfl rfl ?_
   refine PW.seq fun K11 hK11 => ?_
   refine PW.block ?_
   refine PW.seqOps ?_
   refine OL.dp rfl ?_
   refine OL.det trivial (.ixN rfl rfl rfl hil) ?_
   refine OL.det trivial (.ldA rfl (lineC_len _) (line_at hrl2.cons.cons hil)) ?_
   refine OL.cons trivial OW.al ?_
   rintro _ _ ⟨r7, rfl, rfl⟩
   refine OL.dp rfl ?_
   refine OL.cons trivial (line_st rfl rfl rfl) ?_
   rintro _ _ rfl
   change OL _ _ _ _ _ (lseg r7 l[k].lines[i] :: [(r5, .cells (itemC l[k]) 73 3)] :: sgi :: S) _
   refine OL.nil ?_
   refine PW.k10 3 5 6 7 8 9 10 20 21 22 rfl rfl rfl rfl rfl rfl rfl rfl rfl rfl ?_
   refine PW.seq fun K12 hK12 => ?_
   refine PW.seqOps ?_
   refine OL.dp rfl ?_
   refine OL.det trivial (.ld rfl (own_at (j := 1) (c := itemC l[k]) (E := 73) (tot := 3) (List.mem_flatten.2 ⟨_, .tail _ (.head _), List.mem_singleton.2 rfl⟩) rfl)) ?_
   refine OL.bool trivial (Yields.pure rfl) (fun g29 => ?_) (fun g29 => ?_)
   ·try simp only [cvS] at g29
    refine OL.det rfl (.pure rfl) ?_
    refine OL.det rfl (.ld rfl (own_at (j := 2) (c := itemC l[k]) (E := 73) (tot := 3) (List.mem_flatten.2 ⟨_, .tail _ (.head _), List.mem_singleton.2 rfl⟩) rfl)) ?_
    refine OL.det rfl (.pure rfl) ?_
    refine OL.call rfl rfl (containsI_fc (hrk.rdM.cons.cons.cons) (by omega)) ?_
    rintro _ Sx ⟨rfl, hSx⟩
    rw [hSx]
    clear hSx
    refine OL.dp rfl ?_
    refine OL.nil ?_
    refine PW.k10 3 5 7 8 9 10 20 21 22 34 rfl rfl rfl rfl rfl rfl rfl rfl rfl rfl ?_
    refine PW.cond rfl (fun c34 => ?_) (fun c34 => ?_)
    ·skip
     refine PW.ops ?_
     refine OL.dp rfl ?_
     apply OL.app1 (k := 2)
     ·rfl
     ·rfl
     ·rfl
     ·rfl
     ·rfl
     ·rfl
     ·exact hsi
     ·rfl
     ·omega
     ·unfold maxLen; omega
     intro v37 seg37 hsl37
     have hsi2 := strs_snoc (l := pre ++ rowsT l[k].pl i) (z := middleB) hsl37
     refine OL.dp rfl ?_
     refine OL.nil ?_
     refine hK12 _ _ ?_
     refine PW.k9 3 5 7 8 9 10 20 21 22 rfl rfl rfl rfl rfl rfl rfl rfl rfl ?_
     refine PW.ops ?_
     refine OL.dp rfl ?_
     refine OL.dp rfl ?_
     refine OL.det trivial (.ld rfl (lcell_text (x := l[k].lines[i]) (E := 43) (tot := 35) (List.mem_flatten.2 ⟨_, .head _, List.mem_singleton.2 rfl⟩))) ?_
     apply OL.app1 (k := 2)
     ·rfl
     ·rfl
     ·rfl
     ·rfl
     ·rfl
     ·rfl
     ·exact (by first | exact hsi2 | exact hsi)
     ·rfl
     ·(first | omega | (simp only [List.length_append, List.length_cons, List.length_nil] at *; omega))
     ·unfold maxLen; (first | omega | (simp only [List.length_append, List.length_cons, List.length_nil] at *; omega))
     intro v42 seg42 hsl42
     refine OL.dp rfl ?_
     refine OL.nil ?_
     refine hK11 _ _ ?_
     refine PW.k8 3 5 8 9 10 20 21 22 rfl rfl rfl rfl rfl rfl rfl rfl ?_
     refine PW.ops ?_
     refine OL.det trivial (.add64 rfl rfl (by omega) (by omega)) ?_
     refine OL.dp rfl ?_
     refine OL.nil ?_
     repeat rw [inBlk_n]
     try rw [thenK_n]
     refine LoopEnd.mkS (Sub.drop (Sub.refl _)) (T'' := [(3, _), (5, _), (8, _), (9, _), (10, _), (20, _), (21, _), (22, _)]) ⟨rfl, rfl, rfl, rfl, rfl, rfl, rfl, rfl, trivial⟩ ?_
     rw [hb0]
     have he : pre ++ rowsT l[k].pl (i + 1) = pre ++ rowsT l[k].pl i ++ [middleB] ++ [l[k].lines[i].text] := by
      rw [hrs, hge, if_pos (by show (l[k].block && l[k].mids.contains (i : Int)) = true; rw [g29, c34]; rfl)]
      simp only [List.append_assoc]
     have := strs_snoc (z := l[k].lines[i].text) hsl42
     exact ⟨l[k].lines.length - (i + 1), by omega, i + 1, _, seg42, ⟨by omega, rfl, by rw [he]; exact this⟩, rfl, rfl⟩
    skip
    refine PW.skip ?_
    refine hK12 _ _ ?_
    refine PW.k9 3 5 7 8 9 10 20 21 22 rfl rfl rfl rfl rfl rfl rfl rfl rfl ?_
    refine PW.ops ?_
    refine OL.dp rfl ?_
    refine OL.dp rfl ?_
    refine OL.det trivial (.ld rfl (lcell_text (x := l[k].lines[i]) (E := 43) (tot := 35) (List.mem_flatten.2 ⟨_, .head _, List.mem_singleton.2 rfl⟩))) ?_
    apply OL.app1 (k := 2)
    ·rfl
    ·rfl
    ·rfl
    ·rfl
    ·rfl
    ·rfl
    ·exact (by first | exact hsi2 | exact hsi)
    ·rfl
    ·(first | omega | (simp only [List.length_append, List.length_cons, List.length_nil] at *; omega))
    ·unfold maxLen; (first | omega | (simp only [List.length_append, List.length_cons, List.length_nil] at *; omega))
    intro v42 seg42 hsl42
    refine OL.dp rfl ?_
    refine OL.nil ?_
    refine hK11 _ _ ?_
    refine PW.k8 3 5 8 9 10 20 21 22 rfl rfl rfl rfl rfl rfl rfl rfl ?_
    refine PW.ops ?_
    refine OL.det trivial (.add64 rfl rfl (by omega) (by omega)) ?_
    refine OL.dp rfl ?_
    refine OL.nil ?_
    repeat rw [inBlk_n]
    try rw [thenK_n]
    refine LoopEnd.mkS (Sub.drop (Sub.refl _)) (T'' := [(3, _), (5, _), (8, _), (9, _), (10, _), (20, _), (21, _), (22, _)]) ⟨rfl, rfl, rfl, rfl, rfl, rfl, rfl, rfl, trivial⟩ ?_
    rw [hb0]
    have he : pre ++ rowsT l[k].pl (i + 1) = pre ++ rowsT l[k].pl i ++ [l[k].lines[i].text] := by
     rw [hrs, hge, if_neg (by show ¬ (l[k].block && l[k].mids.contains (i : Int)) = true; rw [g29, c34]; simp)]
     simp only [List.nil_append, List.append_assoc]
    have := strs_snoc (z := l[k].lines[i].text) hsl42
    exact ⟨l[k].lines.length - (i + 1), by omega, i + 1, _, seg42, ⟨by omega, rfl, by rw [he]; exact this⟩, rfl, rfl⟩
   try simp only [cvS] at g29
   refine OL.off rfl rfl ?_
   refine OL.off rfl rfl ?_
   refine OL.off rfl rfl ?_
   refine OL.off rfl rfl ?_
   refine OL.dp rfl ?_
   refine OL.nil ?_
   refine PW.k10 3 5 7 8 9 10 20 21 22 34 rfl rfl rfl rfl rfl rfl rfl rfl rfl rfl ?_
   refine PW.ite (b := false) rfl ?_
   rw [if_neg Bool.false_ne_true]
   refine PW.skip ?_
   refine hK12 _ _ ?_
   refine PW.k9 3 5 7 8 9 10 20 21 22 rfl rfl rfl rfl rfl rfl rfl rfl rfl ?_
   refine PW.ops ?_
   refine OL.dp rfl ?_
   refine OL.dp rfl ?_
   refine OL.det trivial (.ld rfl (lcell_text (x := l[k].lines[i]) (E := 43) (tot := 35) (List.mem_flatten.2 ⟨_, .head _, List.mem_singleton.2 rfl⟩))) ?_
   apply OL.app1 (k := 2)
   ·rfl
   ·rfl
   ·rfl
   ·rfl
   ·rfl
   ·rfl
   ·exact (by first | exact hsi2 | exact hsi)
   ·rfl
   ·(first | omega | (simp only [List.length_append, List.length_cons, List.length_nil] at *; omega))
   ·unfold maxLen; (first | omega | (simp only [List.length_append, List.length_cons, List.length_nil] at *; omega))
   intro v42 seg42 hsl42
   refine OL.dp rfl ?_
   refine OL.nil ?_
   refine hK11 _ _ ?_
   refine PW.k8 3 5 8 9 10 20 21 22 rfl rfl rfl rfl rfl rfl rfl rfl ?_
   refine PW.ops ?_
   refine OL.det trivial (.add64 rfl rfl (by omega) (by omega)) ?_
   refine OL.dp rfl ?_
   refine OL.nil ?_
   repeat rw [inBlk_n]
   try rw [thenK_n]
   refine LoopEnd.mkS (Sub.drop (Sub.refl _)) (T'' := [(3, _), (5, _), (8, _), (9, _), (10, _), (20, _), (21, _), (22, _)]) ⟨rfl, rfl, rfl, rfl, rfl, rfl, rfl, rfl, trivial⟩ ?_
   rw [hb0]
   have he : pre ++ rowsT l[k].pl (i + 1) = pre ++ rowsT l[k].pl i ++ [l[k].lines[i].text] := by
    rw [hrs, hge, if_neg (by show ¬ (l[k].block && l[k].mids.contains (i : Int)) = true; rw [g29]; simp)]
    simp only [List.nil_append, List.append_assoc]
   have := strs_snoc (z := l[k].lines[i].text) hsl42
   exact ⟨l[k].lines.length - (i + 1), by omega, i + 1, _, seg42, ⟨by omega, rfl, by rw [he]; exact this⟩, rfl, rfl⟩
  try simp only [cvS] at c23
  have hie : i = l[k].lines.length := by omega
  have hpg := pli_get hkl
  have hts := textI_snoc (l := pli l) (k := k) (by omega)
  rw [hpg] at hts
  unfold oneT at hts
  have hts : textI ((pli l).take (k + 1)) = textI ((pli l).take k) ++ ((if l[k].block = true then [beginB] else []) ++ rowsT l[k].pl l[k].lines.length ++ (if l[k].block = true then [closeB] else [])) := hts
  have hrl := rowsT_len l[k].pl i
  have hpa : (pre ++ rowsT l[k].pl i).length = pre.length + (rowsT l[k].pl i).length := List.length_append
  refine PW.exit ?_
  refine hK9 _ _ ?_
  refine PW.k5 3 5 8 9 10 rfl rfl rfl rfl rfl ?_
  refine PW.seqOps ?_
  refine OL.dp rfl ?_
  refine OL.det trivial (.ld rfl (own_at (j := 1) (c := itemC l[k]) (E := 73) (tot := 3) (List.mem_flatten.2 ⟨_, .head _, List.mem_singleton.2 rfl⟩) rfl)) ?_
  refine OL.nil ?_
  refine PW.k5 3 8 9 10 45 rfl rfl rfl rfl rfl ?_
  refine PW.cond rfl (fun c45 => ?_) (fun c45 => ?_)
  ·skip
   refine PW.ops ?_
   refine OL.dp rfl ?_
   apply OL.app1 (k := 1)
   ·rfl
   ·rfl
   ·rfl
   ·rfl
   ·rfl
   ·rfl
   ·exact hsi
   ·rfl
   ·omega
   ·unfold maxLen; omega
   intro v48 seg48 hsl48
   refine OL.dp rfl ?_
   refine OL.nil ?_
   refine hK3 _ _ ?_
   refine PW.k4 3 8 9 10 rfl rfl rfl rfl ?_
   refine PW.ops ?_
   refine OL.det trivial (.add64 rfl rfl (by omega) (by omega)) ?_
   refine OL.dp rfl ?_
   refine OL.nil ?_
   repeat rw [inBlk_n]
   try rw [thenK_n]
   refine LoopEnd.mkS (Sub.drop (Sub.refl _)) (T'' := [(3, _), (8, _), (9, _), (10, _)]) ⟨rfl, rfl, rfl, rfl, trivial⟩ ?_
   have he : textI ((pli l).take (k + 1)) = pre ++ rowsT l[k].pl i ++ [closeB] := by
    rw [hts, hpre, hie]
    simp only [c45, if_true, List.append_assoc]
   have := strs_snoc (z := closeB) hsl48
   exact ⟨l.length - (k + 1), by omega, k + 1, _, seg48, ⟨by omega, rfl, by rw [he]; exact this⟩, rfl, rfl⟩
  skip
  refine PW.skip ?_
  refine hK3 _ _ ?_
  refine PW.k4 3 8 9 10 rfl rfl rfl rfl ?_
  refine PW.ops ?_
  refine OL.det trivial (.add64 rfl rfl (by omega) (by omega)) ?_
  refine OL.dp rfl ?_
  refine OL.nil ?_
  repeat rw [inBlk_n]
  try rw [thenK_n]
  refine LoopEnd.mkS (Sub.drop (Sub.refl _)) (T'' := [(3, _), (8, _), (9, _), (10, _)]) ⟨rfl, rfl, rfl, rfl, trivial⟩ ?_
  have he : textI ((pli l).take (k + 1)) = pre ++ rowsT l[k].pl i := by
   rw [hts, hpre, hie]
   simp only [c45, Bool.false_eq_true, if_false, List.append_nil, List.nil_append, List.append_assoc]
  exact ⟨l.length - (k + 1), by omega, k + 1, vi, sgi, ⟨by omega, rfl, by rw [he]; exact hsi⟩, rfl, rfl⟩
 try simp only [cvS] at c11
 refine PW.exit ?_
 refine hK1 _ _ ?_
 refine PW.k1 3 rfl ?_
 refine PW.seqOps ?_
 refine OL.dp rfl ?_
 refine OL.dp rfl ?_
 refine OL.nil ?_
 refine PW.k1 2 rfl ?_
 refine PW.ret ?_
 change (Exit.ret = Exit.normal ∨ Exit.ret = Exit.ret) /\ ∃ v, resV _ _ = some v /\ _
 have hke : k = (pli l).length := by omega
 rw [hke, List.take_length] at hso
 have := textI_len hNL (pli l).length (Nat.le_refl _)
 rw [List.take_length] at this
 exact ⟨.inr rfl, _, rfl, _, Sub.refl _, sgo, rfl, hso, by omega⟩
end Go.Proofs.Gr

namespace Go.Proofs.Gr
open Go.SL Go.RowKit Go.Proofs Go.GP
set_option maxHeartbeats 1000000
theorem vtxs_snoc' {v : Value} {l : List Vtx} {x : Vtx} {seg : Seg} (h : SlV 32 33 v (l.length + 1) (vtxs l ++ vtxL x) seg) : SlV 32 33 v (l ++ [x]).length (vtxs (l ++ [x])) seg := by
 rw [List.length_append, vtxs_app]
 have : vtxs [x] = vtxL x := by simp [vtxs]
 rw [this]
 exact h
theorem appVs {P : Program} {w0 : World} {n : Nat} {T : TT} {S : SS} {k m q c : Nat} {z v : Value} {s x : PV} {A : Option Addr} {xs l : List Vtx} {seg : Seg} (hs' : s.val T = some v) (hk : S[k]? = some seg) (hv : SlV 32 33 v m (vtxs xs) seg)
  (hx : x.val T = some (.slice A q c)) (hm : xs.length = m) (hq : l.length = q) (hrd : Rd w0 S A (vtxs l)) (hc : A = none -> c = 0) (hb : m + q <= 100000000) :
  OW P w0 n (.app 34 32 33 40 z s x) T S (fun v' S' => ∃ seg', S' = S.set k seg' /\ SlV 32 33 v' (xs ++ l).length (vtxs (xs ++ l)) seg') := by
 have h := OW.appL (P := P) (w0 := w0) (n := n) (t := 34) (z := z) (bytes := 40) hs' hk hv hx (by rw [vtxs_len, hq]) hrd (by decide) hc (vtxs_one l) (by omega) (by unfold maxLen; omega)
 rw [<- vtxs_app] at h
 rw [List.length_append, hm, hq]
 exact h
theorem own_take (p : PartP) (k : Nat) (hk : k < p.lines.length) : (own p).take (k + 1) = (own p).take k ++ [p.vtx k] := by
 have hl := own_len p
 rw [ltake_snoc (by omega)]
 congr 2
 simp [own]
theorem rOwn_fc {w0 : World} {S : SS} {p : PartM} (hp : PartR p) : FC Try.prog w0 91 [partV p] S (fun v S' => ∃ seg, S' = seg :: S /\ SlV 32 33 v (own p.pl).length (vtxs (own p.pl)) seg) := by
 have hpl := hp.lines
 have hpf := hp.first
 have hol : (own p.pl).length = p.lines.length := own_len p.pl
 refine FC.ofD Try.known91 (by simp) ?_
 unfold Try.pc91
 simp only [argT]
 refine PW.seqOps ?_
 refine OL.cons trivial (OW.bx rfl) ?_
 rintro _ _ ⟨r1, rfl, rfl⟩
 rw [part_box, partC_len]
 refine OL.dp rfl ?_
 refine OL.nil ?_
 refine PW.k1 1 rfl ?_
 refine PW.seqOps ?_
 refine OL.dp rfl ?_
 refine OL.nil ?_
 refine PW.k2 1 3 rfl rfl ?_
 refine PW.seq fun K1 hK1 => ?_
 refine PW.seqOps ?_
 refine OL.subS (S' := [] :: [(r1, .cells (partC p) 123 102)] :: S) (Sub.nilL (Sub.refl _)) ?_
 refine OL.dp rfl ?_
 refine OL.nil ?_
 refine PW.k3 1 3 4 rfl rfl rfl ?_
 refine PW.block ?_
 refine PW.k3 1 3 4 rfl rfl rfl ?_
 refine PW.loopK (I := fun mm T S' => ∃ (k : Nat) (vo : Value) (sgo : Seg), (k <= p.lines.length /\ mm = p.lines.length - k /\ ((own p.pl).take k).length = k /\ SlV 32 33 vo ((own p.pl).take k).length (vtxs ((own p.pl).take k)) sgo) /\ T = ([(1, .pointer (some ⟨r1, 0, none⟩)), (3, vo), (4, .int .i64 k)] : TT) /\ S' = sgo :: [(r1, .cells (partC p) 123 102)] :: S) (m := p.lines.length) ⟨0, _, [], ⟨by omega, by omega, rfl, SlV.nil 32 33⟩, rfl, rfl⟩ ?_
 rintro mm _ _ ⟨k, vo, sgo, ⟨hk, hmm, hkt, hso⟩, rfl, rfl⟩
 refine PW.seq fun K2 hK2 => ?_
 refine PW.seqOps ?_
 refine OL.dp rfl ?_
 refine OL.dp rfl ?_
 refine OL.det trivial (.ld rfl (part_lines (p := p) (E := 123) (tot := 102) (List.mem_flatten.2 ⟨_, .tail _ (.head _), List.mem_singleton.2 rfl⟩))) ?_
 refine OL.dp rfl ?_
 refine OL.dp rfl ?_
 refine OL.nil ?_
 refine PW.k4 1 3 4 9 rfl rfl rfl rfl ?_
 refine PW.cond rfl (fun c9 => ?_) (fun c9 => ?_)
 ·try simp only [cvS] at c9
  refine PW.skip ?_
  refine hK2 _ _ ?_
  refine PW.k3 1 3 4 rfl rfl rfl ?_
  refine PW.seq fun K3 hK3 => ?_
  refine PW.block ?_
  refine PW.ops ?_
  refine OL.dp rfl ?_
  refine OL.dp rfl ?_
  refine OL.det trivial (.ldA rfl (hb_len _) (part_patch (p := p) (E := 123) (tot := 102) (List.mem_flatten.2 ⟨_, .tail _ (.head _), List.mem_singleton.2 rfl⟩))) ?_
  refine OL.dp rfl ?_
  refine OL.det trivial (.ld rfl (part_first (p := p) (E := 123) (tot := 102) (List.mem_flatten.2 ⟨_, .tail _ (.head _), List.mem_singleton.2 rfl⟩))) ?_
  refine OL.dp rfl ?_
  refine OL.det trivial (.add64 rfl rfl (by omega) (by omega)) ?_
  refine OL.det trivial (.build (fill_vtx rfl rfl)) ?_
  apply OL.app1 (k := 0)
  ·rfl
  ·rfl
  ·exact (List.size_toArray).trans (vtxL_len _)
  ·rfl
  ·rfl
  ·rfl
  ·exact hso
  ·exact vtxL_one _
  ·omega
  ·unfold maxLen; omega
  intro v21 seg21 hsl21
  refine OL.dp rfl ?_
  refine OL.nil ?_
  refine hK3 _ _ ?_
  refine PW.k3 1 3 4 rfl rfl rfl ?_
  refine PW.ops ?_
  refine OL.dp rfl ?_
  refine OL.det trivial (.add64 rfl rfl (by omega) (by omega)) ?_
  refine OL.dp rfl ?_
  refine OL.nil ?_
  repeat rw [inBlk_n]
  try rw [thenK_n]
  refine LoopEnd.mk (T'' := [(1, _), (3, _), (4, _)]) ⟨rfl, rfl, rfl, trivial⟩ ?_
  have hts := own_take p.pl k (show k < p.lines.length by omega)
  exact ⟨p.lines.length - (k + 1), by omega, k + 1, _, seg21, ⟨by omega, rfl, by rw [hts, List.length_append, hkt]; rfl, by rw [hts]; exact vtxs_snoc' hsl21⟩, rfl, rfl⟩
 try simp only [cvS] at c9
 refine PW.exit ?_
 refine hK1 _ _ ?_
 refine PW.k1 3 rfl ?_
 refine PW.seqOps ?_
 refine OL.dp rfl ?_
 refine OL.dp rfl ?_
 refine OL.nil ?_
 refine PW.k1 2 rfl ?_
 refine PW.ret ?_
 change (Exit.ret = Exit.normal ∨ Exit.ret = Exit.ret) /\ ∃ v, resV _ _ = some v /\ _
 have hke : k = (own p.pl).length := by omega
 rw [hke, List.take_length] at hso
 exact ⟨.inr rfl, _, rfl, _, Sub.cons (Sub.drop (Sub.refl _)), sgo, rfl, hso⟩
theorem allV_take {l : List PartM} {k : Nat} (hk : k < l.length) : allV (pls (l.take (k + 1))) = allV (pls (l.take k)) ++ own l[k].pl := by
 unfold pls
 rw [ltake_snoc hk, List.map_append, allV_app]
 simp [allV]
theorem allV_len {l : List PartM} (h : ∀ p ∈ l, p.lines.length <= 100) : ∀ k, k <= l.length -> (allV (pls (l.take k))).length <= 100 * k
 | 0, _ => by simp [pls, allV]
 | k + 1, hk => by
  rw [allV_take (by omega), List.length_append, own_len]
  have h1 := allV_len h k (by omega)
  have h2 := h _ (List.getElem_mem (show k < l.length by omega))
  have : l[k].pl.lines.length = l[k].lines.length := rfl
  omega
structure PartsRd (w0 : World) (S : SS) (A : Option Addr) (l : List PartM) : Prop where
 rd : Rd w0 S A (partS l)
 part : ∀ p ∈ l, PartRd w0 S p
 len : l.length <= 1000
theorem PartsRd.mono {w0 : World} {S S' : SS} {A : Option Addr} {l : List PartM} (h : PartsRd w0 S A l) (hs : Over S S') : PartsRd w0 S' A l := ⟨h.rd.mono hs, fun p hp => (h.part p hp).mono hs, h.len⟩
theorem PartsRd.cons {w0 : World} {S : SS} {s : Seg} {A : Option Addr} {l : List PartM} (h : PartsRd w0 S A l) : PartsRd w0 (s :: S) A l := h.mono (Over.refl S).cons
theorem rAll_fc {w0 : World} {S : SS} {A : Option Addr} {c : Nat} {l : List PartM} (h : PartsRd w0 S A l) : FC Try.prog w0 90 [.slice A l.length c] S (fun v S' => ∃ seg, S' = seg :: S /\ SlV 32 33 v (allV (pls l)).length (vtxs (allV (pls l))) seg) := by
 have hpl := allV_len fun p hp => (h.part p hp).small.1
 have hll := h.len
 have hrd := h.rd
 refine FC.ofD Try.known90 (by simp) ?_
 unfold Try.pc90
 simp only [argT]
 refine PW.seqOps ?_
 refine OL.dp rfl ?_
 refine OL.nil ?_
 refine PW.k1 0 rfl ?_
 refine PW.seqOps ?_
 refine OL.dp rfl ?_
 refine OL.nil ?_
 refine PW.k2 0 3 rfl rfl ?_
 refine PW.seq fun K1 hK1 => ?_
 refine PW.seqOps ?_
 refine OL.subS (S' := [] :: S) (Sub.nilL (Sub.refl _)) ?_
 refine OL.dp rfl ?_
 refine OL.nil ?_
 refine PW.k3 0 3 4 rfl rfl rfl ?_
 refine PW.block ?_
 refine PW.k3 0 3 4 rfl rfl rfl ?_
 refine PW.loopK (I := fun mm T S' => ∃ (k : Nat) (vo : Value) (sgo : Seg), (k <= l.length /\ mm = l.length - k /\ SlV 32 33 vo (allV (pls (l.take k))).length (vtxs (allV (pls (l.take k)))) sgo) /\ T = ([(0, .slice A l.length c), (3, vo), (4, .int .i64 k)] : TT) /\ S' = sgo :: S) (m := l.length) ⟨0, _, [], ⟨by omega, by omega, SlV.nil 32 33⟩, rfl, rfl⟩ ?_
 rintro mm _ _ ⟨k, vo, sgo, ⟨hk, hmm, hso⟩, rfl, rfl⟩
 refine PW.seq fun K2 hK2 => ?_
 refine PW.seqOps ?_
 refine OL.dp rfl ?_
 refine OL.dp rfl ?_
 refine OL.dp rfl ?_
 refine OL.dp rfl ?_
 refine OL.nil ?_
 refine PW.k4 0 3 4 8 rfl rfl rfl rfl ?_
 refine PW.cond rfl (fun c8 => ?_) (fun c8 => ?_)
 ·try simp only [cvS] at c8
  have hkl : k < l.length := by omega
  obtain ⟨a0, rfl⟩ := partS_some hrd (by omega)
  have hpk := hpl k (by omega)
  have hpk2 := (h.part _ (List.getElem_mem hkl)).small.1
  refine PW.skip ?_
  refine hK2 _ _ ?_
  refine PW.k3 0 3 4 rfl rfl rfl ?_
  refine PW.seq fun K3 hK3 => ?_
  refine PW.block ?_
  refine PW.ops ?_
  refine OL.dp rfl ?_
  refine OL.dp rfl ?_
  refine OL.dp rfl ?_
  refine OL.det trivial (.ixN rfl rfl rfl hkl) ?_
  refine OL.det trivial (.ldA rfl (partC_len _) (partS_at hrd.cons hkl)) ?_
  refine OL.call trivial rfl (rOwn_fc (h.part _ (List.getElem_mem hkl)).rng) ?_
  rintro _ _ ⟨seg16, rfl, hsl16⟩
  obtain ⟨A16, c16, rfl, hn16, hc16, hr16⟩ := slv_rdL (w0 := w0) hsl16
  refine OL.cons trivial (appVs (k := 1) rfl rfl hso rfl rfl rfl (hr16 _) hn16 (by rw [own_len]; show _ + l[k].lines.length <= _; omega)) ?_
  rintro v17 _ ⟨seg17, rfl, hsl17⟩
  refine OL.dp rfl ?_
  refine OL.nil ?_
  refine hK3 _ _ ?_
  refine PW.k3 0 3 4 rfl rfl rfl ?_
  refine PW.ops ?_
  refine OL.dp rfl ?_
  refine OL.det trivial (.add64 rfl rfl (by omega) (by omega)) ?_
  refine OL.dp rfl ?_
  refine OL.nil ?_
  repeat rw [inBlk_n]
  try rw [thenK_n]
  refine LoopEnd.mkS (Sub.drop (Sub.refl _)) (T'' := [(0, _), (3, _), (4, _)]) ⟨rfl, rfl, rfl, trivial⟩ ?_
  exact ⟨l.length - (k + 1), by omega, k + 1, v17, seg17, ⟨by omega, rfl, by rw [allV_take hkl]; exact hsl17⟩, rfl, rfl⟩
 try simp only [cvS] at c8
 refine PW.exit ?_
 refine hK1 _ _ ?_
 refine PW.k1 3 rfl ?_
 refine PW.seqOps ?_
 refine OL.dp rfl ?_
 refine OL.dp rfl ?_
 refine OL.nil ?_
 refine PW.k1 2 rfl ?_
 refine PW.ret ?_
 change (Exit.ret = Exit.normal ∨ Exit.ret = Exit.ret) /\ ∃ v, resV _ _ = some v /\ _
 have hke : k = l.length := by omega
 rw [hke, List.take_length] at hso
 exact ⟨.inr rfl, _, rfl, _, Sub.refl _, sgo, rfl, hso⟩
theorem rHas_fc {w0 : World} {S : SS} {A : Option Addr} {c : Nat} {l : List Vtx} {v : Vtx} (hx : Rd w0 S A (vtxs l)) (hb : l.length <= 1000000000) : FC Try.prog w0 92 [.slice A l.length c, vtxV v] S (fun u S' => u = .bool (decide (v ∈ l)) /\ S' = S) := by
 refine FC.ofD Try.known92 (by simp) ?_
 unfold Try.pc92
 simp only [argT]
 refine PW.seqOps ?_
 refine OL.cons trivial (OW.bx rfl) ?_
 rintro _ _ ⟨r3, rfl, rfl⟩
 rw [vtx_box, vtxL_len]
 refine OL.dp rfl ?_
 refine OL.nil ?_
 refine PW.k2 0 3 rfl rfl ?_
 refine PW.seq fun K1 hK1 => ?_
 refine PW.seqOps ?_
 refine OL.dp rfl ?_
 refine OL.nil ?_
 refine PW.k3 0 3 5 rfl rfl rfl ?_
 refine PW.block ?_
 refine PW.k3 0 3 5 rfl rfl rfl ?_
 refine PW.loopK (I := fun mm T S' => ∃ (k : Nat), (k <= l.length /\ mm = l.length - k /\ v ∉ l.take k) /\ T = ([(0, .slice A l.length c), (3, .pointer (some ⟨r3, 0, none⟩)), (5, .int .i64 k)] : TT) /\ S' = vseg r3 v :: S) (m := l.length) ⟨0, ⟨by omega, by omega, by simp⟩, rfl, rfl⟩ ?_
 rintro mm _ _ ⟨k, ⟨hk, hmm, hall⟩, rfl, rfl⟩
 refine PW.seq fun K2 hK2 => ?_
 refine PW.seqOps ?_
 refine OL.dp rfl ?_
 refine OL.dp rfl ?_
 refine OL.dp rfl ?_
 refine OL.dp rfl ?_
 refine OL.nil ?_
 refine PW.k4 0 3 5 9 rfl rfl rfl rfl ?_
 refine PW.cond rfl (fun c9 => ?_) (fun c9 => ?_)
 ·try simp only [cvS] at c9
  have hkl : k < l.length := by omega
  obtain ⟨a0, rfl⟩ := vtxs_some hx (by omega)
  refine PW.skip ?_
  refine hK2 _ _ ?_
  refine PW.k3 0 3 5 rfl rfl rfl ?_
  refine PW.seq fun K3 hK3 => ?_
  refine PW.block ?_
  refine PW.seq fun K4 hK4 => ?_
  refine PW.quietK Try.mixed ?_
  refine QK.dp rfl ?_
  refine QK.dp rfl ?_
  refine QK.det trivial (.ixN rfl rfl rfl hkl) ?_
  refine QK.det trivial (.ldA rfl (vtxL_len _) (vtx_at hx.cons hkl)) ?_
  refine QK.det trivial (.ldA rfl (vtxL_len _) (all_at (List.mem_flatten.2 ⟨_, .head _, List.mem_singleton.2 rfl⟩))) ?_
  refine QK.nil ?_
  change OL _ _ _ [_] _ _ _
  refine OL.det trivial (.eqD (neg := false) rfl rfl (eqL_vtx _ _)) ?_
  refine OL.nil ?_
  refine hK4 _ _ ?_
  refine PW.k4 0 3 5 17 rfl rfl rfl rfl ?_
  refine PW.cond rfl (fun c17 => ?_) (fun c17 => ?_)
  ·try simp only [cvS] at c17
   refine PW.seqOps ?_
   refine OL.dp rfl ?_
   refine OL.nil ?_
   refine PW.k1 4 rfl ?_
   refine PW.ret ?_
   change (Exit.ret = Exit.normal ∨ Exit.ret = Exit.ret) /\ ∃ v, resV _ _ = some v /\ _
   exact ⟨.inr rfl, _, rfl, _, Sub.drop (Sub.refl _), congrArg Value.bool (decide_eq_true (by rw [<- c17]; exact List.getElem_mem _)).symm, rfl⟩
  try simp only [cvS] at c17
  refine PW.skip ?_
  refine hK3 _ _ ?_
  refine PW.k3 0 3 5 rfl rfl rfl ?_
  refine PW.ops ?_
  refine OL.dp rfl ?_
  refine OL.det trivial (.add64 rfl rfl (by omega) (by omega)) ?_
  refine OL.dp rfl ?_
  refine OL.nil ?_
  repeat rw [inBlk_n]
  try rw [thenK_n]
  refine LoopEnd.mk (T'' := [(0, _), (3, _), (5, _)]) ⟨rfl, rfl, rfl, trivial⟩ ?_
  refine ⟨l.length - (k + 1), by omega, k + 1, ⟨by omega, rfl, fun hm => ?_⟩, rfl, rfl⟩
  rw [vtake_snoc hkl] at hm
  rcases List.mem_append.1 hm with h | h
  ·exact hall h
  rw [List.mem_singleton] at h
  exact c17 h.symm
 try simp only [cvS] at c9
 refine PW.exit ?_
 refine hK1 _ _ ?_
 refine PW.keep (T' := []) trivial ?_
 refine PW.seqOps ?_
 refine OL.dp rfl ?_
 refine OL.nil ?_
 refine PW.k1 4 rfl ?_
 refine PW.ret ?_
 change (Exit.ret = Exit.normal ∨ Exit.ret = Exit.ret) /\ ∃ v, resV _ _ = some v /\ _
 exact ⟨.inr rfl, _, rfl, _, Sub.drop (Sub.refl _), congrArg Value.bool (decide_eq_false (by have : k = l.length := (by omega); rw [this, List.take_length] at hall; exact hall)).symm, rfl⟩
theorem rEnd_fc {w0 : World} {S : SS} : FC Try.prog w0 93 [] S (fun v S' => v = vtxV endV /\ S' = S) := by
 refine FC.ofC Try.known93 (by simp) ?_
 unfold Try.pc93
 simp only [argT]
 refine PW.seqOps ?_
 refine OL.cons trivial OW.al ?_
 rintro _ _ ⟨r0, rfl, rfl⟩
 refine OL.nil ?_
 refine PW.k1 0 rfl ?_
 refine PW.seqOps ?_
 refine OL.det trivial (.build rfl) ?_
 refine OL.cons trivial (OW.st (k := 0) rfl rfl rfl rfl (by first | decide | (simp; done) | (simp; omega)) (by first | rfl | simp)) ?_
 rintro _ _ rfl
 refine OL.nil ?_
 refine PW.k1 0 rfl ?_
 refine PW.ret ?_
 change (Exit.ret = Exit.normal ∨ Exit.ret = Exit.ret) /\ ∃ a v, Go.SL.look _ _ = some (.pointer (some a)) /\ ReadsAs _ _ _ _ _ /\ _
 exact ⟨.inr rfl, _, _, rfl, vtx_read (r := r0) (v := endV) (E := 32) (tot := 33) (List.Mem.head _), _, Sub.drop (Sub.refl _), rfl, rfl⟩
theorem rRoot_fc {w0 : World} {S : SS} : FC Try.prog w0 94 [] S (fun v S' => v = vtxV rootV /\ S' = S) := by
 refine FC.ofC Try.known94 (by simp) ?_
 unfold Try.pc94
 simp only [argT]
 refine PW.seqOps ?_
 refine OL.cons trivial OW.al ?_
 rintro _ _ ⟨r0, rfl, rfl⟩
 refine OL.nil ?_
 refine PW.k1 0 rfl ?_
 refine PW.seqOps ?_
 refine OL.det trivial (.build rfl) ?_
 refine OL.cons trivial (OW.st (k := 0) rfl rfl rfl rfl (by first | decide | (simp; done) | (simp; omega)) (by first | rfl | simp)) ?_
 rintro _ _ rfl
 refine OL.nil ?_
 refine PW.k1 0 rfl ?_
 refine PW.ret ?_
 change (Exit.ret = Exit.normal ∨ Exit.ret = Exit.ret) /\ ∃ a v, Go.SL.look _ _ = some (.pointer (some a)) /\ ReadsAs _ _ _ _ _ /\ _
 exact ⟨.inr rfl, _, _, rfl, vtx_read (r := r0) (v := rootV) (E := 32) (tot := 33) (List.Mem.head _), _, Sub.drop (Sub.refl _), rfl, rfl⟩
end Go.Proofs.Gr

namespace Go.Proofs.Gr
open Go.SL Go.RowKit Go.Proofs Go.GP
set_option maxHeartbeats 1000000
def pairs (E : List (Vtx × Vtx)) : List Vtx := E.flatMap fun e => [e.1, e.2]
theorem pairs_app (a b : List (Vtx × Vtx)) : pairs (a ++ b) = pairs a ++ pairs b := by unfold pairs; rw [List.flatMap_append]
theorem pairs_len (E : List (Vtx × Vtx)) : (pairs E).length = 2 * E.length := by
 unfold pairs
 induction E with
 | nil => rfl
 | cons e E ih => rw [List.flatMap_cons, List.length_append, ih]; simp only [List.length_cons, List.length_nil]; omega
theorem pairs_get : ∀ {E : List (Vtx × Vtx)} {k : Nat} (hk : k < E.length), (pairs E)[2 * k]? = some E[k].1 /\ (pairs E)[2 * k + 1]? = some E[k].2
 | e :: E, 0, _ => ⟨rfl, rfl⟩
 | e :: E, k + 1, hk => by
  have := pairs_get (E := E) (k := k) (by simpa using hk)
  exact ⟨by rw [show 2 * (k + 1) = 2 * k + 2 by omega]; exact this.1, by rw [show 2 * (k + 1) + 1 = 2 * k + 1 + 2 by omega]; exact this.2⟩
section
variable {w0 : World} {S : SS} {a : Addr} {l : List PartM} {k : Nat}
theorem partS_up (h : Rd w0 S (some a) (partS l)) (hk : k < l.length) : ∀ (j : Nat) (v : Value), (vtxL l[k].up)[j]? = some v -> Cell w0 S (((a.add (k * 102)).add 34).add j) v := by
 intro j v hj
 have hj2 := (List.getElem?_eq_some_iff.1 hj).1
 have h1 := hb_len l[k].patch
 have h2 := vtxL_len l[k].up
 rw [addr_add_add (a.add (k * 102))]
 refine partS_at h hk (34 + j) v ?_
 rw [partC_split, List.getElem?_append_right (by omega), h1, List.getElem?_append_right (by simp only [List.length_cons, List.length_nil]; omega), List.getElem?_append_right (by simp only [List.length_cons, List.length_nil]; omega), List.getElem?_append_left (by simp only [List.length_cons, List.length_nil]; omega)]
 rw [<- hj]
 congr 1
 simp only [List.length_cons, List.length_nil]
 omega
theorem partS_down (h : Rd w0 S (some a) (partS l)) (hk : k < l.length) : ∀ (j : Nat) (v : Value), (vtxL l[k].down)[j]? = some v -> Cell w0 S (((a.add (k * 102)).add 67).add j) v := by
 intro j v hj
 have hj2 := (List.getElem?_eq_some_iff.1 hj).1
 have h1 := hb_len l[k].patch
 have h2 := vtxL_len l[k].up
 have h3 := vtxL_len l[k].down
 rw [addr_add_add (a.add (k * 102))]
 refine partS_at h hk (67 + j) v ?_
 rw [partC_split, List.getElem?_append_right (by omega), h1, List.getElem?_append_right (by simp only [List.length_cons, List.length_nil]; omega), List.getElem?_append_right (by simp only [List.length_cons, List.length_nil]; omega), List.getElem?_append_right (by simp only [List.length_cons, List.length_nil]; omega), h2, List.getElem?_append_left (by simp only [List.length_cons, List.length_nil]; omega)]
 rw [<- hj]
 congr 1
 simp only [List.length_cons, List.length_nil]
 omega
end
theorem way_own {p : PartP} {i : Nat} (hi : i < (own p).length) (h : i + 1 < (way p).length) : (way p)[i + 1] = (own p)[i] := by
 show (own p ++ [p.down])[i]'_ = _
 exact List.getElem_append_left hi
theorem way_down {p : PartP} (h : (own p).length + 1 < (way p).length) : (way p)[(own p).length + 1] = p.down := by
 show (own p ++ [p.down])[(own p).length]'_ = _
 rw [List.getElem_append_right (Nat.le_refl _)]
 simp
theorem allE_take {l : List PartM} {k : Nat} (hk : k < l.length) : allE (pls (l.take (k + 1))) = allE (pls (l.take k)) ++ edges l[k].pl := by
 unfold pls allE
 rw [ltake_snoc hk, List.map_append, List.flatMap_append]
 simp
theorem pairs_snoc {l : List Vtx} {i : Nat} (h : i + 1 < l.length) : pairs ((edgeL l).take (i + 1)) = pairs ((edgeL l).take i) ++ [l[i], l[i + 1]] := by
 rw [edgeL_take h, pairs_app]
 rfl
theorem edges_own (p : PartP) (h : 0 < (own p).length) : edges p = (edgeL (way p)).take ((own p).length + 1) := by
 unfold edges
 rw [if_neg (by rw [own_len] at h; omega), List.take_of_length_le (by rw [edgeL_len, way_len, own_len]; omega)]
theorem edges_none (p : PartP) (h : (own p).length = 0) : edges p = [] := by
 unfold edges
 rw [if_pos (by rw [own_len] at h; exact h)]
theorem rEdges_fc {w0 : World} {S : SS} {A : Option Addr} {c : Nat} {l : List PartM} (h : PartsRd w0 S A l) : FC Try.prog w0 112 [.slice A l.length c] S (fun v S' => ∃ seg, S' = seg :: S /\ SlV 32 33 v (pairs (allE (pls l))).length (vtxs (pairs (allE (pls l)))) seg) := by
 have hll := h.len
 have hrd := h.rd
 refine FC.ofD Try.known112 (by simp) ?_
 unfold Try.pc112
 simp only [argT]
 refine PW.seqOps ?_
 refine OL.dp rfl ?_
 refine OL.nil ?_
 refine PW.k1 0 rfl ?_
 refine PW.seqOps ?_
 refine OL.dp rfl ?_
 refine OL.nil ?_
 refine PW.k2 0 3 rfl rfl ?_
 refine PW.seq fun K1 hK1 => ?_
 refine PW.seqOps ?_
 refine OL.subS (S' := [] :: S) (Sub.nilL (Sub.refl _)) ?_
 refine OL.dp rfl ?_
 refine OL.nil ?_
 refine PW.k3 0 3 4 rfl rfl rfl ?_
 refine PW.block ?_
 refine PW.k3 0 3 4 rfl rfl rfl ?_
 refine PW.loopK (I := fun mm T S' => ∃ (k : Nat) (vo : Value) (sgo : Seg), (k <= l.length /\ mm = l.length - k /\ SlV 32 33 vo (pairs (allE (pls (l.take k)))).length (vtxs (pairs (allE (pls (l.take k))))) sgo /\ (pairs (allE (pls (l.take k)))).length <= 202 * k) /\ T = ([(0, .slice A l.length c), (3, vo), (4, .int .i64 k)] : TT) /\ S' = sgo :: S) (m := l.length) ⟨0, _, [], ⟨by omega, by omega, SlV.nil 32 33, Nat.le_refl 0⟩, rfl, rfl⟩ ?_
 rintro mm _ _ ⟨k, vo, sgo, ⟨hk, hmm, hso, hbo⟩, rfl, rfl⟩
 refine PW.seq fun K2 hK2 => ?_
 refine PW.seqOps ?_
 refine OL.dp rfl ?_
 refine OL.dp rfl ?_
 refine OL.dp rfl ?_
 refine OL.dp rfl ?_
 refine OL.nil ?_
 refine PW.k4 0 3 4 10 rfl rfl rfl rfl ?_
 refine PW.cond rfl (fun c10 => ?_) (fun c10 => ?_)
 ·try simp only [cvS] at c10
  have hkl : k < l.length := by omega
  obtain ⟨a0, rfl⟩ := partS_some hrd (by omega)
  have hpk := hbo
  have hpk2 := (h.part _ (List.getElem_mem hkl)).small.1
  have hol : (own l[k].pl).length = l[k].lines.length := own_len l[k].pl
  have hwl : (way l[k].pl).length = l[k].lines.length + 2 := way_len l[k].pl
  refine PW.skip ?_
  refine hK2 _ _ ?_
  refine PW.k3 0 3 4 rfl rfl rfl ?_
  refine PW.seq fun K3 hK3 => ?_
  refine PW.block ?_
  refine PW.seqOps ?_
  refine OL.dp rfl ?_
  refine OL.dp rfl ?_
  refine OL.det trivial (.ixN rfl rfl rfl hkl) ?_
  refine OL.det trivial (.ldA rfl (partC_len _) (partS_at hrd.cons hkl)) ?_
  refine OL.call trivial rfl (rOwn_fc (h.part _ (List.getElem_mem hkl)).rng) ?_
  rintro _ _ ⟨seg17, rfl, hsl17⟩
  obtain ⟨Aw, cw, rfl, hnw, hcw, hrw⟩ := slv_rdL (w0 := w0) hsl17
  obtain ⟨pre, hpre⟩ : ∃ z, z = pairs (allE (pls (l.take k))) := ⟨_, rfl⟩
  rw [<- hpre] at hso hpk
  refine OL.dp rfl ?_
  refine OL.nil ?_
  refine PW.k4 0 3 4 5 rfl rfl rfl rfl ?_
  refine PW.seq fun K4 hK4 => ?_
  refine PW.seqOps ?_
  refine OL.dp rfl ?_
  refine OL.nil ?_
  refine PW.k5 0 3 4 5 6 rfl rfl rfl rfl rfl ?_
  refine PW.block ?_
  refine PW.k5 0 3 4 5 6 rfl rfl rfl rfl rfl ?_
  refine PW.loopK (I := fun mi T S' => ∃ (i : Nat) (vi : Value) (sgi : Seg), (i <= (own l[k].pl).length /\ mi = (own l[k].pl).length - i /\ SlV 32 33 vi (pre ++ pairs ((edgeL (way l[k].pl)).take i)).length (vtxs (pre ++ pairs ((edgeL (way l[k].pl)).take i))) sgi) /\ T = ([(0, .slice (some a0) l.length c), (3, vi), (4, .int .i64 k), (5, .slice Aw (own l[k].pl).length cw), (6, .int .i64 i)] : TT) /\ S' = seg17 :: sgi :: S) (m := (own l[k].pl).length) ⟨0, _, _, ⟨by omega, by omega, by simpa [pairs] using hso⟩, rfl, rfl⟩ ?_
  rintro mi _ _ ⟨i, vi, sgi, ⟨hi, hmi, hsi⟩, rfl, rfl⟩
  refine PW.seq fun K5 hK5 => ?_
  refine PW.seqOps ?_
  refine OL.dp rfl ?_
  refine OL.dp rfl ?_
  refine OL.dp rfl ?_
  refine OL.dp rfl ?_
  refine OL.nil ?_
  refine PW.k6 0 3 4 5 6 21 rfl rfl rfl rfl rfl rfl ?_
  refine PW.cond rfl (fun c21 => ?_) (fun c21 => ?_)
  ·try simp only [cvS] at c21
   have hil : i < (own l[k].pl).length := by omega
   obtain ⟨w1, rfl⟩ := vtxs_some (hrw []) (by omega)
   have hrw2 := hrw (sgi :: S)
   have hps := pairs_snoc (l := way l[k].pl) (i := i) (by omega)
   rw [way_own hil (by omega)] at hps
   have hpt : (pairs ((edgeL (way l[k].pl)).take i)).length <= 2 * i := by rw [pairs_len, List.length_take]; omega
   refine PW.skip ?_
   refine hK5 _ _ ?_
   refine PW.k5 0 3 4 5 6 rfl rfl rfl rfl rfl ?_
   refine PW.seq fun K6 hK6 => ?_
   refine PW.block ?_
   refine PW.seqOps ?_
   refine OL.dp rfl ?_
   refine OL.dp rfl ?_
   refine OL.nil ?_
   refine PW.k6 0 3 4 5 6 25 rfl rfl rfl rfl rfl rfl ?_
   refine PW.cond rfl (fun c25 => ?_) (fun c25 => ?_)
   ·try simp only [cvS] at c25
    have hi0 : i = 0 := by omega
    refine PW.quietK Try.mixed ?_
    refine QK.dp rfl ?_
    refine QK.dp rfl ?_
    refine QK.dp rfl ?_
    refine QK.det trivial (.ixN rfl rfl rfl hkl) ?_
    refine QK.dp rfl ?_
    refine QK.det trivial (.ldA rfl (vtxL_len _) (partS_up hrd.cons.cons hkl)) ?_
    refine QK.dp rfl ?_
    refine QK.det trivial (.ixN (j := 0) rfl rfl rfl (by omega)) ?_
    refine QK.det trivial (.ldA rfl (vtxL_len _) (vtx_at (k := 0) hrw2 (by omega))) ?_
    refine QK.nil ?_
    change OL _ _ _ [_, _, _] _ _ _
    refine OL.cons trivial (OW.bsl (cs := vtxs [l[k].up, (own l[k].pl)[0]'(by omega)]) (fill_two rfl rfl rfl)) ?_
    rintro _ _ ⟨r35, rfl, rfl⟩
    refine OL.cons trivial (appVs (k := 2) (xs := pre ++ pairs ((edgeL (way l[k].pl)).take i)) (l := [l[k].up, (own l[k].pl)[0]'(by omega)]) rfl rfl hsi rfl rfl rfl (Rd.own (E := 32) (List.mem_flatten.2 ⟨_, .head _, List.mem_singleton.2 rfl⟩)) (fun h => by cases h) (by rw [List.length_append]; show _ + _ + 2 <= _; omega)) ?_
    rintro v36 _ ⟨sg36, rfl, hs36⟩
    refine OL.dp rfl ?_
    refine OL.nil ?_
    refine hK6 _ _ ?_
    refine PW.k5 0 3 4 5 6 rfl rfl rfl rfl rfl ?_
    refine PW.ops ?_
    refine OL.dp rfl ?_
    refine OL.det trivial (.add64 rfl rfl (by omega) (by omega)) ?_
    refine OL.dp rfl ?_
    refine OL.nil ?_
    repeat rw [inBlk_n]
    try rw [thenK_n]
    refine LoopEnd.mkS (Sub.drop (Sub.refl _)) (T'' := [(0, _), (3, _), (4, _), (5, _), (6, _)]) ⟨rfl, rfl, rfl, rfl, rfl, trivial⟩ ?_
    have he : pre ++ pairs ((edgeL (way l[k].pl)).take (i + 1)) = pre ++ pairs ((edgeL (way l[k].pl)).take i) ++ [l[k].up, (own l[k].pl)[0]'(by omega)] := by
     subst hi0
     rw [hps, List.append_assoc]
     rfl
    exact ⟨(own l[k].pl).length - (i + 1), by omega, i + 1, _, sg36, ⟨by omega, rfl, by rw [he]; exact hs36⟩, rfl, rfl⟩
   try simp only [cvS] at c25
   refine PW.quietK Try.mixed ?_
   refine QK.dp rfl ?_
   refine QK.dp rfl ?_
   refine QK.dp rfl ?_
   refine QK.det trivial (.sub64 rfl rfl (by omega) (by omega)) ?_
   refine QK.det trivial (.ixN (j := i - 1) rfl rfl (by omega) (by omega)) ?_
   refine QK.det trivial (.ldA rfl (vtxL_len _) (vtx_at (k := i - 1) hrw2 (by omega))) ?_
   refine QK.dp rfl ?_
   refine QK.dp rfl ?_
   refine QK.det trivial (.ixN (j := i) rfl rfl rfl hil) ?_
   refine QK.det trivial (.ldA rfl (vtxL_len _) (vtx_at (k := i) hrw2 hil)) ?_
   refine QK.nil ?_
   change OL _ _ _ [_, _, _] _ _ _
   refine OL.cons trivial (OW.bsl (cs := vtxs [(own l[k].pl)[i - 1]'(by omega), (own l[k].pl)[i]]) (fill_two rfl rfl rfl)) ?_
   rintro _ _ ⟨r47, rfl, rfl⟩
   refine OL.cons trivial (appVs (k := 2) (xs := pre ++ pairs ((edgeL (way l[k].pl)).take i)) (l := [(own l[k].pl)[i - 1]'(by omega), (own l[k].pl)[i]]) rfl rfl hsi rfl rfl rfl (Rd.own (E := 32) (List.mem_flatten.2 ⟨_, .head _, List.mem_singleton.2 rfl⟩)) (fun h => by cases h) (by rw [List.length_append]; show _ + _ + 2 <= _; omega)) ?_
   rintro v48 _ ⟨sg48, rfl, hs48⟩
   refine OL.dp rfl ?_
   refine OL.nil ?_
   refine hK6 _ _ ?_
   refine PW.k5 0 3 4 5 6 rfl rfl rfl rfl rfl ?_
   refine PW.ops ?_
   refine OL.dp rfl ?_
   refine OL.det trivial (.add64 rfl rfl (by omega) (by omega)) ?_
   refine OL.dp rfl ?_
   refine OL.nil ?_
   repeat rw [inBlk_n]
   try rw [thenK_n]
   refine LoopEnd.mkS (Sub.drop (Sub.refl _)) (T'' := [(0, _), (3, _), (4, _), (5, _), (6, _)]) ⟨rfl, rfl, rfl, rfl, rfl, trivial⟩ ?_
   have he : pre ++ pairs ((edgeL (way l[k].pl)).take (i + 1)) = pre ++ pairs ((edgeL (way l[k].pl)).take i) ++ [(own l[k].pl)[i - 1]'(by omega), (own l[k].pl)[i]] := by
    rw [hps, List.append_assoc]
    congr 2
    have := way_own (p := l[k].pl) (i := i - 1) (by omega) (by omega)
    rw [<- this]
    have e : ∀ (n : Nat) (h : n < (way l[k].pl).length), n = i -> (way l[k].pl)[n] = (way l[k].pl)[i]'(by omega) := fun n h e => by subst e; rfl
    rw [e (i - 1 + 1) (by omega) (by omega)]
   exact ⟨(own l[k].pl).length - (i + 1), by omega, i + 1, _, sg48, ⟨by omega, rfl, by rw [he]; exact hs48⟩, rfl, rfl⟩
  try simp only [cvS] at c21
  refine PW.exit ?_
  refine hK4 _ _ ?_
  refine PW.k4 0 3 4 5 rfl rfl rfl rfl ?_
  refine PW.seqOps ?_
  refine OL.dp rfl ?_
  refine OL.dp rfl ?_
  refine OL.dp rfl ?_
  refine OL.nil ?_
  refine PW.k5 0 3 4 5 51 rfl rfl rfl rfl rfl ?_
  refine PW.cond rfl (fun c51 => ?_) (fun c51 => ?_)
  ·try simp only [cvS] at c51
   have hie : i = (own l[k].pl).length := by omega
   obtain ⟨w1, rfl⟩ := vtxs_some (hrw []) (by omega)
   have hrw2 := hrw (sgi :: S)
   have hps := pairs_snoc (l := way l[k].pl) (i := i) (by omega)
   have hpt : (pairs ((edgeL (way l[k].pl)).take i)).length <= 2 * i := by rw [pairs_len, List.length_take]; omega
   refine PW.quietK Try.mixed ?_
   refine QK.dp rfl ?_
   refine QK.dp rfl ?_
   refine QK.dp rfl ?_
   refine QK.dp rfl ?_
   refine QK.det trivial (.sub64 rfl rfl (by omega) (by omega)) ?_
   refine QK.det trivial (.ixN (j := (own l[k].pl).length - 1) rfl rfl (by omega) (by omega)) ?_
   refine QK.det trivial (.ldA rfl (vtxL_len _) (vtx_at (k := (own l[k].pl).length - 1) hrw2 (by omega))) ?_
   refine QK.dp rfl ?_
   refine QK.dp rfl ?_
   refine QK.det trivial (.ixN rfl rfl rfl hkl) ?_
   refine QK.dp rfl ?_
   refine QK.det trivial (.ldA rfl (vtxL_len _) (partS_down hrd.cons.cons hkl)) ?_
   refine QK.nil ?_
   change OL _ _ _ [_, _, _] _ _ _
   refine OL.cons trivial (OW.bsl (cs := vtxs [(own l[k].pl)[(own l[k].pl).length - 1]'(by omega), l[k].down]) (fill_two rfl rfl rfl)) ?_
   rintro _ _ ⟨r64, rfl, rfl⟩
   refine OL.cons trivial (appVs (k := 2) (xs := pre ++ pairs ((edgeL (way l[k].pl)).take i)) (l := [(own l[k].pl)[(own l[k].pl).length - 1]'(by omega), l[k].down]) rfl rfl hsi rfl rfl rfl (Rd.own (E := 32) (List.mem_flatten.2 ⟨_, .head _, List.mem_singleton.2 rfl⟩)) (fun h => by cases h) (by rw [List.length_append]; show _ + _ + 2 <= _; omega)) ?_
   rintro v65 _ ⟨sg65, rfl, hs65⟩
   refine OL.dp rfl ?_
   refine OL.nil ?_
   refine hK3 _ _ ?_
   refine PW.k3 0 3 4 rfl rfl rfl ?_
   refine PW.ops ?_
   refine OL.dp rfl ?_
   refine OL.det trivial (.add64 rfl rfl (by omega) (by omega)) ?_
   refine OL.dp rfl ?_
   refine OL.nil ?_
   repeat rw [inBlk_n]
   try rw [thenK_n]
   refine LoopEnd.mkS (Sub.drop (Sub.drop (Sub.refl _))) (T'' := [(0, _), (3, _), (4, _)]) ⟨rfl, rfl, rfl, trivial⟩ ?_
   have he : pairs (allE (pls (l.take (k + 1)))) = pre ++ pairs ((edgeL (way l[k].pl)).take i) ++ [(own l[k].pl)[(own l[k].pl).length - 1]'(by omega), l[k].down] := by
    have hE : (edgeL (way l[k].pl)).take ((own l[k].pl).length + 1) = (edgeL (way l[k].pl)).take (i + 1) := by rw [hie]
    rw [allE_take hkl, pairs_app, <- hpre, edges_own _ (by omega), hE, hps, List.append_assoc]
    congr 2
    have e1 : (way l[k].pl)[i]'(by omega) = (own l[k].pl)[(own l[k].pl).length - 1]'(by omega) := by
     have := way_own (p := l[k].pl) (i := (own l[k].pl).length - 1) (by omega) (by omega)
     rw [<- this]
     congr 1
     omega
    have e2 : (way l[k].pl)[i + 1]'(by omega) = l[k].down := by
     subst hie
     exact way_down (p := l[k].pl) (by omega)
    rw [e1, e2]
   exact ⟨l.length - (k + 1), by omega, k + 1, _, sg65, ⟨by omega, rfl, by rw [he]; exact hs65, by rw [he, List.length_append, List.length_append]; simp only [List.length_cons, List.length_nil]; omega⟩, rfl, rfl⟩
  try simp only [cvS] at c51
  refine PW.skip ?_
  refine hK3 _ _ ?_
  refine PW.k3 0 3 4 rfl rfl rfl ?_
  refine PW.ops ?_
  refine OL.dp rfl ?_
  refine OL.det trivial (.add64 rfl rfl (by omega) (by omega)) ?_
  refine OL.dp rfl ?_
  refine OL.nil ?_
  repeat rw [inBlk_n]
  try rw [thenK_n]
  refine LoopEnd.mkS (Sub.drop (Sub.refl _)) (T'' := [(0, _), (3, _), (4, _)]) ⟨rfl, rfl, rfl, trivial⟩ ?_
  have hz0 : (own l[k].pl).length = 0 := by omega
  have he : pairs (allE (pls (l.take (k + 1)))) = pre ++ pairs ((edgeL (way l[k].pl)).take i) := by
   rw [allE_take hkl, pairs_app, <- hpre, edges_none _ hz0, show i = 0 by omega]
   rfl
  exact ⟨l.length - (k + 1), by omega, k + 1, vi, sgi, ⟨by omega, rfl, by rw [he]; exact hsi, by rw [he, List.length_append, pairs_len, List.length_take]; omega⟩, rfl, rfl⟩
 try simp only [cvS] at c10
 refine PW.exit ?_
 refine hK1 _ _ ?_
 refine PW.k1 3 rfl ?_
 refine PW.seqOps ?_
 refine OL.dp rfl ?_
 refine OL.dp rfl ?_
 refine OL.nil ?_
 refine PW.k1 2 rfl ?_
 refine PW.ret ?_
 change (Exit.ret = Exit.normal ∨ Exit.ret = Exit.ret) /\ ∃ v, resV _ _ = some v /\ _
 have hke : k = l.length := by omega
 rw [hke, List.take_length] at hso
 exact ⟨.inr rfl, _, rfl, _, Sub.refl _, sgo, rfl, hso⟩
end Go.Proofs.Gr

namespace Go.Proofs.Gr
open Go.SL Go.RowKit Go.Proofs Go.GP
set_option maxHeartbeats 1000000
structure BR (E : List (Vtx × Vtx)) (a : Vtx) (q : List Vtx) (i j : Nat) : Prop where
 ain : a ∈ q
 snd : ∀ v ∈ q, v = a ∨ Rch E a v
 cnt : unS (E.map (·.2)) q + q.length <= E.length + 1
 done : ∀ (x : Vtx) (k : Nat), k < i -> q[k]? = some x -> ∀ w, (x, w) ∈ E -> w ∈ q
 part : ∀ x : Vtx, q[i]? = some x -> ∀ e ∈ E.take j, e.1 = x -> e.2 ∈ q
theorem BR.start (E : List (Vtx × Vtx)) (a : Vtx) : BR E a [a] 0 0 :=
 ⟨by simp, fun v hv => .inl (List.mem_singleton.1 hv), by have := unS_le (E.map (·.2)) [a]; rw [List.length_map] at this; simp only [List.length_cons, List.length_nil]; omega, fun _ _ h => absurd h (Nat.not_lt_zero _), fun _ _ e he => by simp at he⟩
theorem BR.next {E : List (Vtx × Vtx)} {a : Vtx} {q : List Vtx} {i j : Nat} (h : BR E a q i j) (hj : E.length <= j) : BR E a q (i + 1) 0 :=
 ⟨h.ain, h.snd, h.cnt, fun x k hk hx w hw => by
  by_cases e : k < i
  ·exact h.done x k e hx w hw
  have : k = i := by omega
  subst this
  exact h.part x hx (x, w) (by rw [List.take_of_length_le hj]; exact hw) rfl, fun _ _ e he => by simp at he⟩
theorem BR.skip {E : List (Vtx × Vtx)} {a : Vtx} {q : List Vtx} {i j : Nat} (h : BR E a q i j) (hj : j < E.length) (hs : ∀ x, q[i]? = some x -> E[j].1 = x -> E[j].2 ∈ q) : BR E a q i (j + 1) :=
 ⟨h.ain, h.snd, h.cnt, h.done, fun x hx e he hex => by
  rw [List.take_add_one, List.getElem?_eq_getElem hj] at he
  rcases List.mem_append.1 he with h1 | h1
  ·exact h.part x hx e h1 hex
  have : e = E[j] := by simpa using h1
  subst this
  exact hs x hx hex⟩
theorem BR.push {E : List (Vtx × Vtx)} {a : Vtx} {q : List Vtx} {i j : Nat} (h : BR E a q i j) (hj : j < E.length) (hi : i < q.length) (hw : E[j].2 ∉ q) (hq : E[j].1 = q[i]) : BR E a (q ++ [E[j].2]) i (j + 1) :=
 ⟨List.mem_append_left _ h.ain, fun v hv => by
  rcases List.mem_append.1 hv with h1 | h1
  ·exact h.snd v h1
  ·rw [List.mem_singleton.1 h1]
   have he : (q[i], E[j].2) ∈ E := by rw [<- hq]; exact List.getElem_mem hj
   rcases h.snd _ (List.getElem_mem hi) with e | e
   ·exact .inr (.one (by rw [<- e]; exact he))
   exact .inr (e.trans (.one he)), by
  have := unS_lt (T := E.map (·.2)) (s := q) (s' := q ++ [E[j].2]) (w := E[j].2) (List.mem_map.2 ⟨_, List.getElem_mem hj, rfl⟩) hw (by simp) (fun x hx => List.mem_append_left _ hx)
  have := h.cnt
  rw [List.length_append]
  simp only [List.length_cons, List.length_nil]
  omega, fun x k hk hx w hw => by
  rw [List.getElem?_append_left (by omega)] at hx
  exact List.mem_append_left _ (h.done x k hk hx w hw), fun x hx e he hex => by
  rw [List.getElem?_append_left hi] at hx
  rw [List.take_add_one, List.getElem?_eq_getElem hj] at he
  rcases List.mem_append.1 he with h1 | h1
  ·exact List.mem_append_left _ (h.part x hx e h1 hex)
  have : e = E[j] := by simpa using h1
  subst this
  simp⟩
theorem BR.fin2 {E : List (Vtx × Vtx)} {a b : Vtx} {q : List Vtx} {i j : Nat} (h : BR E a q i j) (hab : a ≠ b) (hb : b ∈ q) : Rch E a b := (h.snd b hb).resolve_left fun e => hab e.symm
theorem BR.fin {E : List (Vtx × Vtx)} {a b : Vtx} {q : List Vtx} {i j : Nat} (h : BR E a q i j) (hi : q.length <= i) (hr : Rch E a b) : b ∈ q := by
 have key : ∀ {x y}, Rch E x y -> x ∈ q -> y ∈ q := by
  have st : ∀ x y, (x, y) ∈ E -> x ∈ q -> y ∈ q := fun x y he hx => by
   obtain ⟨k, hk, rfl⟩ := List.getElem_of_mem hx
   exact h.done _ k (by omega) (List.getElem?_eq_getElem hk) y he
  intro x y hxy
  induction hxy with
  | one h1 => exact fun hx => st _ _ h1 hx
  | cons h1 _ ih => exact fun hx => ih (st _ _ h1 hx)
 exact key hr h.ain
theorem rallE_len {l : List PartM} (h : ∀ p ∈ l, p.lines.length <= 100) : (allE (pls l)).length <= 101 * l.length := by
 induction l with
 | nil => exact Nat.zero_le _
 | cons p l ih =>
  have h1 := ih fun q hq => h q (List.mem_cons_of_mem _ hq)
  have h2 := h p (by simp)
  have e : allE (pls (p :: l)) = edges p.pl ++ allE (pls l) := rfl
  have h3 : (edges p.pl).length <= 101 := by
   unfold edges
   split
   ·exact Nat.zero_le _
   rw [edgeL_len, way_len]
   show p.lines.length + 2 - 1 <= _
   omega
  rw [e, List.length_append, List.length_cons]
  omega
theorem rHasT_fc {w0 : World} {S : SS} {A : Option Addr} {c : Nat} {l : List Vtx} {v : Vtx} (hx : Rd w0 S A (vtxs l)) (hb : l.length <= 1000000000) (hv : v ∈ l) : FC Try.prog w0 92 [.slice A l.length c, vtxV v] S (fun u S' => u = .bool true /\ S' = S) := by
 have := rHas_fc (c := c) (v := v) hx hb
 rw [decide_eq_true hv] at this
 exact this
theorem rHasF_fc {w0 : World} {S : SS} {A : Option Addr} {c : Nat} {l : List Vtx} {v : Vtx} (hx : Rd w0 S A (vtxs l)) (hb : l.length <= 1000000000) (hv : v ∉ l) : FC Try.prog w0 92 [.slice A l.length c, vtxV v] S (fun u S' => u = .bool false /\ S' = S) := by
 have := rHas_fc (c := c) (v := v) hx hb
 rw [decide_eq_false hv] at this
 exact this
theorem rBefA_fc {w0 : World} {S : SS} {A : Option Addr} {c : Nat} {l : List PartM} {a b : Vtx} (h : PartsRd w0 S A l) (ha : a ∈ allV (pls l)) (hb : b ∈ allV (pls l)) (hab : a ≠ b) (hae : a ≠ endV) (hbr : b ≠ rootV) (har : a ≠ rootV) (hbe : b ≠ endV) {r : Bool} (hrch : r = true ↔ Rch (allE (pls l)) a b) :
  FC Try.prog w0 95 [.slice A l.length c, vtxV a, vtxV b] S (fun v S' => v = .bool r /\ S' = S) := by
 have hll := h.len
 have hel := rallE_len (l := l) (fun p hp => (h.part p hp).small.1)
 have hal : (allV (pls l)).length <= 1000000 := by
  have := allV_len (l := l) (fun p hp => (h.part p hp).small.1) l.length (Nat.le_refl _)
  rw [List.take_length] at this
  omega
 refine FC.ofD Try.known95 (by simp) ?_
 unfold Try.pc95
 simp only [argT]
 refine PW.seqOps ?_
 refine OL.cons trivial (OW.bx rfl) ?_
 rintro _ _ ⟨r4, rfl, rfl⟩
 rw [vtx_box, vtxL_len]
 refine OL.cons trivial (OW.bx rfl) ?_
 rintro _ _ ⟨r5, rfl, rfl⟩
 rw [vtx_box, vtxL_len]
 refine OL.dp rfl ?_
 refine OL.nil ?_
 refine PW.k3 0 4 5 rfl rfl rfl ?_
 refine PW.seqOps ?_
 refine OL.dp rfl ?_
 refine OL.call trivial rfl (rAll_fc h.cons.cons) ?_
 rintro _ _ ⟨seg13, rfl, hsl13⟩
 obtain ⟨A13, c13, rfl, hn13, hc13, hr13⟩ := slv_rdL (w0 := w0) hsl13
 refine OL.dp rfl ?_
 refine OL.nil ?_
 refine PW.k4 0 4 5 7 rfl rfl rfl rfl ?_
 refine PW.seq fun K1 hK1 => ?_
 refine PW.seq fun K2 hK2 => ?_
 refine PW.quiet2QK Try.mixed ?_
 refine QK.dp rfl ?_
 refine QK.det trivial (.ldA rfl (vtxL_len _) (all_at (List.mem_flatten.2 ⟨_, .tail _ (.tail _ (.head _)), List.mem_singleton.2 rfl⟩))) ?_
 refine QK.call trivial rfl (rHasT_fc (hr13 _) (by omega) ha) ?_
 refine QK.dp rfl ?_
 refine QK.dp rfl ?_
 refine QK.off rfl rfl ?_
 refine QK.off rfl rfl ?_
 refine QK.off rfl rfl ?_
 refine QK.dp rfl ?_
 refine QK.dp rfl ?_
 refine QK.off rfl rfl ?_
 refine QK.off rfl rfl ?_
 refine QK.off rfl rfl ?_
 refine QK.dp rfl ?_
 refine QK.dp rfl ?_
 refine QK.det rfl (.pure rfl) ?_
 refine QK.det rfl (.ldA rfl (vtxL_len _) (all_at (List.mem_flatten.2 ⟨_, .tail _ (.head _), List.mem_singleton.2 rfl⟩))) ?_
 refine QK.call rfl rfl (rHasT_fc (hr13 _) (by omega) hb) ?_
 refine QK.det rfl (.pure rfl) ?_
 refine QK.det rfl (.pure rfl) ?_
 refine QK.off rfl rfl ?_
 refine QK.off rfl rfl ?_
 refine QK.off rfl rfl ?_
 refine QK.det rfl (.pure rfl) ?_
 refine QK.det rfl (.pure rfl) ?_
 refine QK.off rfl rfl ?_
 refine QK.off rfl rfl ?_
 refine QK.off rfl rfl ?_
 refine QK.det rfl (.pure rfl) ?_
 refine QK.dp rfl ?_
 refine QK.dp rfl ?_
 refine QK.det rfl (.ldA rfl (vtxL_len _) (all_at (List.mem_flatten.2 ⟨_, .tail _ (.tail _ (.head _)), List.mem_singleton.2 rfl⟩))) ?_
 refine QK.det rfl (.ldA rfl (vtxL_len _) (all_at (List.mem_flatten.2 ⟨_, .tail _ (.head _), List.mem_singleton.2 rfl⟩))) ?_
 refine QK.det rfl (.to (v' := .bool false) (Yields.eqD (neg := false) rfl rfl (eqL_vtx _ _)) (congrArg Value.bool (by simpa using hab))) ?_
 refine QK.dp rfl ?_
 refine QK.dp rfl ?_
 refine QK.det rfl (.ldA rfl (vtxL_len _) (all_at (List.mem_flatten.2 ⟨_, .tail _ (.tail _ (.head _)), List.mem_singleton.2 rfl⟩))) ?_
 refine QK.call rfl rfl (rEnd_fc) ?_
 refine QK.det rfl (.to (v' := .bool false) (Yields.eqD (neg := false) rfl rfl (eqL_vtx _ _)) (congrArg Value.bool (by simpa using hae))) ?_
 refine QK.dp rfl ?_
 refine QK.dp rfl ?_
 refine QK.det rfl (.ldA rfl (vtxL_len _) (all_at (List.mem_flatten.2 ⟨_, .tail _ (.head _), List.mem_singleton.2 rfl⟩))) ?_
 refine QK.call rfl rfl (rRoot_fc) ?_
 refine QK.nil ?_
 change OL _ _ _ [_, _] _ _ _
 refine OL.det rfl (.to (v' := .bool false) (Yields.eqD (neg := false) rfl rfl (eqL_vtx _ _)) (congrArg Value.bool (by simpa using hbr))) ?_
 refine OL.dp rfl ?_
 refine OL.nil ?_
 refine hK2 _ _ ?_
 refine PW.k4 0 4 5 58 rfl rfl rfl rfl ?_
 refine PW.ite (b := false) rfl ?_
 rw [if_neg Bool.false_ne_true]
 refine PW.skip ?_
 refine hK1 _ _ ?_
 refine PW.k3 0 4 5 rfl rfl rfl ?_
 refine PW.seq fun K3 hK3 => ?_
 refine PW.seq fun K4 hK4 => ?_
 refine PW.quiet2QK Try.mixed ?_
 refine QK.det trivial (.ldA rfl (vtxL_len _) (all_at (List.mem_flatten.2 ⟨_, .tail _ (.tail _ (.head _)), List.mem_singleton.2 rfl⟩))) ?_
 refine QK.call trivial rfl (rRoot_fc) ?_
 refine QK.det trivial (.to (v' := .bool false) (Yields.eqD (neg := false) rfl rfl (eqL_vtx _ _)) (congrArg Value.bool (by simpa using har))) ?_
 refine QK.dp rfl ?_
 refine QK.det rfl (.ldA rfl (vtxL_len _) (all_at (List.mem_flatten.2 ⟨_, .tail _ (.head _), List.mem_singleton.2 rfl⟩))) ?_
 refine QK.call rfl rfl (rEnd_fc) ?_
 refine QK.nil ?_
 change OL _ _ _ [_, _] _ _ _
 refine OL.det rfl (.to (v' := .bool false) (Yields.eqD (neg := false) rfl rfl (eqL_vtx _ _)) (congrArg Value.bool (by simpa using hbe))) ?_
 refine OL.dp rfl ?_
 refine OL.nil ?_
 refine hK4 _ _ ?_
 refine PW.k4 0 4 5 66 rfl rfl rfl rfl ?_
 refine PW.ite (b := false) rfl ?_
 rw [if_neg Bool.false_ne_true]
 refine PW.skip ?_
 refine hK3 _ _ ?_
 refine PW.k3 0 4 5 rfl rfl rfl ?_
 refine PW.seqOps ?_
 refine OL.dp rfl ?_
 refine OL.call trivial rfl (rEdges_fc h.cons.cons.cons) ?_
 rintro _ _ ⟨seg68, rfl, hsl68⟩
 obtain ⟨A68, c68, rfl, hn68, hc68, hr68⟩ := slv_rdL (w0 := w0) hsl68
 obtain ⟨E, hE⟩ : ∃ z, z = allE (pls l) := ⟨_, rfl⟩
 rw [<- hE] at hel hrch hr68 ⊢
 have hpl : (pairs E).length = 2 * E.length := pairs_len E
 refine OL.dp rfl ?_
 refine OL.nil ?_
 refine PW.k3 4 5 8 rfl rfl rfl ?_
 refine PW.seqOps ?_
 refine OL.det trivial (.ldA rfl (vtxL_len _) (all_at (List.mem_flatten.2 ⟨_, .tail _ (.tail _ (.tail _ (.head _))), List.mem_singleton.2 rfl⟩))) ?_
 refine OL.cons trivial (OW.bsl (fill_one (v := a) rfl rfl)) ?_
 rintro _ _ ⟨r70, rfl, rfl⟩
 rw [vtxL_len]
 have hs70 : SlV 32 33 (.slice (some ⟨r70, 0, none⟩) 1 1) [a].length (vtxs [a]) [(r70, .cells (vtxL a) 32 33)] := by
  have := SlV.mk' (E := 32) (sz := 33) (m := 1) (cap := 1) (r := r70) (xs := vtxL a) (by rw [vtxL_len]) (Nat.le_refl _) (by decide)
  simpa [vtxs] using this
 refine OL.dp rfl ?_
 refine OL.nil ?_
 refine PW.k3 5 8 9 rfl rfl rfl ?_
 refine PW.seq fun K5 hK5 => ?_
 refine PW.seqOps ?_
 refine OL.dp rfl ?_
 refine OL.nil ?_
 refine PW.k4 5 8 9 10 rfl rfl rfl rfl ?_
 refine PW.block ?_
 refine PW.k4 5 8 9 10 rfl rfl rfl rfl ?_
 refine PW.loopK (I := fun mm T S' => ∃ (i : Nat) (q : List Vtx) (Aq : Option Addr) (cq : Nat) (sgq : Seg), (mm = E.length + 1 - i /\ BR E a q i 0 /\ SlV 32 33 (.slice Aq q.length cq) q.length (vtxs q) sgq) /\ T = ([(5, .pointer (some ⟨r5, 0, none⟩)), (8, .slice A68 (pairs E).length c68), (9, .slice Aq q.length cq), (10, .int .i64 i)] : TT) /\ S' = sgq :: seg68 :: seg13 :: vseg r5 b :: vseg r4 a :: S) (m := E.length + 1) ⟨0, [a], _, _, _, ⟨by omega, BR.start E a, hs70⟩, rfl, rfl⟩ ?_
 rintro mm _ _ ⟨i, q, Aq, cq, sgq, ⟨hmm, hB, hsq⟩, rfl, rfl⟩
 refine PW.seq fun K6 hK6 => ?_
 refine PW.seqOps ?_
 refine OL.dp rfl ?_
 refine OL.dp rfl ?_
 refine OL.dp rfl ?_
 refine OL.dp rfl ?_
 refine OL.nil ?_
 refine PW.k5 5 8 9 10 74 rfl rfl rfl rfl rfl ?_
 refine PW.cond rfl (fun c74 => ?_) (fun c74 => ?_)
 ·try simp only [cvS] at c74
  have hil : i < q.length := by omega
  have hcn := hB.cnt
  refine PW.skip ?_
  refine hK6 _ _ ?_
  refine PW.k4 5 8 9 10 rfl rfl rfl rfl ?_
  refine PW.seq fun K7 hK7 => ?_
  refine PW.block ?_
  refine PW.seqOps ?_
  refine OL.dp rfl ?_
  refine OL.nil ?_
  refine PW.k5 5 8 9 10 11 rfl rfl rfl rfl rfl ?_
  refine PW.block ?_
  refine PW.k5 5 8 9 10 11 rfl rfl rfl rfl rfl ?_
  refine PW.loopK (I := fun mi T S' => ∃ (j : Nat) (q2 : List Vtx) (Aq2 : Option Addr) (cq2 : Nat) (sgq2 : Seg), (j <= E.length /\ mi = E.length - j /\ i < q2.length /\ BR E a q2 i j /\ SlV 32 33 (.slice Aq2 q2.length cq2) q2.length (vtxs q2) sgq2) /\ T = ([(5, .pointer (some ⟨r5, 0, none⟩)), (8, .slice A68 (pairs E).length c68), (9, .slice Aq2 q2.length cq2), (10, .int .i64 i), (11, .int .i64 ((2 * j : Nat) : Int))] : TT) /\ S' = sgq2 :: seg68 :: seg13 :: vseg r5 b :: vseg r4 a :: S) (m := E.length) ⟨0, q, _, _, sgq, ⟨by omega, by omega, hil, hB, hsq⟩, rfl, rfl⟩ ?_
  rintro mi _ _ ⟨j, q2, Aq2, cq2, sgq2, ⟨hj, hmi, hiq2, hB2, hsq2⟩, rfl, rfl⟩
  refine PW.seq fun K8 hK8 => ?_
  refine PW.seqOps ?_
  refine OL.dp rfl ?_
  refine OL.det trivial (.add64 rfl rfl (by omega) (by omega)) ?_
  refine OL.dp rfl ?_
  refine OL.dp rfl ?_
  refine OL.dp rfl ?_
  refine OL.nil ?_
  refine PW.k6 5 8 9 10 11 81 rfl rfl rfl rfl rfl rfl ?_
  refine PW.cond rfl (fun c81 => ?_) (fun c81 => ?_)
  ·try simp only [cvS] at c81
   have hjl : j < E.length := by omega
   have hj2 : 2 * j < (pairs E).length := by omega
   have hj3 : 2 * j + 1 < (pairs E).length := by omega
   obtain ⟨a8, rfl⟩ := vtxs_some (hr68 []) (by omega)
   have hil2 : i < q2.length := hiq2
   have hcn2 := hB2.cnt
   obtain ⟨Aq3, cq3, eq3, hnq, hcq, hrq⟩ := slv_rdL (w0 := w0) hsq2
   cases eq3
   obtain ⟨aq, rfl⟩ := vtxs_some (hrq []) (by omega)
   have hqi : q2[i]? = some q2[i] := List.getElem?_eq_getElem hil2
   have hqe : (pairs E)[2 * j]'(by omega) = E[j].1 := (List.getElem?_eq_some_iff.1 (pairs_get hjl).1).2
   have hqe2 : (pairs E)[2 * j + 1]'(by omega) = E[j].2 := (List.getElem?_eq_some_iff.1 (pairs_get hjl).2).2
   refine PW.skip ?_
   refine hK8 _ _ ?_
   refine PW.k5 5 8 9 10 11 rfl rfl rfl rfl rfl ?_
   refine PW.seq fun K9 hK9 => ?_
   refine PW.block ?_
   refine PW.seq fun K10 hK10 => ?_
   refine PW.quietK Try.mixed ?_
   refine QK.dp rfl ?_
   refine QK.dp rfl ?_
   refine QK.det trivial (.ixN (j := 2 * j) rfl rfl rfl (by omega)) ?_
   refine QK.det trivial (.ldA rfl (vtxL_len _) (vtx_at (l := pairs E) (k := 2 * j) (hr68 _).cons hj2)) ?_
   refine QK.dp rfl ?_
   refine QK.dp rfl ?_
   refine QK.det trivial (.ixN rfl rfl rfl hil2) ?_
   refine QK.det trivial (.ldA rfl (vtxL_len _) (vtx_at (hrq _) hil2)) ?_
   refine QK.det trivial (.eqD (neg := false) rfl rfl (eqL_vtx _ _)) ?_
   refine QK.bool trivial (Yields.pure rfl) (fun g93 => ?_) (fun g93 => ?_)
   ·try simp only [cvS] at g93
    refine QK.det rfl (.pure rfl) ?_
    refine QK.det rfl (.pure rfl) ?_
    refine QK.det rfl (.pure rfl) ?_
    refine QK.det rfl (.add64 rfl rfl (by omega) (by omega)) ?_
    refine QK.det rfl (.ixN (j := 2 * j + 1) rfl rfl (by omega) (by omega)) ?_
    refine QK.det rfl (.ldA rfl (vtxL_len _) (vtx_at (l := pairs E) (k := 2 * j + 1) (hr68 _).cons hj3)) ?_
    refine QK.nil ?_
    change OL _ _ _ [_, _, _] _ _ _
    refine OL.call rfl rfl (rHas_fc (hrq _) (by omega)) ?_
    rintro _ Sx ⟨rfl, hSx⟩
    rw [hSx]
    clear hSx
    refine OL.det rfl (.pure rfl) ?_
    refine OL.dp rfl ?_
    refine OL.nil ?_
    refine hK10 _ _ ?_
    refine PW.k6 5 8 9 10 11 102 rfl rfl rfl rfl rfl rfl ?_
    refine PW.cond rfl (fun c102 => ?_) (fun c102 => ?_)
    ·try simp only [cvS] at c102
     refine PW.ops ?_
     refine OL.dp rfl ?_
     refine OL.dp rfl ?_
     refine OL.dp rfl ?_
     refine OL.det trivial (.add64 rfl rfl (by omega) (by omega)) ?_
     refine OL.det trivial (.ixN (j := 2 * j + 1) rfl rfl (by omega) (by omega)) ?_
     refine OL.det trivial (.ldA rfl (vtxL_len _) (vtx_at (l := pairs E) (k := 2 * j + 1) (hr68 _).cons hj3)) ?_
     apply OL.app1 (k := 0)
     ·rfl
     ·rfl
     ·exact (List.size_toArray).trans (vtxL_len _)
     ·rfl
     ·rfl
     ·rfl
     ·exact hsq2
     ·exact vtxL_one _
     ·omega
     ·unfold maxLen; omega
     intro v110 seg110 hs110
     have hs110 := vtxs_snoc' hs110
     rw [hqe2] at hs110
     obtain ⟨A110, c110, rfl, _, _, _⟩ := slv_rdL (w0 := w0) hs110
     refine OL.dp rfl ?_
     refine OL.nil ?_
     refine hK9 _ _ ?_
     refine PW.k5 5 8 9 10 11 rfl rfl rfl rfl rfl ?_
     refine PW.ops ?_
     refine OL.dp rfl ?_
     refine OL.det trivial (.add64 rfl rfl (by omega) (by omega)) ?_
     refine OL.dp rfl ?_
     refine OL.nil ?_
     repeat rw [inBlk_n]
     try rw [thenK_n]
     refine LoopEnd.mk (T'' := [(5, _), (8, _), (9, _), (10, _), (11, _)]) ⟨rfl, rfl, rfl, rfl, rfl, trivial⟩ ?_
     exact ⟨E.length - (j + 1), by omega, j + 1, _, _, _, seg110, ⟨by omega, by omega, by rw [List.length_append]; omega, hB2.push hjl hiq2 (by rw [<- hqe2]; exact c102) (by rw [<- hqe]; exact g93), hs110⟩, rfl, rfl⟩
    try simp only [cvS] at c102
    refine PW.skip ?_
    refine hK9 _ _ ?_
    refine PW.k5 5 8 9 10 11 rfl rfl rfl rfl rfl ?_
    refine PW.ops ?_
    refine OL.dp rfl ?_
    refine OL.det trivial (.add64 rfl rfl (by omega) (by omega)) ?_
    refine OL.dp rfl ?_
    refine OL.nil ?_
    repeat rw [inBlk_n]
    try rw [thenK_n]
    refine LoopEnd.mk (T'' := [(5, _), (8, _), (9, _), (10, _), (11, _)]) ⟨rfl, rfl, rfl, rfl, rfl, trivial⟩ ?_
    exact ⟨E.length - (j + 1), by omega, j + 1, _, _, _, sgq2, ⟨by omega, by omega, hiq2, hB2.skip hjl (fun _ _ _ => by rw [<- hqe2]; exact c102), hsq2⟩, rfl, rfl⟩
   try simp only [cvS] at g93
   refine QK.off rfl rfl ?_
   refine QK.off rfl rfl ?_
   refine QK.off rfl rfl ?_
   refine QK.off rfl rfl ?_
   refine QK.off rfl rfl ?_
   refine QK.off rfl rfl ?_
   refine QK.nil ?_
   change OL _ _ _ [_, _, _] _ _ _
   refine OL.off rfl rfl ?_
   refine OL.off rfl rfl ?_
   refine OL.dp rfl ?_
   refine OL.nil ?_
   refine hK10 _ _ ?_
   refine PW.k6 5 8 9 10 11 102 rfl rfl rfl rfl rfl rfl ?_
   refine PW.ite (b := false) rfl ?_
   rw [if_neg Bool.false_ne_true]
   refine PW.skip ?_
   refine hK9 _ _ ?_
   refine PW.k5 5 8 9 10 11 rfl rfl rfl rfl rfl ?_
   refine PW.ops ?_
   refine OL.dp rfl ?_
   refine OL.det trivial (.add64 rfl rfl (by omega) (by omega)) ?_
   refine OL.dp rfl ?_
   refine OL.nil ?_
   repeat rw [inBlk_n]
   try rw [thenK_n]
   refine LoopEnd.mk (T'' := [(5, _), (8, _), (9, _), (10, _), (11, _)]) ⟨rfl, rfl, rfl, rfl, rfl, trivial⟩ ?_
   exact ⟨E.length - (j + 1), by omega, j + 1, _, _, _, sgq2, ⟨by omega, by omega, hiq2, hB2.skip hjl (fun x hx hex => absurd (by rw [hqe, hex]; rw [hqi] at hx; exact (Option.some.inj hx).symm) g93), hsq2⟩, rfl, rfl⟩
  try simp only [cvS] at c81
  refine PW.exit ?_
  refine hK7 _ _ ?_
  refine PW.k4 5 8 9 10 rfl rfl rfl rfl ?_
  refine PW.ops ?_
  refine OL.dp rfl ?_
  refine OL.det trivial (.add64 rfl rfl (by omega) (by omega)) ?_
  refine OL.dp rfl ?_
  refine OL.nil ?_
  repeat rw [inBlk_n]
  try rw [thenK_n]
  refine LoopEnd.mk (T'' := [(5, _), (8, _), (9, _), (10, _)]) ⟨rfl, rfl, rfl, rfl, trivial⟩ ?_
  have hcn2 := hB2.cnt
  exact ⟨E.length + 1 - (i + 1), by omega, i + 1, q2, _, _, sgq2, ⟨by omega, hB2.next (by omega), hsq2⟩, rfl, rfl⟩
 try simp only [cvS] at c74
 refine PW.exit ?_
 refine hK5 _ _ ?_
 refine PW.k2 5 9 rfl rfl ?_
 refine PW.seqOps ?_
 have hcn := hB.cnt
 obtain ⟨Aq3, cq3, eq3, hnq, hcq, hrq⟩ := slv_rdL (w0 := w0) hsq
 cases eq3
 refine OL.dp rfl ?_
 refine OL.det trivial (.ldA rfl (vtxL_len _) (all_at (List.mem_flatten.2 ⟨_, .tail _ (.tail _ (.tail _ (.head _))), List.mem_singleton.2 rfl⟩))) ?_
 refine OL.call trivial rfl (rHas_fc (hrq _) (by omega)) ?_
 rintro _ Sx ⟨rfl, hSx⟩
 rw [hSx]
 clear hSx
 refine OL.dp rfl ?_
 refine OL.nil ?_
 refine PW.k1 6 rfl ?_
 refine PW.ret ?_
 change (Exit.ret = Exit.normal ∨ Exit.ret = Exit.ret) /\ ∃ v, resV _ _ = some v /\ _
 exact ⟨.inr rfl, _, rfl, _, Sub.drop (Sub.drop (Sub.drop (Sub.drop (Sub.drop (Sub.refl _))))), congrArg Value.bool (Bool.eq_iff_iff.2 (by rw [decide_eq_true_eq, hrch]; exact ⟨fun hm => hB.fin2 hab hm, fun hr => hB.fin (by omega) hr⟩)), rfl⟩
theorem rBefB_fc {w0 : World} {S : SS} {A : Option Addr} {c : Nat} {l : List PartM} {a b : Vtx} (h : PartsRd w0 S A l) (ha : a = rootV ∨ a ∈ allV (pls l)) (hb : b = endV ∨ b ∈ allV (pls l)) (hab : a ≠ b) (hae : a ≠ endV) (hbr : b ≠ rootV) (hre : a = rootV ∨ b = endV) :
  FC Try.prog w0 95 [.slice A l.length c, vtxV a, vtxV b] S (fun v S' => v = .bool true /\ S' = S) := by
 have hll := h.len
 have hel := rallE_len (l := l) (fun p hp => (h.part p hp).small.1)
 have hal : (allV (pls l)).length <= 1000000 := by
  have := allV_len (l := l) (fun p hp => (h.part p hp).small.1) l.length (Nat.le_refl _)
  rw [List.take_length] at this
  omega
 refine FC.ofD Try.known95 (by simp) ?_
 unfold Try.pc95
 simp only [argT]
 refine PW.seqOps ?_
 refine OL.cons trivial (OW.bx rfl) ?_
 rintro _ _ ⟨r4, rfl, rfl⟩
 rw [vtx_box, vtxL_len]
 refine OL.cons trivial (OW.bx rfl) ?_
 rintro _ _ ⟨r5, rfl, rfl⟩
 rw [vtx_box, vtxL_len]
 refine OL.dp rfl ?_
 refine OL.nil ?_
 refine PW.k3 0 4 5 rfl rfl rfl ?_
 refine PW.seqOps ?_
 refine OL.dp rfl ?_
 refine OL.call trivial rfl (rAll_fc h.cons.cons) ?_
 rintro _ _ ⟨seg13, rfl, hsl13⟩
 obtain ⟨A13, c13, rfl, hn13, hc13, hr13⟩ := slv_rdL (w0 := w0) hsl13
 refine OL.dp rfl ?_
 refine OL.nil ?_
 refine PW.k4 0 4 5 7 rfl rfl rfl rfl ?_
 refine PW.seq fun K1 hK1 => ?_
 refine PW.seq fun K2 hK2 => ?_
 refine PW.quiet2QK Try.mixed ?_
 refine QK.dp rfl ?_
 refine QK.det trivial (.ldA rfl (vtxL_len _) (all_at (List.mem_flatten.2 ⟨_, .tail _ (.tail _ (.head _)), List.mem_singleton.2 rfl⟩))) ?_
 refine QK.call trivial rfl (rHas_fc (hr13 _) (by omega)) ?_
 refine QK.dp rfl ?_
 refine QK.bool trivial (Yields.pure rfl) (fun g18 => ?_) (fun g18 => ?_)
 ·try simp only [cvS] at g18
  refine QK.det rfl (.ldA rfl (vtxL_len _) (all_at (List.mem_flatten.2 ⟨_, .tail _ (.tail _ (.head _)), List.mem_singleton.2 rfl⟩))) ?_
  refine QK.call rfl rfl (rRoot_fc) ?_
  refine QK.det rfl (.to (v' := .bool false) (Yields.eqD (neg := true) rfl rfl (eqL_vtx _ _)) (congrArg Value.bool (by simpa using ha.resolve_right g18))) ?_
  refine QK.dp rfl ?_
  refine QK.dp rfl ?_
  refine QK.off rfl rfl ?_
  refine QK.off rfl rfl ?_
  refine QK.off rfl rfl ?_
  refine QK.dp rfl ?_
  refine QK.dp rfl ?_
  refine QK.det rfl (.pure rfl) ?_
  refine QK.det rfl (.ldA rfl (vtxL_len _) (all_at (List.mem_flatten.2 ⟨_, .tail _ (.head _), List.mem_singleton.2 rfl⟩))) ?_
  refine QK.call rfl rfl (rHas_fc (hr13 _) (by omega)) ?_
  refine QK.det rfl (.pure rfl) ?_
  refine QK.bool rfl (Yields.pure rfl) (fun g33 => ?_) (fun g33 => ?_)
  ·try simp only [cvS] at g33
   refine QK.det rfl (.ldA rfl (vtxL_len _) (all_at (List.mem_flatten.2 ⟨_, .tail _ (.head _), List.mem_singleton.2 rfl⟩))) ?_
   refine QK.call rfl rfl (rRoot_fc) ?_
   refine QK.det rfl (.to (v' := .bool true) (Yields.eqD (neg := true) rfl rfl (eqL_vtx _ _)) (congrArg Value.bool (by simpa using hbr))) ?_
   refine QK.det rfl (.pure rfl) ?_
   refine QK.det rfl (.pure rfl) ?_
   refine QK.det rfl (.ldA rfl (vtxL_len _) (all_at (List.mem_flatten.2 ⟨_, .tail _ (.head _), List.mem_singleton.2 rfl⟩))) ?_
   refine QK.call rfl rfl (rEnd_fc) ?_
   refine QK.det rfl (.to (v' := .bool false) (Yields.eqD (neg := true) rfl rfl (eqL_vtx _ _)) (congrArg Value.bool (by simpa using hb.resolve_right g33))) ?_
   refine QK.det rfl (.pure rfl) ?_
   refine QK.dp rfl ?_
   refine QK.dp rfl ?_
   refine QK.det rfl (.ldA rfl (vtxL_len _) (all_at (List.mem_flatten.2 ⟨_, .tail _ (.tail _ (.head _)), List.mem_singleton.2 rfl⟩))) ?_
   refine QK.det rfl (.ldA rfl (vtxL_len _) (all_at (List.mem_flatten.2 ⟨_, .tail _ (.head _), List.mem_singleton.2 rfl⟩))) ?_
   refine QK.det rfl (.to (v' := .bool false) (Yields.eqD (neg := false) rfl rfl (eqL_vtx _ _)) (congrArg Value.bool (by simpa using hab))) ?_
   refine QK.dp rfl ?_
   refine QK.dp rfl ?_
   refine QK.det rfl (.ldA rfl (vtxL_len _) (all_at (List.mem_flatten.2 ⟨_, .tail _ (.tail _ (.head _)), List.mem_singleton.2 rfl⟩))) ?_
   refine QK.call rfl rfl (rEnd_fc) ?_
   refine QK.det rfl (.to (v' := .bool false) (Yields.eqD (neg := false) rfl rfl (eqL_vtx _ _)) (congrArg Value.bool (by simpa using hae))) ?_
   refine QK.dp rfl ?_
   refine QK.dp rfl ?_
   refine QK.det rfl (.ldA rfl (vtxL_len _) (all_at (List.mem_flatten.2 ⟨_, .tail _ (.head _), List.mem_singleton.2 rfl⟩))) ?_
   refine QK.call rfl rfl (rRoot_fc) ?_
   refine QK.nil ?_
   change OL _ _ _ [_, _] _ _ _
   refine OL.det rfl (.to (v' := .bool false) (Yields.eqD (neg := false) rfl rfl (eqL_vtx _ _)) (congrArg Value.bool (by simpa using hbr))) ?_
   refine OL.dp rfl ?_
   refine OL.nil ?_
   refine hK2 _ _ ?_
   refine PW.k4 0 4 5 58 rfl rfl rfl rfl ?_
   refine PW.ite (b := false) rfl ?_
   rw [if_neg Bool.false_ne_true]
   refine PW.skip ?_
   refine hK1 _ _ ?_
   refine PW.k3 0 4 5 rfl rfl rfl ?_
   refine PW.seq fun K3 hK3 => ?_
   refine PW.seq fun K4 hK4 => ?_
   refine PW.quiet2QK Try.mixed ?_
   refine QK.det trivial (.ldA rfl (vtxL_len _) (all_at (List.mem_flatten.2 ⟨_, .tail _ (.tail _ (.head _)), List.mem_singleton.2 rfl⟩))) ?_
   refine QK.call trivial rfl (rRoot_fc) ?_
   refine QK.det trivial (.eqD (neg := false) rfl rfl (eqL_vtx _ _)) ?_
   refine QK.bool trivial (Yields.pure rfl) (fun g62 => ?_) (fun g62 => ?_)
   ·try simp only [cvS] at g62
    refine QK.off rfl rfl ?_
    refine QK.off rfl rfl ?_
    refine QK.nil ?_
    change OL _ _ _ [_, _] _ _ _
    refine OL.off rfl rfl ?_
    refine OL.dp rfl ?_
    refine OL.nil ?_
    refine hK4 _ _ ?_
    refine PW.k4 0 4 5 66 rfl rfl rfl rfl ?_
    refine PW.ite (b := true) rfl ?_
    rw [if_pos rfl]
    refine PW.seqOps ?_
    refine OL.dp rfl ?_
    refine OL.nil ?_
    refine PW.k1 6 rfl ?_
    refine PW.ret ?_
    change (Exit.ret = Exit.normal ∨ Exit.ret = Exit.ret) /\ ∃ v, resV _ _ = some v /\ _
    exact ⟨.inr rfl, _, rfl, _, Sub.drop (Sub.drop (Sub.drop (Sub.refl _))), rfl, rfl⟩
   try simp only [cvS] at g62
   refine QK.det rfl (.ldA rfl (vtxL_len _) (all_at (List.mem_flatten.2 ⟨_, .tail _ (.head _), List.mem_singleton.2 rfl⟩))) ?_
   refine QK.call rfl rfl (rEnd_fc) ?_
   refine QK.nil ?_
   change OL _ _ _ [_, _] _ _ _
   refine OL.det rfl (.to (v' := .bool true) (Yields.eqD (neg := false) rfl rfl (eqL_vtx _ _)) (congrArg Value.bool (by simpa using hre.resolve_left g62))) ?_
   refine OL.dp rfl ?_
   refine OL.nil ?_
   refine hK4 _ _ ?_
   refine PW.k4 0 4 5 66 rfl rfl rfl rfl ?_
   refine PW.ite (b := true) rfl ?_
   rw [if_pos rfl]
   refine PW.seqOps ?_
   refine OL.dp rfl ?_
   refine OL.nil ?_
   refine PW.k1 6 rfl ?_
   refine PW.ret ?_
   change (Exit.ret = Exit.normal ∨ Exit.ret = Exit.ret) /\ ∃ v, resV _ _ = some v /\ _
   exact ⟨.inr rfl, _, rfl, _, Sub.drop (Sub.drop (Sub.drop (Sub.refl _))), rfl, rfl⟩
  try simp only [cvS] at g33
  refine QK.off rfl rfl ?_
  refine QK.off rfl rfl ?_
  refine QK.off rfl rfl ?_
  refine QK.det rfl (.pure rfl) ?_
  refine QK.det rfl (.pure rfl) ?_
  refine QK.off rfl rfl ?_
  refine QK.off rfl rfl ?_
  refine QK.off rfl rfl ?_
  refine QK.det rfl (.pure rfl) ?_
  refine QK.dp rfl ?_
  refine QK.dp rfl ?_
  refine QK.det rfl (.ldA rfl (vtxL_len _) (all_at (List.mem_flatten.2 ⟨_, .tail _ (.tail _ (.head _)), List.mem_singleton.2 rfl⟩))) ?_
  refine QK.det rfl (.ldA rfl (vtxL_len _) (all_at (List.mem_flatten.2 ⟨_, .tail _ (.head _), List.mem_singleton.2 rfl⟩))) ?_
  refine QK.det rfl (.to (v' := .bool false) (Yields.eqD (neg := false) rfl rfl (eqL_vtx _ _)) (congrArg Value.bool (by simpa using hab))) ?_
  refine QK.dp rfl ?_
  refine QK.dp rfl ?_
  refine QK.det rfl (.ldA rfl (vtxL_len _) (all_at (List.mem_flatten.2 ⟨_, .tail _ (.tail _ (.head _)), List.mem_singleton.2 rfl⟩))) ?_
  refine QK.call rfl rfl (rEnd_fc) ?_
  refine QK.det rfl (.to (v' := .bool false) (Yields.eqD (neg := false) rfl rfl (eqL_vtx _ _)) (congrArg Value.bool (by simpa using hae))) ?_
  refine QK.dp rfl ?_
  refine QK.dp rfl ?_
  refine QK.det rfl (.ldA rfl (vtxL_len _) (all_at (List.mem_flatten.2 ⟨_, .tail _ (.head _), List.mem_singleton.2 rfl⟩))) ?_
  refine QK.call rfl rfl (rRoot_fc) ?_
  refine QK.nil ?_
  change OL _ _ _ [_, _] _ _ _
  refine OL.det rfl (.to (v' := .bool false) (Yields.eqD (neg := false) rfl rfl (eqL_vtx _ _)) (congrArg Value.bool (by simpa using hbr))) ?_
  refine OL.dp rfl ?_
  refine OL.nil ?_
  refine hK2 _ _ ?_
  refine PW.k4 0 4 5 58 rfl rfl rfl rfl ?_
  refine PW.ite (b := false) rfl ?_
  rw [if_neg Bool.false_ne_true]
  refine PW.skip ?_
  refine hK1 _ _ ?_
  refine PW.k3 0 4 5 rfl rfl rfl ?_
  refine PW.seq fun K5 hK5 => ?_
  refine PW.seq fun K6 hK6 => ?_
  refine PW.quiet2QK Try.mixed ?_
  refine QK.det trivial (.ldA rfl (vtxL_len _) (all_at (List.mem_flatten.2 ⟨_, .tail _ (.tail _ (.head _)), List.mem_singleton.2 rfl⟩))) ?_
  refine QK.call trivial rfl (rRoot_fc) ?_
  refine QK.det trivial (.eqD (neg := false) rfl rfl (eqL_vtx _ _)) ?_
  refine QK.bool trivial (Yields.pure rfl) (fun g62 => ?_) (fun g62 => ?_)
  ·try simp only [cvS] at g62
   refine QK.off rfl rfl ?_
   refine QK.off rfl rfl ?_
   refine QK.nil ?_
   change OL _ _ _ [_, _] _ _ _
   refine OL.off rfl rfl ?_
   refine OL.dp rfl ?_
   refine OL.nil ?_
   refine hK6 _ _ ?_
   refine PW.k4 0 4 5 66 rfl rfl rfl rfl ?_
   refine PW.ite (b := true) rfl ?_
   rw [if_pos rfl]
   refine PW.seqOps ?_
   refine OL.dp rfl ?_
   refine OL.nil ?_
   refine PW.k1 6 rfl ?_
   refine PW.ret ?_
   change (Exit.ret = Exit.normal ∨ Exit.ret = Exit.ret) /\ ∃ v, resV _ _ = some v /\ _
   exact ⟨.inr rfl, _, rfl, _, Sub.drop (Sub.drop (Sub.drop (Sub.refl _))), rfl, rfl⟩
  try simp only [cvS] at g62
  refine QK.det rfl (.ldA rfl (vtxL_len _) (all_at (List.mem_flatten.2 ⟨_, .tail _ (.head _), List.mem_singleton.2 rfl⟩))) ?_
  refine QK.call rfl rfl (rEnd_fc) ?_
  refine QK.nil ?_
  change OL _ _ _ [_, _] _ _ _
  refine OL.det rfl (.to (v' := .bool true) (Yields.eqD (neg := false) rfl rfl (eqL_vtx _ _)) (congrArg Value.bool (by simpa using hre.resolve_left g62))) ?_
  refine OL.dp rfl ?_
  refine OL.nil ?_
  refine hK6 _ _ ?_
  refine PW.k4 0 4 5 66 rfl rfl rfl rfl ?_
  refine PW.ite (b := true) rfl ?_
  rw [if_pos rfl]
  refine PW.seqOps ?_
  refine OL.dp rfl ?_
  refine OL.nil ?_
  refine PW.k1 6 rfl ?_
  refine PW.ret ?_
  change (Exit.ret = Exit.normal ∨ Exit.ret = Exit.ret) /\ ∃ v, resV _ _ = some v /\ _
  exact ⟨.inr rfl, _, rfl, _, Sub.drop (Sub.drop (Sub.drop (Sub.refl _))), rfl, rfl⟩
 try simp only [cvS] at g18
 refine QK.off rfl rfl ?_
 refine QK.off rfl rfl ?_
 refine QK.off rfl rfl ?_
 refine QK.dp rfl ?_
 refine QK.dp rfl ?_
 refine QK.off rfl rfl ?_
 refine QK.off rfl rfl ?_
 refine QK.off rfl rfl ?_
 refine QK.dp rfl ?_
 refine QK.dp rfl ?_
 refine QK.det rfl (.pure rfl) ?_
 refine QK.det rfl (.ldA rfl (vtxL_len _) (all_at (List.mem_flatten.2 ⟨_, .tail _ (.head _), List.mem_singleton.2 rfl⟩))) ?_
 refine QK.call rfl rfl (rHas_fc (hr13 _) (by omega)) ?_
 refine QK.det rfl (.pure rfl) ?_
 refine QK.bool rfl (Yields.pure rfl) (fun g33 => ?_) (fun g33 => ?_)
 ·try simp only [cvS] at g33
  refine QK.det rfl (.ldA rfl (vtxL_len _) (all_at (List.mem_flatten.2 ⟨_, .tail _ (.head _), List.mem_singleton.2 rfl⟩))) ?_
  refine QK.call rfl rfl (rRoot_fc) ?_
  refine QK.det rfl (.to (v' := .bool true) (Yields.eqD (neg := true) rfl rfl (eqL_vtx _ _)) (congrArg Value.bool (by simpa using hbr))) ?_
  refine QK.det rfl (.pure rfl) ?_
  refine QK.det rfl (.pure rfl) ?_
  refine QK.det rfl (.ldA rfl (vtxL_len _) (all_at (List.mem_flatten.2 ⟨_, .tail _ (.head _), List.mem_singleton.2 rfl⟩))) ?_
  refine QK.call rfl rfl (rEnd_fc) ?_
  refine QK.det rfl (.to (v' := .bool false) (Yields.eqD (neg := true) rfl rfl (eqL_vtx _ _)) (congrArg Value.bool (by simpa using hb.resolve_right g33))) ?_
  refine QK.det rfl (.pure rfl) ?_
  refine QK.dp rfl ?_
  refine QK.dp rfl ?_
  refine QK.det rfl (.ldA rfl (vtxL_len _) (all_at (List.mem_flatten.2 ⟨_, .tail _ (.tail _ (.head _)), List.mem_singleton.2 rfl⟩))) ?_
  refine QK.det rfl (.ldA rfl (vtxL_len _) (all_at (List.mem_flatten.2 ⟨_, .tail _ (.head _), List.mem_singleton.2 rfl⟩))) ?_
  refine QK.det rfl (.to (v' := .bool false) (Yields.eqD (neg := false) rfl rfl (eqL_vtx _ _)) (congrArg Value.bool (by simpa using hab))) ?_
  refine QK.dp rfl ?_
  refine QK.dp rfl ?_
  refine QK.det rfl (.ldA rfl (vtxL_len _) (all_at (List.mem_flatten.2 ⟨_, .tail _ (.tail _ (.head _)), List.mem_singleton.2 rfl⟩))) ?_
  refine QK.call rfl rfl (rEnd_fc) ?_
  refine QK.det rfl (.to (v' := .bool false) (Yields.eqD (neg := false) rfl rfl (eqL_vtx _ _)) (congrArg Value.bool (by simpa using hae))) ?_
  refine QK.dp rfl ?_
  refine QK.dp rfl ?_
  refine QK.det rfl (.ldA rfl (vtxL_len _) (all_at (List.mem_flatten.2 ⟨_, .tail _ (.head _), List.mem_singleton.2 rfl⟩))) ?_
  refine QK.call rfl rfl (rRoot_fc) ?_
  refine QK.nil ?_
  change OL _ _ _ [_, _] _ _ _
  refine OL.det rfl (.to (v' := .bool false) (Yields.eqD (neg := false) rfl rfl (eqL_vtx _ _)) (congrArg Value.bool (by simpa using hbr))) ?_
  refine OL.dp rfl ?_
  refine OL.nil ?_
  refine hK2 _ _ ?_
  refine PW.k4 0 4 5 58 rfl rfl rfl rfl ?_
  refine PW.ite (b := false) rfl ?_
  rw [if_neg Bool.false_ne_true]
  refine PW.skip ?_
  refine hK1 _ _ ?_
  refine PW.k3 0 4 5 rfl rfl rfl ?_
  refine PW.seq fun K7 hK7 => ?_
  refine PW.seq fun K8 hK8 => ?_
  refine PW.quiet2QK Try.mixed ?_
  refine QK.det trivial (.ldA rfl (vtxL_len _) (all_at (List.mem_flatten.2 ⟨_, .tail _ (.tail _ (.head _)), List.mem_singleton.2 rfl⟩))) ?_
  refine QK.call trivial rfl (rRoot_fc) ?_
  refine QK.det trivial (.eqD (neg := false) rfl rfl (eqL_vtx _ _)) ?_
  refine QK.bool trivial (Yields.pure rfl) (fun g62 => ?_) (fun g62 => ?_)
  ·try simp only [cvS] at g62
   refine QK.off rfl rfl ?_
   refine QK.off rfl rfl ?_
   refine QK.nil ?_
   change OL _ _ _ [_, _] _ _ _
   refine OL.off rfl rfl ?_
   refine OL.dp rfl ?_
   refine OL.nil ?_
   refine hK8 _ _ ?_
   refine PW.k4 0 4 5 66 rfl rfl rfl rfl ?_
   refine PW.ite (b := true) rfl ?_
   rw [if_pos rfl]
   refine PW.seqOps ?_
   refine OL.dp rfl ?_
   refine OL.nil ?_
   refine PW.k1 6 rfl ?_
   refine PW.ret ?_
   change (Exit.ret = Exit.normal ∨ Exit.ret = Exit.ret) /\ ∃ v, resV _ _ = some v /\ _
   exact ⟨.inr rfl, _, rfl, _, Sub.drop (Sub.drop (Sub.drop (Sub.refl _))), rfl, rfl⟩
  try simp only [cvS] at g62
  refine QK.det rfl (.ldA rfl (vtxL_len _) (all_at (List.mem_flatten.2 ⟨_, .tail _ (.head _), List.mem_singleton.2 rfl⟩))) ?_
  refine QK.call rfl rfl (rEnd_fc) ?_
  refine QK.nil ?_
  change OL _ _ _ [_, _] _ _ _
  refine OL.det rfl (.to (v' := .bool true) (Yields.eqD (neg := false) rfl rfl (eqL_vtx _ _)) (congrArg Value.bool (by simpa using hre.resolve_left g62))) ?_
  refine OL.dp rfl ?_
  refine OL.nil ?_
  refine hK8 _ _ ?_
  refine PW.k4 0 4 5 66 rfl rfl rfl rfl ?_
  refine PW.ite (b := true) rfl ?_
  rw [if_pos rfl]
  refine PW.seqOps ?_
  refine OL.dp rfl ?_
  refine OL.nil ?_
  refine PW.k1 6 rfl ?_
  refine PW.ret ?_
  change (Exit.ret = Exit.normal ∨ Exit.ret = Exit.ret) /\ ∃ v, resV _ _ = some v /\ _
  exact ⟨.inr rfl, _, rfl, _, Sub.drop (Sub.drop (Sub.drop (Sub.refl _))), rfl, rfl⟩
 try simp only [cvS] at g33
 refine QK.off rfl rfl ?_
 refine QK.off rfl rfl ?_
 refine QK.off rfl rfl ?_
 refine QK.det rfl (.pure rfl) ?_
 refine QK.det rfl (.pure rfl) ?_
 refine QK.off rfl rfl ?_
 refine QK.off rfl rfl ?_
 refine QK.off rfl rfl ?_
 refine QK.det rfl (.pure rfl) ?_
 refine QK.dp rfl ?_
 refine QK.dp rfl ?_
 refine QK.det rfl (.ldA rfl (vtxL_len _) (all_at (List.mem_flatten.2 ⟨_, .tail _ (.tail _ (.head _)), List.mem_singleton.2 rfl⟩))) ?_
 refine QK.det rfl (.ldA rfl (vtxL_len _) (all_at (List.mem_flatten.2 ⟨_, .tail _ (.head _), List.mem_singleton.2 rfl⟩))) ?_
 refine QK.det rfl (.to (v' := .bool false) (Yields.eqD (neg := false) rfl rfl (eqL_vtx _ _)) (congrArg Value.bool (by simpa using hab))) ?_
 refine QK.dp rfl ?_
 refine QK.dp rfl ?_
 refine QK.det rfl (.ldA rfl (vtxL_len _) (all_at (List.mem_flatten.2 ⟨_, .tail _ (.tail _ (.head _)), List.mem_singleton.2 rfl⟩))) ?_
 refine QK.call rfl rfl (rEnd_fc) ?_
 refine QK.det rfl (.to (v' := .bool false) (Yields.eqD (neg := false) rfl rfl (eqL_vtx _ _)) (congrArg Value.bool (by simpa using hae))) ?_
 refine QK.dp rfl ?_
 refine QK.dp rfl ?_
 refine QK.det rfl (.ldA rfl (vtxL_len _) (all_at (List.mem_flatten.2 ⟨_, .tail _ (.head _), List.mem_singleton.2 rfl⟩))) ?_
 refine QK.call rfl rfl (rRoot_fc) ?_
 refine QK.nil ?_
 change OL _ _ _ [_, _] _ _ _
 refine OL.det rfl (.to (v' := .bool false) (Yields.eqD (neg := false) rfl rfl (eqL_vtx _ _)) (congrArg Value.bool (by simpa using hbr))) ?_
 refine OL.dp rfl ?_
 refine OL.nil ?_
 refine hK2 _ _ ?_
 refine PW.k4 0 4 5 58 rfl rfl rfl rfl ?_
 refine PW.ite (b := false) rfl ?_
 rw [if_neg Bool.false_ne_true]
 refine PW.skip ?_
 refine hK1 _ _ ?_
 refine PW.k3 0 4 5 rfl rfl rfl ?_
 refine PW.seq fun K9 hK9 => ?_
 refine PW.seq fun K10 hK10 => ?_
 refine PW.quiet2QK Try.mixed ?_
 refine QK.det trivial (.ldA rfl (vtxL_len _) (all_at (List.mem_flatten.2 ⟨_, .tail _ (.tail _ (.head _)), List.mem_singleton.2 rfl⟩))) ?_
 refine QK.call trivial rfl (rRoot_fc) ?_
 refine QK.det trivial (.eqD (neg := false) rfl rfl (eqL_vtx _ _)) ?_
 refine QK.bool trivial (Yields.pure rfl) (fun g62 => ?_) (fun g62 => ?_)
 ·try simp only [cvS] at g62
  refine QK.off rfl rfl ?_
  refine QK.off rfl rfl ?_
  refine QK.nil ?_
  change OL _ _ _ [_, _] _ _ _
  refine OL.off rfl rfl ?_
  refine OL.dp rfl ?_
  refine OL.nil ?_
  refine hK10 _ _ ?_
  refine PW.k4 0 4 5 66 rfl rfl rfl rfl ?_
  refine PW.ite (b := true) rfl ?_
  rw [if_pos rfl]
  refine PW.seqOps ?_
  refine OL.dp rfl ?_
  refine OL.nil ?_
  refine PW.k1 6 rfl ?_
  refine PW.ret ?_
  change (Exit.ret = Exit.normal ∨ Exit.ret = Exit.ret) /\ ∃ v, resV _ _ = some v /\ _
  exact ⟨.inr rfl, _, rfl, _, Sub.drop (Sub.drop (Sub.drop (Sub.refl _))), rfl, rfl⟩
 try simp only [cvS] at g62
 refine QK.det rfl (.ldA rfl (vtxL_len _) (all_at (List.mem_flatten.2 ⟨_, .tail _ (.head _), List.mem_singleton.2 rfl⟩))) ?_
 refine QK.call rfl rfl (rEnd_fc) ?_
 refine QK.nil ?_
 change OL _ _ _ [_, _] _ _ _
 refine OL.det rfl (.to (v' := .bool true) (Yields.eqD (neg := false) rfl rfl (eqL_vtx _ _)) (congrArg Value.bool (by simpa using hre.resolve_left g62))) ?_
 refine OL.dp rfl ?_
 refine OL.nil ?_
 refine hK10 _ _ ?_
 refine PW.k4 0 4 5 66 rfl rfl rfl rfl ?_
 refine PW.ite (b := true) rfl ?_
 rw [if_pos rfl]
 refine PW.seqOps ?_
 refine OL.dp rfl ?_
 refine OL.nil ?_
 refine PW.k1 6 rfl ?_
 refine PW.ret ?_
 change (Exit.ret = Exit.normal ∨ Exit.ret = Exit.ret) /\ ∃ v, resV _ _ = some v /\ _
 exact ⟨.inr rfl, _, rfl, _, Sub.drop (Sub.drop (Sub.drop (Sub.refl _))), rfl, rfl⟩
end Go.Proofs.Gr

namespace Go.SL
open Go Go.RowKit
variable {P : Program} {w0 : World} {n : Nat} {T : TT} {S : SS}
theorem PW.seqS {x y : PC} {Q : Exit -> TT -> SS -> Prop} (T0 : TT) (S0 : SS) (tail : PW P w0 n y T0 S0 Q)
  (h : ∀ K : TT -> SS -> Prop, (∀ T' S', Within T0 T' -> S' = S0 -> K T' S') -> PW P w0 n x T S (thenK K Q)) : PW P w0 n (.seq x y) T S Q :=
 PW.seq fun K hK => h K fun T' S' hW hS => hK T' S' (PW.keep hW (hS ▸ tail))
end Go.SL

namespace Go.Proofs.Gr
open Go.SL Go.RowKit Go.Proofs Go.GP
set_option maxHeartbeats 1000000
theorem rBef_fc {w0 : World} {S : SS} {A : Option Addr} {c : Nat} {l : List PartM} {a b : Vtx} (h : PartsRd w0 S A l) (hr : ∀ v ∈ allV (pls l), v ≠ rootV /\ v ≠ endV) (hb : Bef (pls l) a b) :
  FC Try.prog w0 95 [.slice A l.length c, vtxV a, vtxV b] S (fun v S' => v = .bool true /\ S' = S) := by
 obtain ⟨h1, h2, h3, h4, h5, h6⟩ := hb
 have ha : a = rootV ∨ a ∈ allV (pls l) := h1.imp_right fun h => h.resolve_left h4
 have hb : b = endV ∨ b ∈ allV (pls l) := h2.resolve_left h5
 by_cases e1 : a = rootV
 ·exact rBefB_fc h ha hb h3 h4 h5 (.inl e1)
 by_cases e2 : b = endV
 ·exact rBefB_fc h ha hb h3 h4 h5 (.inr e2)
 exact rBefA_fc h (ha.resolve_left e1) (hb.resolve_left e2) h3 h4 h5 e1 e2 (r := true) ⟨fun _ => (h6.resolve_left e1).resolve_left e2, fun _ => rfl⟩
def KH : List CK := List.replicate 32 (.int .u8)
theorem eqL_hash (a b : HashB) : eqL KH (bytesC a.1) (bytesC b.1) = some (decide (a = b)) := by
 have h := eqL_bytes (x := a.1) (y := b.1) (by rw [a.2, b.2])
 rw [a.2] at h
 rw [show KH = List.replicate 32 (.int .u8) from rfl, h]
 congr 1
 exact decide_eq_decide.2 ⟨fun e => Subtype.ext e, fun e => congrArg _ e⟩
theorem appP2 {P : Program} {w0 : World} {n : Nat} {T : TT} {S : SS} {k m q c : Nat} {z v : Value} {s x : PV} {A : Option Addr} {xs l : List PartM} {seg : Seg} (hs' : s.val T = some v) (hk : S[k]? = some seg) (hv : SlV 123 102 v m (partS xs) seg)
  (hx : x.val T = some (.slice A q c)) (hq : l.length = q) (hrd : Rd w0 S A (partS l)) (hc : A = none -> c = 0) (hb : m + q <= 1000000) :
  OW P w0 n (.app 61 123 102 176 z s x) T S (fun v' S' => ∃ seg', S' = S.set k seg' /\ SlV 123 102 v' (m + q) (partS (xs ++ l)) seg') := by
 have h := OW.appL (P := P) (w0 := w0) (n := n) (t := 61) (z := z) (bytes := 176) hs' hk hv hx (by rw [partS_len, hq]) hrd (by decide) hc (partS_one l) (by omega) (by unfold maxLen; omega)
 rw [<- partS_app] at h
 exact h
section
variable {w0 : World} {S : SS} {a : Addr} {l : List PartM} {k : Nat}
theorem partS_patch (h : Rd w0 S (some a) (partS l)) (hk : k < l.length) : ∀ (j : Nat) (v : Value), (bytesC l[k].patch.1)[j]? = some v -> Cell w0 S (((a.add (k * 102)).add 0).add j) v := by
 intro j v hj
 have hj2 := (List.getElem?_eq_some_iff.1 hj).1
 rw [addr_add_add (a.add (k * 102))]
 refine partS_at h hk (0 + j) v ?_
 rw [Nat.zero_add, partC_split, List.getElem?_append_left hj2]
 exact hj
theorem partS_at32 (h : Rd w0 S (some a) (partS l)) (hk : k < l.length) : Cell w0 S ((a.add (k * 102)).add 32) (.int .i64 l[k].at_) := by
 refine partS_at h hk 32 _ ?_
 have h1 := hb_len l[k].patch
 rw [partC_split, List.getElem?_append_right (by omega), h1]
 rfl
end
theorem nodup_take {l : List Vtx} (h : l.Nodup) {k : Nat} (hk : k < l.length) : l[k] ∉ l.take k := by
 intro hm
 obtain ⟨i, hi, e⟩ := List.getElem_of_mem hm
 rw [List.length_take] at hi
 rw [List.getElem_take] at e
 have := (List.getElem_inj h).1 e
 omega
theorem rAdd_fc {w0 : World} {S : SS} {A : Option Addr} {c : Nat} {l : List PartM} {p : PartM} (h : PartsRd w0 S A l) (hp : PartRd w0 S p) (hcA : A = none -> c = 0) (hnew : New (pls l) p.pl) (hline : ∀ v ∈ allV (pls l), v ≠ rootV /\ v ≠ endV) :
  FC Try.prog w0 68 [.slice A l.length c, partV p] S (fun v S' => ∃ v1 seg, v = .tuple #[v1, .int .i64 0] /\ S' = seg :: S /\ SlV 123 102 v1 (l ++ [p]).length (partS (l ++ [p])) seg) := by
 have hll := h.len
 have hrd := h.rd
 have hal : (allV (pls l)).length <= 1000000 := by
  have := allV_len (l := l) (fun p hp => (h.part p hp).small.1) l.length (Nat.le_refl _)
  rw [List.take_length] at this
  omega
 have hpl := hp.rng.lines
 have hgn := hp.rng.gones
 have hup : p.up ≠ rootV -> p.up ∈ allV (pls l) := fun e => (hnew.up.resolve_left e).resolve_left hnew.upE
 have hdn : p.down ≠ endV -> p.down ∈ allV (pls l) := fun e => (hnew.down.resolve_left hnew.downR).resolve_left e
 have hol : (own p.pl).length = p.lines.length := own_len p.pl
 refine FC.ofD Try.known68 (by simp) ?_
 unfold Try.pc68
 simp only [argT]
 refine PW.seqOps ?_
 refine OL.cons trivial (OW.bx rfl) ?_
 rintro _ _ ⟨r3, rfl, rfl⟩
 rw [part_box, partC_len]
 refine OL.dp rfl ?_
 refine OL.dp rfl ?_
 refine OL.nil ?_
 refine PW.k2 0 3 rfl rfl ?_
 refine PW.seqOps ?_
 refine OL.dp rfl ?_
 refine OL.call trivial rfl (rAll_fc h.cons) ?_
 rintro _ _ ⟨sga, rfl, hsa⟩
 obtain ⟨Aa, ca, rfl, hna, hca, hra⟩ := slv_rdL (w0 := w0) hsa
 refine OL.dp rfl ?_
 refine OL.nil ?_
 refine PW.k3 0 3 6 rfl rfl rfl ?_
 refine PW.seqOps ?_
 refine OL.det trivial (.ldA rfl (partC_len _) (all_at (List.mem_flatten.2 ⟨_, .tail _ (.head _), List.mem_singleton.2 rfl⟩))) ?_
 refine OL.call trivial rfl (rOwn_fc hp.rng) ?_
 rintro _ _ ⟨sgo, rfl, hso⟩
 obtain ⟨Ao, co, rfl, hno, hco, hro⟩ := slv_rdL (w0 := w0) hso
 refine OL.dp rfl ?_
 refine OL.nil ?_
 refine PW.k4 0 3 6 7 rfl rfl rfl rfl ?_
 refine PW.seq fun K1 hK1 => ?_
 refine PW.seqOps ?_
 refine OL.dp rfl ?_
 refine OL.nil ?_
 refine PW.k5 0 3 6 7 8 rfl rfl rfl rfl rfl ?_
 refine PW.block ?_
 refine PW.k5 0 3 6 7 8 rfl rfl rfl rfl rfl ?_
 refine PW.loopK (I := fun mm T S' => ∃ k : Nat, (k <= l.length /\ mm = l.length - k) /\ T = ([(0, .slice A l.length c), (3, .pointer (some ⟨r3, 0, none⟩)), (6, .slice Aa (allV (pls l)).length ca), (7, .slice Ao (own p.pl).length co), (8, .int .i64 k)] : TT) /\ S' = sgo :: sga :: [(r3, .cells (partC p) 123 102)] :: S) (m := l.length) ⟨0, ⟨by omega, by omega⟩, rfl, rfl⟩ ?_
 rintro mm _ _ ⟨k, ⟨hk, hmm⟩, rfl, rfl⟩
 refine PW.seq fun K2 hK2 => ?_
 refine PW.seqOps ?_
 refine OL.dp rfl ?_
 refine OL.dp rfl ?_
 refine OL.dp rfl ?_
 refine OL.dp rfl ?_
 refine OL.nil ?_
 refine PW.k6 0 3 6 7 8 20 rfl rfl rfl rfl rfl rfl ?_
 refine PW.cond rfl (fun c20 => ?_) (fun c20 => ?_)
 ·try simp only [cvS] at c20
  have hkl : k < l.length := by omega
  obtain ⟨a0, rfl⟩ := partS_some hrd (by omega)
  refine PW.skip ?_
  refine hK2 _ _ ?_
  refine PW.k5 0 3 6 7 8 rfl rfl rfl rfl rfl ?_
  refine PW.seq fun K3 hK3 => ?_
  refine PW.block ?_
  refine PW.seq fun K4 hK4 => ?_
  refine PW.quietK Try.mixed ?_
  refine QK.dp rfl ?_
  refine QK.dp rfl ?_
  refine QK.det trivial (.ixN rfl rfl rfl hkl) ?_
  refine QK.dp rfl ?_
  refine QK.det trivial (.ldA rfl (hb_len _) (partS_patch (hrd.cons.cons.cons) hkl)) ?_
  refine QK.dp rfl ?_
  refine QK.det trivial (.ldA rfl (hb_len _) (part_patch (p := p) (E := 123) (tot := 102) (List.mem_flatten.2 ⟨_, .tail _ (.tail _ (.head _)), List.mem_singleton.2 rfl⟩))) ?_
  refine QK.det trivial (.eqD (neg := false) rfl rfl (eqL_hash _ _)) ?_
  refine QK.bool trivial (Yields.pure rfl) (fun g31 => ?_) (fun g31 => ?_)
  ·try simp only [cvS] at g31
   refine QK.det rfl (.pure rfl) ?_
   refine QK.det rfl (.pure rfl) ?_
   refine QK.det rfl (.ixN rfl rfl rfl hkl) ?_
   refine QK.det rfl (.pure rfl) ?_
   refine QK.det rfl (.ld rfl (partS_at32 (hrd.cons.cons.cons) hkl)) ?_
   refine QK.det rfl (.pure rfl) ?_
   refine QK.det rfl (.ld rfl (part_at (p := p) (E := 123) (tot := 102) (List.mem_flatten.2 ⟨_, .tail _ (.tail _ (.head _)), List.mem_singleton.2 rfl⟩))) ?_
   refine QK.nil ?_
   change OL _ _ _ [_, _] _ _ _
   refine OL.det rfl (.pure rfl) ?_
   refine OL.dp rfl ?_
   refine OL.nil ?_
   refine hK4 _ _ ?_
   refine PW.k6 0 3 6 7 8 40 rfl rfl rfl rfl rfl rfl ?_
   refine PW.cond rfl (fun c40 => ?_) (fun c40 => ?_)
   ·try simp only [cvS] at c40
    exfalso
    exact hnew.name l[k].pl (List.mem_map.2 ⟨_, List.getElem_mem hkl, rfl⟩) (Prod.ext g31 c40)
    -- done
   try simp only [cvS] at c40
   refine PW.skip ?_
   refine hK3 _ _ ?_
   refine PW.k5 0 3 6 7 8 rfl rfl rfl rfl rfl ?_
   refine PW.ops ?_
   refine OL.dp rfl ?_
   refine OL.det trivial (.add64 rfl rfl (by omega) (by omega)) ?_
   refine OL.dp rfl ?_
   refine OL.nil ?_
   repeat rw [inBlk_n]
   try rw [thenK_n]
   refine LoopEnd.mk (T'' := [(0, _), (3, _), (6, _), (7, _), (8, _)]) ⟨rfl, rfl, rfl, rfl, rfl, trivial⟩ ?_
   exact ⟨l.length - (k + 1), by omega, k + 1, ⟨by omega, rfl⟩, rfl, rfl⟩
  try simp only [cvS] at g31
  refine QK.off rfl rfl ?_
  refine QK.off rfl rfl ?_
  refine QK.off rfl rfl ?_
  refine QK.off rfl rfl ?_
  refine QK.off rfl rfl ?_
  refine QK.off rfl rfl ?_
  refine QK.off rfl rfl ?_
  refine QK.nil ?_
  change OL _ _ _ [_, _] _ _ _
  refine OL.off rfl rfl ?_
  refine OL.dp rfl ?_
  refine OL.nil ?_
  refine hK4 _ _ ?_
  refine PW.k6 0 3 6 7 8 40 rfl rfl rfl rfl rfl rfl ?_
  refine PW.ite (b := false) rfl ?_
  rw [if_neg Bool.false_ne_true]
  refine PW.skip ?_
  refine hK3 _ _ ?_
  refine PW.k5 0 3 6 7 8 rfl rfl rfl rfl rfl ?_
  refine PW.ops ?_
  refine OL.dp rfl ?_
  refine OL.det trivial (.add64 rfl rfl (by omega) (by omega)) ?_
  refine OL.dp rfl ?_
  refine OL.nil ?_
  repeat rw [inBlk_n]
  try rw [thenK_n]
  refine LoopEnd.mk (T'' := [(0, _), (3, _), (6, _), (7, _), (8, _)]) ⟨rfl, rfl, rfl, rfl, rfl, trivial⟩ ?_
  exact ⟨l.length - (k + 1), by omega, k + 1, ⟨by omega, rfl⟩, rfl, rfl⟩
 try simp only [cvS] at c20
 refine PW.exit ?_
 refine hK1 _ _ ?_
 refine PW.k4 0 3 6 7 rfl rfl rfl rfl ?_
 refine PW.seq fun K5 hK5 => ?_
 refine PW.seqOps ?_
 refine OL.dp rfl ?_
 refine OL.nil ?_
 refine PW.k5 0 3 6 7 9 rfl rfl rfl rfl rfl ?_
 refine PW.block ?_
 refine PW.k5 0 3 6 7 9 rfl rfl rfl rfl rfl ?_
 refine PW.loopK (I := fun mm T S' => ∃ k : Nat, (k <= (own p.pl).length /\ mm = (own p.pl).length - k) /\ T = ([(0, .slice A l.length c), (3, .pointer (some ⟨r3, 0, none⟩)), (6, .slice Aa (allV (pls l)).length ca), (7, .slice Ao (own p.pl).length co), (9, .int .i64 k)] : TT) /\ S' = sgo :: sga :: [(r3, .cells (partC p) 123 102)] :: S) (m := (own p.pl).length) ⟨0, ⟨by omega, by omega⟩, rfl, rfl⟩ ?_
 rintro mm _ _ ⟨k, ⟨hk, hmm⟩, rfl, rfl⟩
 refine PW.seq fun K6 hK6 => ?_
 refine PW.seqOps ?_
 refine OL.dp rfl ?_
 refine OL.dp rfl ?_
 refine OL.dp rfl ?_
 refine OL.dp rfl ?_
 refine OL.nil ?_
 refine PW.k6 0 3 6 7 9 45 rfl rfl rfl rfl rfl rfl ?_
 refine PW.cond rfl (fun c45 => ?_) (fun c45 => ?_)
 ·try simp only [cvS] at c45
  have hkl : k < (own p.pl).length := by omega
  obtain ⟨o0, rfl⟩ := vtxs_some (hro []) (by omega)
  refine PW.skip ?_
  refine hK6 _ _ ?_
  refine PW.k5 0 3 6 7 9 rfl rfl rfl rfl rfl ?_
  refine PW.seq fun K7 hK7 => ?_
  refine PW.block ?_
  refine PW.seqOps ?_
  refine OL.dp rfl ?_
  refine OL.dp rfl ?_
  refine OL.dp rfl ?_
  refine OL.det trivial (.ixN rfl rfl rfl hkl) ?_
  refine OL.det trivial (.ldA rfl (vtxL_len _) (vtx_at (hro _) hkl)) ?_
  refine OL.call trivial rfl (rHasF_fc ((hra _).cons) (by omega) (hnew.own _ (List.getElem_mem hkl))) ?_
  rintro _ Sx ⟨rfl, hSx⟩
  rw [hSx]
  clear hSx
  refine OL.nil ?_
  refine PW.k6 0 3 6 7 9 53 rfl rfl rfl rfl rfl rfl ?_
  refine PW.ite (b := false) rfl ?_
  rw [if_neg Bool.false_ne_true]
  refine PW.skip ?_
  refine hK7 _ _ ?_
  refine PW.k5 0 3 6 7 9 rfl rfl rfl rfl rfl ?_
  refine PW.ops ?_
  refine OL.dp rfl ?_
  refine OL.det trivial (.add64 rfl rfl (by omega) (by omega)) ?_
  refine OL.dp rfl ?_
  refine OL.nil ?_
  repeat rw [inBlk_n]
  try rw [thenK_n]
  refine LoopEnd.mk (T'' := [(0, _), (3, _), (6, _), (7, _), (9, _)]) ⟨rfl, rfl, rfl, rfl, rfl, trivial⟩ ?_
  exact ⟨(own p.pl).length - (k + 1), by omega, k + 1, ⟨by omega, rfl⟩, rfl, rfl⟩
 try simp only [cvS] at c45
 refine PW.exit ?_
 refine hK5 _ _ ?_
 refine PW.k3 0 3 6 rfl rfl rfl ?_
 refine PW.seq fun K8 hK8 => ?_
 refine PW.seq fun K9 hK9 => ?_
 refine PW.quiet2QK Try.mixed ?_
 refine QK.dp rfl ?_
 refine QK.det trivial (.ld rfl (part_first (p := p) (E := 123) (tot := 102) (List.mem_flatten.2 ⟨_, .tail _ (.tail _ (.head _)), List.mem_singleton.2 rfl⟩))) ?_
 refine QK.det trivial (.to (v' := .bool false) (Yields.pure rfl) (congrArg Value.bool (decide_eq_false (by have := hnew.first; show ¬ p.first < 0; exact Int.not_lt.2 this)))) ?_
 refine QK.dp rfl ?_
 refine QK.det rfl (.pure rfl) ?_
 refine QK.det rfl (.ldA rfl (vtxL_len _) (part_up (p := p) (E := 123) (tot := 102) (List.mem_flatten.2 ⟨_, .tail _ (.tail _ (.head _)), List.mem_singleton.2 rfl⟩))) ?_
 refine QK.call rfl rfl (rEnd_fc) ?_
 refine QK.det rfl (.to (v' := .bool false) (Yields.eqD (neg := false) rfl rfl (eqL_vtx _ _)) (congrArg Value.bool (by simpa using (show p.up ≠ endV from hnew.upE)))) ?_
 refine QK.dp rfl ?_
 refine QK.dp rfl ?_
 refine QK.det rfl (.pure rfl) ?_
 refine QK.det rfl (.ldA rfl (vtxL_len _) (part_down (p := p) (E := 123) (tot := 102) (List.mem_flatten.2 ⟨_, .tail _ (.tail _ (.head _)), List.mem_singleton.2 rfl⟩))) ?_
 refine QK.call rfl rfl (rRoot_fc) ?_
 refine QK.nil ?_
 change OL _ _ _ [_, _] _ _ _
 refine OL.det rfl (.to (v' := .bool false) (Yields.eqD (neg := false) rfl rfl (eqL_vtx _ _)) (congrArg Value.bool (by simpa using (show p.down ≠ rootV from hnew.downR)))) ?_
 refine OL.dp rfl ?_
 refine OL.nil ?_
 refine hK9 _ _ ?_
 refine PW.k4 0 3 6 69 rfl rfl rfl rfl ?_
 refine PW.ite (b := false) rfl ?_
 rw [if_neg Bool.false_ne_true]
 refine PW.skip ?_
 refine hK8 _ _ ?_
 refine PW.k3 0 3 6 rfl rfl rfl ?_
 refine PW.seq fun K10 hK10 => ?_
 refine PW.seqOps ?_
 refine OL.dp rfl ?_
 refine OL.nil ?_
 refine PW.k4 0 3 6 10 rfl rfl rfl rfl ?_
 refine PW.block ?_
 refine PW.k4 0 3 6 10 rfl rfl rfl rfl ?_
 refine PW.loopK (I := fun mm T S' => ∃ k : Nat, (k <= p.gone.length /\ mm = p.gone.length - k) /\ T = ([(0, .slice A l.length c), (3, .pointer (some ⟨r3, 0, none⟩)), (6, .slice Aa (allV (pls l)).length ca), (10, .int .i64 k)] : TT) /\ S' = sgo :: sga :: [(r3, .cells (partC p) 123 102)] :: S) (m := p.gone.length) ⟨0, ⟨by omega, by omega⟩, rfl, rfl⟩ ?_
 rintro mm _ _ ⟨k, ⟨hk, hmm⟩, rfl, rfl⟩
 refine PW.seq fun K11 hK11 => ?_
 refine PW.seqOps ?_
 refine OL.dp rfl ?_
 refine OL.dp rfl ?_
 refine OL.det trivial (.ld rfl (part_gone (p := p) (E := 123) (tot := 102) (List.mem_flatten.2 ⟨_, .tail _ (.tail _ (.head _)), List.mem_singleton.2 rfl⟩))) ?_
 refine OL.dp rfl ?_
 refine OL.dp rfl ?_
 refine OL.nil ?_
 refine PW.k5 0 3 6 10 75 rfl rfl rfl rfl rfl ?_
 refine PW.cond rfl (fun c75 => ?_) (fun c75 => ?_)
 ·try simp only [cvS] at c75
  have hgl : k < p.gone.length := by omega
  obtain ⟨ag, hag⟩ := vtxs_some hp.rdG (by omega)
  have hgr : Rd w0 (sgo :: sga :: [(r3, .cells (partC p) 123 102)] :: S) (some ag) (vtxs p.gone) := by rw [<- hag]; exact hp.rdG.cons.cons.cons
  have hgc : p.gone.length <= p.gc := hp.rng.gcap
  have hgR := hnew.goneR _ (List.getElem_mem hgl)
  refine PW.skip ?_
  refine hK11 _ _ ?_
  refine PW.k4 0 3 6 10 rfl rfl rfl rfl ?_
  refine PW.seq fun K12 hK12 => ?_
  refine PW.block ?_
  refine PW.seq fun K13 hK13 => ?_
  refine PW.quiet2QK Try.mixed ?_
  refine QK.dp rfl ?_
  refine QK.det trivial (.ld rfl (part_gone (p := p) (E := 123) (tot := 102) (List.mem_flatten.2 ⟨_, .tail _ (.tail _ (.head _)), List.mem_singleton.2 rfl⟩))) ?_
  refine QK.dp rfl ?_
  rw [hag]
  refine QK.det trivial (.ixN rfl rfl rfl hgl) ?_
  refine QK.det trivial (.ldA rfl (vtxL_len _) (vtx_at hgr hgl)) ?_
  refine QK.call trivial rfl (rRoot_fc) ?_
  refine QK.det trivial (.to (v' := .bool false) (Yields.eqD (neg := false) rfl rfl (eqL_vtx _ _)) (congrArg Value.bool (by simpa using hgR.1))) ?_
  refine QK.dp rfl ?_
  refine QK.det rfl (.pure rfl) ?_
  refine QK.det rfl (.ld rfl (part_gone (p := p) (E := 123) (tot := 102) (List.mem_flatten.2 ⟨_, .tail _ (.tail _ (.head _)), List.mem_singleton.2 rfl⟩))) ?_
  refine QK.det rfl (.pure rfl) ?_
  rw [hag]
  refine QK.det rfl (.ixN rfl rfl rfl hgl) ?_
  refine QK.det rfl (.ldA rfl (vtxL_len _) (vtx_at hgr hgl)) ?_
  refine QK.call rfl rfl (rEnd_fc) ?_
  refine QK.det rfl (.to (v' := .bool false) (Yields.eqD (neg := false) rfl rfl (eqL_vtx _ _)) (congrArg Value.bool (by simpa using hgR.2))) ?_
  refine QK.dp rfl ?_
  refine QK.dp rfl ?_
  refine QK.det rfl (.pure rfl) ?_
  refine QK.det rfl (.ld rfl (part_gone (p := p) (E := 123) (tot := 102) (List.mem_flatten.2 ⟨_, .tail _ (.tail _ (.head _)), List.mem_singleton.2 rfl⟩))) ?_
  refine QK.det rfl (.pure rfl) ?_
  rw [hag]
  refine QK.det rfl (.to (v' := .slice (some ag) k p.gc) (Yields.slS (A := some ag) (len := p.gone.length) (cap := p.gc) (l := 0) (h := k) rfl rfl rfl (.inr ⟨rfl, rfl⟩) (.inl rfl) (by omega) (by omega)) (cutV0 _ _ _ _)) ?_
  refine QK.det rfl (.pure rfl) ?_
  refine QK.det rfl (.ld rfl (part_gone (p := p) (E := 123) (tot := 102) (List.mem_flatten.2 ⟨_, .tail _ (.tail _ (.head _)), List.mem_singleton.2 rfl⟩))) ?_
  refine QK.det rfl (.pure rfl) ?_
  rw [hag]
  refine QK.det rfl (.ixN rfl rfl rfl hgl) ?_
  refine QK.det rfl (.ldA rfl (vtxL_len _) (vtx_at hgr hgl)) ?_
  refine QK.nil ?_
  change OL _ _ _ [_, _] _ _ _
  refine OL.call rfl rfl (by have := rHasF_fc (w0 := w0) (S := sgo :: sga :: [(r3, .cells (partC p) 123 102)] :: S) (A := some ag) (c := p.gc) (l := p.gone.take k) (v := p.gone[k]) (hgr.pre (by rw [<- List.take_append_drop k p.gone, vtxs_app, List.take_append_drop]; exact List.prefix_append _ _)) (by rw [List.length_take]; omega) (nodup_take hnew.gone0 hgl); rw [List.length_take, Nat.min_eq_left (by omega)] at this; exact this) ?_
  rintro _ Sx ⟨rfl, hSx⟩
  rw [hSx]
  clear hSx
  refine OL.dp rfl ?_
  refine OL.nil ?_
  refine hK13 _ _ ?_
  refine PW.k5 0 3 6 10 105 rfl rfl rfl rfl rfl ?_
  refine PW.ite (b := false) rfl ?_
  rw [if_neg Bool.false_ne_true]
  refine PW.skip ?_
  refine hK12 _ _ ?_
  refine PW.k4 0 3 6 10 rfl rfl rfl rfl ?_
  refine PW.ops ?_
  refine OL.dp rfl ?_
  refine OL.det trivial (.add64 rfl rfl (by omega) (by omega)) ?_
  refine OL.dp rfl ?_
  refine OL.nil ?_
  repeat rw [inBlk_n]
  try rw [thenK_n]
  refine LoopEnd.mk (T'' := [(0, _), (3, _), (6, _), (10, _)]) ⟨rfl, rfl, rfl, rfl, trivial⟩ ?_
  exact ⟨p.gone.length - (k + 1), by omega, k + 1, ⟨by omega, rfl⟩, rfl, rfl⟩
 try simp only [cvS] at c75
 refine PW.exit ?_
 refine hK10 _ _ ?_
 refine PW.k3 0 3 6 rfl rfl rfl ?_
 refine PW.seqS [(0, .slice A l.length c), (3, .pointer (some ⟨r3, 0, none⟩)), (6, .slice Aa (allV (pls l)).length ca)] (sgo :: sga :: [(r3, .cells (partC p) 123 102)] :: S) ?_ fun K14 hK14 => ?_
 ·skip
  refine PW.seq fun K15 hK15 => ?_
  refine PW.seqOps ?_
  refine OL.dp rfl ?_
  refine OL.nil ?_
  refine PW.k4 0 3 6 11 rfl rfl rfl rfl ?_
  refine PW.block ?_
  refine PW.k4 0 3 6 11 rfl rfl rfl rfl ?_
  refine PW.loopK (I := fun mm T S' => ∃ k : Nat, (k <= p.gone.length /\ mm = p.gone.length - k) /\ T = ([(0, .slice A l.length c), (3, .pointer (some ⟨r3, 0, none⟩)), (6, .slice Aa (allV (pls l)).length ca), (11, .int .i64 k)] : TT) /\ S' = sgo :: sga :: [(r3, .cells (partC p) 123 102)] :: S) (m := p.gone.length) ⟨0, ⟨by omega, by omega⟩, rfl, rfl⟩ ?_
  rintro mm _ _ ⟨k, ⟨hk, hmm⟩, rfl, rfl⟩
  refine PW.seq fun K16 hK16 => ?_
  refine PW.seqOps ?_
  refine OL.dp rfl ?_
  refine OL.dp rfl ?_
  refine OL.det trivial (.ld rfl (part_gone (p := p) (E := 123) (tot := 102) (List.mem_flatten.2 ⟨_, .tail _ (.tail _ (.head _)), List.mem_singleton.2 rfl⟩))) ?_
  refine OL.dp rfl ?_
  refine OL.dp rfl ?_
  refine OL.nil ?_
  refine PW.k5 0 3 6 11 136 rfl rfl rfl rfl rfl ?_
  refine PW.cond rfl (fun c136 => ?_) (fun c136 => ?_)
  ·try simp only [cvS] at c136
   have hgl : k < p.gone.length := by omega
   obtain ⟨ag, hag⟩ := vtxs_some hp.rdG (by omega)
   have hgr : Rd w0 (sgo :: sga :: [(r3, .cells (partC p) 123 102)] :: S) (some ag) (vtxs p.gone) := by rw [<- hag]; exact hp.rdG.cons.cons.cons
   have hgc : p.gone.length <= p.gc := hp.rng.gcap
   refine PW.skip ?_
   refine hK16 _ _ ?_
   refine PW.k4 0 3 6 11 rfl rfl rfl rfl ?_
   refine PW.seq fun K17 hK17 => ?_
   refine PW.block ?_
   refine PW.seqOps ?_
   refine OL.dp rfl ?_
   refine OL.dp rfl ?_
   refine OL.det trivial (.ld rfl (part_gone (p := p) (E := 123) (tot := 102) (List.mem_flatten.2 ⟨_, .tail _ (.tail _ (.head _)), List.mem_singleton.2 rfl⟩))) ?_
   refine OL.dp rfl ?_
   rw [hag]
   refine OL.det trivial (.ixN rfl rfl rfl hgl) ?_
   refine OL.det trivial (.ldA rfl (vtxL_len _) (vtx_at hgr hgl)) ?_
   refine OL.call trivial rfl (rHasT_fc ((hra _).cons) (by omega) (hnew.gone _ (List.getElem_mem hgl))) ?_
   rintro _ Sx ⟨rfl, hSx⟩
   rw [hSx]
   clear hSx
   refine OL.dp rfl ?_
   refine OL.nil ?_
   refine PW.k5 0 3 6 11 146 rfl rfl rfl rfl rfl ?_
   refine PW.ite (b := false) rfl ?_
   rw [if_neg Bool.false_ne_true]
   refine PW.skip ?_
   refine hK17 _ _ ?_
   refine PW.k4 0 3 6 11 rfl rfl rfl rfl ?_
   refine PW.ops ?_
   refine OL.dp rfl ?_
   refine OL.det trivial (.add64 rfl rfl (by omega) (by omega)) ?_
   refine OL.dp rfl ?_
   refine OL.nil ?_
   repeat rw [inBlk_n]
   try rw [thenK_n]
   refine LoopEnd.mk (T'' := [(0, _), (3, _), (6, _), (11, _)]) ⟨rfl, rfl, rfl, rfl, trivial⟩ ?_
   exact ⟨p.gone.length - (k + 1), by omega, k + 1, ⟨by omega, rfl⟩, rfl, rfl⟩
  try simp only [cvS] at c136
  refine PW.exit ?_
  refine hK15 _ _ ?_
  refine PW.k2 0 3 rfl rfl ?_
  refine PW.seq fun K18 hK18 => ?_
  refine PW.seqOps ?_
  refine OL.dp rfl ?_
  refine OL.dp rfl ?_
  refine OL.det trivial (.ldA rfl (vtxL_len _) (part_up (p := p) (E := 123) (tot := 102) (List.mem_flatten.2 ⟨_, .tail _ (.tail _ (.head _)), List.mem_singleton.2 rfl⟩))) ?_
  refine OL.dp rfl ?_
  refine OL.det trivial (.ldA rfl (vtxL_len _) (part_down (p := p) (E := 123) (tot := 102) (List.mem_flatten.2 ⟨_, .tail _ (.tail _ (.head _)), List.mem_singleton.2 rfl⟩))) ?_
  refine OL.call trivial rfl (rBef_fc h.cons.cons.cons hline hnew.bef) ?_
  rintro _ Sx ⟨rfl, hSx⟩
  rw [hSx]
  clear hSx
  refine OL.dp rfl ?_
  refine OL.nil ?_
  refine PW.k3 0 3 154 rfl rfl rfl ?_
  refine PW.ite (b := false) rfl ?_
  rw [if_neg Bool.false_ne_true]
  refine PW.skip ?_
  refine hK18 _ _ ?_
  refine PW.k2 0 3 rfl rfl ?_
  refine PW.seqOps ?_
  refine OL.dp rfl ?_
  refine OL.nil ?_
  refine PW.k3 0 3 12 rfl rfl rfl ?_
  refine PW.seqOps ?_
  refine OL.subS (S' := [] :: sgo :: sga :: [(r3, .cells (partC p) 123 102)] :: S) (Sub.nilL (Sub.refl _)) ?_
  refine OL.dp rfl ?_
  refine OL.dp rfl ?_
  refine OL.cons trivial (appP2 (k := 0) (m := 0) (xs := []) (l := l) rfl rfl (SlV.nil 123 102) rfl rfl hrd.cons.cons.cons.cons hcA (by omega)) ?_
  rintro v158 _ ⟨sg158, rfl, hs158⟩
  rw [Nat.zero_add, List.nil_append] at hs158
  refine OL.dp rfl ?_
  refine OL.nil ?_
  refine PW.k2 3 12 rfl rfl ?_
  refine PW.seqOps ?_
  refine OL.dp rfl ?_
  refine OL.det trivial (.ldA rfl (partC_len _) (all_at (List.mem_flatten.2 ⟨_, .tail _ (.tail _ (.tail _ (.head _))), List.mem_singleton.2 rfl⟩))) ?_
  apply OL.app1 (k := 0)
  ·rfl
  ·rfl
  ·exact (List.size_toArray).trans (partC_len _)
  ·rfl
  ·rfl
  ·rfl
  ·exact hs158
  ·exact partC_one _
  ·omega
  ·unfold maxLen; omega
  intro v162 sg162 hs162
  refine OL.dp rfl ?_
  refine OL.dp rfl ?_
  refine OL.nil ?_
  refine PW.k2 4 5 rfl rfl ?_
  refine PW.ret ?_
  change (Exit.ret = Exit.normal ∨ Exit.ret = Exit.ret) /\ ∃ v, resV _ _ = some v /\ _
  exact ⟨.inr rfl, _, rfl, _, Sub.cons (Sub.drop (Sub.drop (Sub.drop (Sub.refl _)))), _, sg162, rfl, rfl, by rw [List.length_append, partS_app]; show SlV 123 102 v162 (l.length + 1) (partS l ++ (partC p ++ [])) sg162; rw [List.append_nil]; exact hs162⟩
 skip
 refine PW.seq fun K19 hK19 => ?_
 refine PW.quiet2QK Try.mixed ?_
 refine QK.dp rfl ?_
 refine QK.det trivial (.ldA rfl (vtxL_len _) (part_up (p := p) (E := 123) (tot := 102) (List.mem_flatten.2 ⟨_, .tail _ (.tail _ (.head _)), List.mem_singleton.2 rfl⟩))) ?_
 refine QK.call trivial rfl (rRoot_fc) ?_
 refine QK.det trivial (.eqD (neg := true) rfl rfl (eqL_vtx _ _)) ?_
 refine QK.bool trivial (Yields.pure rfl) (fun g111 => ?_) (fun g111 => ?_)
 ·try simp only [cvS] at g111
  refine QK.det rfl (.pure rfl) ?_
  refine QK.det rfl (.pure rfl) ?_
  refine QK.det rfl (.ldA rfl (vtxL_len _) (part_up (p := p) (E := 123) (tot := 102) (List.mem_flatten.2 ⟨_, .tail _ (.tail _ (.head _)), List.mem_singleton.2 rfl⟩))) ?_
  refine QK.call rfl rfl (rHasT_fc ((hra _).cons) (by omega) (hup g111)) ?_
  refine QK.det rfl (.pure rfl) ?_
  refine QK.dp rfl ?_
  refine QK.dp rfl ?_
  refine QK.det rfl (.pure rfl) ?_
  refine QK.det rfl (.ldA rfl (vtxL_len _) (part_down (p := p) (E := 123) (tot := 102) (List.mem_flatten.2 ⟨_, .tail _ (.tail _ (.head _)), List.mem_singleton.2 rfl⟩))) ?_
  refine QK.call rfl rfl (rEnd_fc) ?_
  refine QK.det rfl (.eqD (neg := true) rfl rfl (eqL_vtx _ _)) ?_
  refine QK.bool rfl (Yields.pure rfl) (fun g123 => ?_) (fun g123 => ?_)
  ·try simp only [cvS] at g123
   refine QK.det rfl (.pure rfl) ?_
   refine QK.det rfl (.pure rfl) ?_
   refine QK.det rfl (.ldA rfl (vtxL_len _) (part_down (p := p) (E := 123) (tot := 102) (List.mem_flatten.2 ⟨_, .tail _ (.tail _ (.head _)), List.mem_singleton.2 rfl⟩))) ?_
   refine QK.nil ?_
   change OL _ _ _ [_, _, _, _] _ _ _
   refine OL.call rfl rfl (rHasT_fc ((hra _).cons) (by omega) (hdn g123)) ?_
   rintro _ Sx ⟨rfl, hSx⟩
   rw [hSx]
   clear hSx
   refine OL.det rfl (.pure rfl) ?_
   refine OL.det rfl (.pure rfl) ?_
   refine OL.dp rfl ?_
   refine OL.nil ?_
   refine hK19 _ _ ?_
   refine PW.k4 0 3 6 130 rfl rfl rfl rfl ?_
   refine PW.ite (b := false) rfl ?_
   rw [if_neg Bool.false_ne_true]
   refine PW.skip ?_
   exact hK14 _ _ ⟨rfl, rfl, rfl, trivial⟩ rfl
  try simp only [cvS] at g123
  refine QK.off rfl rfl ?_
  refine QK.off rfl rfl ?_
  refine QK.off rfl rfl ?_
  refine QK.nil ?_
  change OL _ _ _ [_, _, _, _] _ _ _
  refine OL.off rfl rfl ?_
  refine OL.off rfl rfl ?_
  refine OL.det rfl (.pure rfl) ?_
  refine OL.dp rfl ?_
  refine OL.nil ?_
  refine hK19 _ _ ?_
  refine PW.k4 0 3 6 130 rfl rfl rfl rfl ?_
  refine PW.ite (b := false) rfl ?_
  rw [if_neg Bool.false_ne_true]
  refine PW.skip ?_
  exact hK14 _ _ ⟨rfl, rfl, rfl, trivial⟩ rfl
 try simp only [cvS] at g111
 refine QK.off rfl rfl ?_
 refine QK.off rfl rfl ?_
 refine QK.off rfl rfl ?_
 refine QK.off rfl rfl ?_
 refine QK.off rfl rfl ?_
 refine QK.dp rfl ?_
 refine QK.dp rfl ?_
 refine QK.det rfl (.pure rfl) ?_
 refine QK.det rfl (.ldA rfl (vtxL_len _) (part_down (p := p) (E := 123) (tot := 102) (List.mem_flatten.2 ⟨_, .tail _ (.tail _ (.head _)), List.mem_singleton.2 rfl⟩))) ?_
 refine QK.call rfl rfl (rEnd_fc) ?_
 refine QK.det rfl (.eqD (neg := true) rfl rfl (eqL_vtx _ _)) ?_
 refine QK.bool rfl (Yields.pure rfl) (fun g123 => ?_) (fun g123 => ?_)
 ·try simp only [cvS] at g123
  refine QK.det rfl (.pure rfl) ?_
  refine QK.det rfl (.pure rfl) ?_
  refine QK.det rfl (.ldA rfl (vtxL_len _) (part_down (p := p) (E := 123) (tot := 102) (List.mem_flatten.2 ⟨_, .tail _ (.tail _ (.head _)), List.mem_singleton.2 rfl⟩))) ?_
  refine QK.nil ?_
  change OL _ _ _ [_, _, _, _] _ _ _
  refine OL.call rfl rfl (rHasT_fc ((hra _).cons) (by omega) (hdn g123)) ?_
  rintro _ Sx ⟨rfl, hSx⟩
  rw [hSx]
  clear hSx
  refine OL.det rfl (.pure rfl) ?_
  refine OL.det rfl (.pure rfl) ?_
  refine OL.dp rfl ?_
  refine OL.nil ?_
  refine hK19 _ _ ?_
  refine PW.k4 0 3 6 130 rfl rfl rfl rfl ?_
  refine PW.ite (b := false) rfl ?_
  rw [if_neg Bool.false_ne_true]
  refine PW.skip ?_
  exact hK14 _ _ ⟨rfl, rfl, rfl, trivial⟩ rfl
 try simp only [cvS] at g123
 refine QK.off rfl rfl ?_
 refine QK.off rfl rfl ?_
 refine QK.off rfl rfl ?_
 refine QK.nil ?_
 change OL _ _ _ [_, _, _, _] _ _ _
 refine OL.off rfl rfl ?_
 refine OL.off rfl rfl ?_
 refine OL.det rfl (.pure rfl) ?_
 refine OL.dp rfl ?_
 refine OL.nil ?_
 refine hK19 _ _ ?_
 refine PW.k4 0 3 6 130 rfl rfl rfl rfl ?_
 refine PW.ite (b := false) rfl ?_
 rw [if_neg Bool.false_ne_true]
 refine PW.skip ?_
 exact hK14 _ _ ⟨rfl, rfl, rfl, trivial⟩ rfl
end Go.Proofs.Gr

namespace Go.Proofs.Gr
open Go.SL Go.RowKit Go.Proofs Go.GP
section
variable (bf : Vtx -> Vtx -> Bool)
def ordF (a b : Vtx) : Bool := bf a b || bf b a
def midsF (l : List LineP) (k : Nat) : List Int := ((List.range k).filter fun i => decide (0 < i) && !ordF bf l[i - 1]!.v l[i]!.v).map Int.ofNat
def blockF (l : List LineP) : ItemP := ⟨l, true, midsF bf l l.length⟩
def solidF (l : List LineP) (x : LineP) : Bool := l.all fun y => decide (x.v = y.v) || ordF bf x.v y.v
def shutF (open_ : List LineP) : List ItemP := if open_ = [] then [] else [blockF bf open_]
def stepF (l : List LineP) (st : List ItemP × List LineP) (x : LineP) : List ItemP × List LineP :=
 if solidF bf l x then (st.1 ++ shutF bf st.2 ++ [⟨[x], false, []⟩], []) else (st.1, st.2 ++ [x])
def foldF (l : List LineP) (k : Nat) : List ItemP × List LineP := (l.take k).foldl (stepF bf l) ([], [])
def itemsF (l : List LineP) : List ItemP := (foldF bf l l.length).1 ++ shutF bf (foldF bf l l.length).2
end
theorem itemsF_eq (ps : List PartP) (l : List LineP) : itemsL ps l = itemsF (befP ps) l := by
 have h1 : stepI ps l = stepF (befP ps) l := by
  funext st x
  unfold stepI stepF shut shutF blockP blockF midsK midsF solidP solidF ordP ordF
  rfl
 unfold itemsL itemsF foldI foldF
 rw [h1]
 unfold shut shutF blockP blockF midsK midsF ordP ordF
 rfl
theorem befP_eq {ps : List PartP} (hc : ((allV ps).all fun a => closedB (allE ps) a) = true) : befP ps = befC ps := by
 funext a b
 rw [Bool.eq_iff_iff, befP_iff]
 by_cases ha : a ∈ allV ps
 ·exact (befC_iff (List.all_eq_true.1 hc a ha)).symm
 by_cases hr : a = rootV
 ·unfold Bef befC
  simp only [Bool.and_eq_true, hasC_iff, Bool.or_eq_true, decide_eq_true_eq, Bool.not_eq_true', decide_eq_false_iff_not, and_assoc, ne_eq, hr, true_or]
 have h1 : ¬ Bef ps a b := by
  rintro ⟨h, _, _, h2, _⟩
  rcases h with h | h | h
  ·exact hr h
  ·exact h2 h
  exact ha h
 have h2 : befC ps a b = false := by
  unfold befC hasC
  by_cases he : a = endV
  ·simp [he]
  simp [ha, hr, he]
 simp [h1, h2]
theorem items_comp {ps : List PartP} (hc : ((allV ps).all fun a => closedB (allE ps) a) = true) : itemsP ps = itemsF (befC ps) (live (linesP ps)) := by
 unfold itemsP
 rw [itemsF_eq, befP_eq hc]
end Go.Proofs.Gr

namespace Go.Proofs.Gr
open Go.SL Go.RowKit Go.Proofs Go.GP
set_option maxHeartbeats 1000000
def mkP (b : UInt8) (up down : Vtx) (A : Option Addr) (c : Nat) (l : List ByteArray) : PartM := ⟨hb1 b, 0, 0, up, down, A, c, l, none, 0, []⟩
def zP : List Value := List.replicate 32 (.int .u8 0) ++ [.int .i64 0, .int .i64 0] ++ vtxL v0 ++ vtxL v0 ++ [.slice none 0 0, .slice none 0 0]
theorem setMid {a b c d e : List Value} {n : Nat} (h : c = a ++ (b ++ d)) (ha : a.length = n) (hb : b.length = e.length) : setAt c n e = a ++ (e ++ d) := by
 subst h
 rw [setAt_eq _ _ _ (by simp only [List.length_append]; omega), List.take_append_of_le_length (by omega), List.take_of_length_le (by omega), List.drop_append, List.drop_eq_nil_of_le (by omega), List.drop_append, List.drop_eq_nil_of_le (by omega), show n + e.length - a.length - b.length = 0 by omega]
 simp
theorem fill_part {T : TT} {b : UInt8} {up down : Vtx} {A : Option Addr} {c : Nat} {l : List ByteArray} {x y z w : PV} (h1 : x.val T = some (.agg (bytesC (hb1 b).1).toArray)) (h2 : y.val T = some (vtxV up)) (h3 : z.val T = some (vtxV down)) (h4 : w.val T = some (.slice A l.length c)) :
  fillP T zP [(0, 32, x), (34, 33, y), (67, 33, z), (100, 1, w)] = some (partC (mkP b up down A c l)) := by
 have hb := hb_len (hb1 b)
 have hu := vtxL_len up
 have hd := vtxL_len down
 have h0 := vtxL_len v0
 obtain ⟨N, hN⟩ : ∃ N : List Value, N = [.int .i64 0, .int .i64 0] := ⟨_, rfl⟩
 obtain ⟨Z, hZ⟩ : ∃ Z : List Value, Z = [.slice none 0 0, .slice none 0 0] := ⟨_, rfl⟩
 have e0 : zP = [] ++ (List.replicate 32 (.int .u8 0) ++ (N ++ (vtxL v0 ++ (vtxL v0 ++ Z)))) := by rw [hN, hZ]; unfold zP; simp only [List.append_assoc, List.nil_append]
 have hr : (List.replicate 32 (Value.int .u8 0)).length = (bytesC (hb1 b).1).length := by rw [hb, List.length_replicate]
 have s1 : setAt zP 0 (bytesC (hb1 b).1) = bytesC (hb1 b).1 ++ (N ++ (vtxL v0 ++ (vtxL v0 ++ Z))) := by
  have := setMid (n := 0) e0 rfl hr
  simpa only [List.nil_append] using this
 have hNl : N.length = 2 := by rw [hN]; rfl
 have s2 : setAt (bytesC (hb1 b).1 ++ (N ++ (vtxL v0 ++ (vtxL v0 ++ Z)))) 34 (vtxL up) = bytesC (hb1 b).1 ++ (N ++ (vtxL up ++ (vtxL v0 ++ Z))) := by
  have := setMid (a := bytesC (hb1 b).1 ++ N) (b := vtxL v0) (c := bytesC (hb1 b).1 ++ (N ++ (vtxL v0 ++ (vtxL v0 ++ Z)))) (d := vtxL v0 ++ Z) (e := vtxL up) (n := 34) (by simp only [List.append_assoc]) (by rw [List.length_append, hb, hNl]) (by omega)
  simpa only [List.append_assoc] using this
 have s3 : setAt (bytesC (hb1 b).1 ++ (N ++ (vtxL up ++ (vtxL v0 ++ Z)))) 67 (vtxL down) = bytesC (hb1 b).1 ++ (N ++ (vtxL up ++ (vtxL down ++ Z))) := by
  have := setMid (a := bytesC (hb1 b).1 ++ N ++ vtxL up) (b := vtxL v0) (c := bytesC (hb1 b).1 ++ (N ++ (vtxL up ++ (vtxL v0 ++ Z)))) (d := Z) (e := vtxL down) (n := 67) (by simp only [List.append_assoc]) (by simp only [List.length_append]; omega) (by omega)
  simpa only [List.append_assoc] using this
 have s4 : setAt (bytesC (hb1 b).1 ++ (N ++ (vtxL up ++ (vtxL down ++ Z)))) 100 [.slice A l.length c] = bytesC (hb1 b).1 ++ (N ++ (vtxL up ++ (vtxL down ++ ([.slice A l.length c] ++ [.slice none 0 0])))) := by
  have := setMid (a := bytesC (hb1 b).1 ++ N ++ vtxL up ++ vtxL down) (b := [Value.slice none 0 0]) (c := bytesC (hb1 b).1 ++ (N ++ (vtxL up ++ (vtxL down ++ Z)))) (d := [.slice none 0 0]) (e := [.slice A l.length c]) (n := 100) (by rw [hZ]; simp only [List.append_assoc]; rfl) (by simp only [List.length_append]; omega) rfl
  simpa only [List.append_assoc] using this
 have hzl : zP.length = 102 := by rw [e0]; simp only [List.length_append, List.length_replicate, List.length_nil, hNl, h0, hZ]; rfl
 have l1 : (bytesC (hb1 b).1 ++ (N ++ (vtxL v0 ++ (vtxL v0 ++ Z)))).length = 102 := by simp only [List.length_append, hb, hNl, h0, hZ]; rfl
 have l2 : (bytesC (hb1 b).1 ++ (N ++ (vtxL up ++ (vtxL v0 ++ Z)))).length = 102 := by simp only [List.length_append, hb, hNl, h0, hu, hZ]; rfl
 have l3 : (bytesC (hb1 b).1 ++ (N ++ (vtxL up ++ (vtxL down ++ Z)))).length = 102 := by simp only [List.length_append, hb, hNl, hd, hu, hZ]; rfl
 simp only [fillP, h1, h2, h3, h4]
 rw [if_pos ⟨(List.size_toArray).trans hb, by omega⟩]
 rw [show (Value.agg (bytesC (hb1 b).1).toArray).cells.toList = bytesC (hb1 b).1 from rfl, s1, if_pos ⟨(List.size_toArray).trans hu, by omega⟩]
 rw [show (vtxV up).cells.toList = vtxL up from rfl, s2, if_pos ⟨(List.size_toArray).trans hd, by omega⟩]
 rw [show (vtxV down).cells.toList = vtxL down from rfl, s3, if_pos ⟨rfl, by omega⟩]
 rw [show (Value.slice A l.length c).cells.toList = [.slice A l.length c] from rfl, s4]
 rw [partC_split, hN]
 rfl
theorem part_fc {w0 : World} {S : SS} {b : UInt8} {up down : Vtx} {A : Option Addr} {c : Nat} {l : List ByteArray} : FC Try.prog w0 42 [.int .u8 (b.toNat : Int), vtxV up, vtxV down, .slice A l.length c] S (fun v S' => v = partV (mkP b up down A c l) /\ S' = S) := by
 refine FC.ofC Try.known42 (by simp) ?_
 unfold Try.pc42
 simp only [argT]
 refine PW.seqOps ?_
 refine OL.cons trivial (OW.bx rfl) ?_
 rintro _ _ ⟨r5, rfl, rfl⟩
 rw [vtx_box, vtxL_len]
 refine OL.cons trivial (OW.bx rfl) ?_
 rintro _ _ ⟨r6, rfl, rfl⟩
 rw [vtx_box, vtxL_len]
 refine OL.cons trivial OW.al ?_
 rintro _ _ ⟨r8, rfl, rfl⟩
 refine OL.nil ?_
 refine PW.k5 0 3 5 6 8 rfl rfl rfl rfl rfl ?_
 refine PW.seqOps ?_
 refine OL.dp rfl ?_
 refine OL.det trivial (.bldA (cs := bytesC (hb1 b).1) rfl) ?_
 refine OL.det trivial (.ldA rfl (vtxL_len _) (all_at (List.mem_flatten.2 ⟨_, .tail _ (.tail _ (.head _)), List.mem_singleton.2 rfl⟩))) ?_
 refine OL.det trivial (.ldA rfl (vtxL_len _) (all_at (List.mem_flatten.2 ⟨_, .tail _ (.head _), List.mem_singleton.2 rfl⟩))) ?_
 refine OL.dp rfl ?_
 refine OL.det trivial (.build (fill_part rfl rfl rfl rfl)) ?_
 refine OL.cons trivial (part_stk (k := 0) (u := mkP b up down A c l) rfl rfl rfl rfl) ?_
 rintro _ _ rfl
 refine OL.nil ?_
 refine PW.k1 8 rfl ?_
 refine PW.ret ?_
 change (Exit.ret = Exit.normal ∨ Exit.ret = Exit.ret) /\ ∃ a v, Go.SL.look _ _ = some (.pointer (some a)) /\ ReadsAs _ _ _ _ _ /\ _
 exact ⟨.inr rfl, _, _, rfl, part_read (r := r8) (u := mkP b up down A c l) (E := 36) (tot := 102) (List.mem_flatten.2 ⟨_, .head _, List.mem_singleton.2 rfl⟩), _, Sub.drop (Sub.drop (Sub.drop (Sub.refl _))), rfl, rfl⟩
theorem mkP_rd {w0 : World} {S : SS} {b : UInt8} {up down : Vtx} {r n : Nat} {l : List ByteArray} (h : [(r, AO.cells (strs l) 9 n)] ∈ S) (hu : okV up) (hd : okV down) (hl : l.length <= 100) : PartRd w0 S (mkP b up down (some ⟨r, 0, none⟩) l.length l) :=
 ⟨Rd.own (E := 9) (tot := n) (List.mem_flatten.2 ⟨_, h, List.mem_singleton.2 rfl⟩), Rd.nil, ⟨(show (-9223372036854775808 : Int) <= 0 /\ (0 : Int) <= 9223372036854775807 by decide), (show (-9223372036854775808 : Int) <= 0 /\ (0 : Int) <= 4611686018427387904 by decide), Nat.le_trans hl (by decide), Nat.zero_le _, Nat.le_refl _, fun _ => rfl, hu, hd, fun v hv => by cases hv⟩, hl, Nat.zero_le _⟩
theorem vtx_stk {w0 : World} {S : SS} {P : Program} {n r k : Nat} {T : TT} {x v : PV} {u : Vtx} {z : List Value} (hk : S[k]? = some [(r, .cells z 32 33)]) (hx : x.val T = some (.pointer (some ⟨r, 0, none⟩))) (hv : v.val T = some (vtxV u)) (hz : z.length = 33) :
  OW P w0 n (.st 33 x v) T S (fun _ S' => S' = S.set k (vseg r u)) := by
 refine (OW.st (k := k) (c := z) (u := vtxV u) hx hv hk ((List.size_toArray).trans (vtxL_len u)) (by omega) (vtxL_one u)).mono ?_
 rintro _ _ rfl
 rw [vtx_box, setAll (by rw [vtxL_len, hz])]
def va : Vtx := (hb1 1, 0)
def vb : Vtx := (hb1 1, 1)
theorem okVa : okV va := by unfold okV va; decide
theorem okVb : okV vb := by unfold okV vb; decide
def k1 : PartP := (mkP 1 rootV endV none 0 [str1 97, str1 98]).pl
def kx : PartP := (mkP 2 va vb none 0 [str1 120]).pl
def ky : PartP := (mkP 3 va vb none 0 [str1 121]).pl
theorem okRoot : okV rootV := by unfold okV; decide
theorem okEnd : okV endV := by unfold okV; decide
theorem GG.n100 {w0 : World} {X : SS} {m : GrM} {ps : List PartP} (h : GG w0 X m ps) {p : PartP} (hn : newC ps p = true) : addE m.gr p = 0 /\ came ps p = p :: ps := by
 have hnew := newC_new h.sq ⟨_, h.inv⟩ hn
 exact ⟨(addE_zero h.inv h.sq).2 hnew, came_new hnew⟩
theorem addF_fc {w0 : World} {S : SS} {s : Seg} {m : GrM} {ps : List PartP} {p : PartM} (h : GG w0 [] m ps) (hp : PartRd w0 (s :: S) p) (hn : newC ps p.pl = true) (hc : (allV ps).length + ps.length + p.lines.length + 1 <= 1000000) (hlim : m.lim + addL p <= 500000000000) :
  FC Try.prog w0 16 [m.ptr, partV p] (s :: (GS m ++ S)) (fun v S' => ∃ m', v = .int .i64 0 /\ S' = GS m' ++ (s :: S) /\ GG w0 [] m' (p.pl :: ps) /\ m'.lim <= m.lim + addL p /\ m'.r = m.r) := by
 refine (FC.subS gs_a (add2_fc (S := s :: S) h over_nil hp.rng hp.rdL hp.rdG hc hlim)).mono ?_
 rintro _ _ ⟨m1, rfl, rfl, hg1, hl1, hr1, _⟩
 obtain ⟨hz, hcm⟩ := h.n100 hn
 rw [hcm] at hg1
 exact ⟨m1, by rw [hz], rfl, hg1, hl1, hr1⟩
theorem base_fc {w0 : World} {S : SS} : FC Try.prog w0 41 [] S (fun v S' => ∃ m, v = .tuple #[m.ptr, vtxV va, vtxV vb] /\ S' = GS m ++ S /\ GG w0 [] m [k1] /\ m.lim <= 100) := by
 refine FC.ofTCC Try.known41 (by simp) ?_
 unfold Try.pc41
 simp only [argT]
 refine PW.seqOps ?_
 refine OL.dp rfl ?_
 refine OL.cons trivial OW.al ?_
 rintro _ _ ⟨r1, rfl, rfl⟩
 refine OL.cons trivial OW.al ?_
 rintro _ _ ⟨r2, rfl, rfl⟩
 refine OL.nil ?_
 refine PW.k2 1 2 rfl rfl ?_
 refine PW.seqOps ?_
 refine OL.call trivial rfl (new_fc (X := [])) ?_
 rintro _ _ ⟨m0, rfl, rfl, hm0, hg0, hl0⟩
 have hgg : GG w0 [] m0 [] := ⟨hm0, by rw [hg0]; exact GP.Inv.nil, Sq.nil, by simp [allV], by omega⟩
 refine OL.dp rfl ?_
 refine OL.nil ?_
 refine PW.k3 1 2 3 rfl rfl rfl ?_
 refine PW.seqOps ?_
 refine OL.dp rfl ?_
 refine OL.det trivial (.build (cs := vtxL rootV) rfl) ?_
 refine OL.det trivial (.build (cs := vtxL endV) rfl) ?_
 refine OL.cons trivial (OW.bsl (cs := strs [str1 97, str1 98]) rfl) ?_
 rintro _ _ ⟨r8, rfl, rfl⟩
 refine OL.call trivial rfl (part_fc (b := 1) (up := rootV) (down := endV) (l := [str1 97, str1 98])) ?_
 rintro _ Sx ⟨rfl, hSx⟩
 rw [hSx]
 clear hSx
 have hpr : ∀ Z, PartRd w0 ([(r8, .cells (strs [str1 97, str1 98]) 9 2)] :: Z) (mkP 1 rootV endV (some ⟨r8, 0, none⟩) 2 [str1 97, str1 98]) := fun Z => mkP_rd (n := 2) (r := r8) (l := [str1 97, str1 98]) (.head _) okRoot okEnd (show 2 <= 100 by decide)
 refine OL.call trivial rfl (addF_fc hgg (hpr _) (show newC [] k1 = true by decide +kernel) (show 3 <= 1000000 by decide) (by rw [hl0]; exact (show 0 + 5 <= 500000000000 by decide))) ?_
 rintro _ _ ⟨m1, rfl, rfl, hg1, hl1, hr1⟩
 have hl1 : m1.lim <= m0.lim + 5 := hl1
 refine OL.nil ?_
 refine PW.k3 1 2 3 rfl rfl rfl ?_
 refine PW.seqOps ?_
 refine OL.dp rfl ?_
 refine OL.det trivial (.bldA (cs := bytesC (hb1 1).1) rfl) ?_
 refine OL.det trivial (.build (cs := vtxL va) rfl) ?_
 refine OL.det trivial (.bldA (cs := bytesC (hb1 1).1) rfl) ?_
 refine OL.det trivial (.build (cs := vtxL vb) rfl) ?_
 refine OL.dp rfl ?_
 refine OL.cons trivial (vtx_stk (k := 6) (u := va) rfl rfl rfl rfl) ?_
 rintro _ _ rfl
 refine OL.cons trivial (vtx_stk (k := 5) (u := vb) rfl rfl rfl rfl) ?_
 rintro _ _ rfl
 refine OL.nil ?_
 refine PW.k3 0 1 2 rfl rfl rfl ?_
 refine PW.ret ?_
 change (Exit.ret = Exit.normal ∨ Exit.ret = Exit.ret) /\ ∃ x a v b u, Go.SL.look _ _ = some x /\ Go.SL.look _ _ = some (.pointer (some a)) /\ ReadsAs _ _ _ _ _ /\ Go.SL.look _ _ = some (.pointer (some b)) /\ ReadsAs _ _ _ _ _ /\ _
 exact ⟨.inr rfl, _, _, _, _, _, rfl, rfl, vtx_read (r := r1) (v := va) (E := 32) (tot := 33) (List.mem_flatten.2 ⟨_, .tail _ (.tail _ (.tail _ (.tail _ (.tail _ (.tail _ (.head _)))))), List.mem_singleton.2 rfl⟩), rfl, vtx_read (r := r2) (v := vb) (E := 32) (tot := 33) (List.mem_flatten.2 ⟨_, .tail _ (.tail _ (.tail _ (.tail _ (.tail _ (.head _))))), List.mem_singleton.2 rfl⟩), _, Sub.sel [0, 1, 2, 3] 7 (by decide) (GS m1 ++ (_ :: _ :: _ :: S)), m1, by rw [ptr_eq hr1], rfl, hg1, by omega⟩
theorem items_text {its : List ItemM} {ps : List PartP} {T : List ByteArray} (hm : its.map ItemM.pl = itemsP ps) (hc : ((allV ps).all fun a => closedB (allE ps) a) = true) (ht : textI (itemsF (befC ps) (live (linesP ps))) = T) : textI (pli its) = T := by
 unfold pli
 rw [hm, items_comp hc, ht]
theorem items_blocks {its : List ItemM} {ps : List PartP} {B : List Bool} (hm : its.map ItemM.pl = itemsP ps) (hc : ((allV ps).all fun a => closedB (allE ps) a) = true) (ht : (itemsF (befC ps) (live (linesP ps))).map (·.block) = B) : its.map (·.block) = B := by
 have : its.map (·.block) = (its.map ItemM.pl).map (·.block) := by rw [List.map_map]; rfl
 rw [this, hm, items_comp hc, ht]
theorem any_map {its : List ItemM} : its.any (·.block) = (its.map (·.block)).any id := by rw [List.any_map]; rfl
def workT : List ByteArray := [str1 97, beginB, str1 120, middleB, str1 121, closeB, str1 98]
theorem new_kx : newC [k1] kx = true := by decide +kernel
theorem new_ky : newC [kx, k1] ky = true := by decide +kernel
theorem closed3 : ((allV [ky, kx, k1]).all fun a => closedB (allE [ky, kx, k1]) a) = true := by decide +kernel
theorem text3 : textI (itemsF (befC [ky, kx, k1]) (live (linesP [ky, kx, k1]))) = workT := by decide +kernel
theorem blocks3 : (itemsF (befC [ky, kx, k1]) (live (linesP [ky, kx, k1]))).map (·.block) = [false, true, false] := by decide +kernel
theorem works_fc {w0 : World} {S : SS} : FC Try.prog w0 31 [] S (fun v S' => v = .bool true /\ S' = S) := by
 refine FC.ofD Try.known31 (by simp) ?_
 unfold Try.pc31
 simp only [argT]
 refine PW.seqOps ?_
 refine OL.dp rfl ?_
 refine OL.nil ?_
 refine PW.keep (T' := []) trivial ?_
 refine PW.seqOps ?_
 refine OL.call trivial rfl (base_fc) ?_
 rintro _ _ ⟨m, rfl, rfl, hg, hl⟩
 refine OL.dp rfl ?_
 refine OL.dp rfl ?_
 refine OL.dp rfl ?_
 refine OL.dp rfl ?_
 refine OL.cons trivial OW.al ?_
 rintro _ _ ⟨r2, rfl, rfl⟩
 refine OL.cons trivial OW.al ?_
 rintro _ _ ⟨r3, rfl, rfl⟩
 refine OL.dp rfl ?_
 refine OL.cons trivial (vtx_stk (k := 1) (u := va) rfl rfl rfl rfl) ?_
 rintro _ _ rfl
 refine OL.cons trivial (vtx_stk (k := 0) (u := vb) rfl rfl rfl rfl) ?_
 rintro _ _ rfl
 refine OL.subS (S' := GS m ++ (vseg r3 vb :: vseg r2 va :: S)) (Sub.sel [2, 3, 4, 5, 0, 1] 6 (by decide) (vseg r3 vb :: vseg r2 va :: (GS m ++ S))) ?_
 refine OL.nil ?_
 refine PW.k3 1 2 3 rfl rfl rfl ?_
 refine PW.seqOps ?_
 refine OL.dp rfl ?_
 refine OL.det trivial (.ldA rfl (vtxL_len _) (all_at (List.mem_flatten.2 ⟨_, .tail _ (.tail _ (.tail _ (.tail _ (.tail _ (.head _))))), List.mem_singleton.2 rfl⟩))) ?_
 refine OL.det trivial (.ldA rfl (vtxL_len _) (all_at (List.mem_flatten.2 ⟨_, .tail _ (.tail _ (.tail _ (.tail _ (.head _)))), List.mem_singleton.2 rfl⟩))) ?_
 refine OL.cons trivial (OW.bsl (cs := strs [str1 120]) rfl) ?_
 rintro _ _ ⟨r15, rfl, rfl⟩
 refine OL.call trivial rfl (part_fc (b := 2) (up := va) (down := vb) (l := [str1 120])) ?_
 rintro _ Sx ⟨rfl, hSx⟩
 rw [hSx]
 clear hSx
 have hpx : ∀ Z, PartRd w0 ([(r15, .cells (strs [str1 120]) 9 1)] :: Z) (mkP 2 va vb (some ⟨r15, 0, none⟩) 1 [str1 120]) := fun Z => mkP_rd (n := 1) (r := r15) (l := [str1 120]) (.head _) okVa okVb (show 1 <= 100 by decide)
 refine OL.call trivial rfl (addF_fc hg (hpx _) new_kx (show 5 <= 1000000 by decide) (Nat.le_trans (Nat.add_le_add_right hl 4) (by decide))) ?_
 rintro _ _ ⟨m1, rfl, rfl, hg1, hl1, hr1⟩
 have hl1 : m1.lim <= m.lim + 4 := hl1
 change GG w0 [] m1 [kx, k1] at hg1
 refine OL.dp rfl ?_
 refine OL.nil ?_
 refine PW.k4 1 2 3 4 rfl rfl rfl rfl ?_
 refine PW.seqOps ?_
 refine OL.dp rfl ?_
 refine OL.det trivial (.ldA rfl (vtxL_len _) (all_at (List.mem_flatten.2 ⟨_, .tail _ (.tail _ (.tail _ (.tail _ (.tail _ (.tail _ (.head _)))))), List.mem_singleton.2 rfl⟩))) ?_
 refine OL.det trivial (.ldA rfl (vtxL_len _) (all_at (List.mem_flatten.2 ⟨_, .tail _ (.tail _ (.tail _ (.tail _ (.tail _ (.head _))))), List.mem_singleton.2 rfl⟩))) ?_
 refine OL.cons trivial (OW.bsl (cs := strs [str1 121]) rfl) ?_
 rintro _ _ ⟨r21, rfl, rfl⟩
 refine OL.call trivial rfl (part_fc (b := 3) (up := va) (down := vb) (l := [str1 121])) ?_
 rintro _ Sx ⟨rfl, hSx⟩
 rw [hSx]
 clear hSx
 have hpy : ∀ Z, PartRd w0 ([(r21, .cells (strs [str1 121]) 9 1)] :: Z) (mkP 3 va vb (some ⟨r21, 0, none⟩) 1 [str1 121]) := fun Z => mkP_rd (n := 1) (r := r21) (l := [str1 121]) (.head _) okVa okVb (show 1 <= 100 by decide)
 refine OL.call trivial rfl (by rw [<- ptr_eq hr1]; exact addF_fc hg1 (hpy _) new_ky (show 7 <= 1000000 by decide) (Nat.le_trans (Nat.add_le_add_right (Nat.le_trans hl1 (Nat.add_le_add_right hl 4)) 4) (by decide))) ?_
 rintro _ _ ⟨m2, rfl, rfl, hg2, hl2, hr2⟩
 change GG w0 [] m2 [ky, kx, k1] at hg2
 refine OL.dp rfl ?_
 refine OL.nil ?_
 refine PW.k3 1 4 5 rfl rfl rfl ?_
 refine PW.seqOps ?_
 refine OL.dp rfl ?_
 refine OL.call trivial rfl (by rw [<- ptr_eq (hr2.trans hr1)]; exact items_fc hg2 over_nil (by decide +kernel)) ?_
 rintro v25 _ ⟨its, segi, junk, rfl, hmap, hsi, hio, hitn⟩
 have htx := items_text hmap closed3 text3
 have hbl := items_blocks hmap closed3 blocks3
 obtain ⟨Ai, ci, rfl, hni, hci, hri⟩ := slv_rdL (w0 := w0) hsi
 have hlen : its.length = 3 := by have := congrArg List.length hbl; rw [List.length_map] at this; exact this
 obtain ⟨ai, rfl⟩ := itemS_some (hri []) (by omega)
 have hb1 : (its[1]'(by omega)).block = true := by
  have := List.getElem_map (·.block) (l := its) (i := 1) (h := by rw [hbl]; decide)
  rw [<- this]
  simp only [hbl]
  rfl
 have hany : its.any (·.block) = true := by rw [any_map, hbl]; rfl
 refine OL.dp rfl ?_
 refine OL.nil ?_
 refine PW.k3 4 5 6 rfl rfl rfl ?_
 refine PW.seqOps ?_
 refine OL.dp rfl ?_
 refine OL.det trivial (.to (v' := .bool true) (Yields.pure rfl) (by rfl)) ?_
 refine OL.dp rfl ?_
 refine OL.det rfl (.pure rfl) ?_
 refine OL.det rfl (.to (v' := .bool true) (Yields.pure rfl) (by rfl)) ?_
 refine OL.dp rfl ?_
 refine OL.dp rfl ?_
 refine OL.det rfl (.pure rfl) ?_
 refine OL.det rfl (.pure rfl) ?_
 refine OL.det rfl (.to (v' := .bool true) (Yields.pure rfl) (by rw [hlen]; rfl)) ?_
 refine OL.dp rfl ?_
 refine OL.dp rfl ?_
 refine OL.det rfl (.pure rfl) ?_
 refine OL.det rfl (.ixN (j := 1) rfl rfl rfl (by omega)) ?_
 refine OL.det rfl (.pure rfl) ?_
 refine OL.det rfl (.to (v' := .bool true) (Yields.ld rfl (item_at (k := 1) (hri _) (by omega) 1 (.bool (its[1]'(by omega)).block) rfl)) (by rw [hb1])) ?_
 refine OL.dp rfl ?_
 refine OL.dp rfl ?_
 refine OL.det rfl (.pure rfl) ?_
 refine OL.call rfl rfl (conflict_fc (hri _) (by omega)) ?_
 rintro _ Sx ⟨rfl, hSx⟩
 rw [hSx]
 clear hSx
 rw [hany]
 refine OL.dp rfl ?_
 refine OL.dp rfl ?_
 refine OL.det rfl (.pure rfl) ?_
 refine OL.call rfl rfl (textI_fc (hri _) (fun x hx => (hio x hx).rd (by simp)) (by omega)) ?_
 rintro v49 _ ⟨segt, rfl, hst, _⟩
 rw [htx] at hst
 obtain ⟨At, ct, rfl, hnt, hct, hrt⟩ := slv_rdL (w0 := w0) hst
 refine OL.cons rfl (OW.bsl (cs := strs workT) rfl) ?_
 rintro _ _ ⟨r50, rfl, rfl⟩
 refine OL.call rfl rfl (sameS_fc (a := workT) (b := workT) (hrt _).cons (Rd.own (E := 9) (tot := 7) (List.mem_flatten.2 ⟨_, .head _, List.mem_singleton.2 rfl⟩)) (show 7 <= 1000000000000 by decide) (show 7 <= 1000000000000 by decide)) ?_
 rintro _ Sx ⟨rfl, hSx⟩
 rw [hSx]
 clear hSx
 rw [decide_eq_true (rfl : workT = workT)]
 refine OL.dp rfl ?_
 refine OL.dp rfl ?_
 refine OL.nil ?_
 refine PW.k1 0 rfl ?_
 refine PW.ret ?_
 change (Exit.ret = Exit.normal ∨ Exit.ret = Exit.ret) /\ ∃ v, resV _ _ = some v /\ _
 exact ⟨.inr rfl, _, rfl, _, Sub.drop (Sub.drop (Sub.drop (Sub.drop (Sub.drop (Sub.drop (Sub.drop (Sub.drop (Sub.drop (Sub.drop (Sub.drop (Sub.drop (Sub.refl _)))))))))))), rfl, rfl⟩
end Go.Proofs.Gr





namespace Go.Proofs.Gr
open Go.SL Go.RowKit Go.Proofs Go.GP
set_option maxHeartbeats 1000000
theorem str_cell {w0 : World} {S : SS} {a : Addr} {l : List ByteArray} (h : Rd w0 S (some a) (strs l)) {k : Nat} (hk : k < l.length) : Cell w0 S (a.add k) (.string l[k]) := str_at h hk
end Go.Proofs.Gr
