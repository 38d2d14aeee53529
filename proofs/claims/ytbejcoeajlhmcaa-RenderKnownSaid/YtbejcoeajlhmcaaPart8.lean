/- Walks and plain facts for the laws of this seat: what each function answers, for every input. -/
import Derived.Test.YtbejcoeajlhmcaaPart7

set_option linter.unusedVariables false
set_option linter.unusedSimpArgs false
namespace Go.Proofs.Gr
open Go.SL Go.RowKit Go.Proofs Go.GP
set_option maxHeartbeats 1000000
def str2 (a b : UInt8) : ByteArray := ⟨#[a, b]⟩
def kxx : PartP := (mkP 2 va vb none 0 [str2 120 49, str2 120 50]).pl
def pz (r g : Nat) : PartM := ⟨hb1 4, 0, 0, va, vb, some ⟨r, 0, none⟩, 1, [str1 122], some ⟨g, 0, none⟩, 3, [(hb1 2, 0), (hb1 2, 1), (hb1 3, 0)]⟩
def kz : PartP := (pz 0 0).pl
theorem pz_rd {w0 : World} {S : SS} {r g : Nat} (h : [(r, AO.cells (strs [str1 122]) 9 1)] ∈ S) (h2 : [(g, AO.cells (vtxs [(hb1 2, 0), (hb1 2, 1), (hb1 3, 0)]) 32 99)] ∈ S) : PartRd w0 S (pz r g) :=
  rd_of (p := pz r g) (Rd.own (E := 9) (tot := 1) (List.mem_flatten.2 ⟨_, h, List.mem_singleton.2 rfl⟩)) (Rd.own (E := 32) (tot := 99) (List.mem_flatten.2 ⟨_, h2, List.mem_singleton.2 rfl⟩)) (show rngC kz = true by decide +kernel) (Nat.le_refl _) (fun h => by cases h)
theorem new_kxx : newC [k1] kxx = true := by decide +kernel
theorem new_kyx : newC [kxx, k1] ky = true := by decide +kernel
theorem new_kz : newC [ky, kxx, k1] kz = true := by decide +kernel
theorem closedA : ((allV [kx, k1]).all fun a => closedB (allE [kx, k1]) a) = true := by decide +kernel
theorem closedB' : ((allV [ky, kxx, k1]).all fun a => closedB (allE [ky, kxx, k1]) a) = true := by decide +kernel
theorem closedC : ((allV [kz, ky, kxx, k1]).all fun a => closedB (allE [kz, ky, kxx, k1]) a) = true := by decide +kernel
def oneL : List ByteArray := [str1 97, str1 120, str1 98]
def twoL : List ByteArray := [str1 97, beginB, str2 120 49, str2 120 50, middleB, str1 121, closeB, str1 98]
def threeL : List ByteArray := [str1 97, str1 122, str1 98]
theorem textA : textI (itemsF (befC [kx, k1]) (live (linesP [kx, k1]))) = oneL := by decide +kernel
theorem textB : textI (itemsF (befC [ky, kxx, k1]) (live (linesP [ky, kxx, k1]))) = twoL := by decide +kernel
theorem textC : textI (itemsF (befC [kz, ky, kxx, k1]) (live (linesP [kz, ky, kxx, k1]))) = threeL := by decide +kernel
theorem items_none : itemsP [] = [] := by
  unfold itemsP itemsL foldI shut
  have : live (linesP []) = [] := rfl
  rw [this]
  rfl
theorem gs_a2 {a : GrM} {s t : Seg} {S : SS} : Sub (GS a ++ (s :: t :: S)) (s :: t :: (GS a ++ S)) := Sub.sel [2, 3, 4, 5, 0, 1] 6 (by decide) (s :: t :: (GS a ++ S))
theorem addF2_fc {w0 : World} {S : SS} {s t : Seg} {m : GrM} {ps : List PartP} {p : PartM} (h : GG w0 [] m ps) (hp : PartRd w0 (s :: t :: S) p) (hn : newC ps p.pl = true) (hc : (allV ps).length + ps.length + p.lines.length + 1 ≤ 1000000) (hlim : m.lim + addL p ≤ 500000000000) :
    FC Try.prog w0 16 [m.ptr, partV p] (s :: t :: (GS m ++ S)) (fun v S' => ∃ m', v = .int .i64 0 ∧ S' = GS m' ++ (s :: t :: S) ∧ GG w0 [] m' (p.pl :: ps) ∧ m'.lim ≤ m.lim + addL p ∧ m'.r = m.r) := by
  refine (FC.subS gs_a2 (add2_fc (S := s :: t :: S) h over_nil hp.rng hp.rdL hp.rdG hc hlim)).mono ?_
  rintro _ _ ⟨m1, rfl, rfl, hg1, hl1, hr1, _⟩
  obtain ⟨hz, hcm⟩ := h.n100 hn
  rw [hcm] at hg1
  exact ⟨m1, by rw [hz], rfl, hg1, hl1, hr1⟩
theorem linesNil_fc {w0 : World} {S : SS} : FC Try.prog w0 17 [.pointer none] S (fun v S' => v = .slice none 0 0 ∧ S' = S) := by
  refine FC.ofD Try.known17 (by simp) ?_
  unfold Try.pc17
  simp only [argT]
  refine PW.seqOps ?_
  refine OL.dp rfl ?_
  refine OL.nil ?_
  refine PW.keep (T' := [(0, _), (2, _)]) ⟨rfl, rfl, trivial⟩ ?_
  refine PW.seq fun K1 hK1 => ?_
  refine PW.seqOps ?_
  refine OL.dp rfl ?_
  refine OL.call trivial rfl (isNil_fc) ?_
  rintro _ Sx ⟨rfl, hSx⟩
  rw [hSx]
  clear hSx
  refine OL.dp rfl ?_
  refine OL.nil ?_
  refine PW.keep (T' := [(0, _), (2, _), (13, _)]) ⟨rfl, rfl, rfl, trivial⟩ ?_
  refine PW.ite (b := true) rfl ?_
  rw [if_pos rfl]
  refine PW.seqOps ?_
  refine OL.dp rfl ?_
  refine OL.nil ?_
  refine PW.keep (T' := [(2, _)]) ⟨rfl, trivial⟩ ?_
  refine PW.ret ?_
  change (Exit.ret = Exit.normal ∨ Exit.ret = Exit.ret) ∧ ∃ v, resV _ _ = some v ∧ _
  exact ⟨.inr rfl, _, rfl, _, Sub.refl _, rfl, rfl⟩
theorem itemsNil_fc {w0 : World} {S : SS} : FC Try.prog w0 33 [.pointer none] S (fun v S' => v = .slice none 0 0 ∧ S' = S) := by
  refine FC.ofD Try.known33 (by simp) ?_
  unfold Try.pc33
  simp only [argT]
  refine PW.seqOps ?_
  refine OL.dp rfl ?_
  refine OL.nil ?_
  refine PW.keep (T' := [(0, _)]) ⟨rfl, trivial⟩ ?_
  refine PW.scope ?_
  refine PW.seqOps ?_
  refine OL.dp rfl ?_
  refine OL.call trivial rfl (linesNil_fc) ?_
  rintro _ Sx ⟨rfl, hSx⟩
  rw [hSx]
  clear hSx
  refine OL.call trivial rfl (FC.nilseg (deleteDead_fc (l := []) (SlV.nil 43 35) (by decide))) ?_
  rintro v12 _ ⟨segl, rfl, hsl⟩
  obtain ⟨Al, cl, rfl, hnl, hcl, hrl⟩ := slv_rdL (w0 := w0) hsl
  refine OL.subS (S' := S) (Sub.drop (Sub.refl _)) ?_
  refine OL.dp rfl ?_
  refine OL.nil ?_
  refine PW.keep (T' := [(0, _), (3, _)]) ⟨rfl, rfl, trivial⟩ ?_
  refine PW.seqOps ?_
  refine OL.dp rfl ?_
  refine OL.nil ?_
  refine PW.keep (T' := [(0, _), (3, _), (4, _)]) ⟨rfl, rfl, rfl, trivial⟩ ?_
  refine PW.seqOps ?_
  refine OL.dp rfl ?_
  refine OL.nil ?_
  refine PW.keep (T' := [(0, _), (3, _), (4, _), (5, _)]) ⟨rfl, rfl, rfl, rfl, trivial⟩ ?_
  refine PW.seq fun K1 hK1 => ?_
  refine PW.label ?_
  refine hK1 _ _ ?_
  refine PW.keep (T' := [(0, _), (3, _), (4, _), (5, _)]) ⟨rfl, rfl, rfl, rfl, trivial⟩ ?_
  refine PW.seq fun K2 hK2 => ?_
  refine PW.seqOps ?_
  refine OL.dp rfl ?_
  refine OL.dp rfl ?_
  refine OL.dp rfl ?_
  refine OL.nil ?_
  refine PW.keep (T' := [(0, _), (3, _), (4, _), (5, _), (13, _), (14, _), (15, _)]) ⟨rfl, rfl, rfl, rfl, rfl, rfl, rfl, trivial⟩ ?_
  refine PW.block ?_
  refine PW.keep (T' := [(0, _), (3, _), (4, _), (5, _), (13, _), (14, _), (15, _)]) ⟨rfl, rfl, rfl, rfl, rfl, rfl, rfl, trivial⟩ ?_
  refine PW.loopK (I := fun mm T S' => ∃ (k : Nat), (mm = 0) ∧ T = ([(0, .pointer none), (3, .slice Al (live ([] : List LineP)).length cl), (4, .slice none 0 0), (5, .slice none 0 0), (13, .slice Al (live ([] : List LineP)).length cl), (14, .int .i64 ((live ([] : List LineP)).length : Int)), (15, .int .i64 0)] : TT) ∧ S' = S) (m := 0) ⟨0, rfl, rfl, rfl⟩ ?_
  rintro mm _ _ ⟨k, ⟨hm⟩, rfl, rfl⟩
  refine PW.seqOps ?_
  refine OL.dp rfl ?_
  refine OL.nil ?_
  refine PW.keep (T' := [(0, _), (3, _), (4, _), (5, _), (13, _), (14, _), (15, _), (16, _)]) ⟨rfl, rfl, rfl, rfl, rfl, rfl, rfl, rfl, trivial⟩ ?_
  refine PW.seq fun K3 hK3 => ?_
  refine PW.cond rfl (fun c16 => ?_) (fun c16 => ?_)
  · try simp only [decide_eq_true_eq, decide_eq_false_iff_not, beq_iff_eq, bne_iff_ne, beq_eq_false_iff_ne, bne_eq_false_iff_eq, Bool.not_eq_true', Bool.not_eq_false', Bool.not_eq_true, ne_eq, Decidable.not_not, Bool.false_eq_true, if_false, if_true] at c16
    exfalso
    have : (live ([] : List LineP)).length = 0 := rfl
    omega
    -- done
  · try simp only [decide_eq_true_eq, decide_eq_false_iff_not, beq_iff_eq, bne_iff_ne, beq_eq_false_iff_ne, bne_eq_false_iff_eq, Bool.not_eq_true', Bool.not_eq_false', Bool.not_eq_true, ne_eq, Decidable.not_not, Bool.false_eq_true, if_false, if_true] at c16
    refine PW.exit ?_
    refine hK2 _ _ ?_
    refine PW.keep (T' := [(0, _), (4, _), (5, _)]) ⟨rfl, rfl, rfl, trivial⟩ ?_
    refine PW.seq fun K4 hK4 => ?_
    refine PW.seqOps ?_
    refine OL.dp rfl ?_
    refine OL.dp rfl ?_
    refine OL.dp rfl ?_
    refine OL.nil ?_
    refine PW.keep (T' := [(0, _), (4, _), (5, _), (60, _)]) ⟨rfl, rfl, rfl, rfl, trivial⟩ ?_
    refine PW.cond rfl (fun c60 => ?_) (fun c60 => ?_)
    · try simp only [decide_eq_true_eq, decide_eq_false_iff_not, beq_iff_eq, bne_iff_ne, beq_eq_false_iff_ne, bne_eq_false_iff_eq, Bool.not_eq_true', Bool.not_eq_false', Bool.not_eq_true, ne_eq, Decidable.not_not, Bool.false_eq_true, if_false, if_true] at c60
      exfalso
      simp at c60
      -- done
    · try simp only [decide_eq_true_eq, decide_eq_false_iff_not, beq_iff_eq, bne_iff_ne, beq_eq_false_iff_ne, bne_eq_false_iff_eq, Bool.not_eq_true', Bool.not_eq_false', Bool.not_eq_true, ne_eq, Decidable.not_not, Bool.false_eq_true, if_false, if_true] at c60
      refine PW.skip ?_
      refine hK4 _ _ ?_
      refine PW.keep (T' := [(4, _)]) ⟨rfl, trivial⟩ ?_
      refine PW.seqOps ?_
      refine OL.dp rfl ?_
      refine OL.dp rfl ?_
      refine OL.nil ?_
      refine PW.keep (T' := [(2, _)]) ⟨rfl, trivial⟩ ?_
      refine PW.ret ?_
      change (Exit.ret = Exit.normal ∨ Exit.ret = Exit.ret) ∧ ∃ v, resV _ _ = some v ∧ _
      exact ⟨.inr rfl, _, rfl, _, Sub.refl _, rfl, rfl⟩
theorem renderKnown_fc {w0 : World} {S : SS} : FC Try.prog w0 10 [] S (fun v S' => v = .bool true) := by
  refine FC.ofD Try.known10 (by simp) ?_
  unfold Try.pc10
  simp only [argT]
  refine PW.seqOps ?_
  refine OL.dp rfl ?_
  refine OL.nil ?_
  refine PW.keep (T' := []) trivial ?_
  refine PW.seqOps ?_
  refine OL.call trivial rfl (base_fc) ?_
  rintro _ _ ⟨m, rfl, rfl, hg, hl⟩
  refine OL.dp rfl ?_
  refine OL.dp rfl ?_
  refine OL.dp rfl ?_
  refine OL.dp rfl ?_
  refine OL.cons trivial OW.al ?_
  rintro _ _ ⟨r2, rfl, rfl⟩
  refine OL.cons trivial OW.al ?_
  rintro _ _ ⟨r3, rfl, rfl⟩
  refine OL.dp rfl ?_
  refine OL.cons trivial (vtx_stk (k := 1) (u := va) rfl rfl rfl rfl) ?_
  rintro _ _ rfl
  refine OL.cons trivial (vtx_stk (k := 0) (u := vb) rfl rfl rfl rfl) ?_
  rintro _ _ rfl
  refine OL.subS (S' := GS m ++ (vseg r3 vb :: vseg r2 va :: S)) (Sub.sel [2, 3, 4, 5, 0, 1] 6 (by decide) (vseg r3 vb :: vseg r2 va :: (GS m ++ S))) ?_
  refine OL.nil ?_
  refine PW.keep (T' := [(1, _), (2, _), (3, _)]) ⟨rfl, rfl, rfl, trivial⟩ ?_
  refine PW.seqOps ?_
  refine OL.dp rfl ?_
  refine OL.det trivial (Yields.ldA rfl (vtxL_len _) (all_at (List.mem_flatten.2 ⟨_, .tail _ (.tail _ (.tail _ (.tail _ (.tail _ (.head _))))), List.mem_singleton.2 rfl⟩))) ?_
  refine OL.det trivial (Yields.ldA rfl (vtxL_len _) (all_at (List.mem_flatten.2 ⟨_, .tail _ (.tail _ (.tail _ (.tail _ (.head _)))), List.mem_singleton.2 rfl⟩))) ?_
  refine OL.cons trivial (OW.bsl (cs := strs [str1 120]) rfl) ?_
  rintro _ _ ⟨r19, rfl, rfl⟩
  refine OL.call trivial rfl (part_fc (b := 2) (up := va) (down := vb) (l := [str1 120])) ?_
  rintro _ Sx ⟨rfl, hSx⟩
  rw [hSx]
  clear hSx
  have hpx : ∀ Z, PartRd w0 ([(r19, .cells (strs [str1 120]) 9 1)] :: Z) (mkP 2 va vb (some ⟨r19, 0, none⟩) 1 [str1 120]) := fun Z => mkP_rd (n := 1) (r := r19) (l := [str1 120]) (.head _) okVa okVb (show 1 ≤ 100 by decide)
  refine OL.call trivial rfl (addF_fc hg (hpx _) new_kx (show 5 ≤ 1000000 by decide) (Nat.le_trans (Nat.add_le_add_right hl 4) (by decide))) ?_
  rintro _ _ ⟨m1, rfl, rfl, hg1, hl1, hr1⟩
  change GG w0 [] m1 [kx, k1] at hg1
  refine OL.nil ?_
  refine PW.keep (T' := [(1, _)]) ⟨rfl, trivial⟩ ?_
  refine PW.seqOps ?_
  refine OL.dp rfl ?_
  refine OL.call trivial rfl (by rw [← ptr_eq hr1]; exact items_fc hg1 over_nil (by decide +kernel)) ?_
  rintro v23 _ ⟨its1, sgi1, junk1, rfl, hmap1, hsi1, hio1, hitn1⟩
  have htx1 := items_text hmap1 closedA textA
  obtain ⟨Ai1, ci1, rfl, hni1, hci1, hri1⟩ := slv_rdL (w0 := w0) hsi1
  refine OL.call trivial rfl (textI_fc (hri1 _) (fun x hx => (hio1 x hx).rd (by simp)) (by omega)) ?_
  rintro v24 _ ⟨sgt1, rfl, hst1, _⟩
  rw [htx1] at hst1
  obtain ⟨At1, ct1, rfl, hnt1, hct1, hrt1⟩ := slv_rdL (w0 := w0) hst1
  refine OL.subS (S' := sgt1 :: S) (Sub.sel [0] 10 (by decide) (sgt1 :: sgi1 :: junk1 :: (GS m1 ++ (_ :: vseg r3 vb :: vseg r2 va :: S)))) ?_
  refine OL.dp rfl ?_
  refine OL.nil ?_
  refine PW.keep (T' := [(4, _)]) ⟨rfl, trivial⟩ ?_
  refine PW.seqOps ?_
  refine OL.call trivial rfl (base_fc) ?_
  rintro _ _ ⟨n0, rfl, rfl, hg2, hl2⟩
  refine OL.dp rfl ?_
  refine OL.dp rfl ?_
  refine OL.dp rfl ?_
  refine OL.dp rfl ?_
  refine OL.cons trivial OW.al ?_
  rintro _ _ ⟨r6, rfl, rfl⟩
  refine OL.cons trivial OW.al ?_
  rintro _ _ ⟨r7, rfl, rfl⟩
  refine OL.dp rfl ?_
  refine OL.cons trivial (vtx_stk (k := 1) (u := va) rfl rfl rfl rfl) ?_
  rintro _ _ rfl
  refine OL.cons trivial (vtx_stk (k := 0) (u := vb) rfl rfl rfl rfl) ?_
  rintro _ _ rfl
  refine OL.subS (S' := GS n0 ++ (vseg r7 vb :: vseg r6 va :: sgt1 :: S)) (Sub.sel [2, 3, 4, 5, 0, 1] 6 (by decide) (vseg r7 vb :: vseg r6 va :: (GS n0 ++ (sgt1 :: S)))) ?_
  refine OL.nil ?_
  refine PW.keep (T' := [(4, _), (5, _), (6, _), (7, _)]) ⟨rfl, rfl, rfl, rfl, trivial⟩ ?_
  refine PW.seqOps ?_
  refine OL.dp rfl ?_
  refine OL.det trivial (Yields.ldA rfl (vtxL_len _) (all_at (List.mem_flatten.2 ⟨_, .tail _ (.tail _ (.tail _ (.tail _ (.tail _ (.head _))))), List.mem_singleton.2 rfl⟩))) ?_
  refine OL.det trivial (Yields.ldA rfl (vtxL_len _) (all_at (List.mem_flatten.2 ⟨_, .tail _ (.tail _ (.tail _ (.tail _ (.head _)))), List.mem_singleton.2 rfl⟩))) ?_
  refine OL.cons trivial (OW.bsl (cs := strs [str2 120 49, str2 120 50]) rfl) ?_
  rintro _ _ ⟨r33, rfl, rfl⟩
  refine OL.call trivial rfl (part_fc (b := 2) (up := va) (down := vb) (l := [str2 120 49, str2 120 50])) ?_
  rintro _ Sx ⟨rfl, hSx⟩
  rw [hSx]
  clear hSx
  have hpxx : ∀ Z, PartRd w0 ([(r33, .cells (strs [str2 120 49, str2 120 50]) 9 2)] :: Z) (mkP 2 va vb (some ⟨r33, 0, none⟩) 2 [str2 120 49, str2 120 50]) := fun Z => mkP_rd (n := 2) (r := r33) (l := [str2 120 49, str2 120 50]) (.head _) okVa okVb (show 2 ≤ 100 by decide)
  refine OL.call trivial rfl (addF_fc hg2 (hpxx _) new_kxx (show 6 ≤ 1000000 by decide) (Nat.le_trans (Nat.add_le_add_right hl2 5) (by decide))) ?_
  rintro _ _ ⟨n1, rfl, rfl, hg3, hl3, hr3⟩
  have hl3 : n1.lim ≤ 105 := Nat.le_trans hl3 (Nat.add_le_add_right hl2 5)
  change GG w0 [] n1 [kxx, k1] at hg3
  refine OL.nil ?_
  refine PW.keep (T' := [(4, _), (5, _), (6, _), (7, _)]) ⟨rfl, rfl, rfl, rfl, trivial⟩ ?_
  refine PW.seqOps ?_
  refine OL.dp rfl ?_
  refine OL.det trivial (Yields.ldA rfl (vtxL_len _) (all_at (List.mem_flatten.2 ⟨_, .tail _ (.tail _ (.tail _ (.tail _ (.tail _ (.tail _ (.head _)))))), List.mem_singleton.2 rfl⟩))) ?_
  refine OL.det trivial (Yields.ldA rfl (vtxL_len _) (all_at (List.mem_flatten.2 ⟨_, .tail _ (.tail _ (.tail _ (.tail _ (.tail _ (.head _))))), List.mem_singleton.2 rfl⟩))) ?_
  refine OL.cons trivial (OW.bsl (cs := strs [str1 121]) rfl) ?_
  rintro _ _ ⟨r39, rfl, rfl⟩
  refine OL.call trivial rfl (part_fc (b := 3) (up := va) (down := vb) (l := [str1 121])) ?_
  rintro _ Sx ⟨rfl, hSx⟩
  rw [hSx]
  clear hSx
  have hpy : ∀ Z, PartRd w0 ([(r39, .cells (strs [str1 121]) 9 1)] :: Z) (mkP 3 va vb (some ⟨r39, 0, none⟩) 1 [str1 121]) := fun Z => mkP_rd (n := 1) (r := r39) (l := [str1 121]) (.head _) okVa okVb (show 1 ≤ 100 by decide)
  refine OL.call trivial rfl (by rw [← ptr_eq hr3]; exact addF_fc hg3 (hpy _) new_kyx (show 8 ≤ 1000000 by decide) (Nat.le_trans (Nat.add_le_add_right hl3 4) (by decide))) ?_
  rintro _ _ ⟨n2, rfl, rfl, hg4, hl4, hr4⟩
  have hl4 : n2.lim ≤ 109 := Nat.le_trans hl4 (Nat.add_le_add_right hl3 4)
  change GG w0 [] n2 [ky, kxx, k1] at hg4
  refine OL.nil ?_
  refine PW.keep (T' := [(4, _), (5, _), (6, _), (7, _)]) ⟨rfl, rfl, rfl, rfl, trivial⟩ ?_
  refine PW.seqOps ?_
  refine OL.dp rfl ?_
  refine OL.call trivial rfl (by rw [← ptr_eq (hr4.trans hr3)]; exact items_fc hg4 over_nil (by decide +kernel)) ?_
  rintro v43 _ ⟨its2, sgi2, junk2, rfl, hmap2, hsi2, hio2, hitn2⟩
  have htx2 := items_text hmap2 closedB' textB
  obtain ⟨Ai2, ci2, rfl, hni2, hci2, hri2⟩ := slv_rdL (w0 := w0) hsi2
  refine OL.call trivial rfl (textI_fc (hri2 _) (fun x hx => (hio2 x hx).rd (by simp)) (by omega)) ?_
  rintro v44 _ ⟨sgt2, rfl, hst2, _⟩
  rw [htx2] at hst2
  obtain ⟨At2, ct2, rfl, hnt2, hct2, hrt2⟩ := slv_rdL (w0 := w0) hst2
  refine OL.subS (S' := GS n2 ++ (vseg r7 vb :: vseg r6 va :: sgt2 :: sgt1 :: S)) (Sub.sel [3, 4, 5, 6, 9, 10, 0, 11] 12 (by decide) (sgt2 :: sgi2 :: junk2 :: (GS n2 ++ (_ :: _ :: vseg r7 vb :: vseg r6 va :: sgt1 :: S)))) ?_
  refine OL.dp rfl ?_
  refine OL.nil ?_
  refine PW.keep (T' := [(4, _), (5, _), (6, _), (7, _), (8, _)]) ⟨rfl, rfl, rfl, rfl, rfl, trivial⟩ ?_
  refine PW.seqOps ?_
  refine OL.dp rfl ?_
  refine OL.det trivial (Yields.bldA (cs := bytesC (hb1 4).1) rfl) ?_
  refine OL.det trivial (Yields.ldA rfl (vtxL_len _) (all_at (List.mem_flatten.2 ⟨_, .tail _ (.tail _ (.tail _ (.tail _ (.tail _ (.head _))))), List.mem_singleton.2 rfl⟩))) ?_
  refine OL.det trivial (Yields.ldA rfl (vtxL_len _) (all_at (List.mem_flatten.2 ⟨_, .tail _ (.tail _ (.tail _ (.tail _ (.head _)))), List.mem_singleton.2 rfl⟩))) ?_
  refine OL.cons trivial (OW.bsl (cs := strs [str1 122]) rfl) ?_
  rintro _ _ ⟨r49, rfl, rfl⟩
  refine OL.det trivial (Yields.bldA (cs := bytesC (hb1 2).1) rfl) ?_
  refine OL.det trivial (Yields.build (cs := vtxL (hb1 2, 0)) rfl) ?_
  refine OL.det trivial (Yields.bldA (cs := bytesC (hb1 2).1) rfl) ?_
  refine OL.det trivial (Yields.build (cs := vtxL (hb1 2, 1)) rfl) ?_
  refine OL.det trivial (Yields.bldA (cs := bytesC (hb1 3).1) rfl) ?_
  refine OL.det trivial (Yields.build (cs := vtxL (hb1 3, 0)) rfl) ?_
  refine OL.cons trivial (OW.bsl (cs := vtxs [(hb1 2, 0), (hb1 2, 1), (hb1 3, 0)]) rfl) ?_
  rintro _ _ ⟨r56, rfl, rfl⟩
  refine OL.det trivial (Yields.build (cs := partC (pz r49 r56)) rfl) ?_
  refine OL.call trivial rfl (by rw [← ptr_eq (hr4.trans hr3)]; exact addF2_fc (p := pz r49 r56) hg4 (pz_rd (.tail _ (.head _)) (.head _)) new_kz (show 10 ≤ 1000000 by decide) (Nat.le_trans (Nat.add_le_add_right hl4 10) (by decide))) ?_
  rintro _ _ ⟨n3, rfl, rfl, hg5, hl5, hr5⟩
  change GG w0 [] n3 [kz, ky, kxx, k1] at hg5
  refine OL.dp rfl ?_
  refine OL.nil ?_
  refine PW.keep (T' := [(4, _), (5, _), (8, _), (9, _)]) ⟨rfl, rfl, rfl, rfl, trivial⟩ ?_
  refine PW.seqOps ?_
  refine OL.dp rfl ?_
  refine OL.call trivial rfl (by rw [← ptr_eq (hr5.trans (hr4.trans hr3))]; exact items_fc hg5 over_nil (by decide +kernel)) ?_
  rintro v60 _ ⟨its3, sgi3, junk3, rfl, hmap3, hsi3, hio3, hitn3⟩
  have htx3 := items_text hmap3 closedC textC
  obtain ⟨Ai3, ci3, rfl, hni3, hci3, hri3⟩ := slv_rdL (w0 := w0) hsi3
  refine OL.call trivial rfl (textI_fc (hri3 _) (fun x hx => (hio3 x hx).rd (by simp)) (by omega)) ?_
  rintro v61 _ ⟨sgt3, rfl, hst3, _⟩
  rw [htx3] at hst3
  obtain ⟨At3, ct3, rfl, hnt3, hct3, hrt3⟩ := slv_rdL (w0 := w0) hst3
  refine OL.subS (S' := sgt3 :: sgt2 :: sgt1 :: S) (Sub.sel [0, 11, 12] 13 (by decide) (sgt3 :: sgi3 :: junk3 :: (GS n3 ++ (_ :: _ :: vseg r7 vb :: vseg r6 va :: sgt2 :: sgt1 :: S)))) ?_
  refine OL.dp rfl ?_
  refine OL.nil ?_
  refine PW.keep (T' := [(4, _), (8, _), (9, _), (10, _)]) ⟨rfl, rfl, rfl, rfl, trivial⟩ ?_
  refine PW.seqOps ?_
  refine OL.dp rfl ?_
  refine OL.cons trivial (OW.bsl (cs := strs oneL) rfl) ?_
  rintro _ _ ⟨r63, rfl, rfl⟩
  refine OL.call trivial rfl (sameS_fc (a := oneL) (b := oneL) (rd_mem (hrt1 []) (by simp)) (Rd.own (E := 9) (tot := 3) (List.mem_flatten.2 ⟨_, .head _, List.mem_singleton.2 rfl⟩)) (show 3 ≤ 1000000000000 by decide) (show 3 ≤ 1000000000000 by decide)) ?_
  rintro _ Sx ⟨rfl, hSx⟩
  rw [hSx]
  clear hSx
  rw [decide_eq_true (rfl : oneL = oneL)]
  refine OL.dp rfl ?_
  refine OL.det rfl (Yields.pure rfl) ?_
  refine OL.cons rfl (OW.bsl (cs := strs twoL) rfl) ?_
  rintro _ _ ⟨r67, rfl, rfl⟩
  refine OL.call rfl rfl (sameS_fc (a := twoL) (b := twoL) (rd_mem (hrt2 []) (by simp)) (Rd.own (E := 9) (tot := 8) (List.mem_flatten.2 ⟨_, .head _, List.mem_singleton.2 rfl⟩)) (show 8 ≤ 1000000000000 by decide) (show 8 ≤ 1000000000000 by decide)) ?_
  rintro _ Sx ⟨rfl, hSx⟩
  rw [hSx]
  clear hSx
  rw [decide_eq_true (rfl : twoL = twoL)]
  refine OL.dp rfl ?_
  refine OL.dp rfl ?_
  refine OL.det rfl (Yields.pure rfl) ?_
  refine OL.det rfl (Yields.to (v' := .bool true) (Yields.pure rfl) (by rfl)) ?_
  refine OL.dp rfl ?_
  refine OL.dp rfl ?_
  refine OL.det rfl (Yields.pure rfl) ?_
  refine OL.cons rfl (OW.bsl (cs := strs threeL) rfl) ?_
  rintro _ _ ⟨r76, rfl, rfl⟩
  refine OL.call rfl rfl (sameS_fc (a := threeL) (b := threeL) (rd_mem (hrt3 []) (by simp)) (Rd.own (E := 9) (tot := 3) (List.mem_flatten.2 ⟨_, .head _, List.mem_singleton.2 rfl⟩)) (show 3 ≤ 1000000000000 by decide) (show 3 ≤ 1000000000000 by decide)) ?_
  rintro _ Sx ⟨rfl, hSx⟩
  rw [hSx]
  clear hSx
  rw [decide_eq_true (rfl : threeL = threeL)]
  refine OL.dp rfl ?_
  refine OL.dp rfl ?_
  refine OL.call rfl rfl (itemsNil_fc) ?_
  rintro _ Sx ⟨rfl, hSx⟩
  rw [hSx]
  clear hSx
  refine OL.det rfl (Yields.pure rfl) ?_
  refine OL.det rfl (Yields.to (v' := .bool true) (Yields.pure rfl) (by rfl)) ?_
  refine OL.dp rfl ?_
  refine OL.dp rfl ?_
  refine OL.call rfl rfl (new_fc (X := [])) ?_
  rintro _ _ ⟨e0, rfl, rfl, he0, hge0, hle0⟩
  have hgg : GG w0 [] e0 [] := ⟨he0, by rw [hge0]; exact GP.Inv.nil, Sq.nil, by simp [allV], by omega⟩
  refine OL.call rfl rfl (items_fc hgg over_nil (by decide +kernel)) ?_
  rintro v86 _ ⟨its4, sgi4, junk4, rfl, hmap4, hsi4, hio4, hitn4⟩
  rw [items_none] at hmap4
  obtain rfl := List.map_eq_nil_iff.1 hmap4
  obtain ⟨Ai4, ci4, rfl, hni4, hci4, hri4⟩ := slv_rdL (w0 := w0) hsi4
  refine OL.det rfl (Yields.pure rfl) ?_
  refine OL.det rfl (Yields.to (v' := .bool true) (Yields.pure rfl) (by rfl)) ?_
  refine OL.dp rfl ?_
  refine OL.dp rfl ?_
  refine OL.call rfl rfl (textI_fc (A := none) (c := 0) (l := []) Rd.nil (fun x hx => by cases hx) (by decide)) ?_
  rintro v91 _ ⟨sg91, rfl, hs91, _⟩
  obtain ⟨A91, c91, rfl, hn91, hc91, hr91⟩ := slv_rdL (w0 := w0) hs91
  refine OL.det rfl (Yields.pure rfl) ?_
  refine OL.det rfl (Yields.to (v' := .bool true) (Yields.pure rfl) (by rfl)) ?_
  refine OL.dp rfl ?_
  refine OL.dp rfl ?_
  refine OL.call rfl rfl (conflict_fc (A := none) (c := 0) (l := []) Rd.nil (by decide)) ?_
  rintro _ Sx ⟨rfl, hSx⟩
  rw [hSx]
  clear hSx
  refine OL.det rfl (Yields.pure rfl) ?_
  refine OL.dp rfl ?_
  refine OL.dp rfl ?_
  refine OL.call rfl rfl (works_fc) ?_
  rintro _ Sx ⟨rfl, hSx⟩
  rw [hSx]
  clear hSx
  refine OL.dp rfl ?_
  refine OL.dp rfl ?_
  refine OL.nil ?_
  refine PW.keep (T' := [(0, _)]) ⟨rfl, trivial⟩ ?_
  refine PW.ret ?_
  change (Exit.ret = Exit.normal ∨ Exit.ret = Exit.ret) ∧ ∃ v, resV _ _ = some v ∧ _
  exact ⟨.inr rfl, _, rfl, _, Sub.refl _, rfl⟩
end Go.Proofs.Gr
