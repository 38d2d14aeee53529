/- Walks and plain facts for the laws of this seat: what each function answers, for every input. -/
import Derived.Test.YtbejcoeajlhmcaaPart7

set_option linter.unusedVariables false
set_option linter.unusedSimpArgs false
namespace Go.Proofs.Gr
open Go.SL Go.RowKit Go.Proofs Go.GP
set_option maxHeartbeats 1000000
/-- what is read of items -/
structure ItemRd (w0 : World) (S : SS) (x : ItemM) : Prop where
  rdL : Rd w0 S x.LA (lines x.lines)
  rdM : Rd w0 S x.MA (ints x.mids)
  nL : x.lines.length ≤ 60000
  nM : x.mids.length ≤ 60000
theorem ItemRd.mono {w0 : World} {S S' : SS} {x : ItemM} (h : ItemRd w0 S x) (hs : Over S S') : ItemRd w0 S' x := ⟨h.rdL.mono hs, h.rdM.mono hs, h.nL, h.nM⟩
theorem ItemOk.rd {w0 : World} {j : Seg} {x : ItemM} {S : SS} (h : ItemOk w0 j x) (hj : j ∈ S) : ItemRd w0 S x := ⟨rd_mem h.rdL hj, rd_mem h.rdM hj, h.nL, h.nM⟩
theorem strs_snoc {v : Value} {l : List ByteArray} {z : ByteArray} {seg : Seg} (h : SlV 9 1 v (l.length + 1) (strs l ++ [Value.string z]) seg) : SlV 9 1 v (l ++ [z]).length (strs (l ++ [z])) seg := by
  rw [List.length_append]
  unfold strs at h ⊢
  rw [List.map_append]
  exact h
def pli (l : List ItemM) : List ItemP := l.map ItemM.pl
theorem pli_get {l : List ItemM} {k : Nat} (hk : k < l.length) : (pli l)[k]'(by unfold pli; rw [List.length_map]; exact hk) = l[k].pl := List.getElem_map _
theorem textI_fc {w0 : World} {S : SS} {A : Option Addr} {c : Nat} {l : List ItemM} (hx : Rd w0 S A (itemS l)) (hr : ∀ x ∈ l, ItemRd w0 S x) (hb : l.length ≤ 1000000) :
    FC Try.prog w0 36 [.slice A l.length c] S (fun u S' => ∃ seg, S' = seg :: S ∧ SlV 9 1 u (textI (pli l)).length (strs (textI (pli l))) seg ∧ (textI (pli l)).length ≤ 120003000000) := by
  have hpl0 : (pli l).length = l.length := List.length_map _
  have hNL : ∀ x ∈ pli l, x.lines.length ≤ 60000 := fun x hx => by
    obtain ⟨y, hy, rfl⟩ := List.mem_map.1 hx
    exact (hr y hy).nL
  refine FC.ofD Try.known36 (by simp) ?_
  unfold Try.pc36
  simp only [argT]
  refine PW.seqOps ?_
  refine OL.dp rfl ?_
  refine OL.nil ?_
  refine PW.keep (T' := [(0, _)]) ⟨rfl, trivial⟩ ?_
  refine PW.seqOps ?_
  refine OL.dp rfl ?_
  refine OL.nil ?_
  refine PW.keep (T' := [(0, _), (3, _)]) ⟨rfl, rfl, trivial⟩ ?_
  refine PW.seq fun K1 hK1 => ?_
  refine PW.seqOps ?_
  refine OL.subS (S' := [] :: S) (Sub.nilL (Sub.refl _)) ?_
  refine OL.dp rfl ?_
  refine OL.dp rfl ?_
  refine OL.dp rfl ?_
  refine OL.nil ?_
  refine PW.keep (T' := [(3, _), (8, _), (9, _), (10, _)]) ⟨rfl, rfl, rfl, rfl, trivial⟩ ?_
  refine PW.block ?_
  refine PW.keep (T' := [(3, _), (8, _), (9, _), (10, _)]) ⟨rfl, rfl, rfl, rfl, trivial⟩ ?_
  refine PW.loopK (I := fun mm T S' => ∃ (k : Nat) (vo : Value) (sgo : Seg), (k ≤ l.length ∧ mm = l.length - k ∧ SlV 9 1 vo (textI ((pli l).take k)).length (strs (textI ((pli l).take k))) sgo) ∧ T = ([(3, vo), (8, .slice A l.length c), (9, .int .i64 (l.length : Int)), (10, .int .i64 k)] : TT) ∧ S' = sgo :: S) (m := l.length) ⟨0, _, [], ⟨by omega, by omega, by simp [textI]; exact SlV.nil 9 1⟩, rfl, rfl⟩ ?_
  rintro mm _ _ ⟨k, vo, sgo, ⟨hk, hmm, hso⟩, rfl, rfl⟩
  refine PW.seqOps ?_
  refine OL.dp rfl ?_
  refine OL.nil ?_
  refine PW.keep (T' := [(3, _), (8, _), (9, _), (10, _), (11, _)]) ⟨rfl, rfl, rfl, rfl, rfl, trivial⟩ ?_
  refine PW.seq fun K2 hK2 => ?_
  refine PW.cond rfl (fun c11 => ?_) (fun c11 => ?_)
  · try simp only [decide_eq_true_eq, decide_eq_false_iff_not, beq_iff_eq, bne_iff_ne, beq_eq_false_iff_ne, bne_eq_false_iff_eq, Bool.not_eq_true', Bool.not_eq_false', Bool.not_eq_true, ne_eq, Decidable.not_not, Bool.false_eq_true, if_false, if_true] at c11
    have hkl : k < l.length := by omega
    obtain ⟨a0, rfl⟩ := itemS_some hx (by omega)
    have hx2 := hx
    have hrk := hr _ (List.getElem_mem hkl)
    have hnL := hrk.nL
    have hnM := hrk.nM
    have htl := textI_len hNL k (by omega)
    refine PW.skip ?_
    refine hK2 _ _ ?_
    refine PW.keep (T' := [(3, _), (8, _), (9, _), (10, _)]) ⟨rfl, rfl, rfl, rfl, trivial⟩ ?_
    refine PW.seq fun K3 hK3 => ?_
    refine PW.block ?_
    refine PW.seqOps ?_
    refine OL.det trivial (Yields.ixN rfl rfl rfl hkl) ?_
    refine OL.det trivial (Yields.ldA rfl (itemC_len _) (item_at hx2.cons hkl)) ?_
    refine OL.cons trivial OW.al ?_
    rintro _ _ ⟨r5, rfl, rfl⟩
    refine OL.cons trivial (item_st rfl rfl rfl) ?_
    rintro _ _ rfl
    change OL _ _ _ _ _ ([(r5, .cells (itemC l[k]) 73 3)] :: sgo :: S) _
    refine OL.nil ?_
    refine PW.keep (T' := [(3, _), (5, _), (8, _), (9, _), (10, _)]) ⟨rfl, rfl, rfl, rfl, rfl, trivial⟩ ?_
    refine PW.seq fun K4 hK4 => ?_
    refine PW.seqOps ?_
    refine OL.dp rfl ?_
    refine OL.det trivial (Yields.ld rfl (own_at (j := 1) (c := itemC l[k]) (E := 73) (tot := 3) (List.mem_flatten.2 ⟨_, .head _, List.mem_singleton.2 rfl⟩) rfl)) ?_
    refine OL.nil ?_
    refine PW.keep (T' := [(3, _), (5, _), (8, _), (9, _), (10, _), (15, _)]) ⟨rfl, rfl, rfl, rfl, rfl, rfl, trivial⟩ ?_
    refine PW.cond rfl (fun c15 => ?_) (fun c15 => ?_)
    · skip
      refine PW.ops ?_
      refine OL.dp rfl ?_
      apply OL.app1 (k := 1)
      · rfl
      · rfl
      · rfl
      · rfl
      · rfl
      · rfl
      · exact hso
      · rfl
      · omega
      · unfold maxLen; omega
      intro v18 seg18 hsl18
      obtain ⟨pre, hpre⟩ : ∃ z, z = textI ((pli l).take k) ++ (if l[k].block then [beginB] else []) := ⟨_, rfl⟩
      have hp : SlV 9 1 v18 pre.length (strs pre) seg18 := by
        rw [hpre, if_pos c15]
        exact strs_snoc (z := beginB) hsl18
      have hpl : pre.length ≤ 120003 * k + 1 := by rw [hpre, List.length_append]; have := textI_len hNL k (by rw [hpl0]; omega); split <;> simp <;> omega
      refine OL.dp rfl ?_
      refine OL.nil ?_
      refine hK4 _ _ ?_
      refine PW.keep (T' := [(3, _), (5, _), (8, _), (9, _), (10, _)]) ⟨rfl, rfl, rfl, rfl, rfl, trivial⟩ ?_
      refine PW.seq fun K5 hK5 => ?_
      refine PW.seqOps ?_
      refine OL.dp rfl ?_
      refine OL.det trivial (Yields.ld rfl (own_at (j := 0) (c := itemC l[k]) (E := 73) (tot := 3) (List.mem_flatten.2 ⟨_, .head _, List.mem_singleton.2 rfl⟩) rfl)) ?_
      refine OL.dp rfl ?_
      refine OL.dp rfl ?_
      refine OL.nil ?_
      refine PW.keep (T' := [(3, _), (5, _), (8, _), (9, _), (10, _), (20, _), (21, _), (22, _)]) ⟨rfl, rfl, rfl, rfl, rfl, rfl, rfl, rfl, trivial⟩ ?_
      refine PW.block ?_
      refine PW.keep (T' := [(3, _), (5, _), (8, _), (9, _), (10, _), (20, _), (21, _), (22, _)]) ⟨rfl, rfl, rfl, rfl, rfl, rfl, rfl, rfl, trivial⟩ ?_
      refine PW.loopK (I := fun mi T S' => ∃ (i : Nat) (vi : Value) (sgi : Seg), (i ≤ l[k].lines.length ∧ mi = l[k].lines.length - i ∧ SlV 9 1 vi (pre ++ rowsT l[k].pl i).length (strs (pre ++ rowsT l[k].pl i)) sgi) ∧ T = ([(3, vi), (5, .pointer (some ⟨r5, 0, none⟩)), (8, .slice (some a0) l.length c), (9, .int .i64 (l.length : Int)), (10, .int .i64 k), (20, .slice l[k].LA l[k].lines.length l[k].lc), (21, .int .i64 (l[k].lines.length : Int)), (22, .int .i64 i)] : TT) ∧ S' = [(r5, .cells (itemC l[k]) 73 3)] :: sgi :: S) (m := l[k].lines.length) ⟨0, _, _, ⟨by omega, by omega, by simpa [rowsT] using hp⟩, rfl, rfl⟩ ?_
      rintro mi _ _ ⟨i, vi, sgi, ⟨hi, hmi, hsi⟩, rfl, rfl⟩
      refine PW.seqOps ?_
      refine OL.dp rfl ?_
      refine OL.nil ?_
      refine PW.keep (T' := [(3, _), (5, _), (8, _), (9, _), (10, _), (20, _), (21, _), (22, _), (23, _)]) ⟨rfl, rfl, rfl, rfl, rfl, rfl, rfl, rfl, rfl, trivial⟩ ?_
      refine PW.seq fun K6 hK6 => ?_
      refine PW.cond rfl (fun c23 => ?_) (fun c23 => ?_)
      · try simp only [decide_eq_true_eq, decide_eq_false_iff_not, beq_iff_eq, bne_iff_ne, beq_eq_false_iff_ne, bne_eq_false_iff_eq, Bool.not_eq_true', Bool.not_eq_false', Bool.not_eq_true, ne_eq, Decidable.not_not, Bool.false_eq_true, if_false, if_true] at c23
        have hil : i < l[k].lines.length := by omega
        obtain ⟨b0, hb0⟩ := lines_some hrk.rdL (by omega)
        have hrl2 := hrk.rdL
        rw [hb0] at hrl2 ⊢
        have hrs := rowsT_succ l[k].pl i
        have hge : l[k].pl.lines[i]! = l[k].lines[i] := getElem!_pos l[k].lines i hil
        have hrl := rowsT_len l[k].pl i
        have hpa : (pre ++ rowsT l[k].pl i).length = pre.length + (rowsT l[k].pl i).length := List.length_append
        refine PW.skip ?_
        refine hK6 _ _ ?_
        refine PW.keep (T' := [(3, _), (5, _), (8, _), (9, _), (10, _), (20, _), (21, _), (22, _)]) ⟨rfl, rfl, rfl, rfl, rfl, rfl, rfl, rfl, trivial⟩ ?_
        refine PW.seq fun K7 hK7 => ?_
        refine PW.block ?_
        refine PW.seqOps ?_
        refine OL.dp rfl ?_
        refine OL.det trivial (Yields.ixN rfl rfl rfl hil) ?_
        refine OL.det trivial (Yields.ldA rfl (lineC_len _) (line_at hrl2.cons.cons hil)) ?_
        refine OL.cons trivial OW.al ?_
        rintro _ _ ⟨r7, rfl, rfl⟩
        refine OL.dp rfl ?_
        refine OL.cons trivial (line_st rfl rfl rfl) ?_
        rintro _ _ rfl
        change OL _ _ _ _ _ (lseg r7 l[k].lines[i] :: [(r5, .cells (itemC l[k]) 73 3)] :: sgi :: S) _
        refine OL.nil ?_
        refine PW.keep (T' := [(3, _), (5, _), (6, _), (7, _), (8, _), (9, _), (10, _), (20, _), (21, _), (22, _)]) ⟨rfl, rfl, rfl, rfl, rfl, rfl, rfl, rfl, rfl, rfl, trivial⟩ ?_
        refine PW.seq fun K8 hK8 => ?_
        refine PW.seqOps ?_
        refine OL.dp rfl ?_
        refine OL.det trivial (Yields.ld rfl (own_at (j := 1) (c := itemC l[k]) (E := 73) (tot := 3) (List.mem_flatten.2 ⟨_, .tail _ (.head _), List.mem_singleton.2 rfl⟩) rfl)) ?_
        refine OL.bool trivial (Yields.pure rfl) (fun g29 => ?_) (fun g29 => ?_)
        · try simp only [decide_eq_true_eq, decide_eq_false_iff_not, beq_iff_eq, bne_iff_ne, beq_eq_false_iff_ne, bne_eq_false_iff_eq, Bool.not_eq_true', Bool.not_eq_false', Bool.not_eq_true, ne_eq, Decidable.not_not, Bool.false_eq_true, if_false, if_true] at g29
          refine OL.det rfl (Yields.pure rfl) ?_
          refine OL.det rfl (Yields.ld rfl (own_at (j := 2) (c := itemC l[k]) (E := 73) (tot := 3) (List.mem_flatten.2 ⟨_, .tail _ (.head _), List.mem_singleton.2 rfl⟩) rfl)) ?_
          refine OL.det rfl (Yields.pure rfl) ?_
          refine OL.call rfl rfl (containsI_fc (hrk.rdM.cons.cons.cons) (by omega)) ?_
          rintro _ Sx ⟨rfl, hSx⟩
          rw [hSx]
          clear hSx
          refine OL.dp rfl ?_
          refine OL.nil ?_
          refine PW.keep (T' := [(3, _), (5, _), (7, _), (8, _), (9, _), (10, _), (20, _), (21, _), (22, _), (34, _)]) ⟨rfl, rfl, rfl, rfl, rfl, rfl, rfl, rfl, rfl, rfl, trivial⟩ ?_
          refine PW.cond rfl (fun c34 => ?_) (fun c34 => ?_)
          · skip
            refine PW.ops ?_
            refine OL.dp rfl ?_
            apply OL.app1 (k := 2)
            · rfl
            · rfl
            · rfl
            · rfl
            · rfl
            · rfl
            · exact hsi
            · rfl
            · omega
            · unfold maxLen; omega
            intro v37 seg37 hsl37
            have hsi2 := strs_snoc (l := pre ++ rowsT l[k].pl i) (z := middleB) hsl37
            refine OL.dp rfl ?_
            refine OL.nil ?_
            refine hK8 _ _ ?_
            refine PW.keep (T' := [(3, _), (5, _), (7, _), (8, _), (9, _), (10, _), (20, _), (21, _), (22, _)]) ⟨rfl, rfl, rfl, rfl, rfl, rfl, rfl, rfl, rfl, trivial⟩ ?_
            refine PW.ops ?_
            refine OL.dp rfl ?_
            refine OL.dp rfl ?_
            refine OL.det trivial (Yields.ld rfl (lcell_text (x := l[k].lines[i]) (E := 43) (tot := 35) (List.mem_flatten.2 ⟨_, .head _, List.mem_singleton.2 rfl⟩))) ?_
            apply OL.app1 (k := 2)
            · rfl
            · rfl
            · rfl
            · rfl
            · rfl
            · rfl
            · exact (by first | exact hsi2 | exact hsi)
            · rfl
            · (first | omega | (simp only [List.length_append, List.length_cons, List.length_nil] at *; omega))
            · unfold maxLen; (first | omega | (simp only [List.length_append, List.length_cons, List.length_nil] at *; omega))
            intro v42 seg42 hsl42
            refine OL.dp rfl ?_
            refine OL.nil ?_
            refine hK7 _ _ ?_
            refine PW.keep (T' := [(3, _), (5, _), (8, _), (9, _), (10, _), (20, _), (21, _), (22, _)]) ⟨rfl, rfl, rfl, rfl, rfl, rfl, rfl, rfl, trivial⟩ ?_
            refine PW.ops ?_
            refine OL.det trivial (Yields.add64 rfl rfl (by omega) (by omega)) ?_
            refine OL.dp rfl ?_
            refine OL.nil ?_
            repeat rw [inBlk_n]
            try rw [thenK_n]
            refine LoopEnd.mkS (Sub.drop (Sub.refl _)) (T'' := [(3, _), (5, _), (8, _), (9, _), (10, _), (20, _), (21, _), (22, _)]) ⟨rfl, rfl, rfl, rfl, rfl, rfl, rfl, rfl, trivial⟩ ?_
            rw [hb0]
            have he : pre ++ rowsT l[k].pl (i + 1) = pre ++ rowsT l[k].pl i ++ [middleB] ++ [l[k].lines[i].text] := by
              rw [hrs, hge, if_pos (by show (l[k].block && l[k].mids.contains (i : Int)) = true; rw [g29, c34]; rfl)]
              simp only [List.append_assoc]
            have := strs_snoc (z := l[k].lines[i].text) hsl42
            exact ⟨l[k].lines.length - (i + 1), by omega, i + 1, _, seg42, ⟨by omega, rfl, by rw [he]; exact this⟩, rfl, rfl⟩
          · skip
            refine PW.skip ?_
            refine hK8 _ _ ?_
            refine PW.keep (T' := [(3, _), (5, _), (7, _), (8, _), (9, _), (10, _), (20, _), (21, _), (22, _)]) ⟨rfl, rfl, rfl, rfl, rfl, rfl, rfl, rfl, rfl, trivial⟩ ?_
            refine PW.ops ?_
            refine OL.dp rfl ?_
            refine OL.dp rfl ?_
            refine OL.det trivial (Yields.ld rfl (lcell_text (x := l[k].lines[i]) (E := 43) (tot := 35) (List.mem_flatten.2 ⟨_, .head _, List.mem_singleton.2 rfl⟩))) ?_
            apply OL.app1 (k := 2)
            · rfl
            · rfl
            · rfl
            · rfl
            · rfl
            · rfl
            · exact (by first | exact hsi2 | exact hsi)
            · rfl
            · (first | omega | (simp only [List.length_append, List.length_cons, List.length_nil] at *; omega))
            · unfold maxLen; (first | omega | (simp only [List.length_append, List.length_cons, List.length_nil] at *; omega))
            intro v42 seg42 hsl42
            refine OL.dp rfl ?_
            refine OL.nil ?_
            refine hK7 _ _ ?_
            refine PW.keep (T' := [(3, _), (5, _), (8, _), (9, _), (10, _), (20, _), (21, _), (22, _)]) ⟨rfl, rfl, rfl, rfl, rfl, rfl, rfl, rfl, trivial⟩ ?_
            refine PW.ops ?_
            refine OL.det trivial (Yields.add64 rfl rfl (by omega) (by omega)) ?_
            refine OL.dp rfl ?_
            refine OL.nil ?_
            repeat rw [inBlk_n]
            try rw [thenK_n]
            refine LoopEnd.mkS (Sub.drop (Sub.refl _)) (T'' := [(3, _), (5, _), (8, _), (9, _), (10, _), (20, _), (21, _), (22, _)]) ⟨rfl, rfl, rfl, rfl, rfl, rfl, rfl, rfl, trivial⟩ ?_
            rw [hb0]
            have he : pre ++ rowsT l[k].pl (i + 1) = pre ++ rowsT l[k].pl i ++ [l[k].lines[i].text] := by
              rw [hrs, hge, if_neg (by show ¬ (l[k].block && l[k].mids.contains (i : Int)) = true; rw [g29, c34]; simp)]
              simp only [List.nil_append, List.append_assoc]
            have := strs_snoc (z := l[k].lines[i].text) hsl42
            exact ⟨l[k].lines.length - (i + 1), by omega, i + 1, _, seg42, ⟨by omega, rfl, by rw [he]; exact this⟩, rfl, rfl⟩
        · try simp only [decide_eq_true_eq, decide_eq_false_iff_not, beq_iff_eq, bne_iff_ne, beq_eq_false_iff_ne, bne_eq_false_iff_eq, Bool.not_eq_true', Bool.not_eq_false', Bool.not_eq_true, ne_eq, Decidable.not_not, Bool.false_eq_true, if_false, if_true] at g29
          refine OL.off rfl rfl ?_
          refine OL.off rfl rfl ?_
          refine OL.off rfl rfl ?_
          refine OL.off rfl rfl ?_
          refine OL.dp rfl ?_
          refine OL.nil ?_
          refine PW.keep (T' := [(3, _), (5, _), (7, _), (8, _), (9, _), (10, _), (20, _), (21, _), (22, _), (34, _)]) ⟨rfl, rfl, rfl, rfl, rfl, rfl, rfl, rfl, rfl, rfl, trivial⟩ ?_
          refine PW.ite (b := false) rfl ?_
          rw [if_neg Bool.false_ne_true]
          refine PW.skip ?_
          refine hK8 _ _ ?_
          refine PW.keep (T' := [(3, _), (5, _), (7, _), (8, _), (9, _), (10, _), (20, _), (21, _), (22, _)]) ⟨rfl, rfl, rfl, rfl, rfl, rfl, rfl, rfl, rfl, trivial⟩ ?_
          refine PW.ops ?_
          refine OL.dp rfl ?_
          refine OL.dp rfl ?_
          refine OL.det trivial (Yields.ld rfl (lcell_text (x := l[k].lines[i]) (E := 43) (tot := 35) (List.mem_flatten.2 ⟨_, .head _, List.mem_singleton.2 rfl⟩))) ?_
          apply OL.app1 (k := 2)
          · rfl
          · rfl
          · rfl
          · rfl
          · rfl
          · rfl
          · exact (by first | exact hsi2 | exact hsi)
          · rfl
          · (first | omega | (simp only [List.length_append, List.length_cons, List.length_nil] at *; omega))
          · unfold maxLen; (first | omega | (simp only [List.length_append, List.length_cons, List.length_nil] at *; omega))
          intro v42 seg42 hsl42
          refine OL.dp rfl ?_
          refine OL.nil ?_
          refine hK7 _ _ ?_
          refine PW.keep (T' := [(3, _), (5, _), (8, _), (9, _), (10, _), (20, _), (21, _), (22, _)]) ⟨rfl, rfl, rfl, rfl, rfl, rfl, rfl, rfl, trivial⟩ ?_
          refine PW.ops ?_
          refine OL.det trivial (Yields.add64 rfl rfl (by omega) (by omega)) ?_
          refine OL.dp rfl ?_
          refine OL.nil ?_
          repeat rw [inBlk_n]
          try rw [thenK_n]
          refine LoopEnd.mkS (Sub.drop (Sub.refl _)) (T'' := [(3, _), (5, _), (8, _), (9, _), (10, _), (20, _), (21, _), (22, _)]) ⟨rfl, rfl, rfl, rfl, rfl, rfl, rfl, rfl, trivial⟩ ?_
          rw [hb0]
          have he : pre ++ rowsT l[k].pl (i + 1) = pre ++ rowsT l[k].pl i ++ [l[k].lines[i].text] := by
            rw [hrs, hge, if_neg (by show ¬ (l[k].block && l[k].mids.contains (i : Int)) = true; rw [g29]; simp)]
            simp only [List.nil_append, List.append_assoc]
          have := strs_snoc (z := l[k].lines[i].text) hsl42
          exact ⟨l[k].lines.length - (i + 1), by omega, i + 1, _, seg42, ⟨by omega, rfl, by rw [he]; exact this⟩, rfl, rfl⟩
      · try simp only [decide_eq_true_eq, decide_eq_false_iff_not, beq_iff_eq, bne_iff_ne, beq_eq_false_iff_ne, bne_eq_false_iff_eq, Bool.not_eq_true', Bool.not_eq_false', Bool.not_eq_true, ne_eq, Decidable.not_not, Bool.false_eq_true, if_false, if_true] at c23
        have hie : i = l[k].lines.length := by omega
        have hpg := pli_get hkl
        have hts := textI_snoc (l := pli l) (k := k) (by omega)
        rw [hpg] at hts
        unfold oneT at hts
        have hts : textI ((pli l).take (k + 1)) = textI ((pli l).take k) ++ ((if l[k].block = true then [beginB] else []) ++ rowsT l[k].pl l[k].lines.length ++ (if l[k].block = true then [closeB] else [])) := hts
        have hrl := rowsT_len l[k].pl i
        have hpa : (pre ++ rowsT l[k].pl i).length = pre.length + (rowsT l[k].pl i).length := List.length_append
        refine PW.exit ?_
        refine hK5 _ _ ?_
        refine PW.keep (T' := [(3, _), (5, _), (8, _), (9, _), (10, _)]) ⟨rfl, rfl, rfl, rfl, rfl, trivial⟩ ?_
        refine PW.seqOps ?_
        refine OL.dp rfl ?_
        refine OL.det trivial (Yields.ld rfl (own_at (j := 1) (c := itemC l[k]) (E := 73) (tot := 3) (List.mem_flatten.2 ⟨_, .head _, List.mem_singleton.2 rfl⟩) rfl)) ?_
        refine OL.nil ?_
        refine PW.keep (T' := [(3, _), (8, _), (9, _), (10, _), (45, _)]) ⟨rfl, rfl, rfl, rfl, rfl, trivial⟩ ?_
        refine PW.cond rfl (fun c45 => ?_) (fun c45 => ?_)
        · skip
          refine PW.ops ?_
          refine OL.dp rfl ?_
          apply OL.app1 (k := 1)
          · rfl
          · rfl
          · rfl
          · rfl
          · rfl
          · rfl
          · exact hsi
          · rfl
          · omega
          · unfold maxLen; omega
          intro v48 seg48 hsl48
          refine OL.dp rfl ?_
          refine OL.nil ?_
          refine hK3 _ _ ?_
          refine PW.keep (T' := [(3, _), (8, _), (9, _), (10, _)]) ⟨rfl, rfl, rfl, rfl, trivial⟩ ?_
          refine PW.ops ?_
          refine OL.det trivial (Yields.add64 rfl rfl (by omega) (by omega)) ?_
          refine OL.dp rfl ?_
          refine OL.nil ?_
          repeat rw [inBlk_n]
          try rw [thenK_n]
          refine LoopEnd.mkS (Sub.drop (Sub.refl _)) (T'' := [(3, _), (8, _), (9, _), (10, _)]) ⟨rfl, rfl, rfl, rfl, trivial⟩ ?_
          have he : textI ((pli l).take (k + 1)) = pre ++ rowsT l[k].pl i ++ [closeB] := by
            rw [hts, hpre, hie]
            simp only [c45, if_true, List.append_assoc]
          have := strs_snoc (z := closeB) hsl48
          exact ⟨l.length - (k + 1), by omega, k + 1, _, seg48, ⟨by omega, rfl, by rw [he]; exact this⟩, rfl, rfl⟩
        · skip
          refine PW.skip ?_
          refine hK3 _ _ ?_
          refine PW.keep (T' := [(3, _), (8, _), (9, _), (10, _)]) ⟨rfl, rfl, rfl, rfl, trivial⟩ ?_
          refine PW.ops ?_
          refine OL.det trivial (Yields.add64 rfl rfl (by omega) (by omega)) ?_
          refine OL.dp rfl ?_
          refine OL.nil ?_
          repeat rw [inBlk_n]
          try rw [thenK_n]
          refine LoopEnd.mkS (Sub.drop (Sub.refl _)) (T'' := [(3, _), (8, _), (9, _), (10, _)]) ⟨rfl, rfl, rfl, rfl, trivial⟩ ?_
          have he : textI ((pli l).take (k + 1)) = pre ++ rowsT l[k].pl i := by
            rw [hts, hpre, hie]
            simp only [c45, Bool.false_eq_true, if_false, List.append_nil, List.nil_append, List.append_assoc]
          exact ⟨l.length - (k + 1), by omega, k + 1, vi, sgi, ⟨by omega, rfl, by rw [he]; exact hsi⟩, rfl, rfl⟩
    · skip
      obtain ⟨pre, hpre⟩ : ∃ z, z = textI ((pli l).take k) ++ (if l[k].block then [beginB] else []) := ⟨_, rfl⟩
      have hp : SlV 9 1 vo pre.length (strs pre) sgo := by
        rw [hpre, if_neg (by rw [c15]; simp), List.append_nil]
        exact hso
      have hpl : pre.length ≤ 120003 * k + 1 := by rw [hpre, List.length_append]; have := textI_len hNL k (by rw [hpl0]; omega); split <;> simp <;> omega
      refine PW.skip ?_
      refine hK4 _ _ ?_
      refine PW.keep (T' := [(3, _), (5, _), (8, _), (9, _), (10, _)]) ⟨rfl, rfl, rfl, rfl, rfl, trivial⟩ ?_
      refine PW.seq fun K9 hK9 => ?_
      refine PW.seqOps ?_
      refine OL.dp rfl ?_
      refine OL.det trivial (Yields.ld rfl (own_at (j := 0) (c := itemC l[k]) (E := 73) (tot := 3) (List.mem_flatten.2 ⟨_, .head _, List.mem_singleton.2 rfl⟩) rfl)) ?_
      refine OL.dp rfl ?_
      refine OL.dp rfl ?_
      refine OL.nil ?_
      refine PW.keep (T' := [(3, _), (5, _), (8, _), (9, _), (10, _), (20, _), (21, _), (22, _)]) ⟨rfl, rfl, rfl, rfl, rfl, rfl, rfl, rfl, trivial⟩ ?_
      refine PW.block ?_
      refine PW.keep (T' := [(3, _), (5, _), (8, _), (9, _), (10, _), (20, _), (21, _), (22, _)]) ⟨rfl, rfl, rfl, rfl, rfl, rfl, rfl, rfl, trivial⟩ ?_
      refine PW.loopK (I := fun mi T S' => ∃ (i : Nat) (vi : Value) (sgi : Seg), (i ≤ l[k].lines.length ∧ mi = l[k].lines.length - i ∧ SlV 9 1 vi (pre ++ rowsT l[k].pl i).length (strs (pre ++ rowsT l[k].pl i)) sgi) ∧ T = ([(3, vi), (5, .pointer (some ⟨r5, 0, none⟩)), (8, .slice (some a0) l.length c), (9, .int .i64 (l.length : Int)), (10, .int .i64 k), (20, .slice l[k].LA l[k].lines.length l[k].lc), (21, .int .i64 (l[k].lines.length : Int)), (22, .int .i64 i)] : TT) ∧ S' = [(r5, .cells (itemC l[k]) 73 3)] :: sgi :: S) (m := l[k].lines.length) ⟨0, _, _, ⟨by omega, by omega, by simpa [rowsT] using hp⟩, rfl, rfl⟩ ?_
      rintro mi _ _ ⟨i, vi, sgi, ⟨hi, hmi, hsi⟩, rfl, rfl⟩
      refine PW.seqOps ?_
      refine OL.dp rfl ?_
      refine OL.nil ?_
      refine PW.keep (T' := [(3, _), (5, _), (8, _), (9, _), (10, _), (20, _), (21, _), (22, _), (23, _)]) ⟨rfl, rfl, rfl, rfl, rfl, rfl, rfl, rfl, rfl, trivial⟩ ?_
      refine PW.seq fun K10 hK10 => ?_
      refine PW.cond rfl (fun c23 => ?_) (fun c23 => ?_)
      · try simp only [decide_eq_true_eq, decide_eq_false_iff_not, beq_iff_eq, bne_iff_ne, beq_eq_false_iff_ne, bne_eq_false_iff_eq, Bool.not_eq_true', Bool.not_eq_false', Bool.not_eq_true, ne_eq, Decidable.not_not, Bool.false_eq_true, if_false, if_true] at c23
        have hil : i < l[k].lines.length := by omega
        obtain ⟨b0, hb0⟩ := lines_some hrk.rdL (by omega)
        have hrl2 := hrk.rdL
        rw [hb0] at hrl2 ⊢
        have hrs := rowsT_succ l[k].pl i
        have hge : l[k].pl.lines[i]! = l[k].lines[i] := getElem!_pos l[k].lines i hil
        have hrl := rowsT_len l[k].pl i
        have hpa : (pre ++ rowsT l[k].pl i).length = pre.length + (rowsT l[k].pl i).length := List.length_append
        refine PW.skip ?_
        refine hK10 _ _ ?_
        refine PW.keep (T' := [(3, _), (5, _), (8, _), (9, _), (10, _), (20, _), (21, _), (22, _)]) ⟨rfl, rfl, rfl, rfl, rfl, rfl, rfl, rfl, trivial⟩ ?_
        refine PW.seq fun K11 hK11 => ?_
        refine PW.block ?_
        refine PW.seqOps ?_
        refine OL.dp rfl ?_
        refine OL.det trivial (Yields.ixN rfl rfl rfl hil) ?_
        refine OL.det trivial (Yields.ldA rfl (lineC_len _) (line_at hrl2.cons.cons hil)) ?_
        refine OL.cons trivial OW.al ?_
        rintro _ _ ⟨r7, rfl, rfl⟩
        refine OL.dp rfl ?_
        refine OL.cons trivial (line_st rfl rfl rfl) ?_
        rintro _ _ rfl
        change OL _ _ _ _ _ (lseg r7 l[k].lines[i] :: [(r5, .cells (itemC l[k]) 73 3)] :: sgi :: S) _
        refine OL.nil ?_
        refine PW.keep (T' := [(3, _), (5, _), (6, _), (7, _), (8, _), (9, _), (10, _), (20, _), (21, _), (22, _)]) ⟨rfl, rfl, rfl, rfl, rfl, rfl, rfl, rfl, rfl, rfl, trivial⟩ ?_
        refine PW.seq fun K12 hK12 => ?_
        refine PW.seqOps ?_
        refine OL.dp rfl ?_
        refine OL.det trivial (Yields.ld rfl (own_at (j := 1) (c := itemC l[k]) (E := 73) (tot := 3) (List.mem_flatten.2 ⟨_, .tail _ (.head _), List.mem_singleton.2 rfl⟩) rfl)) ?_
        refine OL.bool trivial (Yields.pure rfl) (fun g29 => ?_) (fun g29 => ?_)
        · try simp only [decide_eq_true_eq, decide_eq_false_iff_not, beq_iff_eq, bne_iff_ne, beq_eq_false_iff_ne, bne_eq_false_iff_eq, Bool.not_eq_true', Bool.not_eq_false', Bool.not_eq_true, ne_eq, Decidable.not_not, Bool.false_eq_true, if_false, if_true] at g29
          refine OL.det rfl (Yields.pure rfl) ?_
          refine OL.det rfl (Yields.ld rfl (own_at (j := 2) (c := itemC l[k]) (E := 73) (tot := 3) (List.mem_flatten.2 ⟨_, .tail _ (.head _), List.mem_singleton.2 rfl⟩) rfl)) ?_
          refine OL.det rfl (Yields.pure rfl) ?_
          refine OL.call rfl rfl (containsI_fc (hrk.rdM.cons.cons.cons) (by omega)) ?_
          rintro _ Sx ⟨rfl, hSx⟩
          rw [hSx]
          clear hSx
          refine OL.dp rfl ?_
          refine OL.nil ?_
          refine PW.keep (T' := [(3, _), (5, _), (7, _), (8, _), (9, _), (10, _), (20, _), (21, _), (22, _), (34, _)]) ⟨rfl, rfl, rfl, rfl, rfl, rfl, rfl, rfl, rfl, rfl, trivial⟩ ?_
          refine PW.cond rfl (fun c34 => ?_) (fun c34 => ?_)
          · skip
            refine PW.ops ?_
            refine OL.dp rfl ?_
            apply OL.app1 (k := 2)
            · rfl
            · rfl
            · rfl
            · rfl
            · rfl
            · rfl
            · exact hsi
            · rfl
            · omega
            · unfold maxLen; omega
            intro v37 seg37 hsl37
            have hsi2 := strs_snoc (l := pre ++ rowsT l[k].pl i) (z := middleB) hsl37
            refine OL.dp rfl ?_
            refine OL.nil ?_
            refine hK12 _ _ ?_
            refine PW.keep (T' := [(3, _), (5, _), (7, _), (8, _), (9, _), (10, _), (20, _), (21, _), (22, _)]) ⟨rfl, rfl, rfl, rfl, rfl, rfl, rfl, rfl, rfl, trivial⟩ ?_
            refine PW.ops ?_
            refine OL.dp rfl ?_
            refine OL.dp rfl ?_
            refine OL.det trivial (Yields.ld rfl (lcell_text (x := l[k].lines[i]) (E := 43) (tot := 35) (List.mem_flatten.2 ⟨_, .head _, List.mem_singleton.2 rfl⟩))) ?_
            apply OL.app1 (k := 2)
            · rfl
            · rfl
            · rfl
            · rfl
            · rfl
            · rfl
            · exact (by first | exact hsi2 | exact hsi)
            · rfl
            · (first | omega | (simp only [List.length_append, List.length_cons, List.length_nil] at *; omega))
            · unfold maxLen; (first | omega | (simp only [List.length_append, List.length_cons, List.length_nil] at *; omega))
            intro v42 seg42 hsl42
            refine OL.dp rfl ?_
            refine OL.nil ?_
            refine hK11 _ _ ?_
            refine PW.keep (T' := [(3, _), (5, _), (8, _), (9, _), (10, _), (20, _), (21, _), (22, _)]) ⟨rfl, rfl, rfl, rfl, rfl, rfl, rfl, rfl, trivial⟩ ?_
            refine PW.ops ?_
            refine OL.det trivial (Yields.add64 rfl rfl (by omega) (by omega)) ?_
            refine OL.dp rfl ?_
            refine OL.nil ?_
            repeat rw [inBlk_n]
            try rw [thenK_n]
            refine LoopEnd.mkS (Sub.drop (Sub.refl _)) (T'' := [(3, _), (5, _), (8, _), (9, _), (10, _), (20, _), (21, _), (22, _)]) ⟨rfl, rfl, rfl, rfl, rfl, rfl, rfl, rfl, trivial⟩ ?_
            rw [hb0]
            have he : pre ++ rowsT l[k].pl (i + 1) = pre ++ rowsT l[k].pl i ++ [middleB] ++ [l[k].lines[i].text] := by
              rw [hrs, hge, if_pos (by show (l[k].block && l[k].mids.contains (i : Int)) = true; rw [g29, c34]; rfl)]
              simp only [List.append_assoc]
            have := strs_snoc (z := l[k].lines[i].text) hsl42
            exact ⟨l[k].lines.length - (i + 1), by omega, i + 1, _, seg42, ⟨by omega, rfl, by rw [he]; exact this⟩, rfl, rfl⟩
          · skip
            refine PW.skip ?_
            refine hK12 _ _ ?_
            refine PW.keep (T' := [(3, _), (5, _), (7, _), (8, _), (9, _), (10, _), (20, _), (21, _), (22, _)]) ⟨rfl, rfl, rfl, rfl, rfl, rfl, rfl, rfl, rfl, trivial⟩ ?_
            refine PW.ops ?_
            refine OL.dp rfl ?_
            refine OL.dp rfl ?_
            refine OL.det trivial (Yields.ld rfl (lcell_text (x := l[k].lines[i]) (E := 43) (tot := 35) (List.mem_flatten.2 ⟨_, .head _, List.mem_singleton.2 rfl⟩))) ?_
            apply OL.app1 (k := 2)
            · rfl
            · rfl
            · rfl
            · rfl
            · rfl
            · rfl
            · exact (by first | exact hsi2 | exact hsi)
            · rfl
            · (first | omega | (simp only [List.length_append, List.length_cons, List.length_nil] at *; omega))
            · unfold maxLen; (first | omega | (simp only [List.length_append, List.length_cons, List.length_nil] at *; omega))
            intro v42 seg42 hsl42
            refine OL.dp rfl ?_
            refine OL.nil ?_
            refine hK11 _ _ ?_
            refine PW.keep (T' := [(3, _), (5, _), (8, _), (9, _), (10, _), (20, _), (21, _), (22, _)]) ⟨rfl, rfl, rfl, rfl, rfl, rfl, rfl, rfl, trivial⟩ ?_
            refine PW.ops ?_
            refine OL.det trivial (Yields.add64 rfl rfl (by omega) (by omega)) ?_
            refine OL.dp rfl ?_
            refine OL.nil ?_
            repeat rw [inBlk_n]
            try rw [thenK_n]
            refine LoopEnd.mkS (Sub.drop (Sub.refl _)) (T'' := [(3, _), (5, _), (8, _), (9, _), (10, _), (20, _), (21, _), (22, _)]) ⟨rfl, rfl, rfl, rfl, rfl, rfl, rfl, rfl, trivial⟩ ?_
            rw [hb0]
            have he : pre ++ rowsT l[k].pl (i + 1) = pre ++ rowsT l[k].pl i ++ [l[k].lines[i].text] := by
              rw [hrs, hge, if_neg (by show ¬ (l[k].block && l[k].mids.contains (i : Int)) = true; rw [g29, c34]; simp)]
              simp only [List.nil_append, List.append_assoc]
            have := strs_snoc (z := l[k].lines[i].text) hsl42
            exact ⟨l[k].lines.length - (i + 1), by omega, i + 1, _, seg42, ⟨by omega, rfl, by rw [he]; exact this⟩, rfl, rfl⟩
        · try simp only [decide_eq_true_eq, decide_eq_false_iff_not, beq_iff_eq, bne_iff_ne, beq_eq_false_iff_ne, bne_eq_false_iff_eq, Bool.not_eq_true', Bool.not_eq_false', Bool.not_eq_true, ne_eq, Decidable.not_not, Bool.false_eq_true, if_false, if_true] at g29
          refine OL.off rfl rfl ?_
          refine OL.off rfl rfl ?_
          refine OL.off rfl rfl ?_
          refine OL.off rfl rfl ?_
          refine OL.dp rfl ?_
          refine OL.nil ?_
          refine PW.keep (T' := [(3, _), (5, _), (7, _), (8, _), (9, _), (10, _), (20, _), (21, _), (22, _), (34, _)]) ⟨rfl, rfl, rfl, rfl, rfl, rfl, rfl, rfl, rfl, rfl, trivial⟩ ?_
          refine PW.ite (b := false) rfl ?_
          rw [if_neg Bool.false_ne_true]
          refine PW.skip ?_
          refine hK12 _ _ ?_
          refine PW.keep (T' := [(3, _), (5, _), (7, _), (8, _), (9, _), (10, _), (20, _), (21, _), (22, _)]) ⟨rfl, rfl, rfl, rfl, rfl, rfl, rfl, rfl, rfl, trivial⟩ ?_
          refine PW.ops ?_
          refine OL.dp rfl ?_
          refine OL.dp rfl ?_
          refine OL.det trivial (Yields.ld rfl (lcell_text (x := l[k].lines[i]) (E := 43) (tot := 35) (List.mem_flatten.2 ⟨_, .head _, List.mem_singleton.2 rfl⟩))) ?_
          apply OL.app1 (k := 2)
          · rfl
          · rfl
          · rfl
          · rfl
          · rfl
          · rfl
          · exact (by first | exact hsi2 | exact hsi)
          · rfl
          · (first | omega | (simp only [List.length_append, List.length_cons, List.length_nil] at *; omega))
          · unfold maxLen; (first | omega | (simp only [List.length_append, List.length_cons, List.length_nil] at *; omega))
          intro v42 seg42 hsl42
          refine OL.dp rfl ?_
          refine OL.nil ?_
          refine hK11 _ _ ?_
          refine PW.keep (T' := [(3, _), (5, _), (8, _), (9, _), (10, _), (20, _), (21, _), (22, _)]) ⟨rfl, rfl, rfl, rfl, rfl, rfl, rfl, rfl, trivial⟩ ?_
          refine PW.ops ?_
          refine OL.det trivial (Yields.add64 rfl rfl (by omega) (by omega)) ?_
          refine OL.dp rfl ?_
          refine OL.nil ?_
          repeat rw [inBlk_n]
          try rw [thenK_n]
          refine LoopEnd.mkS (Sub.drop (Sub.refl _)) (T'' := [(3, _), (5, _), (8, _), (9, _), (10, _), (20, _), (21, _), (22, _)]) ⟨rfl, rfl, rfl, rfl, rfl, rfl, rfl, rfl, trivial⟩ ?_
          rw [hb0]
          have he : pre ++ rowsT l[k].pl (i + 1) = pre ++ rowsT l[k].pl i ++ [l[k].lines[i].text] := by
            rw [hrs, hge, if_neg (by show ¬ (l[k].block && l[k].mids.contains (i : Int)) = true; rw [g29]; simp)]
            simp only [List.nil_append, List.append_assoc]
          have := strs_snoc (z := l[k].lines[i].text) hsl42
          exact ⟨l[k].lines.length - (i + 1), by omega, i + 1, _, seg42, ⟨by omega, rfl, by rw [he]; exact this⟩, rfl, rfl⟩
      · try simp only [decide_eq_true_eq, decide_eq_false_iff_not, beq_iff_eq, bne_iff_ne, beq_eq_false_iff_ne, bne_eq_false_iff_eq, Bool.not_eq_true', Bool.not_eq_false', Bool.not_eq_true, ne_eq, Decidable.not_not, Bool.false_eq_true, if_false, if_true] at c23
        have hie : i = l[k].lines.length := by omega
        have hpg := pli_get hkl
        have hts := textI_snoc (l := pli l) (k := k) (by omega)
        rw [hpg] at hts
        unfold oneT at hts
        have hts : textI ((pli l).take (k + 1)) = textI ((pli l).take k) ++ ((if l[k].block = true then [beginB] else []) ++ rowsT l[k].pl l[k].lines.length ++ (if l[k].block = true then [closeB] else [])) := hts
        have hrl := rowsT_len l[k].pl i
        have hpa : (pre ++ rowsT l[k].pl i).length = pre.length + (rowsT l[k].pl i).length := List.length_append
        refine PW.exit ?_
        refine hK9 _ _ ?_
        refine PW.keep (T' := [(3, _), (5, _), (8, _), (9, _), (10, _)]) ⟨rfl, rfl, rfl, rfl, rfl, trivial⟩ ?_
        refine PW.seqOps ?_
        refine OL.dp rfl ?_
        refine OL.det trivial (Yields.ld rfl (own_at (j := 1) (c := itemC l[k]) (E := 73) (tot := 3) (List.mem_flatten.2 ⟨_, .head _, List.mem_singleton.2 rfl⟩) rfl)) ?_
        refine OL.nil ?_
        refine PW.keep (T' := [(3, _), (8, _), (9, _), (10, _), (45, _)]) ⟨rfl, rfl, rfl, rfl, rfl, trivial⟩ ?_
        refine PW.cond rfl (fun c45 => ?_) (fun c45 => ?_)
        · skip
          refine PW.ops ?_
          refine OL.dp rfl ?_
          apply OL.app1 (k := 1)
          · rfl
          · rfl
          · rfl
          · rfl
          · rfl
          · rfl
          · exact hsi
          · rfl
          · omega
          · unfold maxLen; omega
          intro v48 seg48 hsl48
          refine OL.dp rfl ?_
          refine OL.nil ?_
          refine hK3 _ _ ?_
          refine PW.keep (T' := [(3, _), (8, _), (9, _), (10, _)]) ⟨rfl, rfl, rfl, rfl, trivial⟩ ?_
          refine PW.ops ?_
          refine OL.det trivial (Yields.add64 rfl rfl (by omega) (by omega)) ?_
          refine OL.dp rfl ?_
          refine OL.nil ?_
          repeat rw [inBlk_n]
          try rw [thenK_n]
          refine LoopEnd.mkS (Sub.drop (Sub.refl _)) (T'' := [(3, _), (8, _), (9, _), (10, _)]) ⟨rfl, rfl, rfl, rfl, trivial⟩ ?_
          have he : textI ((pli l).take (k + 1)) = pre ++ rowsT l[k].pl i ++ [closeB] := by
            rw [hts, hpre, hie]
            simp only [c45, if_true, List.append_assoc]
          have := strs_snoc (z := closeB) hsl48
          exact ⟨l.length - (k + 1), by omega, k + 1, _, seg48, ⟨by omega, rfl, by rw [he]; exact this⟩, rfl, rfl⟩
        · skip
          refine PW.skip ?_
          refine hK3 _ _ ?_
          refine PW.keep (T' := [(3, _), (8, _), (9, _), (10, _)]) ⟨rfl, rfl, rfl, rfl, trivial⟩ ?_
          refine PW.ops ?_
          refine OL.det trivial (Yields.add64 rfl rfl (by omega) (by omega)) ?_
          refine OL.dp rfl ?_
          refine OL.nil ?_
          repeat rw [inBlk_n]
          try rw [thenK_n]
          refine LoopEnd.mkS (Sub.drop (Sub.refl _)) (T'' := [(3, _), (8, _), (9, _), (10, _)]) ⟨rfl, rfl, rfl, rfl, trivial⟩ ?_
          have he : textI ((pli l).take (k + 1)) = pre ++ rowsT l[k].pl i := by
            rw [hts, hpre, hie]
            simp only [c45, Bool.false_eq_true, if_false, List.append_nil, List.nil_append, List.append_assoc]
          exact ⟨l.length - (k + 1), by omega, k + 1, vi, sgi, ⟨by omega, rfl, by rw [he]; exact hsi⟩, rfl, rfl⟩
  · try simp only [decide_eq_true_eq, decide_eq_false_iff_not, beq_iff_eq, bne_iff_ne, beq_eq_false_iff_ne, bne_eq_false_iff_eq, Bool.not_eq_true', Bool.not_eq_false', Bool.not_eq_true, ne_eq, Decidable.not_not, Bool.false_eq_true, if_false, if_true] at c11
    refine PW.exit ?_
    refine hK1 _ _ ?_
    refine PW.keep (T' := [(3, _)]) ⟨rfl, trivial⟩ ?_
    refine PW.seqOps ?_
    refine OL.dp rfl ?_
    refine OL.dp rfl ?_
    refine OL.nil ?_
    refine PW.keep (T' := [(2, _)]) ⟨rfl, trivial⟩ ?_
    refine PW.ret ?_
    change (Exit.ret = Exit.normal ∨ Exit.ret = Exit.ret) ∧ ∃ v, resV _ _ = some v ∧ _
    have hke : k = (pli l).length := by omega
    rw [hke, List.take_length] at hso
    have := textI_len hNL (pli l).length (Nat.le_refl _)
    rw [List.take_length] at this
    exact ⟨.inr rfl, _, rfl, _, Sub.refl _, sgo, rfl, hso, by omega⟩
end Go.Proofs.Gr

set_option linter.unusedVariables false
set_option linter.unusedSimpArgs false
namespace Go.Proofs.Gr
open Go.SL Go.RowKit Go.Proofs Go.GP
set_option maxHeartbeats 1000000
/-- a part of lines alone -/
def mkP (b : UInt8) (up down : Vtx) (A : Option Addr) (c : Nat) (l : List ByteArray) : PartM := ⟨hb1 b, 0, 0, up, down, A, c, l, none, 0, []⟩
def zP : List Value := List.replicate 32 (.int .u8 0) ++ [.int .i64 0, .int .i64 0] ++ vtxL v0 ++ vtxL v0 ++ [.slice none 0 0, .slice none 0 0]
theorem setMid {a b c d e : List Value} {n : Nat} (h : c = a ++ (b ++ d)) (ha : a.length = n) (hb : b.length = e.length) : setAt c n e = a ++ (e ++ d) := by
  subst h
  rw [setAt_eq _ _ _ (by simp only [List.length_append]; omega), List.take_append_of_le_length (by omega), List.take_of_length_le (by omega), List.drop_append, List.drop_eq_nil_of_le (by omega), List.drop_append, List.drop_eq_nil_of_le (by omega), show n + e.length - a.length - b.length = 0 by omega]
  simp
theorem fill_part {T : TT} {b : UInt8} {up down : Vtx} {A : Option Addr} {c : Nat} {l : List ByteArray} {x y z w : PV} (h1 : x.val T = some (.agg (bytesC (hb1 b).1).toArray)) (h2 : y.val T = some (vtxV up)) (h3 : z.val T = some (vtxV down)) (h4 : w.val T = some (.slice A l.length c)) :
    fillP T zP [(0, 32, x), (34, 33, y), (67, 33, z), (100, 1, w)] = some (partC (mkP b up down A c l)) := by
  have hb := hb_len (hb1 b)
  have hu := vtxL_len up
  have hd := vtxL_len down
  have h0 := vtxL_len v0
  obtain ⟨N, hN⟩ : ∃ N : List Value, N = [.int .i64 0, .int .i64 0] := ⟨_, rfl⟩
  obtain ⟨Z, hZ⟩ : ∃ Z : List Value, Z = [.slice none 0 0, .slice none 0 0] := ⟨_, rfl⟩
  have e0 : zP = [] ++ (List.replicate 32 (.int .u8 0) ++ (N ++ (vtxL v0 ++ (vtxL v0 ++ Z)))) := by rw [hN, hZ]; unfold zP; simp only [List.append_assoc, List.nil_append]
  have hr : (List.replicate 32 (Value.int .u8 0)).length = (bytesC (hb1 b).1).length := by rw [hb, List.length_replicate]
  have s1 : setAt zP 0 (bytesC (hb1 b).1) = bytesC (hb1 b).1 ++ (N ++ (vtxL v0 ++ (vtxL v0 ++ Z))) := by
    have := setMid (n := 0) e0 rfl hr
    simpa only [List.nil_append] using this
  have hNl : N.length = 2 := by rw [hN]; rfl
  have s2 : setAt (bytesC (hb1 b).1 ++ (N ++ (vtxL v0 ++ (vtxL v0 ++ Z)))) 34 (vtxL up) = bytesC (hb1 b).1 ++ (N ++ (vtxL up ++ (vtxL v0 ++ Z))) := by
    have := setMid (a := bytesC (hb1 b).1 ++ N) (b := vtxL v0) (c := bytesC (hb1 b).1 ++ (N ++ (vtxL v0 ++ (vtxL v0 ++ Z)))) (d := vtxL v0 ++ Z) (e := vtxL up) (n := 34) (by simp only [List.append_assoc]) (by rw [List.length_append, hb, hNl]) (by omega)
    simpa only [List.append_assoc] using this
  have s3 : setAt (bytesC (hb1 b).1 ++ (N ++ (vtxL up ++ (vtxL v0 ++ Z)))) 67 (vtxL down) = bytesC (hb1 b).1 ++ (N ++ (vtxL up ++ (vtxL down ++ Z))) := by
    have := setMid (a := bytesC (hb1 b).1 ++ N ++ vtxL up) (b := vtxL v0) (c := bytesC (hb1 b).1 ++ (N ++ (vtxL up ++ (vtxL v0 ++ Z)))) (d := Z) (e := vtxL down) (n := 67) (by simp only [List.append_assoc]) (by simp only [List.length_append]; omega) (by omega)
    simpa only [List.append_assoc] using this
  have s4 : setAt (bytesC (hb1 b).1 ++ (N ++ (vtxL up ++ (vtxL down ++ Z)))) 100 [.slice A l.length c] = bytesC (hb1 b).1 ++ (N ++ (vtxL up ++ (vtxL down ++ ([.slice A l.length c] ++ [.slice none 0 0])))) := by
    have := setMid (a := bytesC (hb1 b).1 ++ N ++ vtxL up ++ vtxL down) (b := [Value.slice none 0 0]) (c := bytesC (hb1 b).1 ++ (N ++ (vtxL up ++ (vtxL down ++ Z)))) (d := [.slice none 0 0]) (e := [.slice A l.length c]) (n := 100) (by rw [hZ]; simp only [List.append_assoc]; rfl) (by simp only [List.length_append]; omega) rfl
    simpa only [List.append_assoc] using this
  have hzl : zP.length = 102 := by rw [e0]; simp only [List.length_append, List.length_replicate, List.length_nil, hNl, h0, hZ]; rfl
  have l1 : (bytesC (hb1 b).1 ++ (N ++ (vtxL v0 ++ (vtxL v0 ++ Z)))).length = 102 := by simp only [List.length_append, hb, hNl, h0, hZ]; rfl
  have l2 : (bytesC (hb1 b).1 ++ (N ++ (vtxL up ++ (vtxL v0 ++ Z)))).length = 102 := by simp only [List.length_append, hb, hNl, h0, hu, hZ]; rfl
  have l3 : (bytesC (hb1 b).1 ++ (N ++ (vtxL up ++ (vtxL down ++ Z)))).length = 102 := by simp only [List.length_append, hb, hNl, hd, hu, hZ]; rfl
  simp only [fillP, h1, h2, h3, h4]
  rw [if_pos ⟨(List.size_toArray).trans hb, by omega⟩]
  rw [show (Value.agg (bytesC (hb1 b).1).toArray).cells.toList = bytesC (hb1 b).1 from rfl, s1, if_pos ⟨(List.size_toArray).trans hu, by omega⟩]
  rw [show (vtxV up).cells.toList = vtxL up from rfl, s2, if_pos ⟨(List.size_toArray).trans hd, by omega⟩]
  rw [show (vtxV down).cells.toList = vtxL down from rfl, s3, if_pos ⟨rfl, by omega⟩]
  rw [show (Value.slice A l.length c).cells.toList = [.slice A l.length c] from rfl, s4]
  rw [partC_split, hN]
  rfl
theorem part_fc {w0 : World} {S : SS} {b : UInt8} {up down : Vtx} {A : Option Addr} {c : Nat} {l : List ByteArray} : FC Try.prog w0 42 [.int .u8 (b.toNat : Int), vtxV up, vtxV down, .slice A l.length c] S (fun v S' => v = partV (mkP b up down A c l) ∧ S' = S) := by
  refine FC.ofC Try.known42 (by simp) ?_
  unfold Try.pc42
  simp only [argT]
  refine PW.seqOps ?_
  refine OL.cons trivial (OW.bx rfl) ?_
  rintro _ _ ⟨r5, rfl, rfl⟩
  rw [vtx_box, vtxL_len]
  refine OL.cons trivial (OW.bx rfl) ?_
  rintro _ _ ⟨r6, rfl, rfl⟩
  rw [vtx_box, vtxL_len]
  refine OL.cons trivial OW.al ?_
  rintro _ _ ⟨r8, rfl, rfl⟩
  refine OL.nil ?_
  refine PW.keep (T' := [(0, _), (3, _), (5, _), (6, _), (8, _)]) ⟨rfl, rfl, rfl, rfl, rfl, trivial⟩ ?_
  refine PW.seqOps ?_
  refine OL.dp rfl ?_
  refine OL.det trivial (Yields.bldA (cs := bytesC (hb1 b).1) rfl) ?_
  refine OL.det trivial (Yields.ldA rfl (vtxL_len _) (all_at (List.mem_flatten.2 ⟨_, .tail _ (.tail _ (.head _)), List.mem_singleton.2 rfl⟩))) ?_
  refine OL.det trivial (Yields.ldA rfl (vtxL_len _) (all_at (List.mem_flatten.2 ⟨_, .tail _ (.head _), List.mem_singleton.2 rfl⟩))) ?_
  refine OL.dp rfl ?_
  refine OL.det trivial (Yields.build (fill_part rfl rfl rfl rfl)) ?_
  refine OL.cons trivial (part_stk (k := 0) (u := mkP b up down A c l) rfl rfl rfl rfl) ?_
  rintro _ _ rfl
  refine OL.nil ?_
  refine PW.keep (T' := [(8, _)]) ⟨rfl, trivial⟩ ?_
  refine PW.ret ?_
  change (Exit.ret = Exit.normal ∨ Exit.ret = Exit.ret) ∧ ∃ a v, Go.SL.look _ _ = some (.pointer (some a)) ∧ ReadsAs _ _ _ _ _ ∧ _
  exact ⟨.inr rfl, _, _, rfl, part_read (r := r8) (u := mkP b up down A c l) (E := 36) (tot := 102) (List.mem_flatten.2 ⟨_, .head _, List.mem_singleton.2 rfl⟩), _, Sub.drop (Sub.drop (Sub.drop (Sub.refl _))), rfl, rfl⟩
theorem mkP_rd {w0 : World} {S : SS} {b : UInt8} {up down : Vtx} {r n : Nat} {l : List ByteArray} (h : [(r, AO.cells (strs l) 9 n)] ∈ S) (hu : okV up) (hd : okV down) (hl : l.length ≤ 100) : PartRd w0 S (mkP b up down (some ⟨r, 0, none⟩) l.length l) :=
  ⟨Rd.own (E := 9) (tot := n) (List.mem_flatten.2 ⟨_, h, List.mem_singleton.2 rfl⟩), Rd.nil, ⟨(show (-9223372036854775808 : Int) ≤ 0 ∧ (0 : Int) ≤ 9223372036854775807 by decide), (show (-9223372036854775808 : Int) ≤ 0 ∧ (0 : Int) ≤ 4611686018427387904 by decide), Nat.le_trans hl (by decide), Nat.zero_le _, Nat.le_refl _, fun _ => rfl, hu, hd, fun v hv => by cases hv⟩, hl, Nat.zero_le _⟩
theorem vtx_stk {w0 : World} {S : SS} {P : Program} {n r k : Nat} {T : TT} {x v : PV} {u : Vtx} {z : List Value} (hk : S[k]? = some [(r, .cells z 32 33)]) (hx : x.val T = some (.pointer (some ⟨r, 0, none⟩))) (hv : v.val T = some (vtxV u)) (hz : z.length = 33) :
    OW P w0 n (.st 33 x v) T S (fun _ S' => S' = S.set k (vseg r u)) := by
  refine (OW.st (k := k) (c := z) (u := vtxV u) hx hv hk ((List.size_toArray).trans (vtxL_len u)) (by omega) (vtxL_one u)).mono ?_
  rintro _ _ rfl
  rw [vtx_box, setAll (by rw [vtxL_len, hz])]
def va : Vtx := (hb1 1, 0)
def vb : Vtx := (hb1 1, 1)
theorem okVa : okV va := by unfold okV va; decide
theorem okVb : okV vb := by unfold okV vb; decide
def k1 : PartP := (mkP 1 rootV endV none 0 [str1 97, str1 98]).pl
def kx : PartP := (mkP 2 va vb none 0 [str1 120]).pl
def ky : PartP := (mkP 3 va vb none 0 [str1 121]).pl
theorem okRoot : okV rootV := by unfold okV; decide
theorem okEnd : okV endV := by unfold okV; decide
theorem GG.n100 {w0 : World} {X : SS} {m : GrM} {ps : List PartP} (h : GG w0 X m ps) {p : PartP} (hn : newC ps p = true) : addE m.gr p = 0 ∧ came ps p = p :: ps := by
  have hnew := newC_new h.sq ⟨_, h.inv⟩ hn
  exact ⟨(addE_zero h.inv h.sq).2 hnew, came_new hnew⟩
/-- a part that can come, of rows that lie ahead of the graph -/
theorem addF_fc {w0 : World} {S : SS} {s : Seg} {m : GrM} {ps : List PartP} {p : PartM} (h : GG w0 [] m ps) (hp : PartRd w0 (s :: S) p) (hn : newC ps p.pl = true) (hc : (allV ps).length + ps.length + p.lines.length + 1 ≤ 1000000) (hlim : m.lim + addL p ≤ 500000000000) :
    FC Try.prog w0 16 [m.ptr, partV p] (s :: (GS m ++ S)) (fun v S' => ∃ m', v = .int .i64 0 ∧ S' = GS m' ++ (s :: S) ∧ GG w0 [] m' (p.pl :: ps) ∧ m'.lim ≤ m.lim + addL p ∧ m'.r = m.r) := by
  refine (FC.subS gs_a (add2_fc (S := s :: S) h over_nil hp.rng hp.rdL hp.rdG hc hlim)).mono ?_
  rintro _ _ ⟨m1, rfl, rfl, hg1, hl1, hr1, _⟩
  obtain ⟨hz, hcm⟩ := h.n100 hn
  rw [hcm] at hg1
  exact ⟨m1, by rw [hz], rfl, hg1, hl1, hr1⟩
theorem base_fc {w0 : World} {S : SS} : FC Try.prog w0 41 [] S (fun v S' => ∃ m, v = .tuple #[m.ptr, vtxV va, vtxV vb] ∧ S' = GS m ++ S ∧ GG w0 [] m [k1] ∧ m.lim ≤ 100) := by
  refine FC.ofTCC Try.known41 (by simp) ?_
  unfold Try.pc41
  simp only [argT]
  refine PW.seqOps ?_
  refine OL.dp rfl ?_
  refine OL.cons trivial OW.al ?_
  rintro _ _ ⟨r1, rfl, rfl⟩
  refine OL.cons trivial OW.al ?_
  rintro _ _ ⟨r2, rfl, rfl⟩
  refine OL.nil ?_
  refine PW.keep (T' := [(1, _), (2, _)]) ⟨rfl, rfl, trivial⟩ ?_
  refine PW.seqOps ?_
  refine OL.call trivial rfl (new_fc (X := [])) ?_
  rintro _ _ ⟨m0, rfl, rfl, hm0, hg0, hl0⟩
  have hgg : GG w0 [] m0 [] := ⟨hm0, by rw [hg0]; exact GP.Inv.nil, Sq.nil, by simp [allV], by omega⟩
  refine OL.dp rfl ?_
  refine OL.nil ?_
  refine PW.keep (T' := [(1, _), (2, _), (3, _)]) ⟨rfl, rfl, rfl, trivial⟩ ?_
  refine PW.seqOps ?_
  refine OL.dp rfl ?_
  refine OL.det trivial (Yields.build (cs := vtxL rootV) rfl) ?_
  refine OL.det trivial (Yields.build (cs := vtxL endV) rfl) ?_
  refine OL.cons trivial (OW.bsl (cs := strs [str1 97, str1 98]) rfl) ?_
  rintro _ _ ⟨r8, rfl, rfl⟩
  refine OL.call trivial rfl (part_fc (b := 1) (up := rootV) (down := endV) (l := [str1 97, str1 98])) ?_
  rintro _ Sx ⟨rfl, hSx⟩
  rw [hSx]
  clear hSx
  have hpr : ∀ Z, PartRd w0 ([(r8, .cells (strs [str1 97, str1 98]) 9 2)] :: Z) (mkP 1 rootV endV (some ⟨r8, 0, none⟩) 2 [str1 97, str1 98]) := fun Z => mkP_rd (n := 2) (r := r8) (l := [str1 97, str1 98]) (.head _) okRoot okEnd (show 2 ≤ 100 by decide)
  refine OL.call trivial rfl (addF_fc hgg (hpr _) (show newC [] k1 = true by decide +kernel) (show 3 ≤ 1000000 by decide) (by rw [hl0]; exact (show 0 + 5 ≤ 500000000000 by decide))) ?_
  rintro _ _ ⟨m1, rfl, rfl, hg1, hl1, hr1⟩
  have hl1 : m1.lim ≤ m0.lim + 5 := hl1
  refine OL.nil ?_
  refine PW.keep (T' := [(1, _), (2, _), (3, _)]) ⟨rfl, rfl, rfl, trivial⟩ ?_
  refine PW.seqOps ?_
  refine OL.dp rfl ?_
  refine OL.det trivial (Yields.bldA (cs := bytesC (hb1 1).1) rfl) ?_
  refine OL.det trivial (Yields.build (cs := vtxL va) rfl) ?_
  refine OL.det trivial (Yields.bldA (cs := bytesC (hb1 1).1) rfl) ?_
  refine OL.det trivial (Yields.build (cs := vtxL vb) rfl) ?_
  refine OL.dp rfl ?_
  refine OL.cons trivial (vtx_stk (k := 6) (u := va) rfl rfl rfl rfl) ?_
  rintro _ _ rfl
  refine OL.cons trivial (vtx_stk (k := 5) (u := vb) rfl rfl rfl rfl) ?_
  rintro _ _ rfl
  refine OL.nil ?_
  refine PW.keep (T' := [(0, _), (1, _), (2, _)]) ⟨rfl, rfl, rfl, trivial⟩ ?_
  refine PW.ret ?_
  change (Exit.ret = Exit.normal ∨ Exit.ret = Exit.ret) ∧ ∃ x a v b u, Go.SL.look _ _ = some x ∧ Go.SL.look _ _ = some (.pointer (some a)) ∧ ReadsAs _ _ _ _ _ ∧ Go.SL.look _ _ = some (.pointer (some b)) ∧ ReadsAs _ _ _ _ _ ∧ _
  exact ⟨.inr rfl, _, _, _, _, _, rfl, rfl, vtx_read (r := r1) (v := va) (E := 32) (tot := 33) (List.mem_flatten.2 ⟨_, .tail _ (.tail _ (.tail _ (.tail _ (.tail _ (.tail _ (.head _)))))), List.mem_singleton.2 rfl⟩), rfl, vtx_read (r := r2) (v := vb) (E := 32) (tot := 33) (List.mem_flatten.2 ⟨_, .tail _ (.tail _ (.tail _ (.tail _ (.tail _ (.head _))))), List.mem_singleton.2 rfl⟩), _, Sub.sel [0, 1, 2, 3] 7 (by decide) (GS m1 ++ (_ :: _ :: _ :: S)), m1, by rw [ptr_eq hr1], rfl, hg1, by omega⟩
theorem items_text {its : List ItemM} {ps : List PartP} {T : List ByteArray} (hm : its.map ItemM.pl = itemsP ps) (hc : ((allV ps).all fun a => closedB (allE ps) a) = true) (ht : textI (itemsF (befC ps) (live (linesP ps))) = T) : textI (pli its) = T := by
  unfold pli
  rw [hm, items_comp hc, ht]
theorem items_blocks {its : List ItemM} {ps : List PartP} {B : List Bool} (hm : its.map ItemM.pl = itemsP ps) (hc : ((allV ps).all fun a => closedB (allE ps) a) = true) (ht : (itemsF (befC ps) (live (linesP ps))).map (·.block) = B) : its.map (·.block) = B := by
  have : its.map (·.block) = (its.map ItemM.pl).map (·.block) := by rw [List.map_map]; rfl
  rw [this, hm, items_comp hc, ht]
theorem any_map {its : List ItemM} : its.any (·.block) = (its.map (·.block)).any id := by rw [List.any_map]; rfl
def workT : List ByteArray := [str1 97, beginB, str1 120, middleB, str1 121, closeB, str1 98]
theorem new_kx : newC [k1] kx = true := by decide +kernel
theorem new_ky : newC [kx, k1] ky = true := by decide +kernel
theorem closed3 : ((allV [ky, kx, k1]).all fun a => closedB (allE [ky, kx, k1]) a) = true := by decide +kernel
theorem text3 : textI (itemsF (befC [ky, kx, k1]) (live (linesP [ky, kx, k1]))) = workT := by decide +kernel
theorem blocks3 : (itemsF (befC [ky, kx, k1]) (live (linesP [ky, kx, k1]))).map (·.block) = [false, true, false] := by decide +kernel
theorem works_fc {w0 : World} {S : SS} : FC Try.prog w0 31 [] S (fun v S' => v = .bool true ∧ S' = S) := by
  refine FC.ofD Try.known31 (by simp) ?_
  unfold Try.pc31
  simp only [argT]
  refine PW.seqOps ?_
  refine OL.dp rfl ?_
  refine OL.nil ?_
  refine PW.keep (T' := []) trivial ?_
  refine PW.seqOps ?_
  refine OL.call trivial rfl (base_fc) ?_
  rintro _ _ ⟨m, rfl, rfl, hg, hl⟩
  refine OL.dp rfl ?_
  refine OL.dp rfl ?_
  refine OL.dp rfl ?_
  refine OL.dp rfl ?_
  refine OL.cons trivial OW.al ?_
  rintro _ _ ⟨r2, rfl, rfl⟩
  refine OL.cons trivial OW.al ?_
  rintro _ _ ⟨r3, rfl, rfl⟩
  refine OL.dp rfl ?_
  refine OL.cons trivial (vtx_stk (k := 1) (u := va) rfl rfl rfl rfl) ?_
  rintro _ _ rfl
  refine OL.cons trivial (vtx_stk (k := 0) (u := vb) rfl rfl rfl rfl) ?_
  rintro _ _ rfl
  refine OL.subS (S' := GS m ++ (vseg r3 vb :: vseg r2 va :: S)) (Sub.sel [2, 3, 4, 5, 0, 1] 6 (by decide) (vseg r3 vb :: vseg r2 va :: (GS m ++ S))) ?_
  refine OL.nil ?_
  refine PW.keep (T' := [(1, _), (2, _), (3, _)]) ⟨rfl, rfl, rfl, trivial⟩ ?_
  refine PW.seqOps ?_
  refine OL.dp rfl ?_
  refine OL.det trivial (Yields.ldA rfl (vtxL_len _) (all_at (List.mem_flatten.2 ⟨_, .tail _ (.tail _ (.tail _ (.tail _ (.tail _ (.head _))))), List.mem_singleton.2 rfl⟩))) ?_
  refine OL.det trivial (Yields.ldA rfl (vtxL_len _) (all_at (List.mem_flatten.2 ⟨_, .tail _ (.tail _ (.tail _ (.tail _ (.head _)))), List.mem_singleton.2 rfl⟩))) ?_
  refine OL.cons trivial (OW.bsl (cs := strs [str1 120]) rfl) ?_
  rintro _ _ ⟨r15, rfl, rfl⟩
  refine OL.call trivial rfl (part_fc (b := 2) (up := va) (down := vb) (l := [str1 120])) ?_
  rintro _ Sx ⟨rfl, hSx⟩
  rw [hSx]
  clear hSx
  have hpx : ∀ Z, PartRd w0 ([(r15, .cells (strs [str1 120]) 9 1)] :: Z) (mkP 2 va vb (some ⟨r15, 0, none⟩) 1 [str1 120]) := fun Z => mkP_rd (n := 1) (r := r15) (l := [str1 120]) (.head _) okVa okVb (show 1 ≤ 100 by decide)
  refine OL.call trivial rfl (addF_fc hg (hpx _) new_kx (show 5 ≤ 1000000 by decide) (Nat.le_trans (Nat.add_le_add_right hl 4) (by decide))) ?_
  rintro _ _ ⟨m1, rfl, rfl, hg1, hl1, hr1⟩
  have hl1 : m1.lim ≤ m.lim + 4 := hl1
  change GG w0 [] m1 [kx, k1] at hg1
  refine OL.dp rfl ?_
  refine OL.nil ?_
  refine PW.keep (T' := [(1, _), (2, _), (3, _), (4, _)]) ⟨rfl, rfl, rfl, rfl, trivial⟩ ?_
  refine PW.seqOps ?_
  refine OL.dp rfl ?_
  refine OL.det trivial (Yields.ldA rfl (vtxL_len _) (all_at (List.mem_flatten.2 ⟨_, .tail _ (.tail _ (.tail _ (.tail _ (.tail _ (.tail _ (.head _)))))), List.mem_singleton.2 rfl⟩))) ?_
  refine OL.det trivial (Yields.ldA rfl (vtxL_len _) (all_at (List.mem_flatten.2 ⟨_, .tail _ (.tail _ (.tail _ (.tail _ (.tail _ (.head _))))), List.mem_singleton.2 rfl⟩))) ?_
  refine OL.cons trivial (OW.bsl (cs := strs [str1 121]) rfl) ?_
  rintro _ _ ⟨r21, rfl, rfl⟩
  refine OL.call trivial rfl (part_fc (b := 3) (up := va) (down := vb) (l := [str1 121])) ?_
  rintro _ Sx ⟨rfl, hSx⟩
  rw [hSx]
  clear hSx
  have hpy : ∀ Z, PartRd w0 ([(r21, .cells (strs [str1 121]) 9 1)] :: Z) (mkP 3 va vb (some ⟨r21, 0, none⟩) 1 [str1 121]) := fun Z => mkP_rd (n := 1) (r := r21) (l := [str1 121]) (.head _) okVa okVb (show 1 ≤ 100 by decide)
  refine OL.call trivial rfl (by rw [← ptr_eq hr1]; exact addF_fc hg1 (hpy _) new_ky (show 7 ≤ 1000000 by decide) (Nat.le_trans (Nat.add_le_add_right (Nat.le_trans hl1 (Nat.add_le_add_right hl 4)) 4) (by decide))) ?_
  rintro _ _ ⟨m2, rfl, rfl, hg2, hl2, hr2⟩
  change GG w0 [] m2 [ky, kx, k1] at hg2
  refine OL.dp rfl ?_
  refine OL.nil ?_
  refine PW.keep (T' := [(1, _), (4, _), (5, _)]) ⟨rfl, rfl, rfl, trivial⟩ ?_
  refine PW.seqOps ?_
  refine OL.dp rfl ?_
  refine OL.call trivial rfl (by rw [← ptr_eq (hr2.trans hr1)]; exact items_fc hg2 over_nil (by decide +kernel)) ?_
  rintro v25 _ ⟨its, segi, junk, rfl, hmap, hsi, hio, hitn⟩
  have htx := items_text hmap closed3 text3
  have hbl := items_blocks hmap closed3 blocks3
  obtain ⟨Ai, ci, rfl, hni, hci, hri⟩ := slv_rdL (w0 := w0) hsi
  have hlen : its.length = 3 := by have := congrArg List.length hbl; rw [List.length_map] at this; exact this
  obtain ⟨ai, rfl⟩ := itemS_some (hri []) (by omega)
  have hb1 : (its[1]'(by omega)).block = true := by
    have := List.getElem_map (·.block) (l := its) (i := 1) (h := by rw [hbl]; decide)
    rw [← this]
    simp only [hbl]
    rfl
  have hany : its.any (·.block) = true := by rw [any_map, hbl]; rfl
  refine OL.dp rfl ?_
  refine OL.nil ?_
  refine PW.keep (T' := [(4, _), (5, _), (6, _)]) ⟨rfl, rfl, rfl, trivial⟩ ?_
  refine PW.seqOps ?_
  refine OL.dp rfl ?_
  refine OL.det trivial (Yields.to (v' := .bool true) (Yields.pure rfl) (by rfl)) ?_
  refine OL.dp rfl ?_
  refine OL.det rfl (Yields.pure rfl) ?_
  refine OL.det rfl (Yields.to (v' := .bool true) (Yields.pure rfl) (by rfl)) ?_
  refine OL.dp rfl ?_
  refine OL.dp rfl ?_
  refine OL.det rfl (Yields.pure rfl) ?_
  refine OL.det rfl (Yields.pure rfl) ?_
  refine OL.det rfl (Yields.to (v' := .bool true) (Yields.pure rfl) (by rw [hlen]; rfl)) ?_
  refine OL.dp rfl ?_
  refine OL.dp rfl ?_
  refine OL.det rfl (Yields.pure rfl) ?_
  refine OL.det rfl (Yields.ixN (j := 1) rfl rfl rfl (by omega)) ?_
  refine OL.det rfl (Yields.pure rfl) ?_
  refine OL.det rfl (Yields.to (v' := .bool true) (Yields.ld rfl (item_at (k := 1) (hri _) (by omega) 1 (.bool (its[1]'(by omega)).block) rfl)) (by rw [hb1])) ?_
  refine OL.dp rfl ?_
  refine OL.dp rfl ?_
  refine OL.det rfl (Yields.pure rfl) ?_
  refine OL.call rfl rfl (conflict_fc (hri _) (by omega)) ?_
  rintro _ Sx ⟨rfl, hSx⟩
  rw [hSx]
  clear hSx
  rw [hany]
  refine OL.dp rfl ?_
  refine OL.dp rfl ?_
  refine OL.det rfl (Yields.pure rfl) ?_
  refine OL.call rfl rfl (textI_fc (hri _) (fun x hx => (hio x hx).rd (by simp)) (by omega)) ?_
  rintro v49 _ ⟨segt, rfl, hst, _⟩
  rw [htx] at hst
  obtain ⟨At, ct, rfl, hnt, hct, hrt⟩ := slv_rdL (w0 := w0) hst
  refine OL.cons rfl (OW.bsl (cs := strs workT) rfl) ?_
  rintro _ _ ⟨r50, rfl, rfl⟩
  refine OL.call rfl rfl (sameS_fc (a := workT) (b := workT) (hrt _).cons (Rd.own (E := 9) (tot := 7) (List.mem_flatten.2 ⟨_, .head _, List.mem_singleton.2 rfl⟩)) (show 7 ≤ 1000000000000 by decide) (show 7 ≤ 1000000000000 by decide)) ?_
  rintro _ Sx ⟨rfl, hSx⟩
  rw [hSx]
  clear hSx
  rw [decide_eq_true (rfl : workT = workT)]
  refine OL.dp rfl ?_
  refine OL.dp rfl ?_
  refine OL.nil ?_
  refine PW.keep (T' := [(0, _)]) ⟨rfl, trivial⟩ ?_
  refine PW.ret ?_
  change (Exit.ret = Exit.normal ∨ Exit.ret = Exit.ret) ∧ ∃ v, resV _ _ = some v ∧ _
  exact ⟨.inr rfl, _, rfl, _, Sub.drop (Sub.drop (Sub.drop (Sub.drop (Sub.drop (Sub.drop (Sub.drop (Sub.drop (Sub.drop (Sub.drop (Sub.drop (Sub.drop (Sub.refl _)))))))))))), rfl, rfl⟩
end Go.Proofs.Gr

set_option linter.unusedVariables false
set_option linter.unusedSectionVars false
namespace Go.Proofs.Gr
open Go.SL Go.RowKit Go.Proofs Go.GP
def oneI (x : LineP) : ItemP := ⟨[x], false, []⟩
theorem foldI_solid {ps : List PartP} {l : List LineP} (h : ∀ x ∈ l, solidP ps l x = true) : ∀ k, k ≤ l.length → foldI ps l k = ((l.take k).map oneI, [])
  | 0, _ => rfl
  | k + 1, hk => by
    have hkl : k < l.length := by omega
    rw [foldI_succ hkl, foldI_solid h k (by omega)]
    unfold stepI
    rw [if_pos (h _ (List.getElem_mem hkl)), ltake_snoc hkl, List.map_append]
    simp [shut, oneI]
theorem itemsL_solid {ps : List PartP} {l : List LineP} (h : ∀ x ∈ l, solidP ps l x = true) : itemsL ps l = l.map oneI := by
  unfold itemsL
  rw [foldI_solid h l.length (Nat.le_refl _), List.take_length]
  simp [shut]
theorem textI_ones (l : List LineP) : textI (l.map oneI) = l.map (·.text) := by
  unfold textI
  induction l with
  | nil => rfl
  | cons x l ih =>
    rw [List.map_cons, List.flatMap_cons, ih]
    rfl
/-- a list that goes along the edges is the lines' order -/
theorem eq_of_chain {R : Vtx → Vtx → Prop} (hasym : ∀ a b, R a b → R b a → False) : ∀ {l l' : List Vtx}, l.Perm l' → l.Pairwise R → l'.Pairwise R → l = l'
  | [], l', hp, _, _ => by rw [List.nil_perm.1 hp]
  | a :: l, l', hp, h1, h2 => by
    cases l' with
    | nil => exact absurd hp.symm (by simp)
    | cons b l' =>
      rw [List.pairwise_cons] at h1 h2
      have hab : a = b := by
        refine Classical.byContradiction fun hne => ?_
        have ha : a ∈ l' := by
          rcases List.mem_cons.1 (hp.mem_iff.1 (List.mem_cons_self)) with e | h
          · exact absurd e hne
          · exact h
        have hb : b ∈ l := by
          rcases List.mem_cons.1 (hp.mem_iff.2 (List.mem_cons_self)) with e | h
          · exact absurd e.symm hne
          · exact h
        exact hasym _ _ (h1.1 b hb) (h2.1 a ha)
      subst hab
      rw [eq_of_chain hasym ((List.perm_cons a).1 hp) h1.2 h2.2]
theorem topoF_chain {ps : List PartP} {V : List Vtx} (hs : Sq ps) (hp : V.Perm (allV ps)) (hc : V.Pairwise (Rch (allE ps))) : topoF ps = V := by
  have hpt := (topoF_perm_all hs).trans hp.symm
  have hasym : ∀ a b, Rch (allE ps) a b → Rch (allE ps) b a → False := fun a b h k => hs.irrefl (h.trans k)
  refine eq_of_chain hasym hpt ?_ hc
  rw [List.pairwise_iff_getElem]
  intro i j hi hj hij
  have hmi := hpt.mem_iff.1 (List.getElem_mem hi)
  have hmj := hpt.mem_iff.1 (List.getElem_mem hj)
  have hor : Rch (allE ps) (topoF ps)[i] (topoF ps)[j] ∨ Rch (allE ps) (topoF ps)[j] (topoF ps)[i] := by
    obtain ⟨a, ha, ea⟩ := List.mem_iff_getElem.1 hmi
    obtain ⟨b, hb, eb⟩ := List.mem_iff_getElem.1 hmj
    have hne : a ≠ b := fun e => by
      subst e
      have := (List.getElem_inj (topoF_nodup hs)).1 (ea.symm.trans eb)
      omega
    rw [← ea, ← eb]
    have hpw := List.pairwise_iff_getElem.1 hc
    rcases Nat.lt_or_gt_of_ne hne with h | h
    · exact .inl (hpw a b ha hb h)
    · exact .inr (hpw b a hb ha h)
  rcases hor with h | h
  · exact h
  · exfalso
    have hv := fun (k : Nat) (hk : k < (topoF ps).length) => topoF_mem (List.getElem_mem hk)
    have h1 := Sq.line hs (hv i hi)
    have h2 := Sq.line hs (hv j hj)
    refine topoF_order hs hj (Nat.le_of_lt hij) ⟨.inr (.inr (hv j hj)), .inr (.inr (hv i hi)), fun e => ?_, h2.2, h1.1, .inr (.inr h)⟩
    rw [e] at h
    exact hs.irrefl h
/-- along a part -/
theorem edge_up {p : PartP} {i : Nat} (hi : i < p.lines.length) : Rch (edges p) p.up (p.vtx i) := by
  induction i with
  | zero => exact .one (mem_edges.2 ⟨0, by omega, by omega, rfl, by rw [if_pos hi]⟩)
  | succ i ih => exact (ih (by omega)).snoc (mem_edges.2 ⟨i + 1, by omega, by omega, by rw [if_neg (by omega)]; rfl, by rw [if_pos hi]⟩)
theorem edge_in {p : PartP} {i j : Nat} (hij : i < j) (hj : j < p.lines.length) : Rch (edges p) (p.vtx i) (p.vtx j) := by
  induction j with
  | zero => omega
  | succ j ih =>
    have hs : (p.vtx j, p.vtx (j + 1)) ∈ edges p := mem_edges.2 ⟨j + 1, by omega, by omega, by rw [if_neg (by omega)]; rfl, by rw [if_pos hj]⟩
    by_cases e : i = j
    · subst e; exact .one hs
    · exact (ih (by omega) (by omega)).snoc hs
theorem edge_down {p : PartP} {i : Nat} (hi : i < p.lines.length) : Rch (edges p) (p.vtx i) p.down := by
  have hl : (p.vtx (p.lines.length - 1), p.down) ∈ edges p := mem_edges.2 ⟨p.lines.length, by omega, by omega, by rw [if_neg (by omega)], by rw [if_neg (by omega)]⟩
  by_cases e : i = p.lines.length - 1
  · subst e; exact .one hl
  · exact (edge_in (show i < p.lines.length - 1 by omega) (by omega)).snoc hl
theorem own_get {p : PartP} {i : Nat} (h : i < (own p).length) : (own p)[i] = p.vtx i := by simp [own]
theorem own_chain {ps : List PartP} {p : PartP} (hp : p ∈ ps) : (own p).Pairwise (Rch (allE ps)) := by
  rw [List.pairwise_iff_getElem]
  intro i j hi hj hij
  rw [own_get, own_get]
  rw [own_len] at hj
  exact (edge_in hij hj).mono fun e he => mem_allE.2 ⟨p, hp, he⟩
/-- what a chain makes -/
theorem chain_items {ps : List PartP} {V : List Vtx} (hs : Sq ps) (hp : V.Perm (allV ps)) (hc : V.Pairwise (Rch (allE ps))) (hg : ∀ p ∈ ps, p.gone = []) : itemsP ps = (V.map (lineP ps)).map oneI := by
  have ht := topoF_chain hs hp hc
  have hal : ∀ v, aliveV ps v = true := fun v => by
    unfold aliveV
    have : ps.flatMap (·.gone) = [] := List.flatMap_eq_nil_iff.2 hg
    rw [this]
    rfl
  have hl : live (linesP ps) = V.map (lineP ps) := by
    unfold live linesP
    rw [ht]
    exact List.filter_eq_self.2 fun x hx => by
      obtain ⟨v, _, rfl⟩ := List.mem_map.1 hx
      exact hal v
  unfold itemsP
  rw [hl]
  refine itemsL_solid fun x hx => ?_
  rw [solidP_iff]
  intro y hy
  obtain ⟨a, ha, rfl⟩ := List.mem_map.1 hx
  obtain ⟨b, hb, rfl⟩ := List.mem_map.1 hy
  show (decide (a = b) || ordP ps a b) = true
  by_cases e : a = b
  · simp [e]
  · have ha2 := hp.mem_iff.1 ha
    have hb2 := hp.mem_iff.1 hb
    have h1 := Sq.line hs ha2
    have h2 := Sq.line hs hb2
    have hor : Rch (allE ps) a b ∨ Rch (allE ps) b a := by
      obtain ⟨i, hi, rfl⟩ := List.mem_iff_getElem.1 ha
      obtain ⟨j, hj, rfl⟩ := List.mem_iff_getElem.1 hb
      have hpw := List.pairwise_iff_getElem.1 hc
      rcases Nat.lt_or_gt_of_ne (fun h : i = j => e (by subst h; rfl)) with h | h
      · exact .inl (hpw i j hi hj h)
      · exact .inr (hpw j i hj hi h)
    have : ordP ps a b = true := by
      unfold ordP
      rw [Bool.or_eq_true, befP_iff, befP_iff]
      rcases hor with h | h
      · exact .inl ⟨.inr (.inr ha2), .inr (.inr hb2), e, h1.2, h2.1, .inr (.inr h)⟩
      · exact .inr ⟨.inr (.inr hb2), .inr (.inr ha2), fun e2 => e e2.symm, h2.2, h1.1, .inr (.inr h)⟩
    rw [this, Bool.or_true]
theorem text_at {ps : List PartP} (hs : Sq ps) {p : PartP} (hp : p ∈ ps) {i : Nat} {s : ByteArray} (h : p.lines[i]? = some s) : textV ps (p.vtx i) = s := by
  obtain ⟨G, hG⟩ := hs.gr
  have hi := (List.getElem?_eq_some_iff.1 h).1
  rw [hG.textV (mem_allV.2 ⟨p, hp, mem_own.2 ⟨i, hi, rfl⟩⟩)]
  exact hG.text p hp i s h
theorem own_texts {ps : List PartP} (hs : Sq ps) {p : PartP} (hp : p ∈ ps) : (own p).map (textV ps) = p.lines := by
  apply List.ext_getElem
  · rw [List.length_map, own_len]
  · intro i h1 h2
    rw [List.getElem_map, own_get]
    exact text_at hs hp (List.getElem?_eq_getElem h2)
def pA (l : List ByteArray) : PartP := ⟨hb1 1, 0, 0, rootV, endV, l, []⟩
def upA (k : Nat) : Vtx := if k = 0 then rootV else (hb1 1, ((k - 1 : Nat) : Int))
def downA (n k : Nat) : Vtx := if k < n then (hb1 1, (k : Int)) else endV
def pB (n k : Nat) (more : List ByteArray) : PartP := ⟨hb1 2, 0, 0, upA k, downA n k, more, []⟩
theorem pA_vtx (l : List ByteArray) (i : Nat) : (pA l).vtx i = (hb1 1, (i : Int)) := by
  show (hb1 1, (0 : Int) + (i : Int)) = _
  rw [Int.zero_add]
theorem hb12 : hb1 1 ≠ hb1 2 := by decide
theorem hb1z (b : UInt8) (hb : b ≠ 0) : hb1 b ≠ h0 := by
  intro e
  have := congrArg (fun h : HashB => h.1[0]?) e
  simp [hb1, h0] at this
  exact hb this
theorem newA (l : List ByteArray) : New [] (pA l) :=
  ⟨fun q hq => (by cases hq), fun v _ => by simp [allV], Int.le_refl 0, root_ne_end, root_ne_end.symm, List.nodup_nil, fun v hv => (by cases hv), .inl rfl, .inr (.inl rfl), fun v hv => (by cases hv), .inl rfl, .inr (.inl rfl), root_ne_end, root_ne_end, root_ne_end.symm, .inl rfl⟩
theorem sqA (l : List ByteArray) : Sq [pA l] := .cons (newA l) .nil
theorem upA_has {l : List ByteArray} {k : Nat} (hk : k ≤ l.length) : HasV [pA l] (upA k) := by
  unfold upA
  split
  · exact .inl rfl
  · rename_i h
    exact .inr (.inr (mem_allV.2 ⟨pA l, by simp, mem_own.2 ⟨k - 1, by show k - 1 < l.length; omega, pA_vtx _ _⟩⟩))
theorem downA_has {l : List ByteArray} {k : Nat} : HasV [pA l] (downA l.length k) := by
  unfold downA
  split
  · rename_i h
    exact .inr (.inr (mem_allV.2 ⟨pA l, by simp, mem_own.2 ⟨k, h, pA_vtx _ _⟩⟩))
  · exact .inr (.inl rfl)
theorem hbv_ne {z : Int} : ((hb1 1, z) : Vtx) ≠ rootV ∧ ((hb1 1, z) : Vtx) ≠ endV :=
  ⟨fun e => hb1z 1 (by decide) (congrArg Prod.fst e), fun e => hb1z 1 (by decide) (congrArg Prod.fst e)⟩
theorem upA_ne (k : Nat) : upA k ≠ endV := by
  unfold upA
  split
  · exact root_ne_end
  · exact hbv_ne.2
theorem downA_ne (n k : Nat) : downA n k ≠ rootV := by
  unfold downA
  split
  · exact hbv_ne.1
  · exact root_ne_end.symm
theorem befA {l : List ByteArray} {k : Nat} (hk : k ≤ l.length) : Bef [pA l] (upA k) (downA l.length k) := by
  refine ⟨upA_has hk, downA_has, fun e => ?_, upA_ne k, downA_ne _ k, ?_⟩
  · unfold upA downA at e
    split at e <;> split at e
    · exact hbv_ne.1 e.symm
    · exact root_ne_end e
    · have := congrArg Prod.snd e
      simp only at this
      omega
    · exact hbv_ne.2 e
  · by_cases h0 : k = 0
    · exact .inl (by unfold upA; rw [if_pos h0])
    · by_cases h1 : k < l.length
      · refine .inr (.inr ?_)
        unfold upA downA
        rw [if_neg h0, if_pos h1, ← pA_vtx l, ← pA_vtx l]
        exact (edge_in (p := pA l) (show k - 1 < k by omega) h1).mono fun e he => mem_allE.2 ⟨_, by simp, he⟩
      · exact .inr (.inl (by unfold downA; rw [if_neg h1]))
theorem newB {l more : List ByteArray} {k : Nat} (hk : k ≤ l.length) : New [pA l] (pB l.length k more) := by
  refine ⟨fun q hq e => ?_, fun v hv hm => ?_, Int.le_refl 0, upA_ne k, downA_ne _ k, List.nodup_nil, fun v hv => (by cases hv), upA_has hk, downA_has, fun v hv => (by cases hv), befA hk⟩
  · rw [List.mem_singleton] at hq
    subst hq
    exact hb12 (congrArg Prod.fst e)
  · obtain ⟨q, hq, hvq⟩ := mem_allV.1 hm
    rw [List.mem_singleton] at hq
    subst hq
    obtain ⟨i, _, e1⟩ := mem_own.1 hv
    obtain ⟨j, _, e2⟩ := mem_own.1 hvq
    exact hb12 (congrArg Prod.fst (e2.trans e1.symm))
theorem sqB {l more : List ByteArray} {k : Nat} (hk : k ≤ l.length) : Sq [pB l.length k more, pA l] := .cons (newB hk) (sqA l)
theorem itemsA (l : List ByteArray) : textI (itemsP [pA l]) = l ∧ (itemsP [pA l]).any (·.block) = false := by
  have h := chain_items (V := own (pA l)) (sqA l) (by simp [allV]) (own_chain (by simp)) (fun p hp => by rw [List.mem_singleton] at hp; subst hp; rfl)
  rw [h]
  constructor
  · rw [textI_ones, List.map_map]
    exact own_texts (sqA l) (p := pA l) (by simp)
  · simp [oneI]
theorem itemsB {l more : List ByteArray} {k : Nat} (hk : k ≤ l.length) : textI (itemsP [pB l.length k more, pA l]) = l.take k ++ more ++ l.drop k ∧ (itemsP [pB l.length k more, pA l]).any (·.block) = false := by
  have hB : pB l.length k more ∈ [pB l.length k more, pA l] := by simp
  have hA : pA l ∈ [pB l.length k more, pA l] := by simp
  have hmA : ∀ e ∈ edges (pA l), e ∈ allE [pB l.length k more, pA l] := fun e he => mem_allE.2 ⟨_, hA, he⟩
  have hmB : ∀ e ∈ edges (pB l.length k more), e ∈ allE [pB l.length k more, pA l] := fun e he => mem_allE.2 ⟨_, hB, he⟩
  have hol := own_len (pA l)
  have hll : (pA l).lines.length = l.length := rfl
  have h : itemsP [pB l.length k more, pA l] = (((own (pA l)).take k ++ own (pB l.length k more) ++ (own (pA l)).drop k).map (lineP [pB l.length k more, pA l])).map oneI := by
    refine chain_items (sqB hk) ?_ ?_ (fun p hp => by
      simp only [List.mem_cons, List.not_mem_nil, or_false] at hp
      rcases hp with rfl | rfl <;> rfl)
    · have e : allV [pB l.length k more, pA l] = own (pB l.length k more) ++ own (pA l) := by simp [allV]
      rw [e, List.append_assoc]
      refine (List.perm_append_comm_assoc _ _ _).trans ?_
      rw [List.take_append_drop]
    · have hAc := own_chain hA
      have hBc := own_chain hB
      have htd : ((own (pA l)).take k ++ (own (pA l)).drop k).Pairwise (Rch (allE [pB l.length k more, pA l])) := by rw [List.take_append_drop]; exact hAc
      obtain ⟨h1, h2, h3⟩ := List.pairwise_append.1 htd
      refine List.pairwise_append.2 ⟨List.pairwise_append.2 ⟨h1, hBc, fun a ha b hb => ?_⟩, h2, fun a ha b hb => ?_⟩
      · obtain ⟨i, hi, rfl⟩ := List.mem_take_iff_getElem.1 ha
        obtain ⟨j, hj, rfl⟩ := mem_own.1 hb
        rw [own_get]
        have hup := (edge_up (p := pB l.length k more) hj).mono hmB
        have hu : (pB l.length k more).up = (pA l).vtx (k - 1) := by
          show upA k = _
          unfold upA
          rw [if_neg (by omega), pA_vtx]
        rw [hu] at hup
        by_cases e : i = k - 1
        · subst e; exact hup
        · exact ((edge_in (p := pA l) (show i < k - 1 by omega) (by omega)).mono hmA).trans hup
      · rcases List.mem_append.1 ha with ha | ha
        · exact h3 a ha b hb
        · obtain ⟨j, hj, rfl⟩ := mem_own.1 ha
          obtain ⟨i, hi, rfl⟩ := List.mem_iff_getElem.1 hb
          rw [List.length_drop] at hi
          rw [List.getElem_drop, own_get]
          have hdn := (edge_down (p := pB l.length k more) hj).mono hmB
          have hd : (pB l.length k more).down = (pA l).vtx k := by
            show downA l.length k = _
            unfold downA
            rw [if_pos (by omega), pA_vtx]
          rw [hd] at hdn
          by_cases e : i = 0
          · subst e; exact hdn
          · exact hdn.trans ((edge_in (p := pA l) (show k < k + i by omega) (by omega)).mono hmA)
  rw [h]
  constructor
  · rw [textI_ones, List.map_map]
    show (((own (pA l)).take k ++ own (pB l.length k more) ++ (own (pA l)).drop k).map (textV _)) = _
    rw [List.map_append, List.map_append, List.map_take, List.map_drop, own_texts (sqB hk) hA, own_texts (sqB hk) hB]
    rfl
  · rw [List.any_eq_false]
    intro x hx
    obtain ⟨y, _, rfl⟩ := List.mem_map.1 hx
    simp [oneI]
end Go.Proofs.Gr

set_option linter.unusedVariables false
set_option linter.unusedSimpArgs false
namespace Go.Proofs.Gr
open Go.SL Go.RowKit Go.Proofs Go.GP
set_option maxHeartbeats 1000000
theorem gs_a2 {a : GrM} {s t : Seg} {S : SS} : Sub (GS a ++ (s :: t :: S)) (s :: t :: (GS a ++ S)) := Sub.sel [2, 3, 4, 5, 0, 1] 6 (by decide) (s :: t :: (GS a ++ S))
end Go.Proofs.Gr

set_option linter.unusedVariables false
set_option linter.unusedSimpArgs false
namespace Go.Proofs.Gr
open Go.SL Go.RowKit Go.Proofs Go.GP
set_option maxHeartbeats 1000000
theorem str_cell {w0 : World} {S : SS} {a : Addr} {l : List ByteArray} (h : Rd w0 S (some a) (strs l)) {k : Nat} (hk : k < l.length) : Cell w0 S (a.add k) (.string l[k]) := str_at h hk
theorem strs_app (a b : List ByteArray) : strs (a ++ b) = strs a ++ strs b := List.map_append
theorem appS {P : Program} {w0 : World} {n : Nat} {T : TT} {S : SS} {k m q c : Nat} {z v : Value} {s x : PV} {A : Option Addr} {xs l : List ByteArray} {seg : Seg} (hs' : s.val T = some v) (hk : S[k]? = some seg) (hv : SlV 9 1 v m (strs xs) seg)
    (hx : x.val T = some (.slice A q c)) (hm : xs.length = m) (hq : l.length = q) (hrd : Rd w0 S A (strs l)) (hc : A = none → c = 0) (hb : m + q ≤ 1000000) :
    OW P w0 n (.app 33 9 1 16 z s x) T S (fun v' S' => ∃ seg', S' = S.set k seg' ∧ SlV 9 1 v' (xs ++ l).length (strs (xs ++ l)) seg') := by
  have h := OW.appL (P := P) (w0 := w0) (n := n) (t := 33) (z := z) (bytes := 16) hs' hk hv hx (by rw [strs_len, hq, Nat.mul_one]) hrd (by decide) hc (strs_one l) (by omega) (by unfold maxLen; omega)
  rw [← strs_app] at h
  rw [List.length_append, hm, hq]
  exact h
theorem preS {w0 : World} {S : SS} {A : Option Addr} {i : Nat} {l : List ByteArray} (h : Rd w0 S A (strs l)) : Rd w0 S A (strs (l.take i)) :=
  h.pre (by rw [← List.take_append_drop i l, strs_app, List.take_append_drop]; exact List.prefix_append _ _)
theorem cutS {A : Option Addr} {cap i : Nat} {l : List ByteArray} (hi : i ≤ l.length) (hc : A = none → cap = 0) (hl : l.length ≤ cap) :
    ∃ A' c', cutV A cap 1 i l.length = .slice A' (l.drop i).length c' ∧ (A' = none → c' = 0) ∧ ∀ (w0 : World) (S : SS), Rd w0 S A (strs l) → Rd w0 S A' (strs (l.drop i)) := by
  unfold cutV
  rw [List.length_drop]
  split
  · rename_i e
    exact ⟨A, cap - i, rfl, fun _ => by omega, fun w0 S h => by rw [List.drop_of_length_le (by omega)]; exact Rd.nil⟩
  · rename_i e
    refine ⟨_, _, rfl, fun h => ?_, fun w0 S h => ?_⟩
    · cases A with
      | none => rw [hc rfl]; simp
      | some a => cases h
    · intro j v hj
      have hlt := (List.getElem?_eq_some_iff.1 hj).1
      rw [strs_len, List.length_drop] at hlt
      obtain ⟨a, rfl⟩ := strs_some h (by omega)
      refine ⟨_, rfl, ?_⟩
      rw [addr_add_add]
      refine h.at ?_
      unfold strs at hj ⊢
      rw [List.map_drop, List.getElem?_drop] at hj
      rw [Nat.mul_one]
      exact hj
theorem mkP_rng {b : UInt8} {up down : Vtx} {A : Option Addr} {c : Nat} {l : List ByteArray} (hu : okV up) (hd : okV down) (hl : l.length ≤ 1000000000) (_ : 0 ≤ 1) : PartR (mkP b up down A c l) :=
  ⟨(show (-9223372036854775808 : Int) ≤ 0 ∧ (0 : Int) ≤ 9223372036854775807 by decide), (show (-9223372036854775808 : Int) ≤ 0 ∧ (0 : Int) ≤ 4611686018427387904 by decide), hl, Nat.zero_le _, Nat.le_refl _, fun _ => rfl, hu, hd, fun v hv => by cases hv⟩
theorem mkP_pl {X Y : Vtx} {B : Option Addr} {d n k : Nat} {more : List ByteArray} (hx : X = upA k) (hy : Y = downA n k) : (mkP 2 X Y B d more).pl = pB n k more := by
  subst hx hy
  rfl
theorem renderPlain_fc {w0 : World} {A B : Option Addr} {c d : Nat} {l more : List ByteArray} {z : Int} (hxl : Rd w0 [] A (strs l)) (hxm : Rd w0 [] B (strs more)) (hcA : A = none → c = 0) (hcB : B = none → d = 0) (hlc : l.length ≤ c) (hz0 : 0 ≤ z) (hz1 : z ≤ 255) (hll : l.length ≤ 1000000000000000) (hml : more.length ≤ 1000000000000000) :
    FC Try.prog w0 9 [.slice A l.length c, .slice B more.length d, .int .u8 z] [] (fun v _ => v = .bool true) := by
  obtain ⟨zn, rfl⟩ : ∃ zn : Nat, z = (zn : Int) := ⟨z.toNat, by omega⟩
  refine FC.ofD Try.known9 (by simp) ?_
  unfold Try.pc9
  simp only [argT]
  refine PW.seqOps ?_
  refine OL.dp rfl ?_
  refine OL.nil ?_
  refine PW.keep (T' := [(0, _), (1, _), (2, _)]) ⟨rfl, rfl, rfl, trivial⟩ ?_
  refine PW.seq fun K1 hK1 => ?_
  refine PW.seqOps ?_
  refine OL.dp rfl ?_
  refine OL.dp rfl ?_
  refine OL.dp rfl ?_
  refine OL.bool trivial (Yields.pure rfl) (fun g22 => ?_) (fun g22 => ?_)
  · try simp only [decide_eq_true_eq, decide_eq_false_iff_not, beq_iff_eq, bne_iff_ne, beq_eq_false_iff_ne, bne_eq_false_iff_eq, Bool.not_eq_true', Bool.not_eq_false', Bool.not_eq_true, ne_eq, Decidable.not_not, Bool.false_eq_true, if_false, if_true] at g22
    refine OL.off rfl rfl ?_
    refine OL.off rfl rfl ?_
    refine OL.off rfl rfl ?_
    refine OL.dp rfl ?_
    refine OL.nil ?_
    refine PW.keep (T' := [(0, _), (1, _), (2, _), (26, _)]) ⟨rfl, rfl, rfl, rfl, trivial⟩ ?_
    refine PW.ite (b := true) rfl ?_
    rw [if_pos rfl]
    refine PW.seqOps ?_
    refine OL.call trivial rfl (works_fc) ?_
    rintro _ Sx ⟨rfl, hSx⟩
    rw [hSx]
    clear hSx
    refine OL.dp rfl ?_
    refine OL.nil ?_
    refine PW.keep (T' := [(6, _)]) ⟨rfl, trivial⟩ ?_
    refine PW.ret ?_
    change (Exit.ret = Exit.normal ∨ Exit.ret = Exit.ret) ∧ ∃ v, resV _ _ = some v ∧ _
    exact ⟨.inr rfl, _, rfl, _, Sub.refl _, rfl⟩
  · try simp only [decide_eq_true_eq, decide_eq_false_iff_not, beq_iff_eq, bne_iff_ne, beq_eq_false_iff_ne, bne_eq_false_iff_eq, Bool.not_eq_true', Bool.not_eq_false', Bool.not_eq_true, ne_eq, Decidable.not_not, Bool.false_eq_true, if_false, if_true] at g22
    refine OL.det rfl (Yields.pure rfl) ?_
    refine OL.det rfl (Yields.pure rfl) ?_
    refine OL.det rfl (Yields.pure rfl) ?_
    refine OL.dp rfl ?_
    refine OL.nil ?_
    refine PW.keep (T' := [(0, _), (1, _), (2, _), (26, _)]) ⟨rfl, rfl, rfl, rfl, trivial⟩ ?_
    refine PW.cond rfl (fun c26 => ?_) (fun c26 => ?_)
    · try simp only [decide_eq_true_eq, decide_eq_false_iff_not, beq_iff_eq, bne_iff_ne, beq_eq_false_iff_ne, bne_eq_false_iff_eq, Bool.not_eq_true', Bool.not_eq_false', Bool.not_eq_true, ne_eq, Decidable.not_not, Bool.false_eq_true, if_false, if_true] at c26
      refine PW.seqOps ?_
      refine OL.call trivial rfl (works_fc) ?_
      rintro _ Sx ⟨rfl, hSx⟩
      rw [hSx]
      clear hSx
      refine OL.dp rfl ?_
      refine OL.nil ?_
      refine PW.keep (T' := [(6, _)]) ⟨rfl, trivial⟩ ?_
      refine PW.ret ?_
      change (Exit.ret = Exit.normal ∨ Exit.ret = Exit.ret) ∧ ∃ v, resV _ _ = some v ∧ _
      exact ⟨.inr rfl, _, rfl, _, Sub.refl _, rfl⟩
    · try simp only [decide_eq_true_eq, decide_eq_false_iff_not, beq_iff_eq, bne_iff_ne, beq_eq_false_iff_ne, bne_eq_false_iff_eq, Bool.not_eq_true', Bool.not_eq_false', Bool.not_eq_true, ne_eq, Decidable.not_not, Bool.false_eq_true, if_false, if_true] at c26
      have hls : l.length ≤ 40 := by omega
      have hms0 : more.length ≤ 20 := by omega
      have hms : more.length ≤ 1000000000 := by omega
      have hpr1 : PartR (mkP 1 rootV endV A c l) := mkP_rng okRoot okEnd (by omega) (by omega)
      refine PW.skip ?_
      refine hK1 _ _ ?_
      refine PW.keep (T' := [(0, _), (1, _), (2, _)]) ⟨rfl, rfl, rfl, trivial⟩ ?_
      refine PW.seq fun K2 hK2 => ?_
      refine PW.seqOps ?_
      refine OL.dp rfl ?_
      refine OL.nil ?_
      refine PW.keep (T' := [(0, _), (1, _), (2, _), (7, _)]) ⟨rfl, rfl, rfl, rfl, trivial⟩ ?_
      refine PW.block ?_
      refine PW.keep (T' := [(0, _), (1, _), (2, _), (7, _)]) ⟨rfl, rfl, rfl, rfl, trivial⟩ ?_
      refine PW.loopK (I := fun mm T S' => ∃ i : Nat, (i ≤ l.length ∧ mm = l.length - i) ∧ T = ([(0, .slice A l.length c), (1, .slice B more.length d), (2, .int .u8 (zn : Int)), (7, .int .i64 i)] : TT) ∧ S' = []) (m := l.length) ⟨0, ⟨by omega, by omega⟩, rfl, rfl⟩ ?_
      rintro mm _ _ ⟨i, ⟨hi, hmm⟩, rfl, rfl⟩
      refine PW.seq fun K3 hK3 => ?_
      refine PW.seqOps ?_
      refine OL.dp rfl ?_
      refine OL.dp rfl ?_
      refine OL.dp rfl ?_
      refine OL.dp rfl ?_
      refine OL.nil ?_
      refine PW.keep (T' := [(0, _), (1, _), (2, _), (7, _), (31, _)]) ⟨rfl, rfl, rfl, rfl, rfl, trivial⟩ ?_
      refine PW.cond rfl (fun c31 => ?_) (fun c31 => ?_)
      · try simp only [decide_eq_true_eq, decide_eq_false_iff_not, beq_iff_eq, bne_iff_ne, beq_eq_false_iff_ne, bne_eq_false_iff_eq, Bool.not_eq_true', Bool.not_eq_false', Bool.not_eq_true, ne_eq, Decidable.not_not, Bool.false_eq_true, if_false, if_true] at c31
        have hil : i < l.length := by omega
        obtain ⟨a0, ha0⟩ := strs_some hxl (by omega)
        have hl2 := hxl
        rw [ha0] at hl2 ⊢
        refine PW.skip ?_
        refine hK3 _ _ ?_
        refine PW.keep (T' := [(0, _), (1, _), (2, _), (7, _)]) ⟨rfl, rfl, rfl, rfl, trivial⟩ ?_
        refine PW.seq fun K4 hK4 => ?_
        refine PW.block ?_
        refine PW.seqOps ?_
        refine OL.dp rfl ?_
        refine OL.dp rfl ?_
        refine OL.det trivial (Yields.ixN1 rfl rfl rfl hil) ?_
        refine OL.det trivial (Yields.ld rfl (str_cell hl2.any hil)) ?_
        refine OL.dp rfl ?_
        refine OL.dp rfl ?_
        refine OL.nil ?_
        refine PW.keep (T' := [(0, _), (1, _), (2, _), (7, _), (39, _)]) ⟨rfl, rfl, rfl, rfl, rfl, trivial⟩ ?_
        refine PW.cond rfl (fun c39 => ?_) (fun c39 => ?_)
        · try simp only [decide_eq_true_eq, decide_eq_false_iff_not, beq_iff_eq, bne_iff_ne, beq_eq_false_iff_ne, bne_eq_false_iff_eq, Bool.not_eq_true', Bool.not_eq_false', Bool.not_eq_true, ne_eq, Decidable.not_not, Bool.false_eq_true, if_false, if_true] at c39
          refine PW.seqOps ?_
          refine OL.call trivial rfl (works_fc) ?_
          rintro _ Sx ⟨rfl, hSx⟩
          rw [hSx]
          clear hSx
          refine OL.dp rfl ?_
          refine OL.nil ?_
          refine PW.keep (T' := [(6, _)]) ⟨rfl, trivial⟩ ?_
          refine PW.ret ?_
          change (Exit.ret = Exit.normal ∨ Exit.ret = Exit.ret) ∧ ∃ v, resV _ _ = some v ∧ _
          exact ⟨.inr rfl, _, rfl, _, Sub.refl _, rfl⟩
        · try simp only [decide_eq_true_eq, decide_eq_false_iff_not, beq_iff_eq, bne_iff_ne, beq_eq_false_iff_ne, bne_eq_false_iff_eq, Bool.not_eq_true', Bool.not_eq_false', Bool.not_eq_true, ne_eq, Decidable.not_not, Bool.false_eq_true, if_false, if_true] at c39
          refine PW.skip ?_
          refine hK4 _ _ ?_
          refine PW.keep (T' := [(0, _), (1, _), (2, _), (7, _)]) ⟨rfl, rfl, rfl, rfl, trivial⟩ ?_
          refine PW.ops ?_
          refine OL.dp rfl ?_
          refine OL.det trivial (Yields.add64 rfl rfl (by omega) (by omega)) ?_
          refine OL.dp rfl ?_
          refine OL.nil ?_
          repeat rw [inBlk_n]
          try rw [thenK_n]
          refine LoopEnd.mk (T'' := [(0, _), (1, _), (2, _), (7, _)]) ⟨rfl, rfl, rfl, rfl, trivial⟩ ?_
          rw [← ha0]
          exact ⟨l.length - (i + 1), by omega, i + 1, ⟨by omega, rfl⟩, rfl, rfl⟩
      · try simp only [decide_eq_true_eq, decide_eq_false_iff_not, beq_iff_eq, bne_iff_ne, beq_eq_false_iff_ne, bne_eq_false_iff_eq, Bool.not_eq_true', Bool.not_eq_false', Bool.not_eq_true, ne_eq, Decidable.not_not, Bool.false_eq_true, if_false, if_true] at c31
        refine PW.exit ?_
        refine hK2 _ _ ?_
        refine PW.keep (T' := [(0, _), (1, _), (2, _)]) ⟨rfl, rfl, rfl, trivial⟩ ?_
        refine PW.seq fun K5 hK5 => ?_
        refine PW.seqOps ?_
        refine OL.dp rfl ?_
        refine OL.nil ?_
        refine PW.keep (T' := [(0, _), (1, _), (2, _), (8, _)]) ⟨rfl, rfl, rfl, rfl, trivial⟩ ?_
        refine PW.block ?_
        refine PW.keep (T' := [(0, _), (1, _), (2, _), (8, _)]) ⟨rfl, rfl, rfl, rfl, trivial⟩ ?_
        refine PW.loopK (I := fun mm T S' => ∃ i : Nat, (i ≤ more.length ∧ mm = more.length - i) ∧ T = ([(0, .slice A l.length c), (1, .slice B more.length d), (2, .int .u8 (zn : Int)), (8, .int .i64 i)] : TT) ∧ S' = []) (m := more.length) ⟨0, ⟨by omega, by omega⟩, rfl, rfl⟩ ?_
        rintro mm _ _ ⟨i, ⟨hi, hmm⟩, rfl, rfl⟩
        refine PW.seq fun K6 hK6 => ?_
        refine PW.seqOps ?_
        refine OL.dp rfl ?_
        refine OL.dp rfl ?_
        refine OL.dp rfl ?_
        refine OL.dp rfl ?_
        refine OL.nil ?_
        refine PW.keep (T' := [(0, _), (1, _), (2, _), (8, _), (44, _)]) ⟨rfl, rfl, rfl, rfl, rfl, trivial⟩ ?_
        refine PW.cond rfl (fun c44 => ?_) (fun c44 => ?_)
        · try simp only [decide_eq_true_eq, decide_eq_false_iff_not, beq_iff_eq, bne_iff_ne, beq_eq_false_iff_ne, bne_eq_false_iff_eq, Bool.not_eq_true', Bool.not_eq_false', Bool.not_eq_true, ne_eq, Decidable.not_not, Bool.false_eq_true, if_false, if_true] at c44
          have hil : i < more.length := by omega
          obtain ⟨b0, hb0⟩ := strs_some hxm (by omega)
          have hm2 := hxm
          rw [hb0] at hm2 ⊢
          refine PW.skip ?_
          refine hK6 _ _ ?_
          refine PW.keep (T' := [(0, _), (1, _), (2, _), (8, _)]) ⟨rfl, rfl, rfl, rfl, trivial⟩ ?_
          refine PW.seq fun K7 hK7 => ?_
          refine PW.block ?_
          refine PW.seqOps ?_
          refine OL.dp rfl ?_
          refine OL.dp rfl ?_
          refine OL.det trivial (Yields.ixN1 rfl rfl rfl hil) ?_
          refine OL.det trivial (Yields.ld rfl (str_cell hm2.any hil)) ?_
          refine OL.dp rfl ?_
          refine OL.dp rfl ?_
          refine OL.nil ?_
          refine PW.keep (T' := [(0, _), (1, _), (2, _), (8, _), (52, _)]) ⟨rfl, rfl, rfl, rfl, rfl, trivial⟩ ?_
          refine PW.cond rfl (fun c52 => ?_) (fun c52 => ?_)
          · try simp only [decide_eq_true_eq, decide_eq_false_iff_not, beq_iff_eq, bne_iff_ne, beq_eq_false_iff_ne, bne_eq_false_iff_eq, Bool.not_eq_true', Bool.not_eq_false', Bool.not_eq_true, ne_eq, Decidable.not_not, Bool.false_eq_true, if_false, if_true] at c52
            refine PW.seqOps ?_
            refine OL.call trivial rfl (works_fc) ?_
            rintro _ Sx ⟨rfl, hSx⟩
            rw [hSx]
            clear hSx
            refine OL.dp rfl ?_
            refine OL.nil ?_
            refine PW.keep (T' := [(6, _)]) ⟨rfl, trivial⟩ ?_
            refine PW.ret ?_
            change (Exit.ret = Exit.normal ∨ Exit.ret = Exit.ret) ∧ ∃ v, resV _ _ = some v ∧ _
            exact ⟨.inr rfl, _, rfl, _, Sub.refl _, rfl⟩
          · try simp only [decide_eq_true_eq, decide_eq_false_iff_not, beq_iff_eq, bne_iff_ne, beq_eq_false_iff_ne, bne_eq_false_iff_eq, Bool.not_eq_true', Bool.not_eq_false', Bool.not_eq_true, ne_eq, Decidable.not_not, Bool.false_eq_true, if_false, if_true] at c52
            refine PW.skip ?_
            refine hK7 _ _ ?_
            refine PW.keep (T' := [(0, _), (1, _), (2, _), (8, _)]) ⟨rfl, rfl, rfl, rfl, trivial⟩ ?_
            refine PW.ops ?_
            refine OL.dp rfl ?_
            refine OL.det trivial (Yields.add64 rfl rfl (by omega) (by omega)) ?_
            refine OL.dp rfl ?_
            refine OL.nil ?_
            repeat rw [inBlk_n]
            try rw [thenK_n]
            refine LoopEnd.mk (T'' := [(0, _), (1, _), (2, _), (8, _)]) ⟨rfl, rfl, rfl, rfl, trivial⟩ ?_
            rw [← hb0]
            exact ⟨more.length - (i + 1), by omega, i + 1, ⟨by omega, rfl⟩, rfl, rfl⟩
        · try simp only [decide_eq_true_eq, decide_eq_false_iff_not, beq_iff_eq, bne_iff_ne, beq_eq_false_iff_ne, bne_eq_false_iff_eq, Bool.not_eq_true', Bool.not_eq_false', Bool.not_eq_true, ne_eq, Decidable.not_not, Bool.false_eq_true, if_false, if_true] at c44
          refine PW.exit ?_
          refine hK5 _ _ ?_
          refine PW.keep (T' := [(0, _), (1, _), (2, _)]) ⟨rfl, rfl, rfl, trivial⟩ ?_
          refine PW.seqOps ?_
          refine OL.call trivial rfl (new_fc (X := [])) ?_
          rintro _ _ ⟨m0, rfl, rfl, hm0, hg0, hl0⟩
          have hgg : GG w0 [] m0 [] := ⟨hm0, by rw [hg0]; exact GP.Inv.nil, Sq.nil, by simp [allV], by omega⟩
          refine OL.dp rfl ?_
          refine OL.nil ?_
          refine PW.keep (T' := [(0, _), (1, _), (2, _), (9, _)]) ⟨rfl, rfl, rfl, rfl, trivial⟩ ?_
          refine PW.seqOps ?_
          refine OL.det trivial (Yields.build (cs := vtxL rootV) rfl) ?_
          refine OL.det trivial (Yields.build (cs := vtxL endV) rfl) ?_
          refine OL.cons trivial OW.al ?_
          rintro _ _ ⟨r10, rfl, rfl⟩
          refine OL.cons trivial OW.al ?_
          rintro _ _ ⟨r11, rfl, rfl⟩
          refine OL.cons trivial (vtx_stk (k := 1) (u := rootV) rfl rfl rfl rfl) ?_
          rintro _ _ rfl
          refine OL.cons trivial (vtx_stk (k := 0) (u := endV) rfl rfl rfl rfl) ?_
          rintro _ _ rfl
          refine OL.subS (S' := GS m0 ++ (vseg r11 endV :: vseg r10 rootV :: [])) gs_a2 ?_
          refine OL.nil ?_
          refine PW.keep (T' := [(0, _), (1, _), (2, _), (9, _), (10, _), (11, _)]) ⟨rfl, rfl, rfl, rfl, rfl, rfl, trivial⟩ ?_
          refine PW.seqOps ?_
          refine OL.dp rfl ?_
          refine OL.det trivial (Yields.bldA (cs := bytesC (hb1 1).1) rfl) ?_
          refine OL.det trivial (Yields.ldA rfl (vtxL_len _) (all_at (List.mem_flatten.2 ⟨_, .tail _ (.tail _ (.tail _ (.tail _ (.tail _ (.head _))))), List.mem_singleton.2 rfl⟩))) ?_
          refine OL.det trivial (Yields.ldA rfl (vtxL_len _) (all_at (List.mem_flatten.2 ⟨_, .tail _ (.tail _ (.tail _ (.tail _ (.head _)))), List.mem_singleton.2 rfl⟩))) ?_
          refine OL.dp rfl ?_
          refine OL.det trivial (Yields.build (fill_part rfl rfl rfl rfl)) ?_
          refine OL.call trivial rfl (add2_fc (p := mkP 1 rootV endV A c l) hgg over_nil hpr1 hxl.any Rd.nil (by show 0 + 0 + l.length + 1 ≤ _; omega) (by unfold addL; show m0.lim + (l.length + 2 * 0 + 3) ≤ _; omega)) ?_
          rintro _ _ ⟨m1, rfl, rfl, hg1, hl1, hr1, _⟩
          have hl1 : m1.lim ≤ m0.lim + (l.length + 2 * 0 + 3) := hl1
          have hg1 : GG w0 [] m1 (came [] (pA l)) := hg1
          rw [came_new (newA l)] at hg1
          rw [show addE m0.gr (mkP 1 rootV endV A c l).pl = 0 from (addE_zero hgg.inv hgg.sq).2 (newA l)]
          have hn1 : (allV [pA l]).length = l.length := by simp [allV, own_len]; rfl
          refine OL.dp rfl ?_
          refine OL.nil ?_
          refine PW.keep (T' := [(0, _), (1, _), (2, _), (9, _), (10, _), (11, _), (12, _)]) ⟨rfl, rfl, rfl, rfl, rfl, rfl, rfl, trivial⟩ ?_
          refine PW.seqOps ?_
          refine OL.dp rfl ?_
          refine OL.call trivial rfl (by rw [← ptr_eq hr1]; exact items_fc hg1 over_nil (by omega)) ?_
          rintro v65 _ ⟨its1, sgi1, junk1, rfl, hmap1, hsi1, hio1, hitn1⟩
          have htx1 : textI (pli its1) = l := by unfold pli; rw [hmap1]; exact (itemsA l).1
          have hbl1 : its1.any (·.block) = false := by have := (itemsA l).2; rw [← hmap1, List.any_map] at this; exact this
          obtain ⟨Ai1, ci1, rfl, hni1, hci1, hri1⟩ := slv_rdL (w0 := w0) hsi1
          refine OL.dp rfl ?_
          refine OL.nil ?_
          refine PW.keep (T' := [(0, _), (1, _), (2, _), (9, _), (10, _), (11, _), (12, _), (13, _)]) ⟨rfl, rfl, rfl, rfl, rfl, rfl, rfl, rfl, trivial⟩ ?_
          refine PW.seq fun K8 hK8 => ?_
          refine PW.seqOps ?_
          refine OL.dp rfl ?_
          refine OL.det trivial (Yields.to (v' := .bool false) (Yields.pure rfl) (by rfl)) ?_
          refine OL.dp rfl ?_
          refine OL.det rfl (Yields.pure rfl) ?_
          refine OL.call rfl rfl (textI_fc (hri1 _) (fun x hx => (hio1 x hx).rd (by simp)) (by omega)) ?_
          rintro v70 _ ⟨sgt1, rfl, hst1, _⟩
          rw [htx1] at hst1
          obtain ⟨At1, ct1, rfl, hnt1, hct1, hrt1⟩ := slv_rdL (w0 := w0) hst1
          refine OL.det rfl (Yields.pure rfl) ?_
          refine OL.call rfl rfl (sameS_fc (a := l) (b := l) (hrt1 _) hxl.any (by omega) (by omega)) ?_
          rintro _ Sx ⟨rfl, hSx⟩
          rw [hSx]
          clear hSx
          rw [decide_eq_true (rfl : l = l)]
          refine OL.det rfl (Yields.pure rfl) ?_
          refine OL.dp rfl ?_
          refine OL.dp rfl ?_
          refine OL.det rfl (Yields.pure rfl) ?_
          refine OL.call rfl rfl (conflict_fc (rd_mem (hri1 []) (by simp)) (by omega)) ?_
          rintro _ Sx ⟨rfl, hSx⟩
          rw [hSx]
          clear hSx
          rw [hbl1]
          refine OL.subS (S' := GS m1 ++ (vseg r11 endV :: vseg r10 rootV :: [])) (Sub.drop (Sub.drop (Sub.drop (Sub.refl _)))) ?_
          refine OL.dp rfl ?_
          refine OL.nil ?_
          refine PW.keep (T' := [(0, _), (1, _), (2, _), (9, _), (10, _), (11, _), (78, _)]) ⟨rfl, rfl, rfl, rfl, rfl, rfl, rfl, trivial⟩ ?_
          refine PW.ite (b := false) rfl ?_
          rw [if_neg Bool.false_ne_true]
          refine PW.skip ?_
          refine hK8 _ _ ?_
          refine PW.keep (T' := [(0, _), (1, _), (2, _), (9, _), (10, _), (11, _)]) ⟨rfl, rfl, rfl, rfl, rfl, rfl, trivial⟩ ?_
          refine PW.seqOps ?_
          refine OL.dp rfl ?_
          refine OL.det trivial (Yields.to (v' := .int .i64 (zn : Int)) (Yields.pure rfl) (congrArg (Value.int .i64) (i64_id (by omega) (by omega)))) ?_
          refine OL.dp rfl ?_
          refine OL.dp rfl ?_
          refine OL.det trivial (Yields.add64 rfl rfl (by omega) (by omega)) ?_
          refine OL.det trivial (Yields.to (v' := .int .i64 ((zn % (l.length + 1) : Nat) : Int)) (Yields.rem rfl rfl (by omega)) (congrArg (Value.int .i64) (tmod_nat (b := l.length + 1) rfl))) ?_
          have hkl : zn % (l.length + 1) < l.length + 1 := Nat.mod_lt _ (by omega)
          obtain ⟨k, hk⟩ : ∃ k, k = zn % (l.length + 1) := ⟨_, rfl⟩
          rw [← hk] at hkl ⊢
          have hkl : k ≤ l.length := by omega
          refine OL.dp rfl ?_
          refine OL.nil ?_
          refine PW.keep (T' := [(0, _), (1, _), (9, _), (10, _), (11, _), (14, _)]) ⟨rfl, rfl, rfl, rfl, rfl, rfl, trivial⟩ ?_
          refine PW.seq fun K9 hK9 => ?_
          refine PW.quietRFK (m := 3) (ks := [(0, .free), (1, .free), (2, .loud)]) (hp := [(2, .free), (3, .free), (4, .loud)]) (base := GS m1 ++ (vseg r11 endV :: vseg r10 rootV :: [])) Try.mixed (by decide) (by decide) (Over.refl _) ?_
          refine QN.det trivial (fun Sx hSx => Yields.ldA rfl (vtxL_len _) (all_at (c := vtxL rootV) (E := 32) (tot := 33) (hSx _ (List.mem_flatten.2 ⟨_, .tail _ (.tail _ (.tail _ (.tail _ (.tail _ (.head _))))), List.mem_singleton.2 rfl⟩)))) ?_
          refine QN.det trivial (fun Sx hSx => Yields.ldA rfl (vtxL_len _) (all_at (c := vtxL endV) (E := 32) (tot := 33) (hSx _ (List.mem_flatten.2 ⟨_, .tail _ (.tail _ (.tail _ (.tail _ (.head _)))), List.mem_singleton.2 rfl⟩)))) ?_
          refine QN.hole ?_
          refine QN.hole ?_
          refine QN.hole ?_
          refine QN.nil ⟨rfl, rfl, rfl, rfl, rfl, ?_⟩
          refine ⟨rfl, _, _, rfl, fun r15 => ?_⟩
          refine ⟨rfl, _, _, rfl, fun r16 => ?_⟩
          refine ⟨rfl, fun F => OW.mono (OW.frameSt (k := 1) (u := vtxV rootV) rfl rfl rfl ((List.size_toArray).trans (vtxL_len _)) (show 0 + 33 ≤ 33 by decide) (vtxL_one _)) ?_⟩
          rintro _ _ ⟨S1, hperm, rfl⟩
          refine ⟨_, hperm, (Over.refl _).cons.cons, ?_⟩
          rw [vtx_box, setAll (by rw [vtxL_len]; rfl)]
          change OL _ _ _ [_] _ _ _
          refine OL.cons trivial (vtx_st (u := endV) rfl rfl rfl) ?_
          rintro _ _ rfl
          change OL _ _ _ _ _ (vseg r16 endV :: vseg r15 rootV :: (GS m1 ++ (vseg r11 endV :: vseg r10 rootV :: []))) _
          refine OL.nil ?_
          refine hK9 _ _ ?_
          refine PW.keep (T' := [(0, _), (1, _), (9, _), (14, _), (15, _), (16, _)]) ⟨rfl, rfl, rfl, rfl, rfl, rfl, trivial⟩ ?_
          refine PW.seq fun K10 hK10 => ?_
          refine PW.seqOps ?_
          refine OL.dp rfl ?_
          refine OL.dp rfl ?_
          refine OL.nil ?_
          refine PW.keep (T' := [(0, _), (1, _), (9, _), (14, _), (15, _), (16, _), (88, _)]) ⟨rfl, rfl, rfl, rfl, rfl, rfl, rfl, trivial⟩ ?_
          refine PW.cond rfl (fun c88 => ?_) (fun c88 => ?_)
          · try simp only [decide_eq_true_eq, decide_eq_false_iff_not, beq_iff_eq, bne_iff_ne, beq_eq_false_iff_ne, bne_eq_false_iff_eq, Bool.not_eq_true', Bool.not_eq_false', Bool.not_eq_true, ne_eq, Decidable.not_not, Bool.false_eq_true, if_false, if_true] at c88
            have hup : ((hb1 1, (k : Int) - 1) : Vtx) = upA k := by
              unfold upA
              rw [if_neg (by omega)]
              have : (k : Int) - 1 = ((k - 1 : Nat) : Int) := by omega
              rw [this]
            have huo : okV ((hb1 1, (k : Int) - 1) : Vtx) := ⟨by show -9223372036854775808 ≤ (k : Int) - 1; omega, by show (k : Int) - 1 ≤ 9223372036854775807; omega⟩
            refine PW.ops ?_
            refine OL.det trivial (Yields.bldA (cs := bytesC (hb1 1).1) rfl) ?_
            refine OL.dp rfl ?_
            refine OL.det trivial (Yields.sub64 rfl rfl (by omega) (by omega)) ?_
            refine OL.det trivial (Yields.build (fill_vtx (h := hb1 1) rfl rfl)) ?_
            refine OL.cons trivial (vtx_stk (k := 1) (z := vtxL rootV) (u := (hb1 1, (k : Int) - 1)) rfl rfl rfl (vtxL_len _)) ?_
            rintro _ _ rfl
            change OL _ _ _ _ _ (vseg r16 endV :: vseg r15 (hb1 1, (k : Int) - 1) :: (GS m1 ++ (vseg r11 endV :: vseg r10 rootV :: []))) _
            refine OL.nil ?_
            refine hK10 _ _ ?_
            refine PW.keep (T' := [(0, _), (1, _), (9, _), (14, _), (15, _), (16, _)]) ⟨rfl, rfl, rfl, rfl, rfl, rfl, trivial⟩ ?_
            refine PW.seq fun K11 hK11 => ?_
            refine PW.seqOps ?_
            refine OL.dp rfl ?_
            refine OL.dp rfl ?_
            refine OL.dp rfl ?_
            refine OL.dp rfl ?_
            refine OL.nil ?_
            refine PW.keep (T' := [(0, _), (1, _), (9, _), (14, _), (15, _), (16, _), (96, _)]) ⟨rfl, rfl, rfl, rfl, rfl, rfl, rfl, trivial⟩ ?_
            refine PW.cond rfl (fun c96 => ?_) (fun c96 => ?_)
            · try simp only [decide_eq_true_eq, decide_eq_false_iff_not, beq_iff_eq, bne_iff_ne, beq_eq_false_iff_ne, bne_eq_false_iff_eq, Bool.not_eq_true', Bool.not_eq_false', Bool.not_eq_true, ne_eq, Decidable.not_not, Bool.false_eq_true, if_false, if_true] at c96
              have hdn : ((hb1 1, (k : Int)) : Vtx) = downA l.length k := by
                unfold downA
                rw [if_pos (by omega)]
              have hdo : okV ((hb1 1, (k : Int)) : Vtx) := ⟨by show -9223372036854775808 ≤ (k : Int); omega, by show (k : Int) ≤ 9223372036854775807; omega⟩
              refine PW.ops ?_
              refine OL.det trivial (Yields.bldA (cs := bytesC (hb1 1).1) rfl) ?_
              refine OL.dp rfl ?_
              refine OL.det trivial (Yields.build (fill_vtx (h := hb1 1) rfl rfl)) ?_
              refine OL.cons trivial (vtx_stk (k := 0) (z := vtxL endV) (u := (hb1 1, (k : Int))) rfl rfl rfl (vtxL_len _)) ?_
              rintro _ _ rfl
              change OL _ _ _ _ _ (vseg r16 (hb1 1, (k : Int)) :: vseg r15 _ :: (GS m1 ++ (vseg r11 endV :: vseg r10 rootV :: []))) _
              refine OL.nil ?_
              refine hK11 _ _ ?_
              refine PW.keep (T' := [(0, _), (1, _), (9, _), (14, _), (15, _), (16, _)]) ⟨rfl, rfl, rfl, rfl, rfl, rfl, trivial⟩ ?_
              refine PW.seq fun K12 hK12 => ?_
              refine PW.seqOps ?_
              refine OL.dp rfl ?_
              refine OL.det trivial (Yields.bldA (cs := bytesC (hb1 2).1) rfl) ?_
              refine OL.det trivial (Yields.ldA rfl (vtxL_len _) (all_at (List.mem_flatten.2 ⟨_, .tail _ (.head _), List.mem_singleton.2 rfl⟩))) ?_
              refine OL.det trivial (Yields.ldA rfl (vtxL_len _) (all_at (List.mem_flatten.2 ⟨_, .head _, List.mem_singleton.2 rfl⟩))) ?_
              refine OL.dp rfl ?_
              refine OL.det trivial (Yields.build (fill_part rfl rfl rfl rfl)) ?_
              refine OL.call trivial rfl (by rw [← ptr_eq hr1]; exact FC.subS gs_a2 (add2_fc (S := _ :: _ :: (vseg r11 endV :: vseg r10 rootV :: [])) (p := mkP 2 _ _ B d more) hg1 over_nil (mkP_rng huo hdo hms (by omega)) hxm.any Rd.nil (by rw [hn1]; show l.length + 1 + more.length + 1 ≤ _; omega) (by unfold addL; show m1.lim + (more.length + 2 * 0 + 3) ≤ _; omega))) ?_
              rintro _ _ ⟨m2, rfl, rfl, hg2, hl2, hr2, _⟩
              have hpl := mkP_pl (B := B) (d := d) (more := more) (n := l.length) hup hdn
              rw [hpl, came_new (newB hkl)] at hg2
              rw [hpl, (addE_zero hg1.inv hg1.sq).2 (newB hkl)]
              have hn2 : (allV [pB l.length k more, pA l]).length = more.length + l.length := by
                have e : allV [pB l.length k more, pA l] = own (pB l.length k more) ++ own (pA l) := by simp [allV]
                rw [e, List.length_append, own_len, own_len]; rfl
              refine OL.dp rfl ?_
              refine OL.nil ?_
              refine PW.keep (T' := [(0, _), (1, _), (9, _), (14, _), (107, _)]) ⟨rfl, rfl, rfl, rfl, rfl, trivial⟩ ?_
              refine PW.cond rfl (fun c107 => ?_) (fun c107 => ?_)
              · skip
                exfalso
                simp at c107
                -- done
              · skip
                refine PW.skip ?_
                refine hK12 _ _ ?_
                refine PW.keep (T' := [(0, _), (1, _), (9, _), (14, _)]) ⟨rfl, rfl, rfl, rfl, trivial⟩ ?_
                refine PW.seqOps ?_
                refine OL.dp rfl ?_
                refine OL.call trivial rfl (by rw [← ptr_eq (hr2.trans hr1)]; exact items_fc hg2 over_nil (by omega)) ?_
                rintro v109 _ ⟨its2, sgi2, junk2, rfl, hmap2, hsi2, hio2, hitn2⟩
                have htx2 : textI (pli its2) = l.take k ++ more ++ l.drop k := by unfold pli; rw [hmap2]; exact (itemsB hkl).1
                have hbl2 : its2.any (·.block) = false := by have := (itemsB (more := more) hkl).2; rw [← hmap2, List.any_map] at this; exact this
                obtain ⟨Ai2, ci2, rfl, hni2, hci2, hri2⟩ := slv_rdL (w0 := w0) hsi2
                refine OL.dp rfl ?_
                refine OL.nil ?_
                refine PW.keep (T' := [(0, _), (1, _), (14, _), (17, _)]) ⟨rfl, rfl, rfl, rfl, trivial⟩ ?_
                refine PW.seq fun K13 hK13 => ?_
                obtain ⟨AX, cX, hcutX, hnX, hrdX⟩ := cutS (A := A) (cap := c) (i := k) (l := l) hkl hcA hlc
                refine PW.quietRNK (base := sgi2 :: junk2 :: (GS m2 ++ (vseg r16 _ :: vseg r15 _ :: vseg r11 endV :: vseg r10 rootV :: []))) Try.mixed (Over.refl _) ?_
                refine QN.hole ?_
                refine QN.det trivial (fun Sx hSx => Yields.pure rfl) ?_
                refine QN.det trivial (fun Sx hSx => Yields.pure rfl) ?_
                refine QN.det trivial (fun Sx hSx => Yields.to (v' := .slice A k c) (Yields.slS (l := 0) (h := k) rfl rfl rfl (.inr ⟨rfl, rfl⟩) (.inl rfl) (by omega) (by omega)) (cutV0 _ _ _ _)) ?_
                refine QN.hole ?_
                refine QN.det trivial (fun Sx hSx => Yields.pure rfl) ?_
                refine QN.hole ?_
                refine QN.det trivial (fun Sx hSx => Yields.pure rfl) ?_
                refine QN.det trivial (fun Sx hSx => Yields.pure rfl) ?_
                refine QN.det trivial (fun Sx hSx => Yields.to (v' := .slice AX (l.drop k).length cX) (Yields.slS (l := k) (h := l.length) rfl rfl rfl (.inl rfl) (.inr ⟨rfl, rfl⟩) (by omega) (by omega)) hcutX) ?_
                refine QN.nil ⟨rfl, rfl, ordB_of (hp := [0, 4, 6]) rfl (by decide), ?_⟩
                refine ⟨rfl, OW.mono (OW.bsl0) ?_⟩
                rintro _ _ ⟨r110, rfl, rfl⟩
                refine ⟨(Over.refl _).cons, ?_⟩
                refine ⟨rfl, OW.mono (appS (k := 0) (m := 0) (xs := []) (l := l.take k) rfl rfl (SlV.mk' (cap := 0) rfl (Nat.le_refl 0) (by decide)) rfl rfl (by rw [List.length_take, Nat.min_eq_left hkl]) (preS hxl.any) hcA (by omega)) ?_⟩
                rintro v114 _ ⟨sg114, rfl, hs114⟩
                rw [List.nil_append] at hs114
                refine ⟨(Over.refl _).cons, ?_⟩
                refine ⟨rfl, OW.mono (appS (k := 0) (xs := l.take k) (l := more) rfl rfl hs114 rfl rfl rfl hxm.any hcB (by rw [List.length_take]; omega)) ?_⟩
                rintro v116 _ ⟨sg116, rfl, hs116⟩
                refine ⟨(Over.refl _).cons, ?_⟩
                change OL _ _ _ [_, _] _ _ _
                refine OL.cons trivial (appS (k := 0) (xs := l.take k ++ more) (l := l.drop k) rfl rfl hs116 rfl rfl rfl (hrdX _ _ hxl.any) hnX (by simp only [List.length_append, List.length_take, List.length_drop]; omega)) ?_
                rintro v120 _ ⟨sg120, rfl, hs120⟩
                obtain ⟨A120, c120, rfl, hn120, hc120, hr120⟩ := slv_rdL (w0 := w0) hs120
                refine OL.dp rfl ?_
                refine OL.nil ?_
                refine hK13 _ _ ?_
                refine PW.keep (T' := [(17, _), (18, _)]) ⟨rfl, rfl, trivial⟩ ?_
                refine PW.seqOps ?_
                refine OL.dp rfl ?_
                refine OL.call trivial rfl (textI_fc (rd_mem (hri2 []) (by simp)) (fun x hx => (hio2 x hx).rd (by simp)) (by omega)) ?_
                rintro v122 _ ⟨sgt2, rfl, hst2, _⟩
                rw [htx2] at hst2
                obtain ⟨At2, ct2, rfl, hnt2, hct2, hrt2⟩ := slv_rdL (w0 := w0) hst2
                refine OL.dp rfl ?_
                refine OL.call trivial rfl (sameS_fc (a := l.take k ++ more ++ l.drop k) (b := l.take k ++ more ++ l.drop k) (hrt2 _) (rd_mem (hr120 []) (by simp)) (by simp only [List.length_append, List.length_take, List.length_drop]; omega) (by simp only [List.length_append, List.length_take, List.length_drop]; omega)) ?_
                rintro _ Sx ⟨rfl, hSx⟩
                rw [hSx]
                clear hSx
                rw [decide_eq_true (rfl : (l.take k ++ more ++ l.drop k) = l.take k ++ more ++ l.drop k)]
                refine OL.dp rfl ?_
                refine OL.det rfl (Yields.pure rfl) ?_
                refine OL.call rfl rfl (conflict_fc (rd_mem (hri2 []) (by simp)) (by omega)) ?_
                rintro _ Sx ⟨rfl, hSx⟩
                rw [hSx]
                clear hSx
                rw [hbl2]
                refine OL.det rfl (Yields.pure rfl) ?_
                refine OL.dp rfl ?_
                refine OL.dp rfl ?_
                refine OL.call rfl rfl (works_fc) ?_
                rintro _ Sx ⟨rfl, hSx⟩
                rw [hSx]
                clear hSx
                refine OL.dp rfl ?_
                refine OL.dp rfl ?_
                refine OL.nil ?_
                refine PW.keep (T' := [(6, _)]) ⟨rfl, trivial⟩ ?_
                refine PW.ret ?_
                change (Exit.ret = Exit.normal ∨ Exit.ret = Exit.ret) ∧ ∃ v, resV _ _ = some v ∧ _
                exact ⟨.inr rfl, _, rfl, _, Sub.refl _, rfl⟩
            · try simp only [decide_eq_true_eq, decide_eq_false_iff_not, beq_iff_eq, bne_iff_ne, beq_eq_false_iff_ne, bne_eq_false_iff_eq, Bool.not_eq_true', Bool.not_eq_false', Bool.not_eq_true, ne_eq, Decidable.not_not, Bool.false_eq_true, if_false, if_true] at c96
              have hdn : endV = downA l.length k := by
                unfold downA
                rw [if_neg (by omega)]
              have hdo := okEnd
              refine PW.skip ?_
              refine hK11 _ _ ?_
              refine PW.keep (T' := [(0, _), (1, _), (9, _), (14, _), (15, _), (16, _)]) ⟨rfl, rfl, rfl, rfl, rfl, rfl, trivial⟩ ?_
              refine PW.seq fun K14 hK14 => ?_
              refine PW.seqOps ?_
              refine OL.dp rfl ?_
              refine OL.det trivial (Yields.bldA (cs := bytesC (hb1 2).1) rfl) ?_
              refine OL.det trivial (Yields.ldA rfl (vtxL_len _) (all_at (List.mem_flatten.2 ⟨_, .tail _ (.head _), List.mem_singleton.2 rfl⟩))) ?_
              refine OL.det trivial (Yields.ldA rfl (vtxL_len _) (all_at (List.mem_flatten.2 ⟨_, .head _, List.mem_singleton.2 rfl⟩))) ?_
              refine OL.dp rfl ?_
              refine OL.det trivial (Yields.build (fill_part rfl rfl rfl rfl)) ?_
              refine OL.call trivial rfl (by rw [← ptr_eq hr1]; exact FC.subS gs_a2 (add2_fc (S := _ :: _ :: (vseg r11 endV :: vseg r10 rootV :: [])) (p := mkP 2 _ _ B d more) hg1 over_nil (mkP_rng huo hdo hms (by omega)) hxm.any Rd.nil (by rw [hn1]; show l.length + 1 + more.length + 1 ≤ _; omega) (by unfold addL; show m1.lim + (more.length + 2 * 0 + 3) ≤ _; omega))) ?_
              rintro _ _ ⟨m2, rfl, rfl, hg2, hl2, hr2, _⟩
              have hpl := mkP_pl (B := B) (d := d) (more := more) (n := l.length) hup hdn
              rw [hpl, came_new (newB hkl)] at hg2
              rw [hpl, (addE_zero hg1.inv hg1.sq).2 (newB hkl)]
              have hn2 : (allV [pB l.length k more, pA l]).length = more.length + l.length := by
                have e : allV [pB l.length k more, pA l] = own (pB l.length k more) ++ own (pA l) := by simp [allV]
                rw [e, List.length_append, own_len, own_len]; rfl
              refine OL.dp rfl ?_
              refine OL.nil ?_
              refine PW.keep (T' := [(0, _), (1, _), (9, _), (14, _), (107, _)]) ⟨rfl, rfl, rfl, rfl, rfl, trivial⟩ ?_
              refine PW.cond rfl (fun c107 => ?_) (fun c107 => ?_)
              · skip
                exfalso
                simp at c107
                -- done
              · skip
                refine PW.skip ?_
                refine hK14 _ _ ?_
                refine PW.keep (T' := [(0, _), (1, _), (9, _), (14, _)]) ⟨rfl, rfl, rfl, rfl, trivial⟩ ?_
                refine PW.seqOps ?_
                refine OL.dp rfl ?_
                refine OL.call trivial rfl (by rw [← ptr_eq (hr2.trans hr1)]; exact items_fc hg2 over_nil (by omega)) ?_
                rintro v109 _ ⟨its2, sgi2, junk2, rfl, hmap2, hsi2, hio2, hitn2⟩
                have htx2 : textI (pli its2) = l.take k ++ more ++ l.drop k := by unfold pli; rw [hmap2]; exact (itemsB hkl).1
                have hbl2 : its2.any (·.block) = false := by have := (itemsB (more := more) hkl).2; rw [← hmap2, List.any_map] at this; exact this
                obtain ⟨Ai2, ci2, rfl, hni2, hci2, hri2⟩ := slv_rdL (w0 := w0) hsi2
                refine OL.dp rfl ?_
                refine OL.nil ?_
                refine PW.keep (T' := [(0, _), (1, _), (14, _), (17, _)]) ⟨rfl, rfl, rfl, rfl, trivial⟩ ?_
                refine PW.seq fun K15 hK15 => ?_
                obtain ⟨AX, cX, hcutX, hnX, hrdX⟩ := cutS (A := A) (cap := c) (i := k) (l := l) hkl hcA hlc
                refine PW.quietRNK (base := sgi2 :: junk2 :: (GS m2 ++ (vseg r16 _ :: vseg r15 _ :: vseg r11 endV :: vseg r10 rootV :: []))) Try.mixed (Over.refl _) ?_
                refine QN.hole ?_
                refine QN.det trivial (fun Sx hSx => Yields.pure rfl) ?_
                refine QN.det trivial (fun Sx hSx => Yields.pure rfl) ?_
                refine QN.det trivial (fun Sx hSx => Yields.to (v' := .slice A k c) (Yields.slS (l := 0) (h := k) rfl rfl rfl (.inr ⟨rfl, rfl⟩) (.inl rfl) (by omega) (by omega)) (cutV0 _ _ _ _)) ?_
                refine QN.hole ?_
                refine QN.det trivial (fun Sx hSx => Yields.pure rfl) ?_
                refine QN.hole ?_
                refine QN.det trivial (fun Sx hSx => Yields.pure rfl) ?_
                refine QN.det trivial (fun Sx hSx => Yields.pure rfl) ?_
                refine QN.det trivial (fun Sx hSx => Yields.to (v' := .slice AX (l.drop k).length cX) (Yields.slS (l := k) (h := l.length) rfl rfl rfl (.inl rfl) (.inr ⟨rfl, rfl⟩) (by omega) (by omega)) hcutX) ?_
                refine QN.nil ⟨rfl, rfl, ordB_of (hp := [0, 4, 6]) rfl (by decide), ?_⟩
                refine ⟨rfl, OW.mono (OW.bsl0) ?_⟩
                rintro _ _ ⟨r110, rfl, rfl⟩
                refine ⟨(Over.refl _).cons, ?_⟩
                refine ⟨rfl, OW.mono (appS (k := 0) (m := 0) (xs := []) (l := l.take k) rfl rfl (SlV.mk' (cap := 0) rfl (Nat.le_refl 0) (by decide)) rfl rfl (by rw [List.length_take, Nat.min_eq_left hkl]) (preS hxl.any) hcA (by omega)) ?_⟩
                rintro v114 _ ⟨sg114, rfl, hs114⟩
                rw [List.nil_append] at hs114
                refine ⟨(Over.refl _).cons, ?_⟩
                refine ⟨rfl, OW.mono (appS (k := 0) (xs := l.take k) (l := more) rfl rfl hs114 rfl rfl rfl hxm.any hcB (by rw [List.length_take]; omega)) ?_⟩
                rintro v116 _ ⟨sg116, rfl, hs116⟩
                refine ⟨(Over.refl _).cons, ?_⟩
                change OL _ _ _ [_, _] _ _ _
                refine OL.cons trivial (appS (k := 0) (xs := l.take k ++ more) (l := l.drop k) rfl rfl hs116 rfl rfl rfl (hrdX _ _ hxl.any) hnX (by simp only [List.length_append, List.length_take, List.length_drop]; omega)) ?_
                rintro v120 _ ⟨sg120, rfl, hs120⟩
                obtain ⟨A120, c120, rfl, hn120, hc120, hr120⟩ := slv_rdL (w0 := w0) hs120
                refine OL.dp rfl ?_
                refine OL.nil ?_
                refine hK15 _ _ ?_
                refine PW.keep (T' := [(17, _), (18, _)]) ⟨rfl, rfl, trivial⟩ ?_
                refine PW.seqOps ?_
                refine OL.dp rfl ?_
                refine OL.call trivial rfl (textI_fc (rd_mem (hri2 []) (by simp)) (fun x hx => (hio2 x hx).rd (by simp)) (by omega)) ?_
                rintro v122 _ ⟨sgt2, rfl, hst2, _⟩
                rw [htx2] at hst2
                obtain ⟨At2, ct2, rfl, hnt2, hct2, hrt2⟩ := slv_rdL (w0 := w0) hst2
                refine OL.dp rfl ?_
                refine OL.call trivial rfl (sameS_fc (a := l.take k ++ more ++ l.drop k) (b := l.take k ++ more ++ l.drop k) (hrt2 _) (rd_mem (hr120 []) (by simp)) (by simp only [List.length_append, List.length_take, List.length_drop]; omega) (by simp only [List.length_append, List.length_take, List.length_drop]; omega)) ?_
                rintro _ Sx ⟨rfl, hSx⟩
                rw [hSx]
                clear hSx
                rw [decide_eq_true (rfl : (l.take k ++ more ++ l.drop k) = l.take k ++ more ++ l.drop k)]
                refine OL.dp rfl ?_
                refine OL.det rfl (Yields.pure rfl) ?_
                refine OL.call rfl rfl (conflict_fc (rd_mem (hri2 []) (by simp)) (by omega)) ?_
                rintro _ Sx ⟨rfl, hSx⟩
                rw [hSx]
                clear hSx
                rw [hbl2]
                refine OL.det rfl (Yields.pure rfl) ?_
                refine OL.dp rfl ?_
                refine OL.dp rfl ?_
                refine OL.call rfl rfl (works_fc) ?_
                rintro _ Sx ⟨rfl, hSx⟩
                rw [hSx]
                clear hSx
                refine OL.dp rfl ?_
                refine OL.dp rfl ?_
                refine OL.nil ?_
                refine PW.keep (T' := [(6, _)]) ⟨rfl, trivial⟩ ?_
                refine PW.ret ?_
                change (Exit.ret = Exit.normal ∨ Exit.ret = Exit.ret) ∧ ∃ v, resV _ _ = some v ∧ _
                exact ⟨.inr rfl, _, rfl, _, Sub.refl _, rfl⟩
          · try simp only [decide_eq_true_eq, decide_eq_false_iff_not, beq_iff_eq, bne_iff_ne, beq_eq_false_iff_ne, bne_eq_false_iff_eq, Bool.not_eq_true', Bool.not_eq_false', Bool.not_eq_true, ne_eq, Decidable.not_not, Bool.false_eq_true, if_false, if_true] at c88
            have hup : rootV = upA k := by
              unfold upA
              rw [if_pos (by omega)]
            have huo := okRoot
            refine PW.skip ?_
            refine hK10 _ _ ?_
            refine PW.keep (T' := [(0, _), (1, _), (9, _), (14, _), (15, _), (16, _)]) ⟨rfl, rfl, rfl, rfl, rfl, rfl, trivial⟩ ?_
            refine PW.seq fun K16 hK16 => ?_
            refine PW.seqOps ?_
            refine OL.dp rfl ?_
            refine OL.dp rfl ?_
            refine OL.dp rfl ?_
            refine OL.dp rfl ?_
            refine OL.nil ?_
            refine PW.keep (T' := [(0, _), (1, _), (9, _), (14, _), (15, _), (16, _), (96, _)]) ⟨rfl, rfl, rfl, rfl, rfl, rfl, rfl, trivial⟩ ?_
            refine PW.cond rfl (fun c96 => ?_) (fun c96 => ?_)
            · try simp only [decide_eq_true_eq, decide_eq_false_iff_not, beq_iff_eq, bne_iff_ne, beq_eq_false_iff_ne, bne_eq_false_iff_eq, Bool.not_eq_true', Bool.not_eq_false', Bool.not_eq_true, ne_eq, Decidable.not_not, Bool.false_eq_true, if_false, if_true] at c96
              have hdn : ((hb1 1, (k : Int)) : Vtx) = downA l.length k := by
                unfold downA
                rw [if_pos (by omega)]
              have hdo : okV ((hb1 1, (k : Int)) : Vtx) := ⟨by show -9223372036854775808 ≤ (k : Int); omega, by show (k : Int) ≤ 9223372036854775807; omega⟩
              refine PW.ops ?_
              refine OL.det trivial (Yields.bldA (cs := bytesC (hb1 1).1) rfl) ?_
              refine OL.dp rfl ?_
              refine OL.det trivial (Yields.build (fill_vtx (h := hb1 1) rfl rfl)) ?_
              refine OL.cons trivial (vtx_stk (k := 0) (z := vtxL endV) (u := (hb1 1, (k : Int))) rfl rfl rfl (vtxL_len _)) ?_
              rintro _ _ rfl
              change OL _ _ _ _ _ (vseg r16 (hb1 1, (k : Int)) :: vseg r15 _ :: (GS m1 ++ (vseg r11 endV :: vseg r10 rootV :: []))) _
              refine OL.nil ?_
              refine hK16 _ _ ?_
              refine PW.keep (T' := [(0, _), (1, _), (9, _), (14, _), (15, _), (16, _)]) ⟨rfl, rfl, rfl, rfl, rfl, rfl, trivial⟩ ?_
              refine PW.seq fun K17 hK17 => ?_
              refine PW.seqOps ?_
              refine OL.dp rfl ?_
              refine OL.det trivial (Yields.bldA (cs := bytesC (hb1 2).1) rfl) ?_
              refine OL.det trivial (Yields.ldA rfl (vtxL_len _) (all_at (List.mem_flatten.2 ⟨_, .tail _ (.head _), List.mem_singleton.2 rfl⟩))) ?_
              refine OL.det trivial (Yields.ldA rfl (vtxL_len _) (all_at (List.mem_flatten.2 ⟨_, .head _, List.mem_singleton.2 rfl⟩))) ?_
              refine OL.dp rfl ?_
              refine OL.det trivial (Yields.build (fill_part rfl rfl rfl rfl)) ?_
              refine OL.call trivial rfl (by rw [← ptr_eq hr1]; exact FC.subS gs_a2 (add2_fc (S := _ :: _ :: (vseg r11 endV :: vseg r10 rootV :: [])) (p := mkP 2 _ _ B d more) hg1 over_nil (mkP_rng huo hdo hms (by omega)) hxm.any Rd.nil (by rw [hn1]; show l.length + 1 + more.length + 1 ≤ _; omega) (by unfold addL; show m1.lim + (more.length + 2 * 0 + 3) ≤ _; omega))) ?_
              rintro _ _ ⟨m2, rfl, rfl, hg2, hl2, hr2, _⟩
              have hpl := mkP_pl (B := B) (d := d) (more := more) (n := l.length) hup hdn
              rw [hpl, came_new (newB hkl)] at hg2
              rw [hpl, (addE_zero hg1.inv hg1.sq).2 (newB hkl)]
              have hn2 : (allV [pB l.length k more, pA l]).length = more.length + l.length := by
                have e : allV [pB l.length k more, pA l] = own (pB l.length k more) ++ own (pA l) := by simp [allV]
                rw [e, List.length_append, own_len, own_len]; rfl
              refine OL.dp rfl ?_
              refine OL.nil ?_
              refine PW.keep (T' := [(0, _), (1, _), (9, _), (14, _), (107, _)]) ⟨rfl, rfl, rfl, rfl, rfl, trivial⟩ ?_
              refine PW.cond rfl (fun c107 => ?_) (fun c107 => ?_)
              · skip
                exfalso
                simp at c107
                -- done
              · skip
                refine PW.skip ?_
                refine hK17 _ _ ?_
                refine PW.keep (T' := [(0, _), (1, _), (9, _), (14, _)]) ⟨rfl, rfl, rfl, rfl, trivial⟩ ?_
                refine PW.seqOps ?_
                refine OL.dp rfl ?_
                refine OL.call trivial rfl (by rw [← ptr_eq (hr2.trans hr1)]; exact items_fc hg2 over_nil (by omega)) ?_
                rintro v109 _ ⟨its2, sgi2, junk2, rfl, hmap2, hsi2, hio2, hitn2⟩
                have htx2 : textI (pli its2) = l.take k ++ more ++ l.drop k := by unfold pli; rw [hmap2]; exact (itemsB hkl).1
                have hbl2 : its2.any (·.block) = false := by have := (itemsB (more := more) hkl).2; rw [← hmap2, List.any_map] at this; exact this
                obtain ⟨Ai2, ci2, rfl, hni2, hci2, hri2⟩ := slv_rdL (w0 := w0) hsi2
                refine OL.dp rfl ?_
                refine OL.nil ?_
                refine PW.keep (T' := [(0, _), (1, _), (14, _), (17, _)]) ⟨rfl, rfl, rfl, rfl, trivial⟩ ?_
                refine PW.seq fun K18 hK18 => ?_
                obtain ⟨AX, cX, hcutX, hnX, hrdX⟩ := cutS (A := A) (cap := c) (i := k) (l := l) hkl hcA hlc
                refine PW.quietRNK (base := sgi2 :: junk2 :: (GS m2 ++ (vseg r16 _ :: vseg r15 _ :: vseg r11 endV :: vseg r10 rootV :: []))) Try.mixed (Over.refl _) ?_
                refine QN.hole ?_
                refine QN.det trivial (fun Sx hSx => Yields.pure rfl) ?_
                refine QN.det trivial (fun Sx hSx => Yields.pure rfl) ?_
                refine QN.det trivial (fun Sx hSx => Yields.to (v' := .slice A k c) (Yields.slS (l := 0) (h := k) rfl rfl rfl (.inr ⟨rfl, rfl⟩) (.inl rfl) (by omega) (by omega)) (cutV0 _ _ _ _)) ?_
                refine QN.hole ?_
                refine QN.det trivial (fun Sx hSx => Yields.pure rfl) ?_
                refine QN.hole ?_
                refine QN.det trivial (fun Sx hSx => Yields.pure rfl) ?_
                refine QN.det trivial (fun Sx hSx => Yields.pure rfl) ?_
                refine QN.det trivial (fun Sx hSx => Yields.to (v' := .slice AX (l.drop k).length cX) (Yields.slS (l := k) (h := l.length) rfl rfl rfl (.inl rfl) (.inr ⟨rfl, rfl⟩) (by omega) (by omega)) hcutX) ?_
                refine QN.nil ⟨rfl, rfl, ordB_of (hp := [0, 4, 6]) rfl (by decide), ?_⟩
                refine ⟨rfl, OW.mono (OW.bsl0) ?_⟩
                rintro _ _ ⟨r110, rfl, rfl⟩
                refine ⟨(Over.refl _).cons, ?_⟩
                refine ⟨rfl, OW.mono (appS (k := 0) (m := 0) (xs := []) (l := l.take k) rfl rfl (SlV.mk' (cap := 0) rfl (Nat.le_refl 0) (by decide)) rfl rfl (by rw [List.length_take, Nat.min_eq_left hkl]) (preS hxl.any) hcA (by omega)) ?_⟩
                rintro v114 _ ⟨sg114, rfl, hs114⟩
                rw [List.nil_append] at hs114
                refine ⟨(Over.refl _).cons, ?_⟩
                refine ⟨rfl, OW.mono (appS (k := 0) (xs := l.take k) (l := more) rfl rfl hs114 rfl rfl rfl hxm.any hcB (by rw [List.length_take]; omega)) ?_⟩
                rintro v116 _ ⟨sg116, rfl, hs116⟩
                refine ⟨(Over.refl _).cons, ?_⟩
                change OL _ _ _ [_, _] _ _ _
                refine OL.cons trivial (appS (k := 0) (xs := l.take k ++ more) (l := l.drop k) rfl rfl hs116 rfl rfl rfl (hrdX _ _ hxl.any) hnX (by simp only [List.length_append, List.length_take, List.length_drop]; omega)) ?_
                rintro v120 _ ⟨sg120, rfl, hs120⟩
                obtain ⟨A120, c120, rfl, hn120, hc120, hr120⟩ := slv_rdL (w0 := w0) hs120
                refine OL.dp rfl ?_
                refine OL.nil ?_
                refine hK18 _ _ ?_
                refine PW.keep (T' := [(17, _), (18, _)]) ⟨rfl, rfl, trivial⟩ ?_
                refine PW.seqOps ?_
                refine OL.dp rfl ?_
                refine OL.call trivial rfl (textI_fc (rd_mem (hri2 []) (by simp)) (fun x hx => (hio2 x hx).rd (by simp)) (by omega)) ?_
                rintro v122 _ ⟨sgt2, rfl, hst2, _⟩
                rw [htx2] at hst2
                obtain ⟨At2, ct2, rfl, hnt2, hct2, hrt2⟩ := slv_rdL (w0 := w0) hst2
                refine OL.dp rfl ?_
                refine OL.call trivial rfl (sameS_fc (a := l.take k ++ more ++ l.drop k) (b := l.take k ++ more ++ l.drop k) (hrt2 _) (rd_mem (hr120 []) (by simp)) (by simp only [List.length_append, List.length_take, List.length_drop]; omega) (by simp only [List.length_append, List.length_take, List.length_drop]; omega)) ?_
                rintro _ Sx ⟨rfl, hSx⟩
                rw [hSx]
                clear hSx
                rw [decide_eq_true (rfl : (l.take k ++ more ++ l.drop k) = l.take k ++ more ++ l.drop k)]
                refine OL.dp rfl ?_
                refine OL.det rfl (Yields.pure rfl) ?_
                refine OL.call rfl rfl (conflict_fc (rd_mem (hri2 []) (by simp)) (by omega)) ?_
                rintro _ Sx ⟨rfl, hSx⟩
                rw [hSx]
                clear hSx
                rw [hbl2]
                refine OL.det rfl (Yields.pure rfl) ?_
                refine OL.dp rfl ?_
                refine OL.dp rfl ?_
                refine OL.call rfl rfl (works_fc) ?_
                rintro _ Sx ⟨rfl, hSx⟩
                rw [hSx]
                clear hSx
                refine OL.dp rfl ?_
                refine OL.dp rfl ?_
                refine OL.nil ?_
                refine PW.keep (T' := [(6, _)]) ⟨rfl, trivial⟩ ?_
                refine PW.ret ?_
                change (Exit.ret = Exit.normal ∨ Exit.ret = Exit.ret) ∧ ∃ v, resV _ _ = some v ∧ _
                exact ⟨.inr rfl, _, rfl, _, Sub.refl _, rfl⟩
            · try simp only [decide_eq_true_eq, decide_eq_false_iff_not, beq_iff_eq, bne_iff_ne, beq_eq_false_iff_ne, bne_eq_false_iff_eq, Bool.not_eq_true', Bool.not_eq_false', Bool.not_eq_true, ne_eq, Decidable.not_not, Bool.false_eq_true, if_false, if_true] at c96
              have hdn : endV = downA l.length k := by
                unfold downA
                rw [if_neg (by omega)]
              have hdo := okEnd
              refine PW.skip ?_
              refine hK16 _ _ ?_
              refine PW.keep (T' := [(0, _), (1, _), (9, _), (14, _), (15, _), (16, _)]) ⟨rfl, rfl, rfl, rfl, rfl, rfl, trivial⟩ ?_
              refine PW.seq fun K19 hK19 => ?_
              refine PW.seqOps ?_
              refine OL.dp rfl ?_
              refine OL.det trivial (Yields.bldA (cs := bytesC (hb1 2).1) rfl) ?_
              refine OL.det trivial (Yields.ldA rfl (vtxL_len _) (all_at (List.mem_flatten.2 ⟨_, .tail _ (.head _), List.mem_singleton.2 rfl⟩))) ?_
              refine OL.det trivial (Yields.ldA rfl (vtxL_len _) (all_at (List.mem_flatten.2 ⟨_, .head _, List.mem_singleton.2 rfl⟩))) ?_
              refine OL.dp rfl ?_
              refine OL.det trivial (Yields.build (fill_part rfl rfl rfl rfl)) ?_
              refine OL.call trivial rfl (by rw [← ptr_eq hr1]; exact FC.subS gs_a2 (add2_fc (S := _ :: _ :: (vseg r11 endV :: vseg r10 rootV :: [])) (p := mkP 2 _ _ B d more) hg1 over_nil (mkP_rng huo hdo hms (by omega)) hxm.any Rd.nil (by rw [hn1]; show l.length + 1 + more.length + 1 ≤ _; omega) (by unfold addL; show m1.lim + (more.length + 2 * 0 + 3) ≤ _; omega))) ?_
              rintro _ _ ⟨m2, rfl, rfl, hg2, hl2, hr2, _⟩
              have hpl := mkP_pl (B := B) (d := d) (more := more) (n := l.length) hup hdn
              rw [hpl, came_new (newB hkl)] at hg2
              rw [hpl, (addE_zero hg1.inv hg1.sq).2 (newB hkl)]
              have hn2 : (allV [pB l.length k more, pA l]).length = more.length + l.length := by
                have e : allV [pB l.length k more, pA l] = own (pB l.length k more) ++ own (pA l) := by simp [allV]
                rw [e, List.length_append, own_len, own_len]; rfl
              refine OL.dp rfl ?_
              refine OL.nil ?_
              refine PW.keep (T' := [(0, _), (1, _), (9, _), (14, _), (107, _)]) ⟨rfl, rfl, rfl, rfl, rfl, trivial⟩ ?_
              refine PW.cond rfl (fun c107 => ?_) (fun c107 => ?_)
              · skip
                exfalso
                simp at c107
                -- done
              · skip
                refine PW.skip ?_
                refine hK19 _ _ ?_
                refine PW.keep (T' := [(0, _), (1, _), (9, _), (14, _)]) ⟨rfl, rfl, rfl, rfl, trivial⟩ ?_
                refine PW.seqOps ?_
                refine OL.dp rfl ?_
                refine OL.call trivial rfl (by rw [← ptr_eq (hr2.trans hr1)]; exact items_fc hg2 over_nil (by omega)) ?_
                rintro v109 _ ⟨its2, sgi2, junk2, rfl, hmap2, hsi2, hio2, hitn2⟩
                have htx2 : textI (pli its2) = l.take k ++ more ++ l.drop k := by unfold pli; rw [hmap2]; exact (itemsB hkl).1
                have hbl2 : its2.any (·.block) = false := by have := (itemsB (more := more) hkl).2; rw [← hmap2, List.any_map] at this; exact this
                obtain ⟨Ai2, ci2, rfl, hni2, hci2, hri2⟩ := slv_rdL (w0 := w0) hsi2
                refine OL.dp rfl ?_
                refine OL.nil ?_
                refine PW.keep (T' := [(0, _), (1, _), (14, _), (17, _)]) ⟨rfl, rfl, rfl, rfl, trivial⟩ ?_
                refine PW.seq fun K20 hK20 => ?_
                obtain ⟨AX, cX, hcutX, hnX, hrdX⟩ := cutS (A := A) (cap := c) (i := k) (l := l) hkl hcA hlc
                refine PW.quietRNK (base := sgi2 :: junk2 :: (GS m2 ++ (vseg r16 _ :: vseg r15 _ :: vseg r11 endV :: vseg r10 rootV :: []))) Try.mixed (Over.refl _) ?_
                refine QN.hole ?_
                refine QN.det trivial (fun Sx hSx => Yields.pure rfl) ?_
                refine QN.det trivial (fun Sx hSx => Yields.pure rfl) ?_
                refine QN.det trivial (fun Sx hSx => Yields.to (v' := .slice A k c) (Yields.slS (l := 0) (h := k) rfl rfl rfl (.inr ⟨rfl, rfl⟩) (.inl rfl) (by omega) (by omega)) (cutV0 _ _ _ _)) ?_
                refine QN.hole ?_
                refine QN.det trivial (fun Sx hSx => Yields.pure rfl) ?_
                refine QN.hole ?_
                refine QN.det trivial (fun Sx hSx => Yields.pure rfl) ?_
                refine QN.det trivial (fun Sx hSx => Yields.pure rfl) ?_
                refine QN.det trivial (fun Sx hSx => Yields.to (v' := .slice AX (l.drop k).length cX) (Yields.slS (l := k) (h := l.length) rfl rfl rfl (.inl rfl) (.inr ⟨rfl, rfl⟩) (by omega) (by omega)) hcutX) ?_
                refine QN.nil ⟨rfl, rfl, ordB_of (hp := [0, 4, 6]) rfl (by decide), ?_⟩
                refine ⟨rfl, OW.mono (OW.bsl0) ?_⟩
                rintro _ _ ⟨r110, rfl, rfl⟩
                refine ⟨(Over.refl _).cons, ?_⟩
                refine ⟨rfl, OW.mono (appS (k := 0) (m := 0) (xs := []) (l := l.take k) rfl rfl (SlV.mk' (cap := 0) rfl (Nat.le_refl 0) (by decide)) rfl rfl (by rw [List.length_take, Nat.min_eq_left hkl]) (preS hxl.any) hcA (by omega)) ?_⟩
                rintro v114 _ ⟨sg114, rfl, hs114⟩
                rw [List.nil_append] at hs114
                refine ⟨(Over.refl _).cons, ?_⟩
                refine ⟨rfl, OW.mono (appS (k := 0) (xs := l.take k) (l := more) rfl rfl hs114 rfl rfl rfl hxm.any hcB (by rw [List.length_take]; omega)) ?_⟩
                rintro v116 _ ⟨sg116, rfl, hs116⟩
                refine ⟨(Over.refl _).cons, ?_⟩
                change OL _ _ _ [_, _] _ _ _
                refine OL.cons trivial (appS (k := 0) (xs := l.take k ++ more) (l := l.drop k) rfl rfl hs116 rfl rfl rfl (hrdX _ _ hxl.any) hnX (by simp only [List.length_append, List.length_take, List.length_drop]; omega)) ?_
                rintro v120 _ ⟨sg120, rfl, hs120⟩
                obtain ⟨A120, c120, rfl, hn120, hc120, hr120⟩ := slv_rdL (w0 := w0) hs120
                refine OL.dp rfl ?_
                refine OL.nil ?_
                refine hK20 _ _ ?_
                refine PW.keep (T' := [(17, _), (18, _)]) ⟨rfl, rfl, trivial⟩ ?_
                refine PW.seqOps ?_
                refine OL.dp rfl ?_
                refine OL.call trivial rfl (textI_fc (rd_mem (hri2 []) (by simp)) (fun x hx => (hio2 x hx).rd (by simp)) (by omega)) ?_
                rintro v122 _ ⟨sgt2, rfl, hst2, _⟩
                rw [htx2] at hst2
                obtain ⟨At2, ct2, rfl, hnt2, hct2, hrt2⟩ := slv_rdL (w0 := w0) hst2
                refine OL.dp rfl ?_
                refine OL.call trivial rfl (sameS_fc (a := l.take k ++ more ++ l.drop k) (b := l.take k ++ more ++ l.drop k) (hrt2 _) (rd_mem (hr120 []) (by simp)) (by simp only [List.length_append, List.length_take, List.length_drop]; omega) (by simp only [List.length_append, List.length_take, List.length_drop]; omega)) ?_
                rintro _ Sx ⟨rfl, hSx⟩
                rw [hSx]
                clear hSx
                rw [decide_eq_true (rfl : (l.take k ++ more ++ l.drop k) = l.take k ++ more ++ l.drop k)]
                refine OL.dp rfl ?_
                refine OL.det rfl (Yields.pure rfl) ?_
                refine OL.call rfl rfl (conflict_fc (rd_mem (hri2 []) (by simp)) (by omega)) ?_
                rintro _ Sx ⟨rfl, hSx⟩
                rw [hSx]
                clear hSx
                rw [hbl2]
                refine OL.det rfl (Yields.pure rfl) ?_
                refine OL.dp rfl ?_
                refine OL.dp rfl ?_
                refine OL.call rfl rfl (works_fc) ?_
                rintro _ Sx ⟨rfl, hSx⟩
                rw [hSx]
                clear hSx
                refine OL.dp rfl ?_
                refine OL.dp rfl ?_
                refine OL.nil ?_
                refine PW.keep (T' := [(6, _)]) ⟨rfl, trivial⟩ ?_
                refine PW.ret ?_
                change (Exit.ret = Exit.normal ∨ Exit.ret = Exit.ret) ∧ ∃ v, resV _ _ = some v ∧ _
                exact ⟨.inr rfl, _, rfl, _, Sub.refl _, rfl⟩
end Go.Proofs.Gr
