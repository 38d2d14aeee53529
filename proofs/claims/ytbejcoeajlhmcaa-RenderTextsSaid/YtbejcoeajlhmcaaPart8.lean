/- Walks and plain facts for the laws of this seat: what each function answers, for every input. -/
import Derived.Test.YtbejcoeajlhmcaaPart7

set_option linter.unusedVariables false
set_option linter.unusedSimpArgs false
namespace Go.Proofs.Gr
open Go.SL Go.RowKit Go.Proofs Go.GP
set_option maxHeartbeats 1000000
theorem rHasI_fc {w0 : World} {S : SS} {A : Option Addr} {c : Nat} {l : List Int} {z : Int} (hx : Rd w0 S A (ints l)) (hb : l.length ≤ 1000000000000) :
    FC Try.prog w0 77 [.slice A l.length c, .int .i64 z] S (fun u S' => u = .bool (l.contains z) ∧ S' = S) := by
  refine FC.of Try.known77 (by simp) ?_
  unfold Try.pc77
  simp only [argT]
  refine PW.seqOps ?_
  refine OL.dp rfl ?_
  refine OL.nil ?_
  refine PW.keep (T' := [(0, _), (1, _)]) ⟨rfl, rfl, trivial⟩ ?_
  refine PW.seq fun K1 hK1 => ?_
  refine PW.seqOps ?_
  refine OL.dp rfl ?_
  refine OL.nil ?_
  refine PW.keep (T' := [(0, _), (1, _), (5, _)]) ⟨rfl, rfl, rfl, trivial⟩ ?_
  refine PW.block ?_
  refine PW.keep (T' := [(0, _), (1, _), (5, _)]) ⟨rfl, rfl, rfl, trivial⟩ ?_
  refine PW.loopK (I := fun mm T S' => ∃ (k : Nat), (k ≤ l.length ∧ mm = l.length - k ∧ z ∉ l.take k) ∧ T = ([(0, .slice A l.length c), (1, .int .i64 z), (5, .int .i64 k)] : TT) ∧ S' = S) (m := l.length) ⟨0, ⟨by omega, by omega, by simp⟩, rfl, rfl⟩ ?_
  rintro mm _ _ ⟨k, ⟨hk, hmm, hall⟩, rfl, rfl⟩
  refine PW.seq fun K2 hK2 => ?_
  refine PW.seqOps ?_
  refine OL.dp rfl ?_
  refine OL.dp rfl ?_
  refine OL.dp rfl ?_
  refine OL.dp rfl ?_
  refine OL.nil ?_
  refine PW.keep (T' := [(0, _), (1, _), (5, _), (9, _)]) ⟨rfl, rfl, rfl, rfl, trivial⟩ ?_
  refine PW.cond rfl (fun c9 => ?_) (fun c9 => ?_)
  · try simp only [decide_eq_true_eq, decide_eq_false_iff_not, beq_iff_eq, bne_iff_ne, beq_eq_false_iff_ne, bne_eq_false_iff_eq, Bool.not_eq_true', Bool.not_eq_false', Bool.not_eq_true, ne_eq, Decidable.not_not, Bool.false_eq_true, if_false, if_true] at c9
    have hkl : k < l.length := by omega
    obtain ⟨a0, rfl⟩ := ints_some hx (by omega)
    refine PW.skip ?_
    refine hK2 _ _ ?_
    refine PW.keep (T' := [(0, _), (1, _), (5, _)]) ⟨rfl, rfl, rfl, trivial⟩ ?_
    refine PW.seq fun K3 hK3 => ?_
    refine PW.block ?_
    refine PW.seqOps ?_
    refine OL.dp rfl ?_
    refine OL.dp rfl ?_
    refine OL.det trivial (Yields.ixN1 rfl rfl rfl (by omega)) ?_
    refine OL.det trivial (Yields.ld rfl (ints_at hx hkl)) ?_
    refine OL.dp rfl ?_
    refine OL.dp rfl ?_
    refine OL.nil ?_
    refine PW.keep (T' := [(0, _), (1, _), (5, _), (17, _)]) ⟨rfl, rfl, rfl, rfl, trivial⟩ ?_
    refine PW.cond rfl (fun c17 => ?_) (fun c17 => ?_)
    · try simp only [decide_eq_true_eq, decide_eq_false_iff_not, beq_iff_eq, bne_iff_ne, beq_eq_false_iff_ne, bne_eq_false_iff_eq, Bool.not_eq_true', Bool.not_eq_false', Bool.not_eq_true, ne_eq, Decidable.not_not, Bool.false_eq_true, if_false, if_true] at c17
      refine PW.seqOps ?_
      refine OL.dp rfl ?_
      refine OL.nil ?_
      refine PW.keep (T' := [(4, _)]) ⟨rfl, trivial⟩ ?_
      refine PW.ret ?_
      change (Exit.ret = Exit.normal ∨ Exit.ret = Exit.ret) ∧ ∃ v, resV _ _ = some v ∧ _
      exact ⟨.inr rfl, _, rfl, congrArg Value.bool (Eq.symm (List.contains_iff_mem.2 (by rw [← c17]; exact List.getElem_mem _))), rfl⟩
    · try simp only [decide_eq_true_eq, decide_eq_false_iff_not, beq_iff_eq, bne_iff_ne, beq_eq_false_iff_ne, bne_eq_false_iff_eq, Bool.not_eq_true', Bool.not_eq_false', Bool.not_eq_true, ne_eq, Decidable.not_not, Bool.false_eq_true, if_false, if_true] at c17
      refine PW.skip ?_
      refine hK3 _ _ ?_
      refine PW.keep (T' := [(0, _), (1, _), (5, _)]) ⟨rfl, rfl, rfl, trivial⟩ ?_
      refine PW.ops ?_
      refine OL.dp rfl ?_
      refine OL.det trivial (Yields.add64 rfl rfl (by omega) (by omega)) ?_
      refine OL.dp rfl ?_
      refine OL.nil ?_
      repeat rw [inBlk_n]
      try rw [thenK_n]
      refine LoopEnd.mk (T'' := [(0, _), (1, _), (5, _)]) ⟨rfl, rfl, rfl, trivial⟩ ?_
      refine ⟨l.length - (k + 1), by omega, k + 1, ⟨by omega, rfl, fun hm => ?_⟩, rfl, rfl⟩
      rw [ltake_snoc hkl] at hm
      rcases List.mem_append.1 hm with h | h
      · exact hall h
      · rw [List.mem_singleton] at h
        exact c17 h.symm
  · try simp only [decide_eq_true_eq, decide_eq_false_iff_not, beq_iff_eq, bne_iff_ne, beq_eq_false_iff_ne, bne_eq_false_iff_eq, Bool.not_eq_true', Bool.not_eq_false', Bool.not_eq_true, ne_eq, Decidable.not_not, Bool.false_eq_true, if_false, if_true] at c9
    refine PW.exit ?_
    refine hK1 _ _ ?_
    refine PW.keep (T' := []) trivial ?_
    refine PW.seqOps ?_
    refine OL.dp rfl ?_
    refine OL.nil ?_
    refine PW.keep (T' := [(4, _)]) ⟨rfl, trivial⟩ ?_
    refine PW.ret ?_
    change (Exit.ret = Exit.normal ∨ Exit.ret = Exit.ret) ∧ ∃ v, resV _ _ = some v ∧ _
    refine ⟨.inr rfl, _, rfl, congrArg Value.bool (Eq.symm ?_), rfl⟩
    have : k = l.length := by omega
    rw [this, List.take_length] at hall
    simpa using hall
theorem rTextI_fc {w0 : World} {S : SS} {A : Option Addr} {c : Nat} {l : List ItemM} (hx : Rd w0 S A (itemS l)) (hr : ∀ x ∈ l, ItemRd w0 S x) (hb : l.length ≤ 1000000) :
    FC Try.prog w0 37 [.slice A l.length c] S (fun u S' => ∃ seg, S' = seg :: S ∧ SlV 9 1 u (textI (pli l)).length (strs (textI (pli l))) seg ∧ (textI (pli l)).length ≤ 120003000000) := by
  have hpl0 : (pli l).length = l.length := List.length_map _
  have hNL : ∀ x ∈ pli l, x.lines.length ≤ 60000 := fun x hx => by
    obtain ⟨y, hy, rfl⟩ := List.mem_map.1 hx
    exact (hr y hy).nL
  refine FC.of Try.known37 (by simp) ?_
  unfold Try.pc37
  simp only [argT]
  refine PW.seqOps ?_
  refine OL.dp rfl ?_
  refine OL.nil ?_
  refine PW.keep (T' := [(0, _)]) ⟨rfl, trivial⟩ ?_
  refine PW.seqOps ?_
  refine OL.dp rfl ?_
  refine OL.nil ?_
  refine PW.keep (T' := [(0, _), (3, _)]) ⟨rfl, rfl, trivial⟩ ?_
  refine PW.seq fun K1 hK1 => ?_
  refine PW.seqOps ?_
  refine OL.subS (S' := [] :: S) (Sub.nilL (Sub.refl _)) ?_
  refine OL.dp rfl ?_
  refine OL.nil ?_
  refine PW.keep (T' := [(0, _), (3, _), (4, _)]) ⟨rfl, rfl, rfl, trivial⟩ ?_
  refine PW.block ?_
  refine PW.keep (T' := [(0, _), (3, _), (4, _)]) ⟨rfl, rfl, rfl, trivial⟩ ?_
  refine PW.loopK (I := fun mm T S' => ∃ (k : Nat) (vo : Value) (sgo : Seg), (k ≤ l.length ∧ mm = l.length - k ∧ SlV 9 1 vo (textI ((pli l).take k)).length (strs (textI ((pli l).take k))) sgo) ∧ T = ([(0, .slice A l.length c), (3, vo), (4, .int .i64 k)] : TT) ∧ S' = sgo :: S) (m := l.length) ⟨0, _, [], ⟨by omega, by omega, by simp [textI]; exact SlV.nil 9 1⟩, rfl, rfl⟩ ?_
  rintro mm _ _ ⟨k, vo, sgo, ⟨hk, hmm, hso⟩, rfl, rfl⟩
  refine PW.seq fun K2 hK2 => ?_
  refine PW.seqOps ?_
  refine OL.dp rfl ?_
  refine OL.dp rfl ?_
  refine OL.dp rfl ?_
  refine OL.dp rfl ?_
  refine OL.nil ?_
  refine PW.keep (T' := [(0, _), (3, _), (4, _), (9, _)]) ⟨rfl, rfl, rfl, rfl, trivial⟩ ?_
  refine PW.cond rfl (fun c9 => ?_) (fun c9 => ?_)
  · try simp only [decide_eq_true_eq, decide_eq_false_iff_not, beq_iff_eq, bne_iff_ne, beq_eq_false_iff_ne, bne_eq_false_iff_eq, Bool.not_eq_true', Bool.not_eq_false', Bool.not_eq_true, ne_eq, Decidable.not_not, Bool.false_eq_true, if_false, if_true] at c9
    have hkl : k < l.length := by omega
    obtain ⟨a0, rfl⟩ := itemS_some hx (by omega)
    have hx2 := hx
    have hrk := hr _ (List.getElem_mem hkl)
    have hnL := hrk.nL
    have hnM := hrk.nM
    have htl := textI_len hNL k (by omega)
    refine PW.skip ?_
    refine hK2 _ _ ?_
    refine PW.keep (T' := [(0, _), (3, _), (4, _)]) ⟨rfl, rfl, rfl, trivial⟩ ?_
    refine PW.seq fun K3 hK3 => ?_
    refine PW.block ?_
    refine PW.seq fun K4 hK4 => ?_
    refine PW.seqOps ?_
    refine OL.dp rfl ?_
    refine OL.dp rfl ?_
    refine OL.det trivial (Yields.ixN rfl rfl rfl hkl) ?_
    refine OL.dp rfl ?_
    refine OL.det trivial (Yields.ld rfl (item_at hx2.cons hkl 1 _ rfl)) ?_
    refine OL.nil ?_
    refine PW.keep (T' := [(0, _), (3, _), (4, _), (16, _)]) ⟨rfl, rfl, rfl, rfl, trivial⟩ ?_
    refine PW.cond rfl (fun c16 => ?_) (fun c16 => ?_)
    · skip
      refine PW.ops ?_
      refine OL.dp rfl ?_
      apply OL.app1 (k := 0)
      · rfl
      · rfl
      · rfl
      · rfl
      · rfl
      · rfl
      · exact hso
      · rfl
      · omega
      · unfold maxLen; omega
      intro v19 seg19 hsl19
      obtain ⟨pre, hpre⟩ : ∃ z, z = textI ((pli l).take k) ++ (if l[k].block then [beginB] else []) := ⟨_, rfl⟩
      have hp : SlV 9 1 v19 pre.length (strs pre) seg19 := by
        rw [hpre, if_pos c16]
        exact strs_snoc (z := beginB) hsl19
      have hpl : pre.length ≤ 120003 * k + 1 := by rw [hpre, List.length_append]; have := textI_len hNL k (by rw [hpl0]; omega); split <;> simp <;> omega
      refine OL.dp rfl ?_
      refine OL.nil ?_
      refine hK4 _ _ ?_
      refine PW.keep (T' := [(0, _), (3, _), (4, _)]) ⟨rfl, rfl, rfl, trivial⟩ ?_
      refine PW.seq fun K5 hK5 => ?_
      refine PW.seqOps ?_
      refine OL.dp rfl ?_
      refine OL.nil ?_
      refine PW.keep (T' := [(0, _), (3, _), (4, _), (5, _)]) ⟨rfl, rfl, rfl, rfl, trivial⟩ ?_
      refine PW.block ?_
      refine PW.keep (T' := [(0, _), (3, _), (4, _), (5, _)]) ⟨rfl, rfl, rfl, rfl, trivial⟩ ?_
      refine PW.loopK (I := fun mi T S' => ∃ (i : Nat) (vi : Value) (sgi : Seg), (i ≤ l[k].lines.length ∧ mi = l[k].lines.length - i ∧ SlV 9 1 vi (pre ++ rowsT l[k].pl i).length (strs (pre ++ rowsT l[k].pl i)) sgi) ∧ T = ([(0, .slice (some a0) l.length c), (3, vi), (4, .int .i64 k), (5, .int .i64 i)] : TT) ∧ S' = sgi :: S) (m := l[k].lines.length) ⟨0, _, _, ⟨by omega, by omega, by simpa [rowsT] using hp⟩, rfl, rfl⟩ ?_
      rintro mi _ _ ⟨i, vi, sgi, ⟨hi, hmi, hsi⟩, rfl, rfl⟩
      refine PW.seq fun K6 hK6 => ?_
      refine PW.seqOps ?_
      refine OL.dp rfl ?_
      refine OL.dp rfl ?_
      refine OL.dp rfl ?_
      refine OL.det trivial (Yields.ixN rfl rfl rfl hkl) ?_
      refine OL.dp rfl ?_
      refine OL.det trivial (Yields.ld rfl (item_at hx2.cons hkl 0 _ rfl)) ?_
      refine OL.dp rfl ?_
      refine OL.dp rfl ?_
      refine OL.nil ?_
      refine PW.keep (T' := [(0, _), (3, _), (4, _), (5, _), (27, _)]) ⟨rfl, rfl, rfl, rfl, rfl, trivial⟩ ?_
      refine PW.cond rfl (fun c27 => ?_) (fun c27 => ?_)
      · try simp only [decide_eq_true_eq, decide_eq_false_iff_not, beq_iff_eq, bne_iff_ne, beq_eq_false_iff_ne, bne_eq_false_iff_eq, Bool.not_eq_true', Bool.not_eq_false', Bool.not_eq_true, ne_eq, Decidable.not_not, Bool.false_eq_true, if_false, if_true] at c27
        have hil : i < l[k].lines.length := by omega
        obtain ⟨b0, hb0⟩ := lines_some hrk.rdL (by omega)
        have hrl2 := hrk.rdL
        rw [hb0] at hrl2
        have hrs := rowsT_succ l[k].pl i
        have hge : l[k].pl.lines[i]! = l[k].lines[i] := getElem!_pos l[k].lines i hil
        have hrl := rowsT_len l[k].pl i
        have hpa : (pre ++ rowsT l[k].pl i).length = pre.length + (rowsT l[k].pl i).length := List.length_append
        refine PW.skip ?_
        refine hK6 _ _ ?_
        refine PW.keep (T' := [(0, _), (3, _), (4, _), (5, _)]) ⟨rfl, rfl, rfl, rfl, trivial⟩ ?_
        refine PW.seq fun K7 hK7 => ?_
        refine PW.block ?_
        refine PW.seq fun K8 hK8 => ?_
        refine PW.seqOps ?_
        refine OL.dp rfl ?_
        refine OL.dp rfl ?_
        refine OL.det trivial (Yields.ixN rfl rfl rfl hkl) ?_
        refine OL.dp rfl ?_
        refine OL.det trivial (Yields.ld rfl (item_at hx2.cons hkl 1 _ rfl)) ?_
        refine OL.bool trivial (Yields.pure rfl) (fun g35 => ?_) (fun g35 => ?_)
        · try simp only [decide_eq_true_eq, decide_eq_false_iff_not, beq_iff_eq, bne_iff_ne, beq_eq_false_iff_ne, bne_eq_false_iff_eq, Bool.not_eq_true', Bool.not_eq_false', Bool.not_eq_true, ne_eq, Decidable.not_not, Bool.false_eq_true, if_false, if_true] at g35
          refine OL.det rfl (Yields.pure rfl) ?_
          refine OL.det rfl (Yields.pure rfl) ?_
          refine OL.det rfl (Yields.ixN rfl rfl rfl hkl) ?_
          refine OL.det rfl (Yields.pure rfl) ?_
          refine OL.det rfl (Yields.ld rfl (item_at hx2.cons hkl 2 _ rfl)) ?_
          refine OL.det rfl (Yields.pure rfl) ?_
          refine OL.call rfl rfl (rHasI_fc (hrk.rdM.cons) (by omega)) ?_
          rintro _ Sx ⟨rfl, hSx⟩
          rw [hSx]
          clear hSx
          refine OL.dp rfl ?_
          refine OL.nil ?_
          refine PW.keep (T' := [(0, _), (3, _), (4, _), (5, _), (43, _)]) ⟨rfl, rfl, rfl, rfl, rfl, trivial⟩ ?_
          refine PW.cond rfl (fun c43 => ?_) (fun c43 => ?_)
          · skip
            refine PW.ops ?_
            refine OL.dp rfl ?_
            apply OL.app1 (k := 0)
            · rfl
            · rfl
            · rfl
            · rfl
            · rfl
            · rfl
            · exact hsi
            · rfl
            · omega
            · unfold maxLen; omega
            intro v46 seg46 hsl46
            have hsi2 := strs_snoc (l := pre ++ rowsT l[k].pl i) (z := middleB) hsl46
            refine OL.dp rfl ?_
            refine OL.nil ?_
            refine hK8 _ _ ?_
            refine PW.keep (T' := [(0, _), (3, _), (4, _), (5, _)]) ⟨rfl, rfl, rfl, rfl, trivial⟩ ?_
            refine PW.ops ?_
            refine OL.dp rfl ?_
            refine OL.dp rfl ?_
            refine OL.dp rfl ?_
            refine OL.det trivial (Yields.ixN rfl rfl rfl hkl) ?_
            refine OL.dp rfl ?_
            refine OL.det trivial (Yields.ld rfl (item_at hx2.cons hkl 0 _ rfl)) ?_
            rw [hb0]
            refine OL.dp rfl ?_
            refine OL.det trivial (Yields.ixN rfl rfl rfl hil) ?_
            refine OL.dp rfl ?_
            refine OL.det trivial (Yields.ld rfl (line_text hrl2.cons hil)) ?_
            apply OL.app1 (k := 0)
            · rfl
            · rfl
            · rfl
            · rfl
            · rfl
            · rfl
            · exact (by first | exact hsi2 | exact hsi)
            · rfl
            · (first | omega | (simp only [List.length_append, List.length_cons, List.length_nil] at *; omega))
            · unfold maxLen; (first | omega | (simp only [List.length_append, List.length_cons, List.length_nil] at *; omega))
            intro v58 seg58 hsl58
            refine OL.dp rfl ?_
            refine OL.nil ?_
            refine hK7 _ _ ?_
            refine PW.keep (T' := [(0, _), (3, _), (4, _), (5, _)]) ⟨rfl, rfl, rfl, rfl, trivial⟩ ?_
            refine PW.ops ?_
            refine OL.dp rfl ?_
            refine OL.det trivial (Yields.add64 rfl rfl (by omega) (by omega)) ?_
            refine OL.dp rfl ?_
            refine OL.nil ?_
            repeat rw [inBlk_n]
            try rw [thenK_n]
            refine LoopEnd.mk (T'' := [(0, _), (3, _), (4, _), (5, _)]) ⟨rfl, rfl, rfl, rfl, trivial⟩ ?_
            have he : pre ++ rowsT l[k].pl (i + 1) = pre ++ rowsT l[k].pl i ++ [middleB] ++ [l[k].lines[i].text] := by
              rw [hrs, hge, if_pos (by show (l[k].block && l[k].mids.contains (i : Int)) = true; rw [g35, c43]; rfl)]
              simp only [List.nil_append, List.append_assoc]
            have := strs_snoc (z := l[k].lines[i].text) hsl58
            exact ⟨l[k].lines.length - (i + 1), by omega, i + 1, _, seg58, ⟨by omega, rfl, by rw [he]; exact this⟩, rfl, rfl⟩
          · skip
            refine PW.skip ?_
            refine hK8 _ _ ?_
            refine PW.keep (T' := [(0, _), (3, _), (4, _), (5, _)]) ⟨rfl, rfl, rfl, rfl, trivial⟩ ?_
            refine PW.ops ?_
            refine OL.dp rfl ?_
            refine OL.dp rfl ?_
            refine OL.dp rfl ?_
            refine OL.det trivial (Yields.ixN rfl rfl rfl hkl) ?_
            refine OL.dp rfl ?_
            refine OL.det trivial (Yields.ld rfl (item_at hx2.cons hkl 0 _ rfl)) ?_
            rw [hb0]
            refine OL.dp rfl ?_
            refine OL.det trivial (Yields.ixN rfl rfl rfl hil) ?_
            refine OL.dp rfl ?_
            refine OL.det trivial (Yields.ld rfl (line_text hrl2.cons hil)) ?_
            apply OL.app1 (k := 0)
            · rfl
            · rfl
            · rfl
            · rfl
            · rfl
            · rfl
            · exact (by first | exact hsi2 | exact hsi)
            · rfl
            · (first | omega | (simp only [List.length_append, List.length_cons, List.length_nil] at *; omega))
            · unfold maxLen; (first | omega | (simp only [List.length_append, List.length_cons, List.length_nil] at *; omega))
            intro v58 seg58 hsl58
            refine OL.dp rfl ?_
            refine OL.nil ?_
            refine hK7 _ _ ?_
            refine PW.keep (T' := [(0, _), (3, _), (4, _), (5, _)]) ⟨rfl, rfl, rfl, rfl, trivial⟩ ?_
            refine PW.ops ?_
            refine OL.dp rfl ?_
            refine OL.det trivial (Yields.add64 rfl rfl (by omega) (by omega)) ?_
            refine OL.dp rfl ?_
            refine OL.nil ?_
            repeat rw [inBlk_n]
            try rw [thenK_n]
            refine LoopEnd.mk (T'' := [(0, _), (3, _), (4, _), (5, _)]) ⟨rfl, rfl, rfl, rfl, trivial⟩ ?_
            have he : pre ++ rowsT l[k].pl (i + 1) = pre ++ rowsT l[k].pl i ++ [l[k].lines[i].text] := by
              rw [hrs, hge, if_neg (by show ¬ (l[k].block && l[k].mids.contains (i : Int)) = true; rw [g35, c43]; simp)]
              simp only [List.nil_append, List.append_assoc]
            have := strs_snoc (z := l[k].lines[i].text) hsl58
            exact ⟨l[k].lines.length - (i + 1), by omega, i + 1, _, seg58, ⟨by omega, rfl, by rw [he]; exact this⟩, rfl, rfl⟩
        · try simp only [decide_eq_true_eq, decide_eq_false_iff_not, beq_iff_eq, bne_iff_ne, beq_eq_false_iff_ne, bne_eq_false_iff_eq, Bool.not_eq_true', Bool.not_eq_false', Bool.not_eq_true, ne_eq, Decidable.not_not, Bool.false_eq_true, if_false, if_true] at g35
          refine OL.off rfl rfl ?_
          refine OL.off rfl rfl ?_
          refine OL.off rfl rfl ?_
          refine OL.off rfl rfl ?_
          refine OL.off rfl rfl ?_
          refine OL.off rfl rfl ?_
          refine OL.off rfl rfl ?_
          refine OL.dp rfl ?_
          refine OL.nil ?_
          refine PW.keep (T' := [(0, _), (3, _), (4, _), (5, _), (43, _)]) ⟨rfl, rfl, rfl, rfl, rfl, trivial⟩ ?_
          refine PW.ite (b := false) rfl ?_
          rw [if_neg Bool.false_ne_true]
          refine PW.skip ?_
          refine hK8 _ _ ?_
          refine PW.keep (T' := [(0, _), (3, _), (4, _), (5, _)]) ⟨rfl, rfl, rfl, rfl, trivial⟩ ?_
          refine PW.ops ?_
          refine OL.dp rfl ?_
          refine OL.dp rfl ?_
          refine OL.dp rfl ?_
          refine OL.det trivial (Yields.ixN rfl rfl rfl hkl) ?_
          refine OL.dp rfl ?_
          refine OL.det trivial (Yields.ld rfl (item_at hx2.cons hkl 0 _ rfl)) ?_
          rw [hb0]
          refine OL.dp rfl ?_
          refine OL.det trivial (Yields.ixN rfl rfl rfl hil) ?_
          refine OL.dp rfl ?_
          refine OL.det trivial (Yields.ld rfl (line_text hrl2.cons hil)) ?_
          apply OL.app1 (k := 0)
          · rfl
          · rfl
          · rfl
          · rfl
          · rfl
          · rfl
          · exact (by first | exact hsi2 | exact hsi)
          · rfl
          · (first | omega | (simp only [List.length_append, List.length_cons, List.length_nil] at *; omega))
          · unfold maxLen; (first | omega | (simp only [List.length_append, List.length_cons, List.length_nil] at *; omega))
          intro v58 seg58 hsl58
          refine OL.dp rfl ?_
          refine OL.nil ?_
          refine hK7 _ _ ?_
          refine PW.keep (T' := [(0, _), (3, _), (4, _), (5, _)]) ⟨rfl, rfl, rfl, rfl, trivial⟩ ?_
          refine PW.ops ?_
          refine OL.dp rfl ?_
          refine OL.det trivial (Yields.add64 rfl rfl (by omega) (by omega)) ?_
          refine OL.dp rfl ?_
          refine OL.nil ?_
          repeat rw [inBlk_n]
          try rw [thenK_n]
          refine LoopEnd.mk (T'' := [(0, _), (3, _), (4, _), (5, _)]) ⟨rfl, rfl, rfl, rfl, trivial⟩ ?_
          have he : pre ++ rowsT l[k].pl (i + 1) = pre ++ rowsT l[k].pl i ++ [l[k].lines[i].text] := by
            rw [hrs, hge, if_neg (by show ¬ (l[k].block && l[k].mids.contains (i : Int)) = true; rw [g35]; simp)]
            simp only [List.nil_append, List.append_assoc]
          have := strs_snoc (z := l[k].lines[i].text) hsl58
          exact ⟨l[k].lines.length - (i + 1), by omega, i + 1, _, seg58, ⟨by omega, rfl, by rw [he]; exact this⟩, rfl, rfl⟩
      · try simp only [decide_eq_true_eq, decide_eq_false_iff_not, beq_iff_eq, bne_iff_ne, beq_eq_false_iff_ne, bne_eq_false_iff_eq, Bool.not_eq_true', Bool.not_eq_false', Bool.not_eq_true, ne_eq, Decidable.not_not, Bool.false_eq_true, if_false, if_true] at c27
        have hie : i = l[k].lines.length := by omega
        have hpg := pli_get hkl
        have hts := textI_snoc (l := pli l) (k := k) (by omega)
        rw [hpg] at hts
        unfold oneT at hts
        have hts : textI ((pli l).take (k + 1)) = textI ((pli l).take k) ++ ((if l[k].block = true then [beginB] else []) ++ rowsT l[k].pl l[k].lines.length ++ (if l[k].block = true then [closeB] else [])) := hts
        have hrl := rowsT_len l[k].pl i
        have hpa : (pre ++ rowsT l[k].pl i).length = pre.length + (rowsT l[k].pl i).length := List.length_append
        refine PW.exit ?_
        refine hK5 _ _ ?_
        refine PW.keep (T' := [(0, _), (3, _), (4, _)]) ⟨rfl, rfl, rfl, trivial⟩ ?_
        refine PW.seqOps ?_
        refine OL.dp rfl ?_
        refine OL.dp rfl ?_
        refine OL.det trivial (Yields.ixN rfl rfl rfl hkl) ?_
        refine OL.dp rfl ?_
        refine OL.det trivial (Yields.ld rfl (item_at hx2.cons hkl 1 _ rfl)) ?_
        refine OL.nil ?_
        refine PW.keep (T' := [(0, _), (3, _), (4, _), (63, _)]) ⟨rfl, rfl, rfl, rfl, trivial⟩ ?_
        refine PW.cond rfl (fun c63 => ?_) (fun c63 => ?_)
        · skip
          refine PW.ops ?_
          refine OL.dp rfl ?_
          apply OL.app1 (k := 0)
          · rfl
          · rfl
          · rfl
          · rfl
          · rfl
          · rfl
          · exact hsi
          · rfl
          · omega
          · unfold maxLen; omega
          intro v66 seg66 hsl66
          refine OL.dp rfl ?_
          refine OL.nil ?_
          refine hK3 _ _ ?_
          refine PW.keep (T' := [(0, _), (3, _), (4, _)]) ⟨rfl, rfl, rfl, trivial⟩ ?_
          refine PW.ops ?_
          refine OL.dp rfl ?_
          refine OL.det trivial (Yields.add64 rfl rfl (by omega) (by omega)) ?_
          refine OL.dp rfl ?_
          refine OL.nil ?_
          repeat rw [inBlk_n]
          try rw [thenK_n]
          refine LoopEnd.mk (T'' := [(0, _), (3, _), (4, _)]) ⟨rfl, rfl, rfl, trivial⟩ ?_
          have he : textI ((pli l).take (k + 1)) = pre ++ rowsT l[k].pl i ++ [closeB] := by
            rw [hts, hpre, hie]
            simp only [c63, if_true, List.append_assoc]
          have := strs_snoc (z := closeB) hsl66
          exact ⟨l.length - (k + 1), by omega, k + 1, _, seg66, ⟨by omega, rfl, by rw [he]; exact this⟩, rfl, rfl⟩
        · skip
          refine PW.skip ?_
          refine hK3 _ _ ?_
          refine PW.keep (T' := [(0, _), (3, _), (4, _)]) ⟨rfl, rfl, rfl, trivial⟩ ?_
          refine PW.ops ?_
          refine OL.dp rfl ?_
          refine OL.det trivial (Yields.add64 rfl rfl (by omega) (by omega)) ?_
          refine OL.dp rfl ?_
          refine OL.nil ?_
          repeat rw [inBlk_n]
          try rw [thenK_n]
          refine LoopEnd.mk (T'' := [(0, _), (3, _), (4, _)]) ⟨rfl, rfl, rfl, trivial⟩ ?_
          have he : textI ((pli l).take (k + 1)) = pre ++ rowsT l[k].pl i := by
            rw [hts, hpre, hie]
            simp only [c63, Bool.false_eq_true, if_false, List.append_nil, List.nil_append, List.append_assoc]
          exact ⟨l.length - (k + 1), by omega, k + 1, vi, sgi, ⟨by omega, rfl, by rw [he]; exact hsi⟩, rfl, rfl⟩
    · skip
      obtain ⟨pre, hpre⟩ : ∃ z, z = textI ((pli l).take k) ++ (if l[k].block then [beginB] else []) := ⟨_, rfl⟩
      have hp : SlV 9 1 vo pre.length (strs pre) sgo := by
        rw [hpre, if_neg (by rw [c16]; simp), List.append_nil]
        exact hso
      have hpl : pre.length ≤ 120003 * k + 1 := by rw [hpre, List.length_append]; have := textI_len hNL k (by rw [hpl0]; omega); split <;> simp <;> omega
      refine PW.skip ?_
      refine hK4 _ _ ?_
      refine PW.keep (T' := [(0, _), (3, _), (4, _)]) ⟨rfl, rfl, rfl, trivial⟩ ?_
      refine PW.seq fun K9 hK9 => ?_
      refine PW.seqOps ?_
      refine OL.dp rfl ?_
      refine OL.nil ?_
      refine PW.keep (T' := [(0, _), (3, _), (4, _), (5, _)]) ⟨rfl, rfl, rfl, rfl, trivial⟩ ?_
      refine PW.block ?_
      refine PW.keep (T' := [(0, _), (3, _), (4, _), (5, _)]) ⟨rfl, rfl, rfl, rfl, trivial⟩ ?_
      refine PW.loopK (I := fun mi T S' => ∃ (i : Nat) (vi : Value) (sgi : Seg), (i ≤ l[k].lines.length ∧ mi = l[k].lines.length - i ∧ SlV 9 1 vi (pre ++ rowsT l[k].pl i).length (strs (pre ++ rowsT l[k].pl i)) sgi) ∧ T = ([(0, .slice (some a0) l.length c), (3, vi), (4, .int .i64 k), (5, .int .i64 i)] : TT) ∧ S' = sgi :: S) (m := l[k].lines.length) ⟨0, _, _, ⟨by omega, by omega, by simpa [rowsT] using hp⟩, rfl, rfl⟩ ?_
      rintro mi _ _ ⟨i, vi, sgi, ⟨hi, hmi, hsi⟩, rfl, rfl⟩
      refine PW.seq fun K10 hK10 => ?_
      refine PW.seqOps ?_
      refine OL.dp rfl ?_
      refine OL.dp rfl ?_
      refine OL.dp rfl ?_
      refine OL.det trivial (Yields.ixN rfl rfl rfl hkl) ?_
      refine OL.dp rfl ?_
      refine OL.det trivial (Yields.ld rfl (item_at hx2.cons hkl 0 _ rfl)) ?_
      refine OL.dp rfl ?_
      refine OL.dp rfl ?_
      refine OL.nil ?_
      refine PW.keep (T' := [(0, _), (3, _), (4, _), (5, _), (27, _)]) ⟨rfl, rfl, rfl, rfl, rfl, trivial⟩ ?_
      refine PW.cond rfl (fun c27 => ?_) (fun c27 => ?_)
      · try simp only [decide_eq_true_eq, decide_eq_false_iff_not, beq_iff_eq, bne_iff_ne, beq_eq_false_iff_ne, bne_eq_false_iff_eq, Bool.not_eq_true', Bool.not_eq_false', Bool.not_eq_true, ne_eq, Decidable.not_not, Bool.false_eq_true, if_false, if_true] at c27
        have hil : i < l[k].lines.length := by omega
        obtain ⟨b0, hb0⟩ := lines_some hrk.rdL (by omega)
        have hrl2 := hrk.rdL
        rw [hb0] at hrl2
        have hrs := rowsT_succ l[k].pl i
        have hge : l[k].pl.lines[i]! = l[k].lines[i] := getElem!_pos l[k].lines i hil
        have hrl := rowsT_len l[k].pl i
        have hpa : (pre ++ rowsT l[k].pl i).length = pre.length + (rowsT l[k].pl i).length := List.length_append
        refine PW.skip ?_
        refine hK10 _ _ ?_
        refine PW.keep (T' := [(0, _), (3, _), (4, _), (5, _)]) ⟨rfl, rfl, rfl, rfl, trivial⟩ ?_
        refine PW.seq fun K11 hK11 => ?_
        refine PW.block ?_
        refine PW.seq fun K12 hK12 => ?_
        refine PW.seqOps ?_
        refine OL.dp rfl ?_
        refine OL.dp rfl ?_
        refine OL.det trivial (Yields.ixN rfl rfl rfl hkl) ?_
        refine OL.dp rfl ?_
        refine OL.det trivial (Yields.ld rfl (item_at hx2.cons hkl 1 _ rfl)) ?_
        refine OL.bool trivial (Yields.pure rfl) (fun g35 => ?_) (fun g35 => ?_)
        · try simp only [decide_eq_true_eq, decide_eq_false_iff_not, beq_iff_eq, bne_iff_ne, beq_eq_false_iff_ne, bne_eq_false_iff_eq, Bool.not_eq_true', Bool.not_eq_false', Bool.not_eq_true, ne_eq, Decidable.not_not, Bool.false_eq_true, if_false, if_true] at g35
          refine OL.det rfl (Yields.pure rfl) ?_
          refine OL.det rfl (Yields.pure rfl) ?_
          refine OL.det rfl (Yields.ixN rfl rfl rfl hkl) ?_
          refine OL.det rfl (Yields.pure rfl) ?_
          refine OL.det rfl (Yields.ld rfl (item_at hx2.cons hkl 2 _ rfl)) ?_
          refine OL.det rfl (Yields.pure rfl) ?_
          refine OL.call rfl rfl (rHasI_fc (hrk.rdM.cons) (by omega)) ?_
          rintro _ Sx ⟨rfl, hSx⟩
          rw [hSx]
          clear hSx
          refine OL.dp rfl ?_
          refine OL.nil ?_
          refine PW.keep (T' := [(0, _), (3, _), (4, _), (5, _), (43, _)]) ⟨rfl, rfl, rfl, rfl, rfl, trivial⟩ ?_
          refine PW.cond rfl (fun c43 => ?_) (fun c43 => ?_)
          · skip
            refine PW.ops ?_
            refine OL.dp rfl ?_
            apply OL.app1 (k := 0)
            · rfl
            · rfl
            · rfl
            · rfl
            · rfl
            · rfl
            · exact hsi
            · rfl
            · omega
            · unfold maxLen; omega
            intro v46 seg46 hsl46
            have hsi2 := strs_snoc (l := pre ++ rowsT l[k].pl i) (z := middleB) hsl46
            refine OL.dp rfl ?_
            refine OL.nil ?_
            refine hK12 _ _ ?_
            refine PW.keep (T' := [(0, _), (3, _), (4, _), (5, _)]) ⟨rfl, rfl, rfl, rfl, trivial⟩ ?_
            refine PW.ops ?_
            refine OL.dp rfl ?_
            refine OL.dp rfl ?_
            refine OL.dp rfl ?_
            refine OL.det trivial (Yields.ixN rfl rfl rfl hkl) ?_
            refine OL.dp rfl ?_
            refine OL.det trivial (Yields.ld rfl (item_at hx2.cons hkl 0 _ rfl)) ?_
            rw [hb0]
            refine OL.dp rfl ?_
            refine OL.det trivial (Yields.ixN rfl rfl rfl hil) ?_
            refine OL.dp rfl ?_
            refine OL.det trivial (Yields.ld rfl (line_text hrl2.cons hil)) ?_
            apply OL.app1 (k := 0)
            · rfl
            · rfl
            · rfl
            · rfl
            · rfl
            · rfl
            · exact (by first | exact hsi2 | exact hsi)
            · rfl
            · (first | omega | (simp only [List.length_append, List.length_cons, List.length_nil] at *; omega))
            · unfold maxLen; (first | omega | (simp only [List.length_append, List.length_cons, List.length_nil] at *; omega))
            intro v58 seg58 hsl58
            refine OL.dp rfl ?_
            refine OL.nil ?_
            refine hK11 _ _ ?_
            refine PW.keep (T' := [(0, _), (3, _), (4, _), (5, _)]) ⟨rfl, rfl, rfl, rfl, trivial⟩ ?_
            refine PW.ops ?_
            refine OL.dp rfl ?_
            refine OL.det trivial (Yields.add64 rfl rfl (by omega) (by omega)) ?_
            refine OL.dp rfl ?_
            refine OL.nil ?_
            repeat rw [inBlk_n]
            try rw [thenK_n]
            refine LoopEnd.mk (T'' := [(0, _), (3, _), (4, _), (5, _)]) ⟨rfl, rfl, rfl, rfl, trivial⟩ ?_
            have he : pre ++ rowsT l[k].pl (i + 1) = pre ++ rowsT l[k].pl i ++ [middleB] ++ [l[k].lines[i].text] := by
              rw [hrs, hge, if_pos (by show (l[k].block && l[k].mids.contains (i : Int)) = true; rw [g35, c43]; rfl)]
              simp only [List.nil_append, List.append_assoc]
            have := strs_snoc (z := l[k].lines[i].text) hsl58
            exact ⟨l[k].lines.length - (i + 1), by omega, i + 1, _, seg58, ⟨by omega, rfl, by rw [he]; exact this⟩, rfl, rfl⟩
          · skip
            refine PW.skip ?_
            refine hK12 _ _ ?_
            refine PW.keep (T' := [(0, _), (3, _), (4, _), (5, _)]) ⟨rfl, rfl, rfl, rfl, trivial⟩ ?_
            refine PW.ops ?_
            refine OL.dp rfl ?_
            refine OL.dp rfl ?_
            refine OL.dp rfl ?_
            refine OL.det trivial (Yields.ixN rfl rfl rfl hkl) ?_
            refine OL.dp rfl ?_
            refine OL.det trivial (Yields.ld rfl (item_at hx2.cons hkl 0 _ rfl)) ?_
            rw [hb0]
            refine OL.dp rfl ?_
            refine OL.det trivial (Yields.ixN rfl rfl rfl hil) ?_
            refine OL.dp rfl ?_
            refine OL.det trivial (Yields.ld rfl (line_text hrl2.cons hil)) ?_
            apply OL.app1 (k := 0)
            · rfl
            · rfl
            · rfl
            · rfl
            · rfl
            · rfl
            · exact (by first | exact hsi2 | exact hsi)
            · rfl
            · (first | omega | (simp only [List.length_append, List.length_cons, List.length_nil] at *; omega))
            · unfold maxLen; (first | omega | (simp only [List.length_append, List.length_cons, List.length_nil] at *; omega))
            intro v58 seg58 hsl58
            refine OL.dp rfl ?_
            refine OL.nil ?_
            refine hK11 _ _ ?_
            refine PW.keep (T' := [(0, _), (3, _), (4, _), (5, _)]) ⟨rfl, rfl, rfl, rfl, trivial⟩ ?_
            refine PW.ops ?_
            refine OL.dp rfl ?_
            refine OL.det trivial (Yields.add64 rfl rfl (by omega) (by omega)) ?_
            refine OL.dp rfl ?_
            refine OL.nil ?_
            repeat rw [inBlk_n]
            try rw [thenK_n]
            refine LoopEnd.mk (T'' := [(0, _), (3, _), (4, _), (5, _)]) ⟨rfl, rfl, rfl, rfl, trivial⟩ ?_
            have he : pre ++ rowsT l[k].pl (i + 1) = pre ++ rowsT l[k].pl i ++ [l[k].lines[i].text] := by
              rw [hrs, hge, if_neg (by show ¬ (l[k].block && l[k].mids.contains (i : Int)) = true; rw [g35, c43]; simp)]
              simp only [List.nil_append, List.append_assoc]
            have := strs_snoc (z := l[k].lines[i].text) hsl58
            exact ⟨l[k].lines.length - (i + 1), by omega, i + 1, _, seg58, ⟨by omega, rfl, by rw [he]; exact this⟩, rfl, rfl⟩
        · try simp only [decide_eq_true_eq, decide_eq_false_iff_not, beq_iff_eq, bne_iff_ne, beq_eq_false_iff_ne, bne_eq_false_iff_eq, Bool.not_eq_true', Bool.not_eq_false', Bool.not_eq_true, ne_eq, Decidable.not_not, Bool.false_eq_true, if_false, if_true] at g35
          refine OL.off rfl rfl ?_
          refine OL.off rfl rfl ?_
          refine OL.off rfl rfl ?_
          refine OL.off rfl rfl ?_
          refine OL.off rfl rfl ?_
          refine OL.off rfl rfl ?_
          refine OL.off rfl rfl ?_
          refine OL.dp rfl ?_
          refine OL.nil ?_
          refine PW.keep (T' := [(0, _), (3, _), (4, _), (5, _), (43, _)]) ⟨rfl, rfl, rfl, rfl, rfl, trivial⟩ ?_
          refine PW.ite (b := false) rfl ?_
          rw [if_neg Bool.false_ne_true]
          refine PW.skip ?_
          refine hK12 _ _ ?_
          refine PW.keep (T' := [(0, _), (3, _), (4, _), (5, _)]) ⟨rfl, rfl, rfl, rfl, trivial⟩ ?_
          refine PW.ops ?_
          refine OL.dp rfl ?_
          refine OL.dp rfl ?_
          refine OL.dp rfl ?_
          refine OL.det trivial (Yields.ixN rfl rfl rfl hkl) ?_
          refine OL.dp rfl ?_
          refine OL.det trivial (Yields.ld rfl (item_at hx2.cons hkl 0 _ rfl)) ?_
          rw [hb0]
          refine OL.dp rfl ?_
          refine OL.det trivial (Yields.ixN rfl rfl rfl hil) ?_
          refine OL.dp rfl ?_
          refine OL.det trivial (Yields.ld rfl (line_text hrl2.cons hil)) ?_
          apply OL.app1 (k := 0)
          · rfl
          · rfl
          · rfl
          · rfl
          · rfl
          · rfl
          · exact (by first | exact hsi2 | exact hsi)
          · rfl
          · (first | omega | (simp only [List.length_append, List.length_cons, List.length_nil] at *; omega))
          · unfold maxLen; (first | omega | (simp only [List.length_append, List.length_cons, List.length_nil] at *; omega))
          intro v58 seg58 hsl58
          refine OL.dp rfl ?_
          refine OL.nil ?_
          refine hK11 _ _ ?_
          refine PW.keep (T' := [(0, _), (3, _), (4, _), (5, _)]) ⟨rfl, rfl, rfl, rfl, trivial⟩ ?_
          refine PW.ops ?_
          refine OL.dp rfl ?_
          refine OL.det trivial (Yields.add64 rfl rfl (by omega) (by omega)) ?_
          refine OL.dp rfl ?_
          refine OL.nil ?_
          repeat rw [inBlk_n]
          try rw [thenK_n]
          refine LoopEnd.mk (T'' := [(0, _), (3, _), (4, _), (5, _)]) ⟨rfl, rfl, rfl, rfl, trivial⟩ ?_
          have he : pre ++ rowsT l[k].pl (i + 1) = pre ++ rowsT l[k].pl i ++ [l[k].lines[i].text] := by
            rw [hrs, hge, if_neg (by show ¬ (l[k].block && l[k].mids.contains (i : Int)) = true; rw [g35]; simp)]
            simp only [List.nil_append, List.append_assoc]
          have := strs_snoc (z := l[k].lines[i].text) hsl58
          exact ⟨l[k].lines.length - (i + 1), by omega, i + 1, _, seg58, ⟨by omega, rfl, by rw [he]; exact this⟩, rfl, rfl⟩
      · try simp only [decide_eq_true_eq, decide_eq_false_iff_not, beq_iff_eq, bne_iff_ne, beq_eq_false_iff_ne, bne_eq_false_iff_eq, Bool.not_eq_true', Bool.not_eq_false', Bool.not_eq_true, ne_eq, Decidable.not_not, Bool.false_eq_true, if_false, if_true] at c27
        have hie : i = l[k].lines.length := by omega
        have hpg := pli_get hkl
        have hts := textI_snoc (l := pli l) (k := k) (by omega)
        rw [hpg] at hts
        unfold oneT at hts
        have hts : textI ((pli l).take (k + 1)) = textI ((pli l).take k) ++ ((if l[k].block = true then [beginB] else []) ++ rowsT l[k].pl l[k].lines.length ++ (if l[k].block = true then [closeB] else [])) := hts
        have hrl := rowsT_len l[k].pl i
        have hpa : (pre ++ rowsT l[k].pl i).length = pre.length + (rowsT l[k].pl i).length := List.length_append
        refine PW.exit ?_
        refine hK9 _ _ ?_
        refine PW.keep (T' := [(0, _), (3, _), (4, _)]) ⟨rfl, rfl, rfl, trivial⟩ ?_
        refine PW.seqOps ?_
        refine OL.dp rfl ?_
        refine OL.dp rfl ?_
        refine OL.det trivial (Yields.ixN rfl rfl rfl hkl) ?_
        refine OL.dp rfl ?_
        refine OL.det trivial (Yields.ld rfl (item_at hx2.cons hkl 1 _ rfl)) ?_
        refine OL.nil ?_
        refine PW.keep (T' := [(0, _), (3, _), (4, _), (63, _)]) ⟨rfl, rfl, rfl, rfl, trivial⟩ ?_
        refine PW.cond rfl (fun c63 => ?_) (fun c63 => ?_)
        · skip
          refine PW.ops ?_
          refine OL.dp rfl ?_
          apply OL.app1 (k := 0)
          · rfl
          · rfl
          · rfl
          · rfl
          · rfl
          · rfl
          · exact hsi
          · rfl
          · omega
          · unfold maxLen; omega
          intro v66 seg66 hsl66
          refine OL.dp rfl ?_
          refine OL.nil ?_
          refine hK3 _ _ ?_
          refine PW.keep (T' := [(0, _), (3, _), (4, _)]) ⟨rfl, rfl, rfl, trivial⟩ ?_
          refine PW.ops ?_
          refine OL.dp rfl ?_
          refine OL.det trivial (Yields.add64 rfl rfl (by omega) (by omega)) ?_
          refine OL.dp rfl ?_
          refine OL.nil ?_
          repeat rw [inBlk_n]
          try rw [thenK_n]
          refine LoopEnd.mk (T'' := [(0, _), (3, _), (4, _)]) ⟨rfl, rfl, rfl, trivial⟩ ?_
          have he : textI ((pli l).take (k + 1)) = pre ++ rowsT l[k].pl i ++ [closeB] := by
            rw [hts, hpre, hie]
            simp only [c63, if_true, List.append_assoc]
          have := strs_snoc (z := closeB) hsl66
          exact ⟨l.length - (k + 1), by omega, k + 1, _, seg66, ⟨by omega, rfl, by rw [he]; exact this⟩, rfl, rfl⟩
        · skip
          refine PW.skip ?_
          refine hK3 _ _ ?_
          refine PW.keep (T' := [(0, _), (3, _), (4, _)]) ⟨rfl, rfl, rfl, trivial⟩ ?_
          refine PW.ops ?_
          refine OL.dp rfl ?_
          refine OL.det trivial (Yields.add64 rfl rfl (by omega) (by omega)) ?_
          refine OL.dp rfl ?_
          refine OL.nil ?_
          repeat rw [inBlk_n]
          try rw [thenK_n]
          refine LoopEnd.mk (T'' := [(0, _), (3, _), (4, _)]) ⟨rfl, rfl, rfl, trivial⟩ ?_
          have he : textI ((pli l).take (k + 1)) = pre ++ rowsT l[k].pl i := by
            rw [hts, hpre, hie]
            simp only [c63, Bool.false_eq_true, if_false, List.append_nil, List.nil_append, List.append_assoc]
          exact ⟨l.length - (k + 1), by omega, k + 1, vi, sgi, ⟨by omega, rfl, by rw [he]; exact hsi⟩, rfl, rfl⟩
  · try simp only [decide_eq_true_eq, decide_eq_false_iff_not, beq_iff_eq, bne_iff_ne, beq_eq_false_iff_ne, bne_eq_false_iff_eq, Bool.not_eq_true', Bool.not_eq_false', Bool.not_eq_true, ne_eq, Decidable.not_not, Bool.false_eq_true, if_false, if_true] at c9
    refine PW.exit ?_
    refine hK1 _ _ ?_
    refine PW.keep (T' := [(3, _)]) ⟨rfl, trivial⟩ ?_
    refine PW.seqOps ?_
    refine OL.dp rfl ?_
    refine OL.dp rfl ?_
    refine OL.nil ?_
    refine PW.keep (T' := [(2, _)]) ⟨rfl, trivial⟩ ?_
    refine PW.ret ?_
    change (Exit.ret = Exit.normal ∨ Exit.ret = Exit.ret) ∧ ∃ v, resV _ _ = some v ∧ _
    have hke : k = (pli l).length := by omega
    rw [hke, List.take_length] at hso
    have := textI_len hNL (pli l).length (Nat.le_refl _)
    rw [List.take_length] at this
    exact ⟨.inr rfl, _, rfl, sgo, rfl, hso, by omega⟩
end Go.Proofs.Gr

set_option linter.unusedVariables false
set_option linter.unusedSimpArgs false
namespace Go.Proofs.Gr
open Go.SL Go.RowKit Go.Proofs Go.GP
set_option maxHeartbeats 1000000
/-- items that an argument holds -/
structure ItemsA (w0 : World) (A : Option Addr) (l : List ItemM) : Prop where
  rd : Rd w0 [] A (itemS l)
  item : ∀ x ∈ l, Rd w0 [] x.LA (lines x.lines) ∧ Rd w0 [] x.MA (ints x.mids) ∧ x.lines.length ≤ 1000000000000000 ∧ x.mids.length ≤ 1000000000000000
  len : l.length ≤ 1000000000000000
def bare (y : LineP) : LineP := ⟨v0, y.text, false⟩
def bareI (x : ItemP) : ItemP := ⟨x.lines.map bare, x.block, x.mids⟩
theorem oneT_bare (x : ItemP) : oneT (bareI x) = oneT x := by
  unfold oneT
  have h1 : (bareI x).lines.length = x.lines.length := List.length_map _
  have h2 : rowsT (bareI x) (bareI x).lines.length = rowsT x x.lines.length := by
    rw [h1]
    unfold rowsT
    rw [List.flatMap_def, List.flatMap_def]
    congr 1
    refine List.map_congr_left fun i hi => ?_
    have hil : i < x.lines.length := by simpa using hi
    have e1 : (bareI x).lines[i]! = bare x.lines[i]! := by
      rw [getElem!_pos _ i (by rw [h1]; exact hil), getElem!_pos _ i hil]
      exact List.getElem_map _
    rw [e1]
    rfl
  rw [h2]
  rfl
theorem item_stE {w0 : World} {S : SS} {P : Program} {n r E : Nat} {T : TT} {x v : PV} {u : ItemM} {z : List Value} (hx : x.val T = some (.pointer (some ⟨r, 0, none⟩))) (hv : v.val T = some (itemV u)) (hz : z.length = 3) :
    OW P w0 n (.st 3 x v) T ([(r, .cells z E 3)] :: S) (fun _ S' => S' = [(r, .cells (itemC u) E 3)] :: S) := by
  refine (OW.st (k := 0) (c := z) (u := itemV u) hx hv rfl (show (itemV u).cells.size = 3 from rfl) (by omega) rfl).mono ?_
  rintro _ _ rfl
  rw [item_box, setAll (by rw [itemC_len, hz])]
  rfl
theorem appLn {P : Program} {w0 : World} {n : Nat} {T : TT} {S : SS} {k m q c : Nat} {z v : Value} {s x : PV} {A : Option Addr} {xs l : List LineP} {seg : Seg} (hs' : s.val T = some v) (hk : S[k]? = some seg) (hv : SlV 78 35 v m (lines xs) seg)
    (hx : x.val T = some (.slice A q c)) (hm : xs.length = m) (hq : l.length = q) (hrd : Rd w0 S A (lines l)) (hc : A = none → c = 0) (hb : m + q ≤ 100000000) :
    OW P w0 n (.app 74 78 35 64 z s x) T S (fun v' S' => ∃ seg', S' = S.set k seg' ∧ SlV 78 35 v' (xs ++ l).length (lines (xs ++ l)) seg') := by
  have h := OW.appL (P := P) (w0 := w0) (n := n) (t := 74) (z := z) (bytes := 64) hs' hk hv hx (by rw [lines_len, hq]) hrd (by decide) hc (lines_one l) (by omega) (by unfold maxLen; omega)
  rw [← lines_app] at h
  rw [List.length_append, hm, hq]
  exact h
theorem sub_pack5 {x r m j : Seg} {S : SS} : Sub (m :: (x ++ j) :: S) (x :: r :: m :: j :: S) := (Sub.cons Sub.join).trans (Sub.sel [2, 0, 3] 4 (by decide) (x :: r :: m :: j :: S))
theorem item_snocE {E : Nat} {v : Value} {l : List ItemM} {x : ItemM} {seg : Seg} (h : SlV E 3 v (l.length + 1) (itemS l ++ itemC x) seg) : SlV E 3 v (l ++ [x]).length (itemS (l ++ [x])) seg := by
  rw [List.length_append, itemS_app]
  have : itemS [x] = itemC x := by simp [itemS]
  rw [this]
  exact h
theorem textI_app (a b : List ItemP) : textI (a ++ b) = textI a ++ textI b := by unfold textI; rw [List.flatMap_append]
theorem pli_app (a b : List ItemM) : pli (a ++ b) = pli a ++ pli b := List.map_append
theorem renderTexts_fc {w0 : World} {A : Option Addr} {c : Nat} {l : List ItemM} (ha : ItemsA w0 A l) (hc : l.length ≤ c) :
    FC Try.prog w0 7 [.slice A l.length c] [] (fun v _ => v = .bool true) := by
  refine FC.ofD Try.known7 (by simp) ?_
  unfold Try.pc7
  simp only [argT]
  refine PW.seqOps ?_
  refine OL.dp rfl ?_
  refine OL.nil ?_
  refine PW.keep (T' := [(0, _)]) ⟨rfl, trivial⟩ ?_
  refine PW.seqOps ?_
  refine OL.dp rfl ?_
  refine OL.dp rfl ?_
  refine OL.dp rfl ?_
  obtain ⟨n, hn, hn20, hnl⟩ : ∃ n : Nat, (n : Int) = (if (20 : Int) < (l.length : Int) then 20 else (l.length : Int)) ∧ n ≤ 20 ∧ n ≤ l.length := by
    by_cases h : (20 : Int) < (l.length : Int)
    · exact ⟨20, by rw [if_pos h]; rfl, by omega, by omega⟩
    · exact ⟨l.length, by rw [if_neg h], by omega, by omega⟩
  refine OL.det trivial (Yields.to (v' := .int .i64 (n : Int)) (Yields.pure rfl) (congrArg (Value.int .i64) hn.symm)) ?_
  refine OL.det trivial (Yields.to (v' := .slice A n c) (Yields.slS (l := 0) (h := n) rfl rfl rfl (.inr ⟨rfl, rfl⟩) (.inl rfl) (by omega) (by omega)) (cutV0 _ _ _ _)) ?_
  obtain ⟨L, hLd⟩ : ∃ L, L = l.take n := ⟨_, rfl⟩
  have hLl : L.length = n := by rw [hLd, List.length_take, Nat.min_eq_left hnl]
  have hxL0 : Rd w0 [] A (itemS L) := by rw [hLd]; exact ha.rd.pre (by rw [← List.take_append_drop n l, itemS_app, List.take_append_drop]; exact List.prefix_append _ _)
  have hiL : ∀ x ∈ L, Rd w0 [] x.LA (lines x.lines) ∧ Rd w0 [] x.MA (ints x.mids) ∧ x.lines.length ≤ 1000000000000000 ∧ x.mids.length ≤ 1000000000000000 := fun x hx => ha.item x (by rw [hLd] at hx; exact List.mem_of_mem_take hx)
  rw [← hLl]
  refine OL.dp rfl ?_
  refine OL.nil ?_
  refine PW.keep (T' := [(0, _)]) ⟨rfl, trivial⟩ ?_
  refine PW.seqOps ?_
  refine OL.dp rfl ?_
  refine OL.nil ?_
  refine PW.keep (T' := [(0, _), (3, _)]) ⟨rfl, rfl, trivial⟩ ?_
  refine PW.seqOps ?_
  refine OL.dp rfl ?_
  refine OL.nil ?_
  refine PW.keep (T' := [(0, _), (3, _), (4, _)]) ⟨rfl, rfl, rfl, trivial⟩ ?_
  refine PW.seq fun K1 hK1 => ?_
  refine PW.seqOps ?_
  refine OL.subS (S' := [] :: [] :: []) (Sub.nilL (Sub.nilL (Sub.refl _))) ?_
  refine OL.dp rfl ?_
  refine OL.nil ?_
  refine PW.keep (T' := [(0, _), (3, _), (4, _), (5, _)]) ⟨rfl, rfl, rfl, rfl, trivial⟩ ?_
  refine PW.block ?_
  refine PW.keep (T' := [(0, _), (3, _), (4, _), (5, _)]) ⟨rfl, rfl, rfl, rfl, trivial⟩ ?_
  refine PW.loopK (I := fun mm T S' => ∃ (k : Nat) (ms : List ItemM) (vm : Value) (bl : Bool) (sgm junk : Seg), (k ≤ L.length ∧ mm = L.length - k ∧ ms.length = k ∧ SlV 76 3 vm ms.length (itemS ms) sgm ∧ textI (pli ms) = textI (pli (L.take k)) ∧ (∀ x ∈ ms, ItemOk w0 junk x) ∧ (∀ x ∈ L.take k, x.lines.length ≤ 20 ∧ x.mids.length ≤ 20) ∧ bl = (L.take k).any (·.block)) ∧ T = ([(0, .slice A L.length c), (3, vm), (4, .bool bl), (5, .int .i64 k)] : TT) ∧ S' = sgm :: junk :: []) (m := L.length) ⟨0, [], _, false, [], [], ⟨by omega, by omega, rfl, SlV.nil 76 3, rfl, (fun x hx => by cases hx), (fun x hx => by simp at hx), rfl⟩, rfl, rfl⟩ ?_
  rintro mm _ _ ⟨k, ms, vm, bl, sgm, junk, ⟨hk, hmm, hml, hsm, htx, hio, hbdk, hbl⟩, rfl, rfl⟩
  refine PW.seq fun K2 hK2 => ?_
  refine PW.seqOps ?_
  refine OL.dp rfl ?_
  refine OL.dp rfl ?_
  refine OL.dp rfl ?_
  refine OL.dp rfl ?_
  refine OL.nil ?_
  refine PW.keep (T' := [(0, _), (3, _), (4, _), (5, _), (16, _)]) ⟨rfl, rfl, rfl, rfl, rfl, trivial⟩ ?_
  refine PW.cond rfl (fun c16 => ?_) (fun c16 => ?_)
  · try simp only [decide_eq_true_eq, decide_eq_false_iff_not, beq_iff_eq, bne_iff_ne, beq_eq_false_iff_ne, bne_eq_false_iff_eq, Bool.not_eq_true', Bool.not_eq_false', Bool.not_eq_true, ne_eq, Decidable.not_not, Bool.false_eq_true, if_false, if_true] at c16
    have hkl : k < L.length := by omega
    obtain ⟨a0, rfl⟩ := itemS_some hxL0 (by omega)
    have hxL := hxL0
    obtain ⟨hi1, hi2, hi3, hi4⟩ := hiL _ (List.getElem_mem hkl)
    refine PW.skip ?_
    refine hK2 _ _ ?_
    refine PW.keep (T' := [(0, _), (3, _), (4, _), (5, _)]) ⟨rfl, rfl, rfl, rfl, trivial⟩ ?_
    refine PW.seq fun K3 hK3 => ?_
    refine PW.block ?_
    refine PW.seq fun K4 hK4 => ?_
    refine PW.seqOps ?_
    refine OL.dp rfl ?_
    refine OL.dp rfl ?_
    refine OL.det trivial (Yields.ixN rfl rfl rfl hkl) ?_
    refine OL.dp rfl ?_
    refine OL.det trivial (Yields.ld rfl (item_at hxL.any hkl 0 _ rfl)) ?_
    refine OL.dp rfl ?_
    refine OL.dp rfl ?_
    refine OL.bool trivial (Yields.pure rfl) (fun g26 => ?_) (fun g26 => ?_)
    · try simp only [decide_eq_true_eq, decide_eq_false_iff_not, beq_iff_eq, bne_iff_ne, beq_eq_false_iff_ne, bne_eq_false_iff_eq, Bool.not_eq_true', Bool.not_eq_false', Bool.not_eq_true, ne_eq, Decidable.not_not, Bool.false_eq_true, if_false, if_true] at g26
      refine OL.off rfl rfl ?_
      refine OL.off rfl rfl ?_
      refine OL.off rfl rfl ?_
      refine OL.off rfl rfl ?_
      refine OL.off rfl rfl ?_
      refine OL.off rfl rfl ?_
      refine OL.off rfl rfl ?_
      refine OL.dp rfl ?_
      refine OL.nil ?_
      refine PW.keep (T' := [(0, _), (3, _), (4, _), (5, _), (34, _)]) ⟨rfl, rfl, rfl, rfl, rfl, trivial⟩ ?_
      refine PW.ite (b := true) rfl ?_
      rw [if_pos rfl]
      refine PW.seqOps ?_
      refine OL.call trivial rfl (works_fc) ?_
      rintro _ Sx ⟨rfl, hSx⟩
      rw [hSx]
      clear hSx
      refine OL.dp rfl ?_
      refine OL.nil ?_
      refine PW.keep (T' := [(2, _)]) ⟨rfl, trivial⟩ ?_
      refine PW.ret ?_
      change (Exit.ret = Exit.normal ∨ Exit.ret = Exit.ret) ∧ ∃ v, resV _ _ = some v ∧ _
      exact ⟨.inr rfl, _, rfl, _, Sub.refl _, rfl⟩
    · try simp only [decide_eq_true_eq, decide_eq_false_iff_not, beq_iff_eq, bne_iff_ne, beq_eq_false_iff_ne, bne_eq_false_iff_eq, Bool.not_eq_true', Bool.not_eq_false', Bool.not_eq_true, ne_eq, Decidable.not_not, Bool.false_eq_true, if_false, if_true] at g26
      refine OL.det rfl (Yields.pure rfl) ?_
      refine OL.det rfl (Yields.pure rfl) ?_
      refine OL.det rfl (Yields.ixN rfl rfl rfl hkl) ?_
      refine OL.det rfl (Yields.pure rfl) ?_
      refine OL.det rfl (Yields.ld rfl (item_at hxL.any hkl 2 _ rfl)) ?_
      refine OL.det rfl (Yields.pure rfl) ?_
      refine OL.det rfl (Yields.pure rfl) ?_
      refine OL.dp rfl ?_
      refine OL.nil ?_
      refine PW.keep (T' := [(0, _), (3, _), (4, _), (5, _), (34, _)]) ⟨rfl, rfl, rfl, rfl, rfl, trivial⟩ ?_
      refine PW.cond rfl (fun c34 => ?_) (fun c34 => ?_)
      · try simp only [decide_eq_true_eq, decide_eq_false_iff_not, beq_iff_eq, bne_iff_ne, beq_eq_false_iff_ne, bne_eq_false_iff_eq, Bool.not_eq_true', Bool.not_eq_false', Bool.not_eq_true, ne_eq, Decidable.not_not, Bool.false_eq_true, if_false, if_true] at c34
        refine PW.seqOps ?_
        refine OL.call trivial rfl (works_fc) ?_
        rintro _ Sx ⟨rfl, hSx⟩
        rw [hSx]
        clear hSx
        refine OL.dp rfl ?_
        refine OL.nil ?_
        refine PW.keep (T' := [(2, _)]) ⟨rfl, trivial⟩ ?_
        refine PW.ret ?_
        change (Exit.ret = Exit.normal ∨ Exit.ret = Exit.ret) ∧ ∃ v, resV _ _ = some v ∧ _
        exact ⟨.inr rfl, _, rfl, _, Sub.refl _, rfl⟩
      · try simp only [decide_eq_true_eq, decide_eq_false_iff_not, beq_iff_eq, bne_iff_ne, beq_eq_false_iff_ne, bne_eq_false_iff_eq, Bool.not_eq_true', Bool.not_eq_false', Bool.not_eq_true, ne_eq, Decidable.not_not, Bool.false_eq_true, if_false, if_true] at c34
        have hbk : L[k].lines.length ≤ 20 ∧ L[k].mids.length ≤ 20 := by omega
        refine PW.skip ?_
        refine hK4 _ _ ?_
        refine PW.keep (T' := [(0, _), (3, _), (4, _), (5, _)]) ⟨rfl, rfl, rfl, rfl, trivial⟩ ?_
        refine PW.seq fun K5 hK5 => ?_
        refine PW.quietAlK (p := 11) (al := [(6, 76, [.slice none 0 0, .bool false, .slice none 0 0])]) Try.mixed rfl ?_
        refine QKs.det trivial (fun Sx hSx => Yields.pure rfl) ?_
        refine QKs.det trivial (fun Sx hSx => Yields.pure rfl) ?_
        refine QKs.det trivial (fun Sx hSx => Yields.ixN rfl rfl rfl hkl) ?_
        refine QKs.det trivial (fun Sx hSx => Yields.pure rfl) ?_
        refine QKs.det trivial (fun Sx hSx => Yields.ld rfl (item_at hxL.any hkl 1 _ rfl)) ?_
        refine QKs.det trivial (fun Sx hSx => Yields.pure rfl) ?_
        refine QKs.det trivial (fun Sx hSx => Yields.pure rfl) ?_
        refine QKs.det trivial (fun Sx hSx => Yields.ixN rfl rfl rfl hkl) ?_
        refine QKs.det trivial (fun Sx hSx => Yields.pure rfl) ?_
        refine QKs.det trivial (fun Sx hSx => Yields.ld rfl (item_at hxL.any hkl 2 _ rfl)) ?_
        refine QKs.det trivial (fun Sx hSx => Yields.build (cs := itemC ⟨none, 0, [], L[k].block, L[k].MA, L[k].mc, L[k].mids⟩) rfl) ?_
        refine QKs.nil ?_
        intro rs hrs
        obtain ⟨r6, rfl⟩ : ∃ r6, rs = [r6] := by
          match rs, hrs with
          | [r6], _ => exact ⟨_, rfl⟩
        change OL _ _ _ _ _ ([(r6, .cells [.slice none 0 0, .bool false, .slice none 0 0] 76 3)] :: sgm :: junk :: []) _
        change OL _ _ _ [_] _ _ _
        refine OL.cons trivial (item_stE rfl rfl rfl) ?_
        rintro _ _ rfl
        refine OL.subS (S' := [] :: [(r6, .cells [.slice none 0 0, .bool L[k].block, .slice L[k].MA L[k].mids.length L[k].mc] 76 3)] :: sgm :: junk :: []) (Sub.nilL (Sub.refl _)) ?_
        refine OL.nil ?_
        refine hK5 _ _ ?_
        refine PW.keep (T' := [(0, _), (3, _), (4, _), (5, _), (6, _)]) ⟨rfl, rfl, rfl, rfl, rfl, trivial⟩ ?_
        refine PW.seq fun K6 hK6 => ?_
        refine PW.seqOps ?_
        refine OL.dp rfl ?_
        refine OL.nil ?_
        refine PW.keep (T' := [(0, _), (3, _), (4, _), (5, _), (6, _), (7, _)]) ⟨rfl, rfl, rfl, rfl, rfl, rfl, trivial⟩ ?_
        refine PW.block ?_
        refine PW.keep (T' := [(0, _), (3, _), (4, _), (5, _), (6, _), (7, _)]) ⟨rfl, rfl, rfl, rfl, rfl, rfl, trivial⟩ ?_
        refine PW.loopK (I := fun mi T S' => ∃ (i : Nat) (xs : List LineP) (vx : Value) (sgx : Seg), (i ≤ L[k].lines.length ∧ mi = L[k].lines.length - i ∧ xs.length = i ∧ SlV 78 35 vx xs.length (lines xs) sgx ∧ xs = (L[k].lines.take i).map bare) ∧ T = ([(0, .slice (some a0) L.length c), (3, vm), (4, .bool bl), (5, .int .i64 k), (6, .pointer (some ⟨r6, 0, none⟩)), (7, .int .i64 i)] : TT) ∧ S' = sgx :: [(r6, .cells [vx, .bool L[k].block, .slice L[k].MA L[k].mids.length L[k].mc] 76 3)] :: sgm :: junk :: []) (m := L[k].lines.length) ⟨0, [], _, [], ⟨by omega, by omega, rfl, SlV.nil 78 35, rfl⟩, rfl, rfl⟩ ?_
        rintro mi _ _ ⟨i, xs, vx, sgx, ⟨hi, hmi, hxl, hsx, hxs⟩, rfl, rfl⟩
        refine PW.seq fun K7 hK7 => ?_
        refine PW.seqOps ?_
        refine OL.dp rfl ?_
        refine OL.dp rfl ?_
        refine OL.dp rfl ?_
        refine OL.det trivial (Yields.ixN rfl rfl rfl hkl) ?_
        refine OL.dp rfl ?_
        refine OL.det trivial (Yields.ld rfl (item_at hxL.any hkl 0 _ rfl)) ?_
        refine OL.dp rfl ?_
        refine OL.dp rfl ?_
        refine OL.nil ?_
        refine PW.keep (T' := [(0, _), (3, _), (4, _), (5, _), (6, _), (7, _), (54, _)]) ⟨rfl, rfl, rfl, rfl, rfl, rfl, rfl, trivial⟩ ?_
        refine PW.cond rfl (fun c54 => ?_) (fun c54 => ?_)
        · try simp only [decide_eq_true_eq, decide_eq_false_iff_not, beq_iff_eq, bne_iff_ne, beq_eq_false_iff_ne, bne_eq_false_iff_eq, Bool.not_eq_true', Bool.not_eq_false', Bool.not_eq_true, ne_eq, Decidable.not_not, Bool.false_eq_true, if_false, if_true] at c54
          have hil : i < L[k].lines.length := by omega
          obtain ⟨b0, hb0⟩ := lines_some hi1 (by omega)
          have hrl2 := hi1
          rw [hb0] at hrl2
          refine PW.skip ?_
          refine hK7 _ _ ?_
          refine PW.keep (T' := [(0, _), (3, _), (4, _), (5, _), (6, _), (7, _)]) ⟨rfl, rfl, rfl, rfl, rfl, rfl, trivial⟩ ?_
          refine PW.seq fun K8 hK8 => ?_
          refine PW.block ?_
          refine PW.quiet1K (p := 12) (base := sgx :: [(r6, .cells [vx, .bool L[k].block, .slice L[k].MA L[k].mids.length L[k].mc] 76 3)] :: sgm :: junk :: []) (K := fun u S' => ∃ r, u = .slice (some ⟨r, 0, none⟩) 1 1 ∧ S' = [(r, .cells (lineC (bare L[k].lines[i])) 78 35)] :: sgx :: [(r6, .cells [vx, .bool L[k].block, .slice L[k].MA L[k].mids.length L[k].mc] 76 3)] :: sgm :: junk :: []) Try.mixed rfl rfl rfl (fun _ h => nomatch h) rfl (Over.refl _) ?_
          refine QKs.det trivial (fun Sx hSx => Yields.pure rfl) ?_
          refine QKs.det trivial (fun Sx hSx => Yields.ld rfl (own_at (j := 0) (c := [vx, .bool L[k].block, .slice L[k].MA L[k].mids.length L[k].mc]) (E := 76) (tot := 3) (hSx _ (List.mem_flatten.2 ⟨_, .tail _ (.head _), List.mem_singleton.2 rfl⟩)) rfl)) ?_
          refine QKs.det trivial (fun Sx hSx => Yields.pure rfl) ?_
          refine QKs.det trivial (fun Sx hSx => Yields.pure rfl) ?_
          refine QKs.det trivial (fun Sx hSx => Yields.ixN rfl rfl rfl hkl) ?_
          refine QKs.det trivial (fun Sx hSx => Yields.pure rfl) ?_
          refine QKs.det trivial (fun Sx hSx => Yields.ld rfl (item_at hxL.any hkl 0 _ rfl)) ?_
          rw [hb0]
          refine QKs.det trivial (fun Sx hSx => Yields.pure rfl) ?_
          refine QKs.det trivial (fun Sx hSx => Yields.ixN rfl rfl rfl hil) ?_
          refine QKs.det trivial (fun Sx hSx => Yields.pure rfl) ?_
          refine QKs.det trivial (fun Sx hSx => Yields.ld rfl (line_text hrl2.any hil)) ?_
          refine QKs.det trivial (fun Sx hSx => Yields.build (cs := lineC (bare L[k].lines[i])) rfl) ?_
          refine QKs.nil ⟨OW.mono (OW.bsl (fill_line1 (u := bare L[k].lines[i]) rfl rfl)) (fun u S' ⟨r, h1, h2⟩ => ⟨r, h1, by rw [h2, lineC_len]⟩), fun u S' ⟨r, _, h⟩ => by rw [h]; exact (Over.refl _).cons, ?_⟩
          refine QKs.nil ?_
          rintro _ _ ⟨r69, rfl, rfl⟩
          change OL _ _ _ [_, _, _] _ _ _
          refine OL.cons trivial (appLn (k := 1) (xs := xs) (l := [bare L[k].lines[i]]) rfl rfl hsx rfl rfl rfl (Rd.own (E := 78) (tot := 35) (by simp [lines])) (fun h => by cases h) (by omega)) ?_
          rintro v70 _ ⟨sg70, rfl, hs70⟩
          obtain ⟨A70, c70, rfl, hn70, hc70, hr70⟩ := slv_rdL (w0 := w0) hs70
          refine OL.dp rfl ?_
          refine OL.cons trivial (OW.st (k := 2) (c := [vx, .bool L[k].block, .slice L[k].MA L[k].mids.length L[k].mc]) (u := .slice A70 (xs ++ [bare L[k].lines[i]]).length c70) rfl rfl rfl rfl (show 0 + 1 ≤ 3 by decide) rfl) ?_
          rintro _ _ rfl
          refine OL.nil ?_
          refine hK8 _ _ ?_
          refine PW.keep (T' := [(0, _), (3, _), (4, _), (5, _), (6, _), (7, _)]) ⟨rfl, rfl, rfl, rfl, rfl, rfl, trivial⟩ ?_
          refine PW.ops ?_
          refine OL.dp rfl ?_
          refine OL.det trivial (Yields.add64 rfl rfl (by omega) (by omega)) ?_
          refine OL.dp rfl ?_
          refine OL.nil ?_
          repeat rw [inBlk_n]
          try rw [thenK_n]
          refine LoopEnd.mkS (Sub.drop (Sub.refl _)) (T'' := [(0, _), (3, _), (4, _), (5, _), (6, _), (7, _)]) ⟨rfl, rfl, rfl, rfl, rfl, rfl, trivial⟩ ?_
          exact ⟨L[k].lines.length - (i + 1), by omega, i + 1, xs ++ [bare L[k].lines[i]], _, sg70, ⟨by omega, rfl, by rw [List.length_append, hxl]; rfl, hs70, by rw [ltake_snoc hil, List.map_append, ← hxs]; rfl⟩, rfl, rfl⟩
        · try simp only [decide_eq_true_eq, decide_eq_false_iff_not, beq_iff_eq, bne_iff_ne, beq_eq_false_iff_ne, bne_eq_false_iff_eq, Bool.not_eq_true', Bool.not_eq_false', Bool.not_eq_true, ne_eq, Decidable.not_not, Bool.false_eq_true, if_false, if_true] at c54
          refine PW.exit ?_
          refine hK6 _ _ ?_
          refine PW.keep (T' := [(0, _), (3, _), (4, _), (5, _), (6, _)]) ⟨rfl, rfl, rfl, rfl, rfl, trivial⟩ ?_
          refine PW.seqOps ?_
          refine OL.dp rfl ?_
          obtain ⟨Ax, cx, rfl, hnx, hcx, hrx⟩ := slv_rdL (w0 := w0) hsx
          refine OL.det trivial (Yields.ldA rfl (cs := itemC ⟨Ax, cx, xs, L[k].block, L[k].MA, L[k].mc, L[k].mids⟩) rfl (all_at (c := itemC ⟨Ax, cx, xs, L[k].block, L[k].MA, L[k].mc, L[k].mids⟩) (E := 76) (tot := 3) (List.mem_flatten.2 ⟨_, .tail _ (.head _), List.mem_singleton.2 rfl⟩))) ?_
          apply OL.app1 (k := 2)
          · rfl
          · rfl
          · rfl
          · rfl
          · rfl
          · rfl
          · exact hsm
          · rfl
          · omega
          · unfold maxLen; omega
          intro v75 seg75 hsl75
          have hsm2 := item_snocE (x := ⟨Ax, cx, xs, L[k].block, L[k].MA, L[k].mc, L[k].mids⟩) hsl75
          refine OL.dp rfl ?_
          refine OL.nil ?_
          refine PW.keep (T' := [(0, _), (3, _), (4, _), (5, _)]) ⟨rfl, rfl, rfl, rfl, trivial⟩ ?_
          refine PW.ops ?_
          refine OL.dp rfl ?_
          refine OL.bool trivial (Yields.pure rfl) (fun g77 => ?_) (fun g77 => ?_)
          · try simp only [decide_eq_true_eq, decide_eq_false_iff_not, beq_iff_eq, bne_iff_ne, beq_eq_false_iff_ne, bne_eq_false_iff_eq, Bool.not_eq_true', Bool.not_eq_false', Bool.not_eq_true, ne_eq, Decidable.not_not, Bool.false_eq_true, if_false, if_true] at g77
            refine OL.off rfl rfl ?_
            refine OL.off rfl rfl ?_
            refine OL.off rfl rfl ?_
            refine OL.off rfl rfl ?_
            refine OL.off rfl rfl ?_
            refine OL.dp rfl ?_
            refine OL.dp rfl ?_
            refine OL.nil ?_
            refine hK3 _ _ ?_
            refine PW.keep (T' := [(0, _), (3, _), (4, _), (5, _)]) ⟨rfl, rfl, rfl, rfl, trivial⟩ ?_
            refine PW.ops ?_
            refine OL.dp rfl ?_
            refine OL.det trivial (Yields.add64 rfl rfl (by omega) (by omega)) ?_
            refine OL.dp rfl ?_
            refine OL.nil ?_
            repeat rw [inBlk_n]
            try rw [thenK_n]
            refine LoopEnd.mkS (sub_pack5) (T'' := [(0, _), (3, _), (4, _), (5, _)]) ⟨rfl, rfl, rfl, rfl, trivial⟩ ?_
            have hmk : (L.take (k + 1)) = L.take k ++ [L[k]] := ltake_snoc hkl
            exact ⟨L.length - (k + 1), by omega, k + 1, ms ++ [⟨Ax, cx, xs, L[k].block, L[k].MA, L[k].mc, L[k].mids⟩], _, _, seg75, sgx ++ junk, ⟨by omega, rfl, by rw [List.length_append, hml]; rfl, hsm2, by
              rw [hmk, pli_app, pli_app, textI_app, textI_app, htx]
              congr 1
              have hie : i = L[k].lines.length := by omega
              rw [hie, List.take_length] at hxs
              have : (ItemM.pl ⟨Ax, cx, xs, L[k].block, L[k].MA, L[k].mc, L[k].mids⟩) = bareI L[k].pl := by unfold bareI ItemM.pl; rw [hxs]
              show [ItemM.pl _].flatMap oneT = [ItemM.pl _].flatMap oneT
              simp only [List.flatMap_cons, List.flatMap_nil, List.append_nil]
              rw [this, oneT_bare], fun x hx => by
              rcases List.mem_append.1 hx with h | h
              · exact (hio x h).more fun q hq => List.mem_append_right _ hq
              · rw [List.mem_singleton] at h
                subst h
                have hxl : xs.length ≤ 20 := by rw [hxs, List.length_map, List.length_take]; omega
                exact ⟨(hrx []).mono fun q hq => by simp at hq ⊢; exact .inl hq, (hiL _ (List.getElem_mem hkl)).2.1.any, Nat.le_trans hxl (by decide), Nat.le_trans hbk.2 (by decide)⟩, fun x hx => by
              rw [hmk] at hx
              rcases List.mem_append.1 hx with h | h
              · exact hbdk x h
              · rw [List.mem_singleton] at h; subst h; exact hbk, by
              rw [hmk, List.any_append, ← hbl, g77]
              simp⟩, rfl, rfl⟩
          · try simp only [decide_eq_true_eq, decide_eq_false_iff_not, beq_iff_eq, bne_iff_ne, beq_eq_false_iff_ne, bne_eq_false_iff_eq, Bool.not_eq_true', Bool.not_eq_false', Bool.not_eq_true, ne_eq, Decidable.not_not, Bool.false_eq_true, if_false, if_true] at g77
            refine OL.det rfl (Yields.pure rfl) ?_
            refine OL.det rfl (Yields.pure rfl) ?_
            refine OL.det rfl (Yields.ixN rfl rfl rfl hkl) ?_
            refine OL.det rfl (Yields.pure rfl) ?_
            refine OL.det rfl (Yields.ld rfl (item_at hxL.any hkl 1 _ rfl)) ?_
            refine OL.dp rfl ?_
            refine OL.dp rfl ?_
            refine OL.nil ?_
            refine hK3 _ _ ?_
            refine PW.keep (T' := [(0, _), (3, _), (4, _), (5, _)]) ⟨rfl, rfl, rfl, rfl, trivial⟩ ?_
            refine PW.ops ?_
            refine OL.dp rfl ?_
            refine OL.det trivial (Yields.add64 rfl rfl (by omega) (by omega)) ?_
            refine OL.dp rfl ?_
            refine OL.nil ?_
            repeat rw [inBlk_n]
            try rw [thenK_n]
            refine LoopEnd.mkS (sub_pack5) (T'' := [(0, _), (3, _), (4, _), (5, _)]) ⟨rfl, rfl, rfl, rfl, trivial⟩ ?_
            have hmk : (L.take (k + 1)) = L.take k ++ [L[k]] := ltake_snoc hkl
            exact ⟨L.length - (k + 1), by omega, k + 1, ms ++ [⟨Ax, cx, xs, L[k].block, L[k].MA, L[k].mc, L[k].mids⟩], _, _, seg75, sgx ++ junk, ⟨by omega, rfl, by rw [List.length_append, hml]; rfl, hsm2, by
              rw [hmk, pli_app, pli_app, textI_app, textI_app, htx]
              congr 1
              have hie : i = L[k].lines.length := by omega
              rw [hie, List.take_length] at hxs
              have : (ItemM.pl ⟨Ax, cx, xs, L[k].block, L[k].MA, L[k].mc, L[k].mids⟩) = bareI L[k].pl := by unfold bareI ItemM.pl; rw [hxs]
              show [ItemM.pl _].flatMap oneT = [ItemM.pl _].flatMap oneT
              simp only [List.flatMap_cons, List.flatMap_nil, List.append_nil]
              rw [this, oneT_bare], fun x hx => by
              rcases List.mem_append.1 hx with h | h
              · exact (hio x h).more fun q hq => List.mem_append_right _ hq
              · rw [List.mem_singleton] at h
                subst h
                have hxl : xs.length ≤ 20 := by rw [hxs, List.length_map, List.length_take]; omega
                exact ⟨(hrx []).mono fun q hq => by simp at hq ⊢; exact .inl hq, (hiL _ (List.getElem_mem hkl)).2.1.any, Nat.le_trans hxl (by decide), Nat.le_trans hbk.2 (by decide)⟩, fun x hx => by
              rw [hmk] at hx
              rcases List.mem_append.1 hx with h | h
              · exact hbdk x h
              · rw [List.mem_singleton] at h; subst h; exact hbk, by
              rw [hmk, List.any_append, ← hbl, g77]
              simp⟩, rfl, rfl⟩
  · try simp only [decide_eq_true_eq, decide_eq_false_iff_not, beq_iff_eq, bne_iff_ne, beq_eq_false_iff_ne, bne_eq_false_iff_eq, Bool.not_eq_true', Bool.not_eq_false', Bool.not_eq_true, ne_eq, Decidable.not_not, Bool.false_eq_true, if_false, if_true] at c16
    have hke : k = L.length := by omega
    rw [hke, List.take_length] at htx hbdk hbl
    have hte := htx
    have hbd := hbdk
    have hxL := hxL0
    obtain ⟨Am, cm, rfl, hnm, hcm, hrm⟩ := slv_rdL (w0 := w0) hsm
    refine PW.exit ?_
    refine hK1 _ _ ?_
    refine PW.keep (T' := [(0, _), (3, _), (4, _)]) ⟨rfl, rfl, rfl, trivial⟩ ?_
    refine PW.seqOps ?_
    refine OL.dp rfl ?_
    refine OL.call trivial rfl (textI_fc (S := sgm :: junk :: []) hxL.any (fun x hx => ⟨(hiL x hx).1.any, (hiL x hx).2.1.any, Nat.le_trans (hbd x hx).1 (by decide), Nat.le_trans (hbd x hx).2 (by decide)⟩) (by omega)) ?_
    rintro v85 _ ⟨sg85, rfl, hs85, ht85⟩
    obtain ⟨A85, c85, rfl, hn85, hc85, hr85⟩ := slv_rdL (w0 := w0) hs85
    refine OL.dp rfl ?_
    refine OL.call trivial rfl (rTextI_fc (rd_mem (hrm []) (by simp)) (fun x hx => (hio x hx).rd (by simp)) (by omega)) ?_
    rintro v87 _ ⟨sg87, rfl, hs87, ht87⟩
    obtain ⟨A87, c87, rfl, hn87, hc87, hr87⟩ := slv_rdL (w0 := w0) hs87
    refine OL.call trivial rfl (sameS_fc (rd_mem (hr85 []) (by simp)) (rd_mem (hr87 []) (by simp)) (by omega) (by omega)) ?_
    rintro _ Sx ⟨rfl, hSx⟩
    rw [hSx]
    clear hSx
    rw [decide_eq_true hte.symm]
    refine OL.dp rfl ?_
    refine OL.det rfl (Yields.pure rfl) ?_
    refine OL.call rfl rfl (conflict_fc hxL.any (by omega)) ?_
    rintro _ Sx ⟨rfl, hSx⟩
    rw [hSx]
    clear hSx
    rw [← hbl]
    refine OL.det rfl (Yields.pure rfl) ?_
    refine OL.det rfl (Yields.to (v' := .bool true) (Yields.pure rfl) (congrArg Value.bool (beq_self_eq_true _))) ?_
    refine OL.dp rfl ?_
    refine OL.dp rfl ?_
    refine OL.call rfl rfl (works_fc) ?_
    rintro _ Sx ⟨rfl, hSx⟩
    rw [hSx]
    clear hSx
    refine OL.dp rfl ?_
    refine OL.dp rfl ?_
    refine OL.nil ?_
    refine PW.keep (T' := [(2, _)]) ⟨rfl, trivial⟩ ?_
    refine PW.ret ?_
    change (Exit.ret = Exit.normal ∨ Exit.ret = Exit.ret) ∧ ∃ v, resV _ _ = some v ∧ _
    exact ⟨.inr rfl, _, rfl, _, Sub.refl _, rfl⟩
end Go.Proofs.Gr

set_option linter.unusedVariables false
set_option linter.unusedSimpArgs false
namespace Go.Proofs.Gr
open Go.SL Go.RowKit Go.Proofs Go.GP Go.ChangeShapes Go.WideShapes Go.ChangeAt
end Go.Proofs.Gr

set_option linter.unusedVariables false
set_option linter.unusedSimpArgs false
namespace Go.Proofs.Gr
open Go.SL Go.RowKit Go.Proofs Go.GP Go.ChangeShapes Go.WideShapes Go.ChangeAt
theorem bool_of {cs : List Value} (h : FitsAll [.bool] cs) : ∃ b : Bool, cs = [.bool b] := by
  cases cs with
  | nil => exact h.elim
  | cons v r =>
    obtain ⟨⟨b, rfl⟩, h2⟩ := h
    cases r with
    | nil => exact ⟨b, rfl⟩
    | cons _ _ => exact h2.elim
theorem line_of {cs : List Value} (h : FitsAll ((List.replicate 32 (.int .u8) ++ [.int .i64]) ++ [.str, .bool]) cs) : ∃ x : LineP, cs = lineC x := by
  obtain ⟨a, b, rfl, h1, h2⟩ := FitsAll.parts h
  obtain ⟨v, rfl, _⟩ := vtx_of h1
  obtain ⟨c, d, rfl, h3, h4⟩ := FitsAll.parts (s := [.str]) (t := [.bool]) h2
  obtain ⟨al, rfl⟩ := bool_of h4
  cases c with
  | nil => exact h3.elim
  | cons s r =>
    obtain ⟨⟨t, rfl, _⟩, h5⟩ := h3
    cases r with
    | nil => exact ⟨⟨v, t, al⟩, rfl⟩
    | cons _ _ => exact h5.elim
set_option maxRecDepth 100000 in
theorem item_of {H : Type} {enc : TypeId × Value → H} {W : World} {n : Nat} {cs : List Value} {y : DataW H × List MemPlace} (h : DataW.trod enc Try.prog W 0 (fun _ => true) true n 73 cs = some y) (hw : ∀ k ∈ y.1.weights Try.prog 73, k ≤ reachBytes) :
    ∃ x : ItemM, cs = itemC x ∧ Rd W [] x.LA (lines x.lines) ∧ Rd W [] x.MA (ints x.mids) ∧ x.lines.length ≤ 1000000000000000 ∧ x.mids.length ≤ 1000000000000000 := by
  obtain ⟨m, xs, hl, hsz, hf⟩ := trod_parts Try.underlying73 h hw
  rw [show Try.prog.cellsOf 73 = 3 by kernel_rfl] at hl
  have c39 : Try.prog.cellsOf 39 = 1 := by kernel_rfl
  have c4 : Try.prog.cellsOf 4 = 1 := by kernel_rfl
  have c71 : Try.prog.cellsOf 71 = 1 := by kernel_rfl
  have c43 : Try.prog.cellsOf 43 = 35 := by kernel_rfl
  have c3 : Try.prog.cellsOf 3 = 1 := by kernel_rfl
  obtain ⟨y0, e0, t0⟩ := hf 0 _ rfl
  obtain ⟨y1, _, t1⟩ := hf 1 _ rfl
  obtain ⟨y2, e2, t2⟩ := hf 2 _ rfl
  have s0 : DataW.trod enc Try.prog W 0 (fun _ => true) true m 39 ((cs.drop 0).take (Try.prog.cellsOf 39)) = some y0 := t0
  rw [c39] at s0
  have s1 : DataW.trod enc Try.prog W 0 (fun _ => true) true m 4 ((cs.drop 1).take (Try.prog.cellsOf 4)) = some y1 := t1
  rw [c4] at s1
  have s2 : DataW.trod enc Try.prog W 0 (fun _ => true) true m 71 ((cs.drop 2).take (Try.prog.cellsOf 71)) = some y2 := t2
  rw [c71] at s2
  obtain ⟨LA, ll, lc, e0', T0⟩ := trod_slice1 Try.underlying39 s0
  obtain ⟨b, eb⟩ := bool_of (deep_fits 6 m 4 [.bool] _ y1 (by kernel_rfl) s1 (by rw [List.length_take, List.length_drop, hl]; rfl))
  obtain ⟨MA, ml, mc, e2', T2⟩ := trod_slice1 Try.underlying71 s2
  obtain ⟨L, rfl, hLr, _, hLb, _⟩ := arg_list (j := 0) (f := lineC) (R := fun _ => True) Try.underlying39 (fun n cs y hh hl => by
    rw [c43] at hl
    obtain ⟨x, hx⟩ := line_of (deep_fits 6 n 43 ((List.replicate 32 (.int .u8) ++ [.int .i64]) ++ [.str, .bool]) cs y (by kernel_rfl) hh (by rw [hl]; rfl))
    exact ⟨x, hx, trivial⟩) T0 hsz rfl (by rw [List.getElem?_map, e0]; rfl)
  obtain ⟨Ms, rfl, hMr, _, hMb, _⟩ := arg_int_list (j := 2) Try.underlying71 Try.underlying3 T2 hsz rfl (by rw [List.getElem?_map, e2]; rfl)
  rw [show Try.prog.bytesOf 43 = 64 by kernel_rfl] at hLb
  rw [show Try.prog.bytesOf 3 = 8 by kernel_rfl] at hMb
  simp only [reachBytes] at hLb hMb
  refine ⟨⟨LA, lc, L, b, MA, mc, Ms⟩, ?_, hLr, hMr, by show L.length ≤ _; omega, by show Ms.length ≤ _; omega⟩
  have e : cs = (cs.drop 0).take 1 ++ ((cs.drop 1).take 1 ++ (cs.drop 2).take 1) := by
    match cs, hl with
    | [_, _, _], _ => rfl
  rw [e, e0', eb, e2']
  rfl
set_option maxRecDepth 100000 in
theorem items_arg {H : Type} {enc : TypeId × Value → H} {W : World} {r : Reach} {base j : Nat} {v : Value} {d : DataW H} {ps : List MemPlace} {ts : List TypeId} {ds : List (DataW H)} (hv : Value.okWide Try.prog W r base 64 v)
    (h : DataW.Trod enc Try.prog W 0 (fun _ => true) true 64 v d ps) (hsz : (DataW.weightsEach Try.prog ts ds).all (· ≤ reachBytes) = true) (ht : ts[j]? = some 64) (hd : ds[j]? = some d) :
    ∃ (A : Option Addr) (c : Nat) (l : List ItemM), v = .slice A l.length c ∧ ItemsA W A l ∧ l.length ≤ c := by
  obtain ⟨A, len, cap, rfl⟩ := okWide_slice Try.underlying64 hv
  obtain ⟨l, rfl, hr, hR, hy, hc⟩ := arg_listW (j := j) (f := itemC) (R := fun x => Rd W [] x.LA (lines x.lines) ∧ Rd W [] x.MA (ints x.mids) ∧ x.lines.length ≤ 1000000000000000 ∧ x.mids.length ≤ 1000000000000000) Try.underlying64 (fun n cs y hh _ hw => item_of hh hw) h hsz ht hd
  rw [show Try.prog.bytesOf 73 = 56 by kernel_rfl] at hy
  simp only [reachBytes] at hy
  exact ⟨A, cap, l, rfl, ⟨hr, hR, by omega⟩, hc⟩
end Go.Proofs.Gr
