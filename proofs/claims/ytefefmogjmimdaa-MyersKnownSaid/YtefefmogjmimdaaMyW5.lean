/- Walks and plain facts for the laws of this seat: what each function answers, for every input. -/
import Derived.Test.YtefefmogjmimdaaSl8
import Derived.Test.YtefefmogjmimdaaMyW4
set_option linter.unusedVariables false
set_option linter.unusedSimpArgs false
namespace Go.Proofs
open Go.SL Go.RowKit

open Go.MyPlain
set_option maxHeartbeats 1000000
section
variable {α : Type} [DecidableEq α]
/-- the script from a place on -/
def rest (X Y : List α) (i j : Nat) : List (Int × Int × Int) := scrF ((X.length - i) + (Y.length - j)) i j (X.drop i) (Y.drop j)
theorem rest_zero (X Y : List α) : rest X Y 0 0 = scr X Y := by simp [rest, scr]
theorem rest_end {X Y : List α} {i j : Nat} (hi : i = X.length) (hj : j = Y.length) : rest X Y i j = [] := by subst hi; subst hj; simp [rest, scrF]
theorem rest_keep {X Y : List α} {i j : Nat} (hi : i < X.length) (hj : j < Y.length) (h : X[i] = Y[j]) : rest X Y i j = (0, (i : Int), (j : Int)) :: rest X Y (i + 1) (j + 1) := by
  have e1 : X.drop i = X[i] :: X.drop (i + 1) := List.drop_eq_getElem_cons hi
  have e2 : Y.drop j = Y[j] :: Y.drop (j + 1) := List.drop_eq_getElem_cons hj
  obtain ⟨f, hf⟩ : ∃ f, (X.length - i) + (Y.length - j) = f + 1 := ⟨(X.length - i) + (Y.length - j) - 1, by omega⟩
  unfold rest
  rw [hf, e1, e2]
  simp only [scrF, if_pos h]
  rw [scrF_fuel f ((X.length - (i + 1)) + (Y.length - (j + 1)))] <;> simp <;> omega
theorem rest_gone {X Y : List α} {i j : Nat} (hi : i < X.length) (hj : j ≤ Y.length) (h : ∀ h : j < Y.length, ¬ X[i] = Y[j] ∧ lcs (X.drop i) (Y.drop (j + 1)) ≤ lcs (X.drop (i + 1)) (Y.drop j)) : rest X Y i j = (1, (i : Int), 0) :: rest X Y (i + 1) j := by
  have e1 : X.drop i = X[i] :: X.drop (i + 1) := List.drop_eq_getElem_cons hi
  obtain ⟨f, hf⟩ : ∃ f, (X.length - i) + (Y.length - j) = f + 1 := ⟨(X.length - i) + (Y.length - j) - 1, by omega⟩
  by_cases hj2 : j < Y.length
  · obtain ⟨h1, h2⟩ := h hj2
    have e2 : Y.drop j = Y[j] :: Y.drop (j + 1) := List.drop_eq_getElem_cons hj2
    unfold rest
    rw [hf, e2, e1]
    rw [e2, e1] at h2
    simp only [scrF, if_neg h1, if_pos h2]
    rw [scrF_fuel f ((X.length - (i + 1)) + (Y.length - j))] <;> simp <;> omega
  · have e2 : Y.drop j = [] := List.drop_eq_nil_of_le (by omega)
    unfold rest
    rw [hf, e2, e1]
    simp only [scrF]
    rw [scrF_fuel f ((X.length - (i + 1)) + (Y.length - j))] <;> simp <;> omega
theorem rest_new {X Y : List α} {i j : Nat} (hi : i ≤ X.length) (hj : j < Y.length) (h : ∀ h : i < X.length, ¬ X[i] = Y[j] ∧ ¬ lcs (X.drop i) (Y.drop (j + 1)) ≤ lcs (X.drop (i + 1)) (Y.drop j)) : rest X Y i j = (2, 0, (j : Int)) :: rest X Y i (j + 1) := by
  have e2 : Y.drop j = Y[j] :: Y.drop (j + 1) := List.drop_eq_getElem_cons hj
  obtain ⟨f, hf⟩ : ∃ f, (X.length - i) + (Y.length - j) = f + 1 := ⟨(X.length - i) + (Y.length - j) - 1, by omega⟩
  by_cases hi2 : i < X.length
  · obtain ⟨h1, h2⟩ := h hi2
    have e1 : X.drop i = X[i] :: X.drop (i + 1) := List.drop_eq_getElem_cons hi2
    unfold rest
    rw [hf, e2, e1]
    rw [e2, e1] at h2
    simp only [scrF, if_neg h1, if_neg h2]
    rw [scrF_fuel f ((X.length - i) + (Y.length - (j + 1)))] <;> simp <;> omega
  · have e1 : X.drop i = [] := List.drop_eq_nil_of_le (by omega)
    unfold rest
    rw [hf, e2, e1]
    simp only [scrF]
    rw [scrF_fuel f ((X.length - i) + (Y.length - (j + 1)))] <;> simp <;> omega
end
theorem rows_at {Y : List Nat} {rs : List (Nat × List Value)} {i : Nat} (h : i < rs.length) : (rowsC Y.length rs)[i]? = some (.slice (some ⟨rs[i].1, 0, none⟩) (Y.length + 1) (Y.length + 1)) := by simp [rowsC, h]
theorem row_mem {m : Nat} {rs : List (Nat × List Value)} {i : Nat} (h : i < rs.length) : (rs[i].1, AO.cells rs[i].2 3 ((m + 1) * 1)) ∈ rowsSeg m rs := List.mem_map.2 ⟨rs[i], List.getElem_mem h, rfl⟩
theorem row_at {w0 : World} {S : SS} {X Y : List Nat} {rs : List (Nat × List Value)} {i j : Nat} (hm : ∀ p ∈ rowsSeg Y.length rs, p ∈ S.flatten) (hr : ∀ t (h : t < rs.length), RowOK X Y t 0 rs[t].2) (h : i < rs.length) (hj : j ≤ Y.length) : Cell w0 S ((⟨rs[i].1, 0, none⟩ : Addr).add j) (.int .i64 (lcs (X.drop i) (Y.drop j) : Int)) :=
  (Rd.own (hm _ (row_mem h))).at ((hr i h).2 j (by omega) hj)
theorem diff_fc {w0 : World} {S : SS} {A B : Option Addr} {ca cb : Nat} {xs ys : List ByteArray} (hx : Rd w0 S A (xs.map .string)) (hy : Rd w0 S B (ys.map .string)) (hX : xs.length ≤ 1024) (hY : ys.length ≤ 1024) :
    FC Try.prog w0 9 [.slice A xs.length ca, .slice B ys.length cb] S (fun v S' => ∃ u seg, v = .tuple #[u, .int .i64 0] ∧ S' = seg :: S ∧ SlV 36 3 u (scr xs ys).length (stsC (scr xs ys)) seg) := by
  refine FC.ofD Try.known9 (by simp) ?_
  unfold Try.pc9
  simp only [argT]
  refine PW.seqOps ?_
  refine OL.det trivial (Yields.pure rfl) ?_
  refine OL.det trivial (Yields.pure rfl) ?_
  refine OL.nil ?_
  refine PW.keep (T' := [(0, _), (1, _)]) ⟨rfl, rfl, trivial⟩ ?_
  refine PW.seq fun K1 hK1 => ?_
  refine PW.seqOps ?_
  refine OL.det trivial (Yields.pure rfl) ?_
  refine OL.det trivial (Yields.pure rfl) ?_
  refine OL.det trivial (Yields.pure rfl) ?_
  refine OL.bool trivial (Yields.pure rfl) (fun g16 => ?_) (fun g16 => ?_)
  · try simp only [decide_eq_true_eq, decide_eq_false_iff_not, beq_iff_eq, bne_iff_ne, beq_eq_false_iff_ne, bne_eq_false_iff_eq, Bool.not_eq_true', Bool.not_eq_false', Bool.not_eq_true, ne_eq, Decidable.not_not] at g16
    exfalso; omega -- done
  · try simp only [decide_eq_true_eq, decide_eq_false_iff_not, beq_iff_eq, bne_iff_ne, beq_eq_false_iff_ne, bne_eq_false_iff_eq, Bool.not_eq_true', Bool.not_eq_false', Bool.not_eq_true, ne_eq, Decidable.not_not] at g16
    refine OL.det rfl (Yields.pure rfl) ?_
    refine OL.det rfl (Yields.pure rfl) ?_
    refine OL.det rfl (Yields.pure rfl) ?_
    refine OL.det trivial (Yields.pure rfl) ?_
    refine OL.nil ?_
    refine PW.keep (T' := [(0, _), (1, _), (20, _)]) ⟨rfl, rfl, rfl, trivial⟩ ?_
    refine PW.cond rfl (fun c20 => ?_) (fun c20 => ?_)
    · try simp only [decide_eq_true_eq, decide_eq_false_iff_not, beq_iff_eq, bne_iff_ne, beq_eq_false_iff_ne, bne_eq_false_iff_eq, Bool.not_eq_true', Bool.not_eq_false', Bool.not_eq_true, ne_eq, Decidable.not_not] at c20
      exfalso; omega -- done
    · try simp only [decide_eq_true_eq, decide_eq_false_iff_not, beq_iff_eq, bne_iff_ne, beq_eq_false_iff_ne, bne_eq_false_iff_eq, Bool.not_eq_true', Bool.not_eq_false', Bool.not_eq_true, ne_eq, Decidable.not_not] at c20
      refine PW.skip ?_
      refine hK1 _ _ ?_
      refine PW.keep (T' := [(0, _), (1, _)]) ⟨rfl, rfl, trivial⟩ ?_
      refine PW.seqOps ?_
      refine OL.cons trivial OW.mkM ?_
      rintro _ _ ⟨r21, rfl, rfl⟩
      refine OL.det trivial (Yields.pure rfl) ?_
      refine OL.nil ?_
      refine PW.keep (T' := [(0, _), (1, _), (6, _)]) ⟨rfl, rfl, rfl, trivial⟩ ?_
      refine PW.seqOps ?_
      refine OL.det trivial (Yields.pure rfl) ?_
      refine OL.det trivial (Yields.pure rfl) ?_
      refine OL.call trivial rfl (numbered_fc (ks := []) hx (by omega) (by simp)) ?_
      rintro vX _ ⟨segX, rfl, hslX⟩
      rw [← numF_length [] xs] at hslX
      refine OL.det trivial (Yields.pure rfl) ?_
      refine OL.det trivial (Yields.pure rfl) ?_
      refine OL.call trivial rfl (FC.sel [1, 0] 2 rfl (numbered_fc (ks := (numF [] xs).1) hy.cons (by omega) (by have := numF_keys [] xs; simp at this; omega))) ?_
      rintro vY _ ⟨segY, rfl, hslY⟩
      rw [← numF_length (numF [] xs).1 ys] at hslY
      refine OL.det trivial (Yields.pure rfl) ?_
      refine OL.det trivial (Yields.pure rfl) ?_
      refine OL.nil ?_
      refine PW.keep (T' := [(7, _), (8, _)]) ⟨rfl, rfl, trivial⟩ ?_
      refine PW.seqOps ?_
      refine OL.sel [0, 2] 3 rfl ?_
      change OL _ _ _ _ _ (segY :: segX :: S) _
      have hscr := scr_nums xs ys
      have hXl := numF_length ([] : List ByteArray) xs
      have hYl := numF_length (numF [] xs).1 ys
      generalize hX' : (numF [] xs).2 = X at *
      generalize hY' : (numF (numF [] xs).1 ys).2 = Y at *
      obtain ⟨AX, capX, rfl, hrX, hlX⟩ := hslX.rd (S := segY :: segX :: S) (k := 1) rfl
      obtain ⟨AY, capY, rfl, hrY, hlY⟩ := hslY.rd (S := segY :: segX :: S) (k := 0) rfl
      refine OL.det trivial (Yields.pure rfl) ?_
      refine OL.det trivial (Yields.pure rfl) ?_
      refine OL.call trivial rfl (table_fc hrX hrY (by omega) (by omega)) ?_
      rintro _ _ ⟨ro, rs, rfl, rfl, hrs, hrow⟩
      refine OL.det trivial (Yields.pure rfl) ?_
      refine OL.nil ?_
      refine PW.keep (T' := [(7, _), (8, _), (9, _)]) ⟨rfl, rfl, rfl, trivial⟩ ?_
      refine PW.seqOps ?_
      refine OL.det trivial (Yields.pure rfl) ?_
      refine OL.nil ?_
      refine PW.keep (T' := [(7, _), (8, _), (9, _), (10, _)]) ⟨rfl, rfl, rfl, rfl, trivial⟩ ?_
      refine PW.seq fun K2 hK2 => ?_
      refine PW.seqOps ?_
      refine OL.nilseg ?_
      refine OL.det trivial (Yields.pure rfl) ?_
      refine OL.det trivial (Yields.pure rfl) ?_
      refine OL.nil ?_
      refine PW.keep (T' := [(7, _), (8, _), (9, _), (10, _), (11, _), (12, _)]) ⟨rfl, rfl, rfl, rfl, rfl, rfl, trivial⟩ ?_
      refine PW.block ?_
      refine PW.keep (T' := [(7, _), (8, _), (9, _), (10, _), (11, _), (12, _)]) ⟨rfl, rfl, rfl, rfl, rfl, rfl, trivial⟩ ?_
      refine PW.loopK (I := fun m T S' => ∃ (i j : Nat) (o : List (Int × Int × Int)) (v : Value) (seg : Seg), (i ≤ X.length ∧ j ≤ Y.length ∧ m = (X.length - i) + (Y.length - j) ∧ o ++ rest X Y i j = scr X Y ∧ o.length ≤ i + j ∧ SlV 36 3 v o.length (stsC o) seg) ∧ T = ([(7, .slice AX X.length capX), (8, .slice AY Y.length capY), (9, .slice (some ⟨ro, 0, none⟩) (X.length + 1) (X.length + 1)), (10, v), (11, .int .i64 i), (12, .int .i64 j)] : TT) ∧ S' = seg :: rowsSeg Y.length rs :: [(ro, .cells (rowsC Y.length rs) 46 ((X.length + 1) * 1))] :: segY :: segX :: S) (m := X.length + Y.length) ⟨0, 0, [], _, [], ⟨by omega, by omega, by omega, by rw [rest_zero]; rfl, by simp, by simpa [stsC] using SlV.nil 36 3⟩, rfl, rfl⟩ ?_
      rintro m _ _ ⟨i, j, o, v, seg, ⟨hi, hj, hm, hrest, holen, hsl⟩, rfl, rfl⟩
      refine PW.seq fun K3 hK3 => ?_
      refine PW.seqOps ?_
      refine OL.det trivial (Yields.pure rfl) ?_
      refine OL.det trivial (Yields.pure rfl) ?_
      refine OL.det trivial (Yields.pure rfl) ?_
      refine OL.det trivial (Yields.pure rfl) ?_
      refine OL.bool trivial (Yields.pure rfl) (fun g35 => ?_) (fun g35 => ?_)
      · try simp only [decide_eq_true_eq, decide_eq_false_iff_not, beq_iff_eq, bne_iff_ne, beq_eq_false_iff_ne, bne_eq_false_iff_eq, Bool.not_eq_true', Bool.not_eq_false', Bool.not_eq_true, ne_eq, Decidable.not_not] at g35
        refine OL.off rfl rfl ?_
        refine OL.off rfl rfl ?_
        refine OL.off rfl rfl ?_
        refine OL.off rfl rfl ?_
        refine OL.det trivial (Yields.pure rfl) ?_
        refine OL.nil ?_
        refine PW.keep (T' := [(7, _), (8, _), (9, _), (10, _), (11, _), (12, _), (40, _)]) ⟨rfl, rfl, rfl, rfl, rfl, rfl, rfl, trivial⟩ ?_
        refine PW.ite (b := true) rfl ?_
        rw [if_pos rfl]
        refine PW.skip ?_
        refine hK3 _ _ ?_
        refine PW.keep (T' := [(7, _), (8, _), (9, _), (10, _), (11, _), (12, _)]) ⟨rfl, rfl, rfl, rfl, rfl, rfl, trivial⟩ ?_
        refine PW.block ?_
        refine PW.block ?_
        refine PW.seq fun K4 hK4 => ?_
        refine PW.quietK Try.mixed ?_
        refine QK.det trivial (Yields.pure rfl) ?_
        refine QK.det trivial (Yields.pure rfl) ?_
        refine QK.det trivial (Yields.pure rfl) ?_
        refine QK.det trivial (Yields.pure rfl) ?_
        refine QK.bool trivial (Yields.pure rfl) (fun g53 => ?_) (fun g53 => ?_)
        · try simp only [decide_eq_true_eq, decide_eq_false_iff_not, beq_iff_eq, bne_iff_ne, beq_eq_false_iff_ne, bne_eq_false_iff_eq, Bool.not_eq_true', Bool.not_eq_false', Bool.not_eq_true, ne_eq, Decidable.not_not] at g53
          obtain ⟨aX, rfl⟩ := hrX.some (intC_ne (by omega))
          refine QK.det rfl (Yields.pure rfl) ?_
          refine QK.det rfl (Yields.pure rfl) ?_
          refine QK.det rfl (Yields.pure rfl) ?_
          refine QK.det rfl (Yields.pure rfl) ?_
          refine QK.det trivial (Yields.pure rfl) ?_
          refine QK.bool trivial (Yields.pure rfl) (fun g59 => ?_) (fun g59 => ?_)
          · try simp only [decide_eq_true_eq, decide_eq_false_iff_not, beq_iff_eq, bne_iff_ne, beq_eq_false_iff_ne, bne_eq_false_iff_eq, Bool.not_eq_true', Bool.not_eq_false', Bool.not_eq_true, ne_eq, Decidable.not_not] at g59
            obtain ⟨aY, rfl⟩ := hrY.some (intC_ne (by omega))
            refine QK.det rfl (Yields.pure rfl) ?_
            refine QK.det rfl (Yields.pure rfl) ?_
            refine QK.det rfl (Yields.ixN1 rfl rfl rfl (by omega)) ?_
            refine QK.det rfl (Yields.ld rfl (int_at hrX.cons.cons.cons (by omega))) ?_
            refine QK.det rfl (Yields.pure rfl) ?_
            refine QK.det rfl (Yields.pure rfl) ?_
            refine QK.det rfl (Yields.ixN1 rfl rfl rfl (by omega)) ?_
            refine QK.det rfl (Yields.ld rfl (int_at hrY.cons.cons.cons (by omega))) ?_
            refine QK.nil ?_
            change OL _ _ _ [_, _, _] _ _ _
            refine OL.det rfl (Yields.pure rfl) ?_
            refine OL.det trivial (Yields.pure rfl) ?_
            refine OL.det trivial (Yields.pure rfl) ?_
            refine OL.nil ?_
            refine hK4 _ _ ?_
            refine PW.keep (T' := [(7, _), (8, _), (9, _), (10, _), (11, _), (12, _), (48, _)]) ⟨rfl, rfl, rfl, rfl, rfl, rfl, rfl, trivial⟩ ?_
            refine PW.cond rfl (fun c48 => ?_) (fun c48 => ?_)
            · try simp only [decide_eq_true_eq, decide_eq_false_iff_not, beq_iff_eq, bne_iff_ne, beq_eq_false_iff_ne, bne_eq_false_iff_eq, Bool.not_eq_true', Bool.not_eq_false', Bool.not_eq_true, ne_eq, Decidable.not_not] at c48
              refine PW.seqOps ?_
              refine OL.det trivial (Yields.pure rfl) ?_
              refine OL.det trivial (Yields.pure rfl) ?_
              refine OL.det trivial (Yields.pure rfl) ?_
              refine OL.det trivial (Yields.build rfl) ?_
              apply OL.app1 (k := 0)
              · rfl
              · rfl
              · rfl
              · rfl
              · rfl
              · rfl
              · exact hsl
              · rfl
              · omega
              · unfold maxLen; omega
              intro v75 seg75 hsl75
              refine OL.det trivial (Yields.pure rfl) ?_
              refine OL.nil ?_
              refine PW.keep (T' := [(7, _), (8, _), (9, _), (10, _), (11, _), (12, _)]) ⟨rfl, rfl, rfl, rfl, rfl, rfl, trivial⟩ ?_
              refine PW.seqOps ?_
              refine OL.det trivial (Yields.pure rfl) ?_
              refine OL.det trivial (Yields.add64 rfl rfl (by omega) (by omega)) ?_
              refine OL.det trivial (Yields.pure rfl) ?_
              refine OL.nil ?_
              refine PW.keep (T' := [(7, _), (8, _), (9, _), (10, _), (11, _), (12, _)]) ⟨rfl, rfl, rfl, rfl, rfl, rfl, trivial⟩ ?_
              refine PW.ops ?_
              refine OL.det trivial (Yields.pure rfl) ?_
              refine OL.det trivial (Yields.add64 rfl rfl (by omega) (by omega)) ?_
              refine OL.det trivial (Yields.pure rfl) ?_
              refine OL.nil ?_
              repeat rw [inBlk_n]
              rw [thenK_n]
              refine LoopEnd.mk (T'' := [(7, _), (8, _), (9, _), (10, _), (11, _), (12, _)]) ⟨rfl, rfl, rfl, rfl, rfl, rfl, trivial⟩ ?_
              refine ⟨(X.length - (i + 1)) + (Y.length - (j + 1)), by omega, i + 1, j + 1, o ++ [(0, (i : Int), (j : Int))], v75, seg75, ⟨by omega, by omega, rfl, ?_, by simp; omega, ?_⟩, rfl, rfl⟩
              · rw [← hrest, rest_keep (i := i) (j := j) (by omega) (by omega) (by omega), List.append_assoc]; rfl
              · rw [stsC_append, List.length_append]; exact hsl75
            · try simp only [decide_eq_true_eq, decide_eq_false_iff_not, beq_iff_eq, bne_iff_ne, beq_eq_false_iff_ne, bne_eq_false_iff_eq, Bool.not_eq_true', Bool.not_eq_false', Bool.not_eq_true, ne_eq, Decidable.not_not] at c48
              refine PW.seq fun K5 hK5 => ?_
              refine PW.quietK Try.mixed ?_
              refine QK.det trivial (Yields.pure rfl) ?_
              refine QK.det trivial (Yields.pure rfl) ?_
              refine QK.det trivial (Yields.pure rfl) ?_
              refine QK.det trivial (Yields.pure rfl) ?_
              refine QK.bool trivial (Yields.pure rfl) (fun g85 => ?_) (fun g85 => ?_)
              · try simp only [decide_eq_true_eq, decide_eq_false_iff_not, beq_iff_eq, bne_iff_ne, beq_eq_false_iff_ne, bne_eq_false_iff_eq, Bool.not_eq_true', Bool.not_eq_false', Bool.not_eq_true, ne_eq, Decidable.not_not] at g85
                refine QK.det rfl (Yields.pure rfl) ?_
                refine QK.det rfl (Yields.pure rfl) ?_
                refine QK.det rfl (Yields.pure rfl) ?_
                refine QK.det rfl (Yields.pure rfl) ?_
                refine QK.bool rfl (Yields.pure rfl) (fun g90 => ?_) (fun g90 => ?_)
                · try simp only [decide_eq_true_eq, decide_eq_false_iff_not, beq_iff_eq, bne_iff_ne, beq_eq_false_iff_ne, bne_eq_false_iff_eq, Bool.not_eq_true', Bool.not_eq_false', Bool.not_eq_true, ne_eq, Decidable.not_not] at g90
                  exfalso; omega
                · try simp only [decide_eq_true_eq, decide_eq_false_iff_not, beq_iff_eq, bne_iff_ne, beq_eq_false_iff_ne, bne_eq_false_iff_eq, Bool.not_eq_true', Bool.not_eq_false', Bool.not_eq_true, ne_eq, Decidable.not_not] at g90
                  refine QK.det rfl (Yields.pure rfl) ?_
                  refine QK.det rfl (Yields.pure rfl) ?_
                  refine QK.det rfl (Yields.add64 rfl rfl (by omega) (by omega)) ?_
                  refine QK.det rfl (Yields.ixN1 rfl rfl (show _ = ((i + 1 : Nat) : Int) from rfl) (by omega)) ?_
                  refine QK.det rfl (Yields.ld rfl ((Rd.own (E := 46) (tot := (X.length + 1) * 1) (by simp)).at (rows_at (Y := Y) (rs := rs) (i := i + 1) (by omega)))) ?_
                  refine QK.det rfl (Yields.pure rfl) ?_
                  refine QK.det rfl (Yields.ixN1 rfl rfl rfl (by omega)) ?_
                  refine QK.det rfl (Yields.ld rfl (row_at (Y := Y) (rs := rs) (i := i + 1) (j := j) (fun p hp => by simp [hp]) hrow (by omega) (by omega))) ?_
                  refine QK.det rfl (Yields.pure rfl) ?_
                  refine QK.det rfl (Yields.pure rfl) ?_
                  refine QK.det rfl (Yields.ixN1 rfl rfl rfl (by omega)) ?_
                  refine QK.det rfl (Yields.ld rfl ((Rd.own (E := 46) (tot := (X.length + 1) * 1) (by simp)).at (rows_at (Y := Y) (rs := rs) (i := i) (by omega)))) ?_
                  refine QK.det rfl (Yields.pure rfl) ?_
                  refine QK.det rfl (Yields.add64 rfl rfl (by omega) (by omega)) ?_
                  refine QK.det rfl (Yields.ixN1 rfl rfl (show _ = ((j + 1 : Nat) : Int) from rfl) (by omega)) ?_
                  refine QK.det rfl (Yields.ld rfl (row_at (Y := Y) (rs := rs) (i := i) (j := j + 1) (fun p hp => by simp [hp]) hrow (by omega) (by omega))) ?_
                  refine QK.nil ?_
                  change OL _ _ _ [_, _, _, _] _ _ _
                  refine OL.det rfl (Yields.pure rfl) ?_
                  refine OL.det rfl (Yields.pure rfl) ?_
                  refine OL.det trivial (Yields.pure rfl) ?_
                  refine OL.det trivial (Yields.pure rfl) ?_
                  refine OL.nil ?_
                  refine hK5 _ _ ?_
                  refine PW.keep (T' := [(7, _), (8, _), (9, _), (10, _), (11, _), (12, _), (80, _)]) ⟨rfl, rfl, rfl, rfl, rfl, rfl, rfl, trivial⟩ ?_
                  refine PW.cond rfl (fun c80 => ?_) (fun c80 => ?_)
                  · try simp only [decide_eq_true_eq, decide_eq_false_iff_not, beq_iff_eq, bne_iff_ne, beq_eq_false_iff_ne, bne_eq_false_iff_eq, Bool.not_eq_true', Bool.not_eq_false', Bool.not_eq_true, ne_eq, Decidable.not_not] at c80
                    refine PW.seqOps ?_
                    refine OL.det trivial (Yields.pure rfl) ?_
                    refine OL.det trivial (Yields.pure rfl) ?_
                    refine OL.det trivial (Yields.build rfl) ?_
                    apply OL.app1 (k := 0)
                    · rfl
                    · rfl
                    · rfl
                    · rfl
                    · rfl
                    · rfl
                    · exact hsl
                    · rfl
                    · omega
                    · unfold maxLen; omega
                    intro v114 seg114 hsl114
                    refine OL.det trivial (Yields.pure rfl) ?_
                    refine OL.nil ?_
                    refine PW.keep (T' := [(7, _), (8, _), (9, _), (10, _), (11, _), (12, _)]) ⟨rfl, rfl, rfl, rfl, rfl, rfl, trivial⟩ ?_
                    refine PW.ops ?_
                    refine OL.det trivial (Yields.pure rfl) ?_
                    refine OL.det trivial (Yields.add64 rfl rfl (by omega) (by omega)) ?_
                    refine OL.det trivial (Yields.pure rfl) ?_
                    refine OL.nil ?_
                    repeat rw [inBlk_n]
                    rw [thenK_n]
                    refine LoopEnd.mk (T'' := [(7, _), (8, _), (9, _), (10, _), (11, _), (12, _)]) ⟨rfl, rfl, rfl, rfl, rfl, rfl, trivial⟩ ?_
                    refine ⟨(X.length - (i + 1)) + (Y.length - (j)), by omega, i + 1, j, o ++ [(1, (i : Int), 0)], v114, seg114, ⟨by omega, by omega, rfl, ?_, by simp; omega, ?_⟩, rfl, rfl⟩
                    · rw [← hrest, rest_gone (i := i) (j := j) (by omega) (by omega) (fun h => by first | omega | exact ⟨by omega, by omega⟩), List.append_assoc]; rfl
                    · rw [stsC_append, List.length_append]; exact hsl114
                  · try simp only [decide_eq_true_eq, decide_eq_false_iff_not, beq_iff_eq, bne_iff_ne, beq_eq_false_iff_ne, bne_eq_false_iff_eq, Bool.not_eq_true', Bool.not_eq_false', Bool.not_eq_true, ne_eq, Decidable.not_not] at c80
                    refine PW.seqOps ?_
                    refine OL.det trivial (Yields.pure rfl) ?_
                    refine OL.det trivial (Yields.pure rfl) ?_
                    refine OL.det trivial (Yields.build rfl) ?_
                    apply OL.app1 (k := 0)
                    · rfl
                    · rfl
                    · rfl
                    · rfl
                    · rfl
                    · rfl
                    · exact hsl
                    · rfl
                    · omega
                    · unfold maxLen; omega
                    intro v45 seg45 hsl45
                    refine OL.det trivial (Yields.pure rfl) ?_
                    refine OL.nil ?_
                    refine PW.keep (T' := [(7, _), (8, _), (9, _), (10, _), (11, _), (12, _)]) ⟨rfl, rfl, rfl, rfl, rfl, rfl, trivial⟩ ?_
                    refine PW.ops ?_
                    refine OL.det trivial (Yields.pure rfl) ?_
                    refine OL.det trivial (Yields.add64 rfl rfl (by omega) (by omega)) ?_
                    refine OL.det trivial (Yields.pure rfl) ?_
                    refine OL.nil ?_
                    repeat rw [inBlk_n]
                    rw [thenK_n]
                    refine LoopEnd.mk (T'' := [(7, _), (8, _), (9, _), (10, _), (11, _), (12, _)]) ⟨rfl, rfl, rfl, rfl, rfl, rfl, trivial⟩ ?_
                    refine ⟨(X.length - (i)) + (Y.length - (j + 1)), by omega, i, j + 1, o ++ [(2, 0, (j : Int))], v45, seg45, ⟨by omega, by omega, rfl, ?_, by simp; omega, ?_⟩, rfl, rfl⟩
                    · rw [← hrest, rest_new (i := i) (j := j) (by omega) (by omega) (fun h => by first | omega | exact ⟨by omega, by omega⟩), List.append_assoc]; rfl
                    · rw [stsC_append, List.length_append]; exact hsl45
              · try simp only [decide_eq_true_eq, decide_eq_false_iff_not, beq_iff_eq, bne_iff_ne, beq_eq_false_iff_ne, bne_eq_false_iff_eq, Bool.not_eq_true', Bool.not_eq_false', Bool.not_eq_true, ne_eq, Decidable.not_not] at g85
                exfalso; omega
          · try simp only [decide_eq_true_eq, decide_eq_false_iff_not, beq_iff_eq, bne_iff_ne, beq_eq_false_iff_ne, bne_eq_false_iff_eq, Bool.not_eq_true', Bool.not_eq_false', Bool.not_eq_true, ne_eq, Decidable.not_not] at g59
            refine QK.off rfl rfl ?_
            refine QK.off rfl rfl ?_
            refine QK.off rfl rfl ?_
            refine QK.off rfl rfl ?_
            refine QK.off rfl rfl ?_
            refine QK.off rfl rfl ?_
            refine QK.off rfl rfl ?_
            refine QK.off rfl rfl ?_
            refine QK.nil ?_
            change OL _ _ _ [_, _, _] _ _ _
            refine OL.off rfl rfl ?_
            refine OL.det trivial (Yields.pure rfl) ?_
            refine OL.det trivial (Yields.pure rfl) ?_
            refine OL.nil ?_
            refine hK4 _ _ ?_
            refine PW.keep (T' := [(7, _), (8, _), (9, _), (10, _), (11, _), (12, _), (48, _)]) ⟨rfl, rfl, rfl, rfl, rfl, rfl, rfl, trivial⟩ ?_
            refine PW.ite (b := false) rfl ?_
            rw [if_neg Bool.false_ne_true]
            refine PW.seq fun K6 hK6 => ?_
            refine PW.quietK Try.mixed ?_
            refine QK.det trivial (Yields.pure rfl) ?_
            refine QK.det trivial (Yields.pure rfl) ?_
            refine QK.det trivial (Yields.pure rfl) ?_
            refine QK.det trivial (Yields.pure rfl) ?_
            refine QK.bool trivial (Yields.pure rfl) (fun g85 => ?_) (fun g85 => ?_)
            · try simp only [decide_eq_true_eq, decide_eq_false_iff_not, beq_iff_eq, bne_iff_ne, beq_eq_false_iff_ne, bne_eq_false_iff_eq, Bool.not_eq_true', Bool.not_eq_false', Bool.not_eq_true, ne_eq, Decidable.not_not] at g85
              refine QK.det rfl (Yields.pure rfl) ?_
              refine QK.det rfl (Yields.pure rfl) ?_
              refine QK.det rfl (Yields.pure rfl) ?_
              refine QK.det rfl (Yields.pure rfl) ?_
              refine QK.bool rfl (Yields.pure rfl) (fun g90 => ?_) (fun g90 => ?_)
              · try simp only [decide_eq_true_eq, decide_eq_false_iff_not, beq_iff_eq, bne_iff_ne, beq_eq_false_iff_ne, bne_eq_false_iff_eq, Bool.not_eq_true', Bool.not_eq_false', Bool.not_eq_true, ne_eq, Decidable.not_not] at g90
                refine QK.off rfl rfl ?_
                refine QK.off rfl rfl ?_
                refine QK.off rfl rfl ?_
                refine QK.off rfl rfl ?_
                refine QK.off rfl rfl ?_
                refine QK.off rfl rfl ?_
                refine QK.off rfl rfl ?_
                refine QK.off rfl rfl ?_
                refine QK.off rfl rfl ?_
                refine QK.off rfl rfl ?_
                refine QK.off rfl rfl ?_
                refine QK.off rfl rfl ?_
                refine QK.off rfl rfl ?_
                refine QK.off rfl rfl ?_
                refine QK.off rfl rfl ?_
                refine QK.off rfl rfl ?_
                refine QK.nil ?_
                change OL _ _ _ [_, _, _, _] _ _ _
                refine OL.off rfl rfl ?_
                refine OL.det rfl (Yields.pure rfl) ?_
                refine OL.det trivial (Yields.pure rfl) ?_
                refine OL.det trivial (Yields.pure rfl) ?_
                refine OL.nil ?_
                refine hK6 _ _ ?_
                refine PW.keep (T' := [(7, _), (8, _), (9, _), (10, _), (11, _), (12, _), (80, _)]) ⟨rfl, rfl, rfl, rfl, rfl, rfl, rfl, trivial⟩ ?_
                refine PW.ite (b := true) rfl ?_
                rw [if_pos rfl]
                refine PW.seqOps ?_
                refine OL.det trivial (Yields.pure rfl) ?_
                refine OL.det trivial (Yields.pure rfl) ?_
                refine OL.det trivial (Yields.build rfl) ?_
                apply OL.app1 (k := 0)
                · rfl
                · rfl
                · rfl
                · rfl
                · rfl
                · rfl
                · exact hsl
                · rfl
                · omega
                · unfold maxLen; omega
                intro v114 seg114 hsl114
                refine OL.det trivial (Yields.pure rfl) ?_
                refine OL.nil ?_
                refine PW.keep (T' := [(7, _), (8, _), (9, _), (10, _), (11, _), (12, _)]) ⟨rfl, rfl, rfl, rfl, rfl, rfl, trivial⟩ ?_
                refine PW.ops ?_
                refine OL.det trivial (Yields.pure rfl) ?_
                refine OL.det trivial (Yields.add64 rfl rfl (by omega) (by omega)) ?_
                refine OL.det trivial (Yields.pure rfl) ?_
                refine OL.nil ?_
                repeat rw [inBlk_n]
                rw [thenK_n]
                refine LoopEnd.mk (T'' := [(7, _), (8, _), (9, _), (10, _), (11, _), (12, _)]) ⟨rfl, rfl, rfl, rfl, rfl, rfl, trivial⟩ ?_
                refine ⟨(X.length - (i + 1)) + (Y.length - (j)), by omega, i + 1, j, o ++ [(1, (i : Int), 0)], v114, seg114, ⟨by omega, by omega, rfl, ?_, by simp; omega, ?_⟩, rfl, rfl⟩
                · rw [← hrest, rest_gone (i := i) (j := j) (by omega) (by omega) (fun h => by first | omega | exact ⟨by omega, by omega⟩), List.append_assoc]; rfl
                · rw [stsC_append, List.length_append]; exact hsl114
              · try simp only [decide_eq_true_eq, decide_eq_false_iff_not, beq_iff_eq, bne_iff_ne, beq_eq_false_iff_ne, bne_eq_false_iff_eq, Bool.not_eq_true', Bool.not_eq_false', Bool.not_eq_true, ne_eq, Decidable.not_not] at g90
                exfalso; omega
            · try simp only [decide_eq_true_eq, decide_eq_false_iff_not, beq_iff_eq, bne_iff_ne, beq_eq_false_iff_ne, bne_eq_false_iff_eq, Bool.not_eq_true', Bool.not_eq_false', Bool.not_eq_true, ne_eq, Decidable.not_not] at g85
              exfalso; omega
        · try simp only [decide_eq_true_eq, decide_eq_false_iff_not, beq_iff_eq, bne_iff_ne, beq_eq_false_iff_ne, bne_eq_false_iff_eq, Bool.not_eq_true', Bool.not_eq_false', Bool.not_eq_true, ne_eq, Decidable.not_not] at g53
          exfalso; omega
      · try simp only [decide_eq_true_eq, decide_eq_false_iff_not, beq_iff_eq, bne_iff_ne, beq_eq_false_iff_ne, bne_eq_false_iff_eq, Bool.not_eq_true', Bool.not_eq_false', Bool.not_eq_true, ne_eq, Decidable.not_not] at g35
        refine OL.det rfl (Yields.pure rfl) ?_
        refine OL.det rfl (Yields.pure rfl) ?_
        refine OL.det rfl (Yields.pure rfl) ?_
        refine OL.det rfl (Yields.pure rfl) ?_
        refine OL.det trivial (Yields.pure rfl) ?_
        refine OL.nil ?_
        refine PW.keep (T' := [(7, _), (8, _), (9, _), (10, _), (11, _), (12, _), (40, _)]) ⟨rfl, rfl, rfl, rfl, rfl, rfl, rfl, trivial⟩ ?_
        refine PW.cond rfl (fun c40 => ?_) (fun c40 => ?_)
        · try simp only [decide_eq_true_eq, decide_eq_false_iff_not, beq_iff_eq, bne_iff_ne, beq_eq_false_iff_ne, bne_eq_false_iff_eq, Bool.not_eq_true', Bool.not_eq_false', Bool.not_eq_true, ne_eq, Decidable.not_not] at c40
          refine PW.skip ?_
          refine hK3 _ _ ?_
          refine PW.keep (T' := [(7, _), (8, _), (9, _), (10, _), (11, _), (12, _)]) ⟨rfl, rfl, rfl, rfl, rfl, rfl, trivial⟩ ?_
          refine PW.block ?_
          refine PW.block ?_
          refine PW.seq fun K7 hK7 => ?_
          refine PW.quietK Try.mixed ?_
          refine QK.det trivial (Yields.pure rfl) ?_
          refine QK.det trivial (Yields.pure rfl) ?_
          refine QK.det trivial (Yields.pure rfl) ?_
          refine QK.det trivial (Yields.pure rfl) ?_
          refine QK.bool trivial (Yields.pure rfl) (fun g53 => ?_) (fun g53 => ?_)
          · try simp only [decide_eq_true_eq, decide_eq_false_iff_not, beq_iff_eq, bne_iff_ne, beq_eq_false_iff_ne, bne_eq_false_iff_eq, Bool.not_eq_true', Bool.not_eq_false', Bool.not_eq_true, ne_eq, Decidable.not_not] at g53
            exfalso; omega
          · try simp only [decide_eq_true_eq, decide_eq_false_iff_not, beq_iff_eq, bne_iff_ne, beq_eq_false_iff_ne, bne_eq_false_iff_eq, Bool.not_eq_true', Bool.not_eq_false', Bool.not_eq_true, ne_eq, Decidable.not_not] at g53
            refine QK.off rfl rfl ?_
            refine QK.off rfl rfl ?_
            refine QK.off rfl rfl ?_
            refine QK.off rfl rfl ?_
            refine QK.det trivial (Yields.pure rfl) ?_
            refine QK.det trivial (Yields.pure rfl) ?_
            refine QK.off rfl rfl ?_
            refine QK.off rfl rfl ?_
            refine QK.off rfl rfl ?_
            refine QK.off rfl rfl ?_
            refine QK.off rfl rfl ?_
            refine QK.off rfl rfl ?_
            refine QK.off rfl rfl ?_
            refine QK.off rfl rfl ?_
            refine QK.nil ?_
            change OL _ _ _ [_, _, _] _ _ _
            refine OL.off rfl rfl ?_
            refine OL.det trivial (Yields.pure rfl) ?_
            refine OL.det trivial (Yields.pure rfl) ?_
            refine OL.nil ?_
            refine hK7 _ _ ?_
            refine PW.keep (T' := [(7, _), (8, _), (9, _), (10, _), (11, _), (12, _), (48, _)]) ⟨rfl, rfl, rfl, rfl, rfl, rfl, rfl, trivial⟩ ?_
            refine PW.ite (b := false) rfl ?_
            rw [if_neg Bool.false_ne_true]
            refine PW.seq fun K8 hK8 => ?_
            refine PW.quietK Try.mixed ?_
            refine QK.det trivial (Yields.pure rfl) ?_
            refine QK.det trivial (Yields.pure rfl) ?_
            refine QK.det trivial (Yields.pure rfl) ?_
            refine QK.det trivial (Yields.pure rfl) ?_
            refine QK.bool trivial (Yields.pure rfl) (fun g85 => ?_) (fun g85 => ?_)
            · try simp only [decide_eq_true_eq, decide_eq_false_iff_not, beq_iff_eq, bne_iff_ne, beq_eq_false_iff_ne, bne_eq_false_iff_eq, Bool.not_eq_true', Bool.not_eq_false', Bool.not_eq_true, ne_eq, Decidable.not_not] at g85
              exfalso; omega
            · try simp only [decide_eq_true_eq, decide_eq_false_iff_not, beq_iff_eq, bne_iff_ne, beq_eq_false_iff_ne, bne_eq_false_iff_eq, Bool.not_eq_true', Bool.not_eq_false', Bool.not_eq_true, ne_eq, Decidable.not_not] at g85
              refine QK.off rfl rfl ?_
              refine QK.off rfl rfl ?_
              refine QK.off rfl rfl ?_
              refine QK.off rfl rfl ?_
              refine QK.off rfl rfl ?_
              refine QK.off rfl rfl ?_
              refine QK.off rfl rfl ?_
              refine QK.off rfl rfl ?_
              refine QK.off rfl rfl ?_
              refine QK.off rfl rfl ?_
              refine QK.off rfl rfl ?_
              refine QK.off rfl rfl ?_
              refine QK.off rfl rfl ?_
              refine QK.off rfl rfl ?_
              refine QK.off rfl rfl ?_
              refine QK.off rfl rfl ?_
              refine QK.off rfl rfl ?_
              refine QK.off rfl rfl ?_
              refine QK.off rfl rfl ?_
              refine QK.off rfl rfl ?_
              refine QK.off rfl rfl ?_
              refine QK.nil ?_
              change OL _ _ _ [_, _, _, _] _ _ _
              refine OL.off rfl rfl ?_
              refine OL.off rfl rfl ?_
              refine OL.det trivial (Yields.pure rfl) ?_
              refine OL.det trivial (Yields.pure rfl) ?_
              refine OL.nil ?_
              refine hK8 _ _ ?_
              refine PW.keep (T' := [(7, _), (8, _), (9, _), (10, _), (11, _), (12, _), (80, _)]) ⟨rfl, rfl, rfl, rfl, rfl, rfl, rfl, trivial⟩ ?_
              refine PW.ite (b := false) rfl ?_
              rw [if_neg Bool.false_ne_true]
              refine PW.seqOps ?_
              refine OL.det trivial (Yields.pure rfl) ?_
              refine OL.det trivial (Yields.pure rfl) ?_
              refine OL.det trivial (Yields.build rfl) ?_
              apply OL.app1 (k := 0)
              · rfl
              · rfl
              · rfl
              · rfl
              · rfl
              · rfl
              · exact hsl
              · rfl
              · omega
              · unfold maxLen; omega
              intro v45 seg45 hsl45
              refine OL.det trivial (Yields.pure rfl) ?_
              refine OL.nil ?_
              refine PW.keep (T' := [(7, _), (8, _), (9, _), (10, _), (11, _), (12, _)]) ⟨rfl, rfl, rfl, rfl, rfl, rfl, trivial⟩ ?_
              refine PW.ops ?_
              refine OL.det trivial (Yields.pure rfl) ?_
              refine OL.det trivial (Yields.add64 rfl rfl (by omega) (by omega)) ?_
              refine OL.det trivial (Yields.pure rfl) ?_
              refine OL.nil ?_
              repeat rw [inBlk_n]
              rw [thenK_n]
              refine LoopEnd.mk (T'' := [(7, _), (8, _), (9, _), (10, _), (11, _), (12, _)]) ⟨rfl, rfl, rfl, rfl, rfl, rfl, trivial⟩ ?_
              refine ⟨(X.length - (i)) + (Y.length - (j + 1)), by omega, i, j + 1, o ++ [(2, 0, (j : Int))], v45, seg45, ⟨by omega, by omega, rfl, ?_, by simp; omega, ?_⟩, rfl, rfl⟩
              · rw [← hrest, rest_new (i := i) (j := j) (by omega) (by omega) (fun h => by first | omega | exact ⟨by omega, by omega⟩), List.append_assoc]; rfl
              · rw [stsC_append, List.length_append]; exact hsl45
        · try simp only [decide_eq_true_eq, decide_eq_false_iff_not, beq_iff_eq, bne_iff_ne, beq_eq_false_iff_ne, bne_eq_false_iff_eq, Bool.not_eq_true', Bool.not_eq_false', Bool.not_eq_true, ne_eq, Decidable.not_not] at c40
          refine PW.exit ?_
          refine hK2 _ _ ?_
          refine PW.keep (T' := [(10, _)]) ⟨rfl, trivial⟩ ?_
          refine PW.seqOps ?_
          refine OL.det trivial (Yields.pure rfl) ?_
          refine OL.det trivial (Yields.pure rfl) ?_
          refine OL.det trivial (Yields.pure rfl) ?_
          refine OL.nil ?_
          refine PW.keep (T' := [(4, _), (5, _)]) ⟨rfl, rfl, trivial⟩ ?_
          refine PW.ret ?_
          change (Exit.ret = Exit.normal ∨ Exit.ret = Exit.ret) ∧ ∃ v, resV _ _ = some v ∧ _
          have e1 := rest_end (X := X) (Y := Y) (show i = X.length by omega) (show j = Y.length by omega)
          rw [e1, List.append_nil] at hrest
          refine ⟨.inr rfl, _, rfl, seg :: S, ?_, v, seg, rfl, rfl, by rw [← hscr, ← hrest]; exact hsl⟩
          exact Sub.cons (Sub.drop (Sub.drop (Sub.drop (Sub.drop (Sub.refl S)))))

end Go.Proofs
