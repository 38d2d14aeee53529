/- Walks and plain facts for the laws of this seat: what each function answers, for every input. -/
import Derived.Test.YtefefmogjmimdaaSl8
import Derived.Test.YtefefmogjmimdaaMyW3
import Derived.Test.YtefefmogjmimdaaSl8
set_option linter.unusedVariables false
set_option linter.unusedSimpArgs false
namespace Go.Proofs
open Go.SL Go.RowKit

open Go.MyPlain
set_option maxHeartbeats 1000000
/-- of row i the cells from jj on are told -/
def RowOK (X Y : List Nat) (i jj : Nat) (c : List Value) : Prop := c.length = Y.length + 1 ∧ ∀ b, jj ≤ b → b ≤ Y.length → c[b]? = some (.int .i64 (lcs (X.drop i) (Y.drop b) : Int))
theorem RowOK.zero (X Y : List Nat) (i : Nat) : RowOK X Y i Y.length (List.replicate (Y.length + 1) (.int .i64 0)) := by
  refine ⟨by simp, fun b h1 h2 => ?_⟩
  obtain rfl : b = Y.length := by omega
  rw [List.drop_length, lcs_nil_right]
  simp
theorem RowOK.last (X Y : List Nat) : RowOK X Y X.length 0 (List.replicate (Y.length + 1) (.int .i64 0)) := by
  refine ⟨by simp, fun b h1 h2 => ?_⟩
  rw [List.drop_length, lcs_nil_left]
  have : b < Y.length + 1 := by omega
  simp [this]
theorem RowOK.put {X Y : List Nat} {i j : Nat} {c : List Value} (h : RowOK X Y i (j + 1) c) (hj : j < Y.length) (v : Value) : RowOK X Y i (j + 1) (setAt c j [v]) := by
  refine ⟨by rw [setAt_length]; exact h.1, fun b h1 h2 => ?_⟩
  rw [setAt_get c j v (by rw [h.1]; omega), if_neg (by omega)]
  exact h.2 b h1 h2
theorem RowOK.done {X Y : List Nat} {i j : Nat} {c : List Value} (h : RowOK X Y i (j + 1) c) (hj : j < Y.length) {v : Int} (hv : v = lcs (X.drop i) (Y.drop j)) : RowOK X Y i j (setAt c j [.int .i64 v]) := by
  refine ⟨by rw [setAt_length]; exact h.1, fun b h1 h2 => ?_⟩
  rw [setAt_get c j _ (by rw [h.1]; omega)]
  split
  · rename_i e; subst e; rw [hv]
  · exact h.2 b (by omega) h2
theorem lcs_drop {X Y : List Nat} {i j : Nat} (hi : i < X.length) (hj : j < Y.length) : lcs (X.drop i) (Y.drop j) = if X[i] = Y[j] then lcs (X.drop (i + 1)) (Y.drop (j + 1)) + 1 else max (lcs (X.drop (i + 1)) (Y.drop j)) (lcs (X.drop i) (Y.drop (j + 1))) := by
  have e1 : X.drop i = X[i] :: X.drop (i + 1) := List.drop_eq_getElem_cons hi
  have e2 : Y.drop j = Y[j] :: Y.drop (j + 1) := List.drop_eq_getElem_cons hj
  rw [e1, e2, lcs_cons]
theorem RowOK.two {X Y : List Nat} {i j : Nat} {c : List Value} (h : RowOK X Y i (j + 1) c) (hi : i < X.length) (hj : j < Y.length) (he : (X[i] : Int) = (Y[j] : Int)) (v : Value) : RowOK X Y i j (setAt (setAt c j [v]) j [.int .i64 ((lcs (X.drop (i + 1)) (Y.drop (j + 1)) : Int) + 1)]) :=
  (h.put hj v).done hj (by rw [lcs_drop hi hj, if_pos (by omega)]; omega)
theorem RowOK.one {X Y : List Nat} {i j : Nat} {c : List Value} (h : RowOK X Y i (j + 1) c) (hi : i < X.length) (hj : j < Y.length) (he : ¬ (X[i] : Int) = (Y[j] : Int)) :
    RowOK X Y i j (setAt c j [.int .i64 (if true = true then if (lcs (X.drop i) (Y.drop (j + 1)) : Int) > (lcs (X.drop (i + 1)) (Y.drop j) : Int) then (lcs (X.drop i) (Y.drop (j + 1)) : Int) else (lcs (X.drop (i + 1)) (Y.drop j) : Int) else if (lcs (X.drop i) (Y.drop (j + 1)) : Int) < (lcs (X.drop (i + 1)) (Y.drop j) : Int) then (lcs (X.drop i) (Y.drop (j + 1)) : Int) else (lcs (X.drop (i + 1)) (Y.drop j) : Int))]) :=
  h.done hj (by rw [if_pos rfl, lcs_drop hi hj, if_neg (show ¬ X[i] = Y[j] by omega)]; split <;> omega)
def rowsSeg (m : Nat) (rs : List (Nat × List Value)) : Seg := rs.map fun p => (p.1, .cells p.2 3 ((m + 1) * 1))
def rowsC (m : Nat) (rs : List (Nat × List Value)) : List Value := rs.map fun p => .slice (some ⟨p.1, 0, none⟩) (m + 1) (m + 1)
def outerC (m ii : Nat) (rs : List (Nat × List Value)) : List Value := List.replicate ii (.slice none 0 0) ++ rowsC m rs
theorem int_at {w0 : World} {S : SS} {a : Addr} {xs : List Nat} (h : Rd w0 S (some a) (intC xs)) {k : Nat} (hk : k < xs.length) : Cell w0 S (a.add k) (.int .i64 (xs[k] : Int)) := h.at (by simp [intC, hk])
theorem intC_ne {xs : List Nat} (h : 0 < xs.length) : intC xs ≠ [] := by intro e; simp [intC] at e; subst e; simp at h
theorem outer_set {m i : Nat} {rs : List (Nat × List Value)} {r : Nat} {c : List Value} : setAt (outerC m (i + 1) rs) i [.slice (some ⟨r, 0, none⟩) (m + 1) (m + 1)] = outerC m i ((r, c) :: rs) := by
  unfold outerC
  rw [setAt_eq _ _ _ (by simp)]
  simp [rowsC, List.replicate_succ', List.take_append, List.drop_append]
theorem table_fc {w0 : World} {S : SS} {A B : Option Addr} {ca cb : Nat} {X Y : List Nat} (hx : Rd w0 S A (intC X)) (hy : Rd w0 S B (intC Y)) (hX : X.length ≤ 100000) (hY : Y.length ≤ 100000) :
    FC Try.prog w0 20 [.slice A X.length ca, .slice B Y.length cb] S (fun v S' => ∃ ro rs, v = .slice (some ⟨ro, 0, none⟩) (X.length + 1) (X.length + 1) ∧ S' = rowsSeg Y.length rs :: [(ro, .cells (rowsC Y.length rs) 46 ((X.length + 1) * 1))] :: S ∧ rs.length = X.length + 1 ∧ ∀ t (h : t < rs.length), RowOK X Y t 0 rs[t].2) := by
  refine FC.of Try.known20 (by simp) ?_
  unfold Try.pc20
  simp only [argT]
  refine PW.seqOps ?_
  refine OL.det trivial (Yields.pure rfl) ?_
  refine OL.nil ?_
  refine PW.keep (T' := [(0, _), (1, _)]) ⟨rfl, rfl, trivial⟩ ?_
  refine PW.seqOps ?_
  refine OL.det trivial (Yields.pure rfl) ?_
  refine OL.det trivial (Yields.pure rfl) ?_
  refine OL.det trivial (Yields.add64 rfl rfl (by omega) (by omega)) ?_
  refine OL.cons trivial (OW.mkS_full (m := X.length + 1) rfl rfl (by omega) (by unfold maxLen; omega)) ?_
  rintro _ _ ⟨r12, rfl, rfl⟩
  rw [made1 _ rfl]
  refine OL.det trivial (Yields.pure rfl) ?_
  refine OL.nil ?_
  refine PW.keep (T' := [(0, _), (1, _), (5, _)]) ⟨rfl, rfl, rfl, trivial⟩ ?_
  refine PW.seqOps ?_
  refine OL.det trivial (Yields.pure rfl) ?_
  refine OL.det trivial (Yields.pure rfl) ?_
  refine OL.det trivial (Yields.pure rfl) ?_
  refine OL.det trivial (Yields.pure rfl) ?_
  refine OL.det trivial (Yields.pure rfl) ?_
  refine OL.det trivial (Yields.add64 rfl rfl (by omega) (by omega)) ?_
  refine OL.cons trivial (OW.mkS_full (m := Y.length + 1) rfl rfl (by omega) (by unfold maxLen; omega)) ?_
  rintro _ _ ⟨r19, rfl, rfl⟩
  rw [made1 _ rfl]
  refine OL.det trivial (Yields.ixO1 rfl rfl rfl (by omega)) ?_
  refine OL.cons trivial (OW.st (k := 1) rfl rfl rfl rfl (by first | decide | (simp; done) | (simp; omega)) (by first | rfl | simp)) ?_
  rintro _ _ rfl
  refine OL.nil ?_
  refine PW.keep (T' := [(0, _), (1, _), (5, _)]) ⟨rfl, rfl, rfl, trivial⟩ ?_
  refine PW.seq fun K1 hK1 => ?_
  refine PW.seqOps ?_
  refine OL.det trivial (Yields.pure rfl) ?_
  refine OL.det trivial (Yields.pure rfl) ?_
  refine OL.det trivial (Yields.sub64 rfl rfl (by omega) (by omega)) ?_
  refine OL.det trivial (Yields.pure rfl) ?_
  refine OL.nil ?_
  refine PW.keep (T' := [(0, _), (1, _), (5, _), (6, _)]) ⟨rfl, rfl, rfl, rfl, trivial⟩ ?_
  refine PW.block ?_
  refine PW.keep (T' := [(0, _), (1, _), (5, _), (6, _)]) ⟨rfl, rfl, rfl, rfl, trivial⟩ ?_
  refine PW.loopK (I := fun m T S' => ∃ (ii : Nat) (rs : List (Nat × List Value)), (ii ≤ X.length ∧ m = ii ∧ rs.length + ii = X.length + 1 ∧ ∀ t (h : t < rs.length), RowOK X Y (ii + t) 0 rs[t].2) ∧ T = ([(0, .slice A X.length ca), (1, .slice B Y.length cb), (5, .slice (some ⟨r12, 0, none⟩) (X.length + 1) (X.length + 1)), (6, .int .i64 ((ii : Int) - 1))] : TT) ∧ S' = rowsSeg Y.length rs :: [(r12, .cells (outerC Y.length ii rs) 46 ((X.length + 1) * 1))] :: S) (m := X.length) ⟨X.length, [(r19, List.replicate (Y.length + 1) (.int .i64 0))], ⟨by omega, rfl, by simp; omega, fun t h => by
      simp at h; subst h; exact RowOK.last X Y⟩, rfl, by
      have e : List.replicate (X.length + 1) (Value.slice none 0 0) = outerC Y.length (X.length + 1) [] := by simp [outerC, rowsC]
      rw [e]; simp only [List.set_cons_succ, List.set_cons_zero, Value.cells, Array.toList]; rw [outer_set (c := List.replicate (Y.length + 1) (.int .i64 0))]; rfl⟩ ?_
  rintro m _ _ ⟨ii, rs, ⟨hii, hm, hlen, hrows⟩, rfl, rfl⟩
  refine PW.seq fun K2 hK2 => ?_
  refine PW.seqOps ?_
  refine OL.det trivial (Yields.pure rfl) ?_
  refine OL.det trivial (Yields.pure rfl) ?_
  refine OL.nil ?_
  refine PW.keep (T' := [(0, _), (1, _), (5, _), (6, _), (25, _)]) ⟨rfl, rfl, rfl, rfl, rfl, trivial⟩ ?_
  refine PW.cond rfl (fun c25 => ?_) (fun c25 => ?_)
  · try simp only [decide_eq_true_eq, decide_eq_false_iff_not, beq_iff_eq, bne_iff_ne, beq_eq_false_iff_ne, bne_eq_false_iff_eq, Bool.not_eq_true', Bool.not_eq_false', Bool.not_eq_true, ne_eq, Decidable.not_not] at c25
    obtain ⟨i, rfl⟩ : ∃ i, ii = i + 1 := ⟨ii - 1, by omega⟩
    have ei : ((i + 1 : Nat) : Int) - 1 = i := by omega
    rw [ei]
    have hrs0 : 0 < rs.length := by omega
    obtain ⟨r0, c0, rs', hrs⟩ : ∃ r0 c0 rs', rs = (r0, c0) :: rs' := by
      cases rs with
      | nil => simp at hrs0
      | cons p rs' => exact ⟨p.1, p.2, rs', rfl⟩
    have hrow0 : RowOK X Y (i + 1) 0 c0 := by have := hrows 0 hrs0; simpa [hrs] using this
    have hout : (outerC Y.length (i + 1) rs)[i + 1]? = some (.slice (some ⟨r0, 0, none⟩) (Y.length + 1) (Y.length + 1)) := by simp [outerC, rowsC, hrs]
    refine PW.skip ?_
    refine hK2 _ _ ?_
    refine PW.keep (T' := [(0, _), (1, _), (5, _), (6, _)]) ⟨rfl, rfl, rfl, rfl, trivial⟩ ?_
    refine PW.seq fun K3 hK3 => ?_
    refine PW.block ?_
    refine PW.seqOps ?_
    refine OL.det trivial (Yields.pure rfl) ?_
    refine OL.det trivial (Yields.pure rfl) ?_
    refine OL.det trivial (Yields.add64 rfl rfl (by omega) (by omega)) ?_
    refine OL.cons trivial (OW.mkS_full (m := Y.length + 1) rfl rfl (by omega) (by unfold maxLen; omega)) ?_
    rintro _ _ ⟨r31, rfl, rfl⟩
    rw [made1 _ rfl]
    refine OL.det trivial (Yields.pure rfl) ?_
    refine OL.nil ?_
    refine PW.keep (T' := [(0, _), (1, _), (5, _), (6, _), (7, _)]) ⟨rfl, rfl, rfl, rfl, rfl, trivial⟩ ?_
    refine PW.seq fun K4 hK4 => ?_
    refine PW.seqOps ?_
    refine OL.det trivial (Yields.pure rfl) ?_
    refine OL.det trivial (Yields.pure rfl) ?_
    refine OL.det trivial (Yields.sub64 rfl rfl (by omega) (by omega)) ?_
    refine OL.det trivial (Yields.pure rfl) ?_
    refine OL.nil ?_
    refine PW.keep (T' := [(0, _), (1, _), (5, _), (6, _), (7, _), (8, _)]) ⟨rfl, rfl, rfl, rfl, rfl, rfl, trivial⟩ ?_
    refine PW.block ?_
    refine PW.keep (T' := [(0, _), (1, _), (5, _), (6, _), (7, _), (8, _)]) ⟨rfl, rfl, rfl, rfl, rfl, rfl, trivial⟩ ?_
    refine PW.loopK (I := fun m T S' => ∃ (jj : Nat) (c : List Value), (jj ≤ Y.length ∧ m = jj ∧ RowOK X Y i jj c) ∧ T = ([(0, .slice A X.length ca), (1, .slice B Y.length cb), (5, .slice (some ⟨r12, 0, none⟩) (X.length + 1) (X.length + 1)), (6, .int .i64 (i : Int)), (7, .slice (some ⟨r31, 0, none⟩) (Y.length + 1) (Y.length + 1)), (8, .int .i64 ((jj : Int) - 1))] : TT) ∧ S' = [(r31, .cells c 3 ((Y.length + 1) * 1))] :: rowsSeg Y.length rs :: [(r12, .cells (outerC Y.length (i + 1) rs) 46 ((X.length + 1) * 1))] :: S) (m := Y.length) ⟨Y.length, _, ⟨by omega, rfl, RowOK.zero X Y i⟩, rfl, rfl⟩ ?_
    rintro m _ _ ⟨jj, c, ⟨hjj, hmj, hrow⟩, rfl, rfl⟩
    refine PW.seq fun K5 hK5 => ?_
    refine PW.seqOps ?_
    refine OL.det trivial (Yields.pure rfl) ?_
    refine OL.det trivial (Yields.pure rfl) ?_
    refine OL.nil ?_
    refine PW.keep (T' := [(0, _), (1, _), (5, _), (6, _), (7, _), (8, _), (36, _)]) ⟨rfl, rfl, rfl, rfl, rfl, rfl, rfl, trivial⟩ ?_
    refine PW.cond rfl (fun c36 => ?_) (fun c36 => ?_)
    · try simp only [decide_eq_true_eq, decide_eq_false_iff_not, beq_iff_eq, bne_iff_ne, beq_eq_false_iff_ne, bne_eq_false_iff_eq, Bool.not_eq_true', Bool.not_eq_false', Bool.not_eq_true, ne_eq, Decidable.not_not] at c36
      obtain ⟨j, rfl⟩ : ∃ j, jj = j + 1 := ⟨jj - 1, by omega⟩
      have ej : ((j + 1 : Nat) : Int) - 1 = j := by omega
      rw [ej]
      obtain ⟨aX, rfl⟩ := hx.some (intC_ne (by omega))
      obtain ⟨aY, rfl⟩ := hy.some (intC_ne (by omega))
      refine PW.skip ?_
      refine hK5 _ _ ?_
      refine PW.keep (T' := [(0, _), (1, _), (5, _), (6, _), (7, _), (8, _)]) ⟨rfl, rfl, rfl, rfl, rfl, rfl, trivial⟩ ?_
      refine PW.seq fun K6 hK6 => ?_
      refine PW.block ?_
      refine PW.seq fun K7 hK7 => ?_
      refine PW.quietK Try.mixed ?_
      refine QK.det trivial (Yields.pure rfl) ?_
      refine QK.det trivial (Yields.pure rfl) ?_
      refine QK.det trivial (Yields.pure rfl) ?_
      refine QK.det trivial (Yields.pure rfl) ?_
      refine QK.det trivial (Yields.add64 rfl rfl (by omega) (by omega)) ?_
      refine QK.det trivial (Yields.ixO1 rfl rfl (show _ = ((i + 1 : Nat) : Int) from rfl) (by omega)) ?_
      refine QK.det trivial (Yields.ld rfl (own_at (E := 46) (tot := (X.length + 1) * 1) (by simp) hout)) ?_
      refine QK.det trivial (Yields.pure rfl) ?_
      refine QK.det trivial (Yields.ixO1 rfl rfl rfl (by omega)) ?_
      refine QK.det trivial (Yields.ld rfl (own_at (E := 3) (tot := (Y.length + 1) * 1) (by simp [rowsSeg, hrs]) (hrow0.2 j (by omega) (by omega)))) ?_
      refine QK.det trivial (Yields.pure rfl) ?_
      refine QK.det trivial (Yields.pure rfl) ?_
      refine QK.det trivial (Yields.add64 rfl rfl (by omega) (by omega)) ?_
      refine QK.det trivial (Yields.ixO1 rfl rfl (show _ = ((j + 1 : Nat) : Int) from rfl) (by omega)) ?_
      refine QK.det trivial (Yields.ld rfl (own_at (E := 3) (tot := (Y.length + 1) * 1) (by simp) (hrow.2 (j + 1) (by omega) (by omega)))) ?_
      refine QK.nil ?_
      change OL _ _ _ [_, _, _] _ _ _
      refine OL.det trivial (Yields.pure rfl) ?_
      refine OL.det trivial (Yields.ixO1 rfl rfl rfl (by omega)) ?_
      refine OL.cons trivial (OW.st (k := 0) rfl rfl rfl rfl (by have := hrow.1; omega) rfl) ?_
      rintro _ _ rfl
      refine OL.nil ?_
      refine hK7 _ _ ?_
      refine PW.keep (T' := [(0, _), (1, _), (5, _), (6, _), (7, _), (8, _)]) ⟨rfl, rfl, rfl, rfl, rfl, rfl, trivial⟩ ?_
      refine PW.seq fun K8 hK8 => ?_
      refine PW.quietK Try.mixed ?_
      refine QK.det trivial (Yields.pure rfl) ?_
      refine QK.det trivial (Yields.pure rfl) ?_
      refine QK.det trivial (Yields.ixN1 rfl rfl rfl (by omega)) ?_
      refine QK.det trivial (Yields.ld rfl (int_at hx.cons.cons.cons (by omega))) ?_
      refine QK.det trivial (Yields.pure rfl) ?_
      refine QK.det trivial (Yields.pure rfl) ?_
      refine QK.det trivial (Yields.ixN1 rfl rfl rfl (by omega)) ?_
      refine QK.det trivial (Yields.ld rfl (int_at hy.cons.cons.cons (by omega))) ?_
      refine QK.nil ?_
      change OL _ _ _ [_] _ _ _
      refine OL.det trivial (Yields.pure rfl) ?_
      refine OL.nil ?_
      refine hK8 _ _ ?_
      refine PW.keep (T' := [(0, _), (1, _), (5, _), (6, _), (7, _), (8, _), (64, _)]) ⟨rfl, rfl, rfl, rfl, rfl, rfl, rfl, trivial⟩ ?_
      refine PW.cond rfl (fun c64 => ?_) (fun c64 => ?_)
      · try simp only [decide_eq_true_eq, decide_eq_false_iff_not, beq_iff_eq, bne_iff_ne, beq_eq_false_iff_ne, bne_eq_false_iff_eq, Bool.not_eq_true', Bool.not_eq_false', Bool.not_eq_true, ne_eq, Decidable.not_not] at c64
        refine PW.ops ?_
        refine OL.det trivial (Yields.pure rfl) ?_
        refine OL.det trivial (Yields.pure rfl) ?_
        refine OL.det trivial (Yields.pure rfl) ?_
        refine OL.det trivial (Yields.pure rfl) ?_
        refine OL.det trivial (Yields.add64 rfl rfl (by omega) (by omega)) ?_
        refine OL.det trivial (Yields.ixO1 rfl rfl (show _ = ((i + 1 : Nat) : Int) from rfl) (by omega)) ?_
        refine OL.det trivial (Yields.ld rfl (own_at (E := 46) (tot := (X.length + 1) * 1) (by simp) hout)) ?_
        refine OL.det trivial (Yields.pure rfl) ?_
        refine OL.det trivial (Yields.add64 rfl rfl (by omega) (by omega)) ?_
        refine OL.det trivial (Yields.ixO1 rfl rfl (show _ = ((j + 1 : Nat) : Int) from rfl) (by omega)) ?_
        refine OL.det trivial (Yields.ld rfl (own_at (E := 3) (tot := (Y.length + 1) * 1) (by simp [rowsSeg, hrs]) (hrow0.2 (j + 1) (by omega) (by omega)))) ?_
        refine OL.det trivial (Yields.add64 rfl rfl (by omega) (by have := lcs_le (X.drop (i + 1)) (Y.drop (j + 1)); simp only [List.length_drop] at this; omega)) ?_
        refine OL.det trivial (Yields.ixO1 rfl rfl rfl (by omega)) ?_
        refine OL.cons trivial (OW.st (k := 0) rfl rfl rfl rfl (by rw [setAt_length]; have := hrow.1; omega) rfl) ?_
        rintro _ _ rfl
        refine OL.nil ?_
        refine hK6 _ _ ?_
        refine PW.keep (T' := [(0, _), (1, _), (5, _), (6, _), (7, _), (8, _)]) ⟨rfl, rfl, rfl, rfl, rfl, rfl, trivial⟩ ?_
        refine PW.ops ?_
        refine OL.det trivial (Yields.pure rfl) ?_
        refine OL.det trivial (Yields.sub64 rfl rfl (by omega) (by omega)) ?_
        refine OL.det trivial (Yields.pure rfl) ?_
        refine OL.nil ?_
        repeat rw [inBlk_n]
        rw [thenK_n]
        refine LoopEnd.mk (T'' := [(0, _), (1, _), (5, _), (6, _), (7, _), (8, _)]) ⟨rfl, rfl, rfl, rfl, rfl, rfl, trivial⟩ ?_
        refine ⟨j, by omega, j, _, ⟨by omega, rfl, ?_⟩, rfl, rfl⟩
        first
          | exact hrow.two (by omega) (by omega) c64 _
          | exact hrow.one (by omega) (by omega) c64
      · try simp only [decide_eq_true_eq, decide_eq_false_iff_not, beq_iff_eq, bne_iff_ne, beq_eq_false_iff_ne, bne_eq_false_iff_eq, Bool.not_eq_true', Bool.not_eq_false', Bool.not_eq_true, ne_eq, Decidable.not_not] at c64
        refine PW.skip ?_
        refine hK6 _ _ ?_
        refine PW.keep (T' := [(0, _), (1, _), (5, _), (6, _), (7, _), (8, _)]) ⟨rfl, rfl, rfl, rfl, rfl, rfl, trivial⟩ ?_
        refine PW.ops ?_
        refine OL.det trivial (Yields.pure rfl) ?_
        refine OL.det trivial (Yields.sub64 rfl rfl (by omega) (by omega)) ?_
        refine OL.det trivial (Yields.pure rfl) ?_
        refine OL.nil ?_
        repeat rw [inBlk_n]
        rw [thenK_n]
        refine LoopEnd.mk (T'' := [(0, _), (1, _), (5, _), (6, _), (7, _), (8, _)]) ⟨rfl, rfl, rfl, rfl, rfl, rfl, trivial⟩ ?_
        refine ⟨j, by omega, j, _, ⟨by omega, rfl, ?_⟩, rfl, rfl⟩
        first
          | exact hrow.two (by omega) (by omega) c64 _
          | exact hrow.one (by omega) (by omega) c64
    · try simp only [decide_eq_true_eq, decide_eq_false_iff_not, beq_iff_eq, bne_iff_ne, beq_eq_false_iff_ne, bne_eq_false_iff_eq, Bool.not_eq_true', Bool.not_eq_false', Bool.not_eq_true, ne_eq, Decidable.not_not] at c36
      refine PW.exit ?_
      refine hK4 _ _ ?_
      refine PW.keep (T' := [(0, _), (1, _), (5, _), (6, _), (7, _)]) ⟨rfl, rfl, rfl, rfl, rfl, trivial⟩ ?_
      refine PW.ops ?_
      refine OL.det trivial (Yields.pure rfl) ?_
      refine OL.det trivial (Yields.pure rfl) ?_
      refine OL.det trivial (Yields.pure rfl) ?_
      refine OL.det trivial (Yields.ixO1 rfl rfl rfl (by omega)) ?_
      refine OL.cons trivial (OW.st (k := 2) rfl rfl rfl rfl (by simp [outerC, rowsC]) rfl) ?_
      rintro _ _ rfl
      refine OL.nil ?_
      refine hK3 _ _ ?_
      refine PW.keep (T' := [(0, _), (1, _), (5, _), (6, _)]) ⟨rfl, rfl, rfl, rfl, trivial⟩ ?_
      refine PW.ops ?_
      refine OL.det trivial (Yields.pure rfl) ?_
      refine OL.det trivial (Yields.sub64 rfl rfl (by omega) (by omega)) ?_
      refine OL.det trivial (Yields.pure rfl) ?_
      refine OL.nil ?_
      repeat rw [inBlk_n]
      rw [thenK_n]
      refine LoopEnd.mkS (Sub.join) (T'' := [(0, _), (1, _), (5, _), (6, _)]) ⟨rfl, rfl, rfl, rfl, trivial⟩ ?_
      obtain rfl : jj = 0 := by omega
      refine ⟨i, by omega, i, (r31, c) :: rs, ⟨by omega, rfl, by simp; omega, fun t h => ?_⟩, rfl, ?_⟩
      · cases t with
        | zero => simpa using hrow
        | succ t => have := hrows t (by simpa using h); simpa [Nat.add_assoc, Nat.add_comm, Nat.add_left_comm] using this
      · simp only [List.set_cons_succ, List.set_cons_zero, Value.cells, Array.toList]
        rw [outer_set (c := c)]
        rfl
  · try simp only [decide_eq_true_eq, decide_eq_false_iff_not, beq_iff_eq, bne_iff_ne, beq_eq_false_iff_ne, bne_eq_false_iff_eq, Bool.not_eq_true', Bool.not_eq_false', Bool.not_eq_true, ne_eq, Decidable.not_not] at c25
    refine PW.exit ?_
    refine hK1 _ _ ?_
    refine PW.keep (T' := [(5, _)]) ⟨rfl, trivial⟩ ?_
    refine PW.seqOps ?_
    refine OL.det trivial (Yields.pure rfl) ?_
    refine OL.det trivial (Yields.pure rfl) ?_
    refine OL.nil ?_
    refine PW.keep (T' := [(4, _)]) ⟨rfl, trivial⟩ ?_
    refine PW.ret ?_
    change (Exit.ret = Exit.normal ∨ Exit.ret = Exit.ret) ∧ ∃ v, resV _ _ = some v ∧ _
    obtain rfl : ii = 0 := by omega
    refine ⟨.inr rfl, _, rfl, r12, rs, rfl, by simp [outerC], by omega, fun t h => by simpa using hrows t h⟩

end Go.Proofs
