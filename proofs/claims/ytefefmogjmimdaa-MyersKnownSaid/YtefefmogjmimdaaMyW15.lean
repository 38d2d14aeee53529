/- Walks and plain facts for the laws of this seat: what each function answers, for every input. -/
import Derived.Test.YtefefmogjmimdaaSl8
import Derived.Test.YtefefmogjmimdaaMyW14
set_option linter.unusedVariables false
set_option linter.unusedSimpArgs false
namespace Go.Proofs
open Go.SL Go.RowKit

open Go.MyPlain
set_option maxHeartbeats 1000000
section
variable {α : Type} [DecidableEq α]
theorem lcs_sub (X Y : List α) : ∃ z : List α, List.Sublist z X ∧ List.Sublist z Y ∧ z.length = lcs X Y := by
  have main : ∀ n (X Y : List α), X.length + Y.length = n → ∃ z : List α, List.Sublist z X ∧ List.Sublist z Y ∧ z.length = lcs X Y := by
    intro n
    induction n using Nat.strongRecOn with
    | _ n ih =>
      intro X Y hn
      cases X with
      | nil => exact ⟨[], List.Sublist.refl _, List.nil_sublist _, by rw [lcs_nil_left]; rfl⟩
      | cons x xs => cases Y with
        | nil => exact ⟨[], List.nil_sublist _, List.Sublist.refl _, by rw [lcs_nil_right]; rfl⟩
        | cons y ys =>
          rw [lcs_cons]
          split
          · rename_i e
            subst e
            obtain ⟨z, h1, h2, h3⟩ := ih _ (by simp at hn; omega) xs ys rfl
            exact ⟨x :: z, h1.cons_cons x, h2.cons_cons x, by simp [h3]⟩
          · by_cases hm : lcs xs (y :: ys) ≤ lcs (x :: xs) ys
            · obtain ⟨z, h1, h2, h3⟩ := ih _ (by simp at hn ⊢; omega) (x :: xs) ys rfl
              exact ⟨z, h1, h2.cons y, by omega⟩
            · obtain ⟨z, h1, h2, h3⟩ := ih _ (by simp at hn ⊢; omega) xs (y :: ys) rfl
              exact ⟨z, h1.cons x, h2, by omega⟩
  exact main _ X Y rfl
theorem lcs_max (X Y z : List α) (h1 : List.Sublist z X) (h2 : List.Sublist z Y) : z.length ≤ lcs X Y := by
  have main : ∀ n (X Y z : List α), X.length + Y.length = n → List.Sublist z X → List.Sublist z Y → z.length ≤ lcs X Y := by
    intro n
    induction n using Nat.strongRecOn with
    | _ n ih =>
      intro X Y z hn h1 h2
      cases X with
      | nil => cases h1; simp
      | cons x xs => cases Y with
        | nil => cases h2; simp
        | cons y ys =>
          rw [lcs_cons]
          split
          · have := ih _ (by simp at hn; omega) xs ys z.tail rfl (by simpa using h1.tail) (by simpa using h2.tail)
            have hz : z.length ≤ z.tail.length + 1 := by cases z <;> simp
            omega
          · rename_i e
            cases h1 with
            | cons _ h1 =>
              have := ih _ (by simp at hn ⊢; omega) xs (y :: ys) z rfl h1 h2
              omega
            | cons_cons _ h1 =>
              rename_i z'
              cases h2 with
              | cons _ h2 =>
                have := ih _ (by simp at hn ⊢; omega) (x :: xs) ys (x :: z') rfl (h1.cons_cons x) h2
                omega
              | cons_cons _ h2 => exact absurd rfl e
  exact main _ X Y z rfl h1 h2
theorem lcs_symm (X Y : List α) : lcs X Y = lcs Y X := by
  obtain ⟨z, h1, h2, h3⟩ := lcs_sub X Y
  obtain ⟨z', g1, g2, g3⟩ := lcs_sub Y X
  have a := lcs_max Y X z h2 h1
  have b := lcs_max X Y z' g2 g1
  omega
theorem lcs_rev (X Y : List α) : lcs X.reverse Y.reverse = lcs X Y := by
  obtain ⟨z, h1, h2, h3⟩ := lcs_sub X Y
  obtain ⟨z', g1, g2, g3⟩ := lcs_sub X.reverse Y.reverse
  have a := lcs_max X.reverse Y.reverse z.reverse h1.reverse h2.reverse
  have b := lcs_max X Y z'.reverse (by simpa using g1.reverse) (by simpa using g2.reverse)
  simp at a b
  omega
theorem lcs_self (X : List α) : lcs X X = X.length := by
  have := lcs_max X X X (List.Sublist.refl _) (List.Sublist.refl _)
  have := lcs_le X X
  omega
/-- of the two lists' heads -/
def pre (X Y : List α) (i j : Nat) : Nat := lcs (X.take i).reverse (Y.take j).reverse
theorem pre_all (X Y : List α) : pre X Y X.length Y.length = lcs X Y := by simp [pre, lcs_rev]
theorem pre_le (X Y : List α) (i j : Nat) : pre X Y i j ≤ X.length := by
  have := lcs_le (X.take i).reverse (Y.take j).reverse
  simp at this
  unfold pre
  omega
theorem pre_ref {X Y : List α} {i j : Nat} (hi : i < X.length) (hj : j < Y.length) : pre X Y (i + 1) (j + 1) =
    (let m := if pre X Y (i + 1) j > pre X Y i (j + 1) then pre X Y (i + 1) j else pre X Y i (j + 1); if X[i] = Y[j] ∧ pre X Y i j + 1 > m then pre X Y i j + 1 else m) := by
  unfold pre
  have e1 : (X.take (i + 1)).reverse = X[i] :: (X.take i).reverse := by rw [List.take_add_one, List.getElem?_eq_getElem hi]; simp
  have e2 : (Y.take (j + 1)).reverse = Y[j] :: (Y.take j).reverse := by rw [List.take_add_one, List.getElem?_eq_getElem hj]; simp
  rw [e1, e2]
  exact lcs_ref ..
def POK (X Y : List α) (i jj : Nat) (c : List Value) : Prop := c.length = Y.length + 1 ∧ ∀ b, b ≤ jj → b ≤ Y.length → c[b]? = some (.int .i64 (pre X Y i b : Int))
theorem POK.first (X Y : List α) : POK X Y 0 Y.length (List.replicate (Y.length + 1) (.int .i64 0)) := by
  refine ⟨by simp, fun b h1 h2 => ?_⟩
  have : pre X Y 0 b = 0 := by unfold pre; rw [List.take_zero, List.reverse_nil, lcs_nil_left]
  rw [this]
  have : b < Y.length + 1 := by omega
  simp [this]
theorem POK.fresh (X Y : List α) (i : Nat) : POK X Y i 0 (List.replicate (Y.length + 1) (.int .i64 0)) := by
  refine ⟨by simp, fun b h1 h2 => ?_⟩
  obtain rfl : b = 0 := by omega
  have : pre X Y i 0 = 0 := by unfold pre; rw [List.take_zero, List.reverse_nil, lcs_nil_right]
  rw [this]
  simp
theorem POK.keep {X Y : List α} {i j : Nat} {c : List Value} (h : POK X Y i j c) (hj : j < Y.length) (v : Value) : POK X Y i j (setAt c (j + 1) [v]) := by
  refine ⟨by rw [setAt_length]; exact h.1, fun b h1 h2 => ?_⟩
  rw [setAt_get c _ v (by rw [h.1]; omega), if_neg (by omega)]
  exact h.2 b h1 h2
theorem POK.put {X Y : List α} {i j : Nat} {c : List Value} (h : POK X Y i j c) (hj : j < Y.length) {v : Int} (hv : v = pre X Y i (j + 1)) : POK X Y i (j + 1) (setAt c (j + 1) [.int .i64 v]) := by
  refine ⟨by rw [setAt_length]; exact h.1, fun b h1 h2 => ?_⟩
  rw [setAt_get c _ _ (by rw [h.1]; omega)]
  split
  · rename_i e; subst e; rw [hv]
  · exact h.2 b (by omega) h2
end
theorem common_fc {w0 : World} {S : SS} {A B : Option Addr} {ca cb : Nat} {xs ys : List ByteArray} (hx : Rd w0 S A (xs.map .string)) (hy : Rd w0 S B (ys.map .string)) (hX : xs.length ≤ 100000) (hY : ys.length ≤ 100000) :
    FC Try.prog w0 16 [.slice A xs.length ca, .slice B ys.length cb] S (fun v S' => v = .int .i64 (lcs xs ys : Int) ∧ S' = S) := by
  refine FC.ofD Try.known16 (by simp) ?_
  unfold Try.pc16
  simp only [argT]
  refine PW.seqOps ?_
  refine OL.det trivial (Yields.pure rfl) ?_
  refine OL.nil ?_
  refine PW.keep (T' := [(0, _), (1, _)]) ⟨rfl, rfl, trivial⟩ ?_
  refine PW.seqOps ?_
  refine OL.det trivial (Yields.pure rfl) ?_
  refine OL.det trivial (Yields.pure rfl) ?_
  refine OL.det trivial (Yields.add64 rfl rfl (by omega) (by omega)) ?_
  refine OL.cons trivial (OW.mkS_full (m := ys.length + 1) rfl rfl (by omega) (by unfold maxLen; omega)) ?_
  rintro _ _ ⟨r12, rfl, rfl⟩
  rw [made1 _ rfl]
  refine OL.det trivial (Yields.pure rfl) ?_
  refine OL.nil ?_
  refine PW.keep (T' := [(0, _), (1, _), (5, _)]) ⟨rfl, rfl, rfl, trivial⟩ ?_
  refine PW.seq fun K1 hK1 => ?_
  refine PW.seqOps ?_
  refine OL.det trivial (Yields.pure rfl) ?_
  refine OL.nil ?_
  refine PW.keep (T' := [(0, _), (1, _), (5, _), (6, _)]) ⟨rfl, rfl, rfl, rfl, trivial⟩ ?_
  refine PW.block ?_
  refine PW.keep (T' := [(0, _), (1, _), (5, _), (6, _)]) ⟨rfl, rfl, rfl, rfl, trivial⟩ ?_
  refine PW.loopK (I := fun m T S' => ∃ (i r : Nat) (c : List Value), (i ≤ xs.length ∧ m = xs.length - i ∧ POK xs ys i ys.length c) ∧ T = ([(0, .slice A xs.length ca), (1, .slice B ys.length cb), (5, .slice (some ⟨r, 0, none⟩) (ys.length + 1) (ys.length + 1)), (6, .int .i64 (i : Int))] : TT) ∧ S' = [(r, .cells c 3 ((ys.length + 1) * 1))] :: S) (m := xs.length) ⟨0, r12, _, ⟨by omega, by omega, POK.first xs ys⟩, rfl, rfl⟩ ?_
  rintro m _ _ ⟨i, r, c, ⟨hi, hm, hrow⟩, rfl, rfl⟩
  refine PW.seq fun K2 hK2 => ?_
  refine PW.seqOps ?_
  refine OL.det trivial (Yields.pure rfl) ?_
  refine OL.det trivial (Yields.pure rfl) ?_
  refine OL.det trivial (Yields.pure rfl) ?_
  refine OL.det trivial (Yields.pure rfl) ?_
  refine OL.nil ?_
  refine PW.keep (T' := [(0, _), (1, _), (5, _), (6, _), (16, _)]) ⟨rfl, rfl, rfl, rfl, rfl, trivial⟩ ?_
  refine PW.cond rfl (fun c16 => ?_) (fun c16 => ?_)
  · try simp only [decide_eq_true_eq, decide_eq_false_iff_not, beq_iff_eq, bne_iff_ne, beq_eq_false_iff_ne, bne_eq_false_iff_eq, Bool.not_eq_true', Bool.not_eq_false', Bool.not_eq_true, ne_eq, Decidable.not_not] at c16
    refine PW.skip ?_
    refine hK2 _ _ ?_
    refine PW.keep (T' := [(0, _), (1, _), (5, _), (6, _)]) ⟨rfl, rfl, rfl, rfl, trivial⟩ ?_
    refine PW.seq fun K3 hK3 => ?_
    refine PW.block ?_
    refine PW.seqOps ?_
    refine OL.det trivial (Yields.pure rfl) ?_
    refine OL.det trivial (Yields.pure rfl) ?_
    refine OL.det trivial (Yields.add64 rfl rfl (by omega) (by omega)) ?_
    refine OL.cons trivial (OW.mkS_full (m := ys.length + 1) rfl rfl (by omega) (by unfold maxLen; omega)) ?_
    rintro _ _ ⟨r22, rfl, rfl⟩
    rw [made1 _ rfl]
    refine OL.det trivial (Yields.pure rfl) ?_
    refine OL.nil ?_
    refine PW.keep (T' := [(0, _), (1, _), (5, _), (6, _), (7, _)]) ⟨rfl, rfl, rfl, rfl, rfl, trivial⟩ ?_
    refine PW.seq fun K4 hK4 => ?_
    refine PW.seqOps ?_
    refine OL.det trivial (Yields.pure rfl) ?_
    refine OL.nil ?_
    refine PW.keep (T' := [(0, _), (1, _), (5, _), (6, _), (7, _), (8, _)]) ⟨rfl, rfl, rfl, rfl, rfl, rfl, trivial⟩ ?_
    refine PW.block ?_
    refine PW.keep (T' := [(0, _), (1, _), (5, _), (6, _), (7, _), (8, _)]) ⟨rfl, rfl, rfl, rfl, rfl, rfl, trivial⟩ ?_
    refine PW.loopK (I := fun m T S' => ∃ (j : Nat) (d : List Value), (j ≤ ys.length ∧ m = ys.length - j ∧ POK xs ys (i + 1) j d) ∧ T = ([(0, .slice A xs.length ca), (1, .slice B ys.length cb), (5, .slice (some ⟨r, 0, none⟩) (ys.length + 1) (ys.length + 1)), (6, .int .i64 (i : Int)), (7, .slice (some ⟨r22, 0, none⟩) (ys.length + 1) (ys.length + 1)), (8, .int .i64 (j : Int))] : TT) ∧ S' = [(r22, .cells d 3 ((ys.length + 1) * 1))] :: [(r, .cells c 3 ((ys.length + 1) * 1))] :: S) (m := ys.length) ⟨0, _, ⟨by omega, by omega, POK.fresh xs ys (i + 1)⟩, rfl, rfl⟩ ?_
    rintro m _ _ ⟨j, d, ⟨hj, hmj, hnext⟩, rfl, rfl⟩
    refine PW.seq fun K5 hK5 => ?_
    refine PW.seqOps ?_
    refine OL.det trivial (Yields.pure rfl) ?_
    refine OL.det trivial (Yields.pure rfl) ?_
    refine OL.det trivial (Yields.pure rfl) ?_
    refine OL.det trivial (Yields.pure rfl) ?_
    refine OL.nil ?_
    refine PW.keep (T' := [(0, _), (1, _), (5, _), (6, _), (7, _), (8, _), (26, _)]) ⟨rfl, rfl, rfl, rfl, rfl, rfl, rfl, trivial⟩ ?_
    refine PW.cond rfl (fun c26 => ?_) (fun c26 => ?_)
    · try simp only [decide_eq_true_eq, decide_eq_false_iff_not, beq_iff_eq, bne_iff_ne, beq_eq_false_iff_ne, bne_eq_false_iff_eq, Bool.not_eq_true', Bool.not_eq_false', Bool.not_eq_true, ne_eq, Decidable.not_not] at c26
      obtain ⟨aX, rfl⟩ := hx.some (strs_ne (by omega))
      obtain ⟨aY, rfl⟩ := hy.some (strs_ne (by omega))
      have hple := pre_le xs ys i j
      refine PW.skip ?_
      refine hK5 _ _ ?_
      refine PW.keep (T' := [(0, _), (1, _), (5, _), (6, _), (7, _), (8, _)]) ⟨rfl, rfl, rfl, rfl, rfl, rfl, trivial⟩ ?_
      refine PW.seq fun K6 hK6 => ?_
      refine PW.block ?_
      refine PW.seq fun K7 hK7 => ?_
      refine PW.quietK Try.mixed ?_
      refine QK.det trivial (Yields.pure rfl) ?_
      refine QK.det trivial (Yields.pure rfl) ?_
      refine QK.det trivial (Yields.add64 rfl rfl (by omega) (by omega)) ?_
      refine QK.det trivial (Yields.pure rfl) ?_
      refine QK.det trivial (Yields.pure rfl) ?_
      refine QK.det trivial (Yields.add64 rfl rfl (by omega) (by omega)) ?_
      refine QK.det trivial (Yields.ixO1 rfl rfl (show _ = ((j + 1 : Nat) : Int) from rfl) (by omega)) ?_
      refine QK.det trivial (Yields.ld rfl (own_at (E := 3) (tot := (ys.length + 1) * 1) (by simp) (hrow.2 (j + 1) (by omega) (by omega)))) ?_
      refine QK.det trivial (Yields.pure rfl) ?_
      refine QK.det trivial (Yields.pure rfl) ?_
      refine QK.det trivial (Yields.ixO1 rfl rfl rfl (by omega)) ?_
      refine QK.det trivial (Yields.ld rfl (own_at (E := 3) (tot := (ys.length + 1) * 1) (by simp) (hnext.2 j (by omega) (by omega)))) ?_
      refine QK.det trivial (Yields.pure rfl) ?_
      refine QK.nil ?_
      change OL _ _ _ [_, _] _ _ _
      refine OL.det trivial (Yields.ixO1 rfl rfl (show _ = ((j + 1 : Nat) : Int) from rfl) (by omega)) ?_
      refine OL.cons trivial (OW.st (k := 0) rfl rfl rfl rfl (by have := hnext.1; omega) rfl) ?_
      rintro _ _ rfl
      refine OL.nil ?_
      refine hK7 _ _ ?_
      refine PW.keep (T' := [(0, _), (1, _), (5, _), (6, _), (7, _), (8, _)]) ⟨rfl, rfl, rfl, rfl, rfl, rfl, trivial⟩ ?_
      refine PW.seq fun K8 hK8 => ?_
      refine PW.quietK Try.mixed ?_
      refine QK.det trivial (Yields.pure rfl) ?_
      refine QK.det trivial (Yields.pure rfl) ?_
      refine QK.det trivial (Yields.ixN1 rfl rfl rfl (by omega)) ?_
      refine QK.det trivial (Yields.ld rfl (str_at hx.cons.cons (by omega))) ?_
      refine QK.det trivial (Yields.pure rfl) ?_
      refine QK.det trivial (Yields.pure rfl) ?_
      refine QK.det trivial (Yields.ixN1 rfl rfl rfl (by omega)) ?_
      refine QK.det trivial (Yields.ld rfl (str_at hy.cons.cons (by omega))) ?_
      refine QK.nil ?_
      change OL _ _ _ [_] _ _ _
      refine OL.det trivial (Yields.pure rfl) ?_
      refine OL.nil ?_
      refine hK8 _ _ ?_
      refine PW.keep (T' := [(0, _), (1, _), (5, _), (6, _), (7, _), (8, _), (51, _)]) ⟨rfl, rfl, rfl, rfl, rfl, rfl, rfl, trivial⟩ ?_
      refine PW.cond rfl (fun c51 => ?_) (fun c51 => ?_)
      · try simp only [decide_eq_true_eq, decide_eq_false_iff_not, beq_iff_eq, bne_iff_ne, beq_eq_false_iff_ne, bne_eq_false_iff_eq, Bool.not_eq_true', Bool.not_eq_false', Bool.not_eq_true, ne_eq, Decidable.not_not] at c51
        have hget : ∀ u, (setAt d (j + 1) [u])[j + 1]? = some u := fun u => by rw [setAt_get _ _ _ (by have := hnext.1; omega), if_pos rfl]
        refine PW.quietK Try.mixed ?_
        refine QK.det trivial (Yields.pure rfl) ?_
        refine QK.det trivial (Yields.pure rfl) ?_
        refine QK.det trivial (Yields.add64 rfl rfl (by omega) (by omega)) ?_
        refine QK.det trivial (Yields.pure rfl) ?_
        refine QK.det trivial (Yields.pure rfl) ?_
        refine QK.det trivial (Yields.add64 rfl rfl (by omega) (by omega)) ?_
        refine QK.det trivial (Yields.ixO1 rfl rfl (show _ = ((j + 1 : Nat) : Int) from rfl) (by omega)) ?_
        refine QK.det trivial (Yields.ld rfl (own_at (E := 3) (tot := (ys.length + 1) * 1) (List.Mem.head _) (hget _))) ?_
        refine QK.det trivial (Yields.pure rfl) ?_
        refine QK.det trivial (Yields.pure rfl) ?_
        refine QK.det trivial (Yields.ixO1 rfl rfl rfl (by omega)) ?_
        refine QK.det trivial (Yields.ld rfl (own_at (E := 3) (tot := (ys.length + 1) * 1) (by simp) (hrow.2 j (by omega) (by omega)))) ?_
        refine QK.det trivial (Yields.add64 rfl rfl (by omega) (by omega)) ?_
        refine QK.det trivial (Yields.pure rfl) ?_
        refine QK.nil ?_
        change OL _ _ _ [_, _] _ _ _
        refine OL.det trivial (Yields.ixO1 rfl rfl (show _ = ((j + 1 : Nat) : Int) from rfl) (by omega)) ?_
        refine OL.cons trivial (OW.st (k := 0) rfl rfl rfl rfl (by rw [setAt_length]; have := hnext.1; omega) rfl) ?_
        rintro _ _ rfl
        refine OL.nil ?_
        refine hK6 _ _ ?_
        refine PW.keep (T' := [(0, _), (1, _), (5, _), (6, _), (7, _), (8, _)]) ⟨rfl, rfl, rfl, rfl, rfl, rfl, trivial⟩ ?_
        refine PW.ops ?_
        refine OL.det trivial (Yields.pure rfl) ?_
        refine OL.det trivial (Yields.add64 rfl rfl (by omega) (by omega)) ?_
        refine OL.det trivial (Yields.pure rfl) ?_
        refine OL.nil ?_
        repeat rw [inBlk_n]
        rw [thenK_n]
        refine LoopEnd.mk (T'' := [(0, _), (1, _), (5, _), (6, _), (7, _), (8, _)]) ⟨rfl, rfl, rfl, rfl, rfl, rfl, trivial⟩ ?_
        refine ⟨ys.length - (j + 1), by omega, j + 1, _, ⟨by omega, rfl, (hnext.keep (by omega) _).put (by omega) ?_⟩, rfl, rfl⟩
        rw [pre_ref (by omega) (by omega)]
        simp only [bytes_ext c51, true_and, if_true]
        repeat' split
        all_goals omega
      · try simp only [decide_eq_true_eq, decide_eq_false_iff_not, beq_iff_eq, bne_iff_ne, beq_eq_false_iff_ne, bne_eq_false_iff_eq, Bool.not_eq_true', Bool.not_eq_false', Bool.not_eq_true, ne_eq, Decidable.not_not] at c51
        refine PW.skip ?_
        refine hK6 _ _ ?_
        refine PW.keep (T' := [(0, _), (1, _), (5, _), (6, _), (7, _), (8, _)]) ⟨rfl, rfl, rfl, rfl, rfl, rfl, trivial⟩ ?_
        refine PW.ops ?_
        refine OL.det trivial (Yields.pure rfl) ?_
        refine OL.det trivial (Yields.add64 rfl rfl (by omega) (by omega)) ?_
        refine OL.det trivial (Yields.pure rfl) ?_
        refine OL.nil ?_
        repeat rw [inBlk_n]
        rw [thenK_n]
        refine LoopEnd.mk (T'' := [(0, _), (1, _), (5, _), (6, _), (7, _), (8, _)]) ⟨rfl, rfl, rfl, rfl, rfl, rfl, trivial⟩ ?_
        refine ⟨ys.length - (j + 1), by omega, j + 1, _, ⟨by omega, rfl, hnext.put (by omega) ?_⟩, rfl, rfl⟩
        have he : ¬ xs[i] = ys[j] := fun e => c51 (by rw [e])
        rw [pre_ref (i := i) (j := j) (by omega) (by omega)]
        simp only [he, false_and, if_false, if_true]
        repeat' split
        all_goals omega
    · try simp only [decide_eq_true_eq, decide_eq_false_iff_not, beq_iff_eq, bne_iff_ne, beq_eq_false_iff_ne, bne_eq_false_iff_eq, Bool.not_eq_true', Bool.not_eq_false', Bool.not_eq_true, ne_eq, Decidable.not_not] at c26
      refine PW.exit ?_
      refine hK4 _ _ ?_
      refine PW.keep (T' := [(0, _), (1, _), (6, _), (7, _)]) ⟨rfl, rfl, rfl, rfl, trivial⟩ ?_
      refine PW.ops ?_
      refine OL.det trivial (Yields.pure rfl) ?_
      refine OL.det trivial (Yields.pure rfl) ?_
      refine OL.nil ?_
      refine hK3 _ _ ?_
      refine PW.keep (T' := [(0, _), (1, _), (5, _), (6, _)]) ⟨rfl, rfl, rfl, rfl, trivial⟩ ?_
      refine PW.ops ?_
      refine OL.det trivial (Yields.pure rfl) ?_
      refine OL.det trivial (Yields.add64 rfl rfl (by omega) (by omega)) ?_
      refine OL.det trivial (Yields.pure rfl) ?_
      refine OL.nil ?_
      repeat rw [inBlk_n]
      rw [thenK_n]
      refine LoopEnd.mkS (Sub.cons (Sub.drop (Sub.refl _))) (T'' := [(0, _), (1, _), (5, _), (6, _)]) ⟨rfl, rfl, rfl, rfl, trivial⟩ ?_
      obtain rfl : j = ys.length := by omega
      exact ⟨xs.length - (i + 1), by omega, i + 1, r22, d, ⟨by omega, rfl, hnext⟩, rfl, rfl⟩
  · try simp only [decide_eq_true_eq, decide_eq_false_iff_not, beq_iff_eq, bne_iff_ne, beq_eq_false_iff_ne, bne_eq_false_iff_eq, Bool.not_eq_true', Bool.not_eq_false', Bool.not_eq_true, ne_eq, Decidable.not_not] at c16
    refine PW.exit ?_
    refine hK1 _ _ ?_
    refine PW.keep (T' := [(1, _), (5, _)]) ⟨rfl, rfl, trivial⟩ ?_
    refine PW.seqOps ?_
    refine OL.det trivial (Yields.pure rfl) ?_
    refine OL.det trivial (Yields.pure rfl) ?_
    refine OL.det trivial (Yields.pure rfl) ?_
    refine OL.det trivial (Yields.ixO1 rfl rfl rfl (by omega)) ?_
    refine OL.det trivial (Yields.ld rfl (own_at (E := 3) (tot := (ys.length + 1) * 1) (by simp) (hrow.2 ys.length (by omega) (by omega)))) ?_
    refine OL.det trivial (Yields.pure rfl) ?_
    refine OL.nil ?_
    refine PW.keep (T' := [(4, _)]) ⟨rfl, trivial⟩ ?_
    refine PW.ret ?_
    change (Exit.ret = Exit.normal ∨ Exit.ret = Exit.ret) ∧ ∃ v, resV _ _ = some v ∧ _
    obtain rfl : i = xs.length := by omega
    exact ⟨.inr rfl, _, rfl, S, Sub.drop (Sub.refl _), by rw [pre_all], rfl⟩

end Go.Proofs
