/- Walks and plain facts for the laws of this seat: what each function answers, for every input. -/
import Derived.Test.YtefefmogjmimdaaSl8
import Derived.Test.YtefefmogjmimdaaMyW5
set_option linter.unusedVariables false
set_option linter.unusedSimpArgs false
namespace Go.Proofs
open Go.SL Go.RowKit

open Go.MyPlain
set_option maxHeartbeats 1000000
section
variable {α : Type} [DecidableEq α]
theorem lcs_drop_ref {X Y : List α} {i j : Nat} (hi : i < X.length) (hj : j < Y.length) : lcs (X.drop i) (Y.drop j) =
    (let m := if lcs (X.drop i) (Y.drop (j + 1)) > lcs (X.drop (i + 1)) (Y.drop j) then lcs (X.drop i) (Y.drop (j + 1)) else lcs (X.drop (i + 1)) (Y.drop j); if X[i] = Y[j] ∧ lcs (X.drop (i + 1)) (Y.drop (j + 1)) + 1 > m then lcs (X.drop (i + 1)) (Y.drop (j + 1)) + 1 else m) := by
  have e1 : X.drop i = X[i] :: X.drop (i + 1) := List.drop_eq_getElem_cons hi
  have e2 : Y.drop j = Y[j] :: Y.drop (j + 1) := List.drop_eq_getElem_cons hj
  rw [e1, e2]
  exact lcs_ref ..
/-- of the whole table these cells are told -/
def KOK (X Y : List α) (w i jj : Nat) (c : List Value) : Prop := c.length = (X.length + 1) * w ∧ ∀ a b, a ≤ X.length → b ≤ Y.length → (i < a ∨ (a = i ∧ jj ≤ b) ∨ b = Y.length) → c[a * w + b]? = some (.int .i64 (lcs (X.drop a) (Y.drop b) : Int))
theorem place_lt {a b n w : Nat} (ha : a ≤ n) (hb : b < w) : a * w + b < (n + 1) * w := by
  have : (a + 1) * w ≤ (n + 1) * w := Nat.mul_le_mul_right _ (by omega)
  rw [Nat.succ_mul] at this
  omega
theorem place_inj {a b i j w : Nat} (hb : b < w) (hj : j < w) (h : a * w + b = i * w + j) : a = i ∧ b = j := by
  have h1 := congrArg (· / w) h
  have h2 := congrArg (· % w) h
  simp only [Nat.mul_add_mod_of_lt hb, Nat.mul_add_mod_of_lt hj] at h2
  have h0 : 0 < w := by omega
  rw [show a * w + b = b + w * a by rw [Nat.mul_comm]; omega, show i * w + j = j + w * i by rw [Nat.mul_comm]; omega] at h1
  simp only [Nat.add_mul_div_left _ _ h0, Nat.div_eq_of_lt hb, Nat.div_eq_of_lt hj] at h1
  omega
theorem KOK.start {X Y : List α} {w : Nat} (hw : w = Y.length + 1) : KOK X Y w X.length 0 (List.replicate ((X.length + 1) * w) (.int .i64 0)) := by
  refine ⟨by simp, fun a b ha hb h => ?_⟩
  have hl : lcs (X.drop a) (Y.drop b) = 0 := by
    rcases h with h | ⟨rfl, _⟩ | rfl
    · omega
    · rw [List.drop_length, lcs_nil_left]
    · rw [List.drop_length, lcs_nil_right]
  rw [hl]
  have := place_lt (w := w) ha (b := b) (by omega)
  simp [this]
theorem KOK.put {X Y : List α} {w i j : Nat} {c : List Value} (h : KOK X Y w i (j + 1) c) (hw : w = Y.length + 1) (hi : i ≤ X.length) (hj : j < Y.length) {v : Int} (hv : v = lcs (X.drop i) (Y.drop j)) : KOK X Y w i j (setAt c (i * w + j) [.int .i64 v]) := by
  refine ⟨by rw [setAt_length]; exact h.1, fun a b ha hb hk => ?_⟩
  rw [setAt_get c _ _ (by rw [h.1]; exact place_lt hi (by omega))]
  split
  · rename_i e
    obtain ⟨rfl, rfl⟩ := place_inj (by omega) (by omega) e
    rw [hv]
  · rename_i e
    refine h.2 a b ha hb ?_
    rcases hk with hk | ⟨rfl, hk⟩ | hk
    · exact .inl hk
    · by_cases e2 : b = j
      · subst e2; exact absurd rfl e
      · exact .inr (.inl ⟨rfl, by omega⟩)
    · exact .inr (.inr hk)
theorem KOK.row {X Y : List α} {w i : Nat} {c : List Value} (h : KOK X Y w (i + 1) 0 c) : KOK X Y w i Y.length c :=
  ⟨h.1, fun a b ha hb hk => h.2 a b ha hb (by rcases hk with hk | ⟨h1, h2⟩ | hk
                                              · by_cases e : a = i + 1
                                                · exact .inr (.inl ⟨e, by omega⟩)
                                                · exact .inl (by omega)
                                              · exact .inr (.inr (by omega))
                                              · exact .inr (.inr hk))⟩
theorem KOK.cell {X Y : List α} {w0 : World} {S : SS} {w i jj r tot : Nat} {c : List Value} (h : KOK X Y w i jj c) (hm : (r, AO.cells c 3 tot) ∈ S.flatten) (a b : Nat) (ha : a ≤ X.length) (hb : b ≤ Y.length) (hk : i < a ∨ (a = i ∧ jj ≤ b) ∨ b = Y.length) : Cell w0 S ⟨r, a * w + b, none⟩ (.int .i64 (lcs (X.drop a) (Y.drop b) : Int)) :=
  own_at hm (h.2 a b ha hb hk)
end
theorem keeps_fc {w0 : World} {S : SS} {A B : Option Addr} {ca cb : Nat} {xs ys : List ByteArray} (hx : Rd w0 S A (xs.map .string)) (hy : Rd w0 S B (ys.map .string)) (hX : xs.length ≤ 1024) (hY : ys.length ≤ 1024) :
    FC Try.prog w0 21 [.slice A xs.length ca, .slice B ys.length cb] S (fun v S' => ∃ r c, v = .slice (some ⟨r, 0, none⟩) ((xs.length + 1) * (ys.length + 1)) ((xs.length + 1) * (ys.length + 1)) ∧ S' = [(r, .cells c 3 (((xs.length + 1) * (ys.length + 1)) * 1))] :: S ∧ KOK xs ys (ys.length + 1) 0 0 c) := by
  obtain ⟨w, hw⟩ : ∃ w, w = ys.length + 1 := ⟨_, rfl⟩
  have hnw : (xs.length + 1) * w ≤ 1025 * 1025 := Nat.mul_le_mul (by omega) (by omega)
  have hci : ((xs.length : Int) + 1) * (w : Int) = (((xs.length + 1) * w : Nat) : Int) := rfl
  refine FC.of Try.known21 (by simp) ?_
  unfold Try.pc21
  simp only [argT]
  refine PW.seqOps ?_
  refine OL.det trivial (Yields.pure rfl) ?_
  refine OL.nil ?_
  refine PW.keep (T' := [(0, _), (1, _)]) ⟨rfl, rfl, trivial⟩ ?_
  refine PW.seqOps ?_
  refine OL.det trivial (Yields.pure rfl) ?_
  refine OL.det trivial (Yields.pure rfl) ?_
  refine OL.det trivial (Yields.add64 rfl rfl (by omega) (by omega)) ?_
  rw [show ((ys.length : Int) + 1) = (w : Int) by rw [hw]; rfl]
  refine OL.det trivial (Yields.pure rfl) ?_
  refine OL.nil ?_
  refine PW.keep (T' := [(0, _), (1, _), (5, _)]) ⟨rfl, rfl, rfl, trivial⟩ ?_
  refine PW.seqOps ?_
  refine OL.det trivial (Yields.pure rfl) ?_
  refine OL.det trivial (Yields.pure rfl) ?_
  refine OL.det trivial (Yields.add64 rfl rfl (by omega) (by omega)) ?_
  refine OL.det trivial (Yields.pure rfl) ?_
  refine OL.det trivial (Yields.mul64 rfl rfl (by omega) (by omega)) ?_
  refine OL.cons trivial (OW.mkS_full (m := (xs.length + 1) * w) rfl rfl (by omega) (by unfold maxLen; omega)) ?_
  rintro _ _ ⟨r18, rfl, rfl⟩
  rw [made1 _ rfl]
  refine OL.det trivial (Yields.pure rfl) ?_
  refine OL.nil ?_
  refine PW.keep (T' := [(0, _), (1, _), (5, _), (6, _)]) ⟨rfl, rfl, rfl, rfl, trivial⟩ ?_
  refine PW.seq fun K1 hK1 => ?_
  refine PW.seqOps ?_
  refine OL.det trivial (Yields.pure rfl) ?_
  refine OL.det trivial (Yields.pure rfl) ?_
  refine OL.det trivial (Yields.sub64 rfl rfl (by omega) (by omega)) ?_
  refine OL.det trivial (Yields.pure rfl) ?_
  refine OL.nil ?_
  refine PW.keep (T' := [(0, _), (1, _), (5, _), (6, _), (7, _)]) ⟨rfl, rfl, rfl, rfl, rfl, trivial⟩ ?_
  refine PW.block ?_
  refine PW.keep (T' := [(0, _), (1, _), (5, _), (6, _), (7, _)]) ⟨rfl, rfl, rfl, rfl, rfl, trivial⟩ ?_
  refine PW.loopK (I := fun m T S' => ∃ (ii : Nat) (c : List Value), (ii ≤ xs.length ∧ m = ii ∧ KOK xs ys w ii 0 c) ∧ T = ([(0, .slice A xs.length ca), (1, .slice B ys.length cb), (5, .int .i64 (w : Int)), (6, .slice (some ⟨r18, 0, none⟩) ((xs.length + 1) * w) ((xs.length + 1) * w)), (7, .int .i64 ((ii : Int) - 1))] : TT) ∧ S' = [(r18, .cells c 3 (((xs.length + 1) * w) * 1))] :: S) (m := xs.length) ⟨xs.length, _, ⟨by omega, rfl, KOK.start hw⟩, rfl, rfl⟩ ?_
  rintro m _ _ ⟨ii, c, ⟨hii, hm, hrow0⟩, rfl, rfl⟩
  refine PW.seq fun K2 hK2 => ?_
  refine PW.seqOps ?_
  refine OL.det trivial (Yields.pure rfl) ?_
  refine OL.det trivial (Yields.pure rfl) ?_
  refine OL.nil ?_
  refine PW.keep (T' := [(0, _), (1, _), (5, _), (6, _), (7, _), (23, _)]) ⟨rfl, rfl, rfl, rfl, rfl, rfl, trivial⟩ ?_
  refine PW.cond rfl (fun c23 => ?_) (fun c23 => ?_)
  · try simp only [decide_eq_true_eq, decide_eq_false_iff_not, beq_iff_eq, bne_iff_ne, beq_eq_false_iff_ne, bne_eq_false_iff_eq, Bool.not_eq_true', Bool.not_eq_false', Bool.not_eq_true, ne_eq, Decidable.not_not] at c23
    obtain ⟨i, rfl⟩ : ∃ i, ii = i + 1 := ⟨ii - 1, by omega⟩
    have ei : ((i + 1 : Nat) : Int) - 1 = i := by omega
    rw [ei]
    have hp1 : (i + 1) * w = i * w + w := Nat.succ_mul ..
    have hp2 : (i + 1) * w + w ≤ (xs.length + 1) * w := by rw [← Nat.succ_mul]; exact Nat.mul_le_mul_right _ (by omega)
    have hc1 : (i : Int) * (w : Int) = ((i * w : Nat) : Int) := rfl
    have hc2 : ((i : Int) + 1) * (w : Int) = (((i + 1) * w : Nat) : Int) := rfl
    refine PW.skip ?_
    refine hK2 _ _ ?_
    refine PW.keep (T' := [(0, _), (1, _), (5, _), (6, _), (7, _)]) ⟨rfl, rfl, rfl, rfl, rfl, trivial⟩ ?_
    refine PW.seq fun K3 hK3 => ?_
    refine PW.block ?_
    refine PW.seqOps ?_
    refine OL.det trivial (Yields.pure rfl) ?_
    refine OL.det trivial (Yields.pure rfl) ?_
    refine OL.det trivial (Yields.sub64 rfl rfl (by omega) (by omega)) ?_
    refine OL.det trivial (Yields.pure rfl) ?_
    refine OL.nil ?_
    refine PW.keep (T' := [(0, _), (1, _), (5, _), (6, _), (7, _), (8, _)]) ⟨rfl, rfl, rfl, rfl, rfl, rfl, trivial⟩ ?_
    refine PW.block ?_
    refine PW.keep (T' := [(0, _), (1, _), (5, _), (6, _), (7, _), (8, _)]) ⟨rfl, rfl, rfl, rfl, rfl, rfl, trivial⟩ ?_
    refine PW.loopK (I := fun m T S' => ∃ (jj : Nat) (c : List Value), (jj ≤ ys.length ∧ m = jj ∧ KOK xs ys w i jj c) ∧ T = ([(0, .slice A xs.length ca), (1, .slice B ys.length cb), (5, .int .i64 (w : Int)), (6, .slice (some ⟨r18, 0, none⟩) ((xs.length + 1) * w) ((xs.length + 1) * w)), (7, .int .i64 (i : Int)), (8, .int .i64 ((jj : Int) - 1))] : TT) ∧ S' = [(r18, .cells c 3 (((xs.length + 1) * w) * 1))] :: S) (m := ys.length) ⟨ys.length, c, ⟨by omega, rfl, hrow0.row⟩, rfl, rfl⟩ ?_
    rintro m _ _ ⟨jj, c, ⟨hjj, hmj, hrow⟩, rfl, rfl⟩
    refine PW.seq fun K4 hK4 => ?_
    refine PW.seqOps ?_
    refine OL.det trivial (Yields.pure rfl) ?_
    refine OL.det trivial (Yields.pure rfl) ?_
    refine OL.nil ?_
    refine PW.keep (T' := [(0, _), (1, _), (5, _), (6, _), (7, _), (8, _), (30, _)]) ⟨rfl, rfl, rfl, rfl, rfl, rfl, rfl, trivial⟩ ?_
    refine PW.cond rfl (fun c30 => ?_) (fun c30 => ?_)
    · try simp only [decide_eq_true_eq, decide_eq_false_iff_not, beq_iff_eq, bne_iff_ne, beq_eq_false_iff_ne, bne_eq_false_iff_eq, Bool.not_eq_true', Bool.not_eq_false', Bool.not_eq_true, ne_eq, Decidable.not_not] at c30
      obtain ⟨j, rfl⟩ : ∃ j, jj = j + 1 := ⟨jj - 1, by omega⟩
      have ej : ((j + 1 : Nat) : Int) - 1 = j := by omega
      rw [ej]
      have hlj := lcs_le (xs.drop (i + 1)) (ys.drop (j + 1))
      simp only [List.length_drop] at hlj
      obtain ⟨aX, rfl⟩ := hx.some (strs_ne (by omega))
      obtain ⟨aY, rfl⟩ := hy.some (strs_ne (by omega))
      refine PW.skip ?_
      refine hK4 _ _ ?_
      refine PW.keep (T' := [(0, _), (1, _), (5, _), (6, _), (7, _), (8, _)]) ⟨rfl, rfl, rfl, rfl, rfl, rfl, trivial⟩ ?_
      refine PW.seq fun K5 hK5 => ?_
      refine PW.block ?_
      refine PW.seqOps ?_
      refine OL.det trivial (Yields.pure rfl) ?_
      refine OL.det trivial (Yields.pure rfl) ?_
      refine OL.det trivial (Yields.add64 rfl rfl (by omega) (by omega)) ?_
      refine OL.det trivial (Yields.pure rfl) ?_
      refine OL.det trivial (Yields.mul64 rfl rfl (by omega) (by omega)) ?_
      refine OL.det trivial (Yields.pure rfl) ?_
      refine OL.det trivial (Yields.add64 rfl rfl (by omega) (by omega)) ?_
      refine OL.det trivial (Yields.ixO1 rfl rfl (show _ = (((i + 1) * w + j : Nat) : Int) from rfl) (by omega)) ?_
      refine OL.det trivial (Yields.ld rfl (hrow.cell (tot := ((xs.length + 1) * w) * 1) (by simp) (i + 1) j (by omega) (by omega) (by omega))) ?_
      refine OL.det trivial (Yields.pure rfl) ?_
      refine OL.nil ?_
      refine PW.keep (T' := [(0, _), (1, _), (5, _), (6, _), (7, _), (8, _), (9, _)]) ⟨rfl, rfl, rfl, rfl, rfl, rfl, rfl, trivial⟩ ?_
      refine PW.seq fun K6 hK6 => ?_
      refine PW.seqOps ?_
      refine OL.det trivial (Yields.pure rfl) ?_
      refine OL.det trivial (Yields.pure rfl) ?_
      refine OL.det trivial (Yields.pure rfl) ?_
      refine OL.det trivial (Yields.mul64 rfl rfl (by omega) (by omega)) ?_
      refine OL.det trivial (Yields.pure rfl) ?_
      refine OL.det trivial (Yields.add64 rfl rfl (by omega) (by omega)) ?_
      refine OL.det trivial (Yields.add64 rfl rfl (by omega) (by omega)) ?_
      refine OL.det trivial (Yields.ixO1 rfl rfl (show _ = ((i * w + (j + 1) : Nat) : Int) from rfl) (by omega)) ?_
      refine OL.det trivial (Yields.ld rfl (hrow.cell (tot := ((xs.length + 1) * w) * 1) (by simp) i (j + 1) (by omega) (by omega) (by omega))) ?_
      refine OL.det trivial (Yields.pure rfl) ?_
      refine OL.det trivial (Yields.pure rfl) ?_
      refine OL.nil ?_
      refine PW.keep (T' := [(0, _), (1, _), (5, _), (6, _), (7, _), (8, _), (9, _), (52, _)]) ⟨rfl, rfl, rfl, rfl, rfl, rfl, rfl, rfl, trivial⟩ ?_
      refine PW.cond rfl (fun c52 => ?_) (fun c52 => ?_)
      · try simp only [decide_eq_true_eq, decide_eq_false_iff_not, beq_iff_eq, bne_iff_ne, beq_eq_false_iff_ne, bne_eq_false_iff_eq, Bool.not_eq_true', Bool.not_eq_false', Bool.not_eq_true, ne_eq, Decidable.not_not] at c52
        refine PW.ops ?_
        refine OL.det trivial (Yields.pure rfl) ?_
        refine OL.det trivial (Yields.pure rfl) ?_
        refine OL.det trivial (Yields.pure rfl) ?_
        refine OL.det trivial (Yields.mul64 rfl rfl (by omega) (by omega)) ?_
        refine OL.det trivial (Yields.pure rfl) ?_
        refine OL.det trivial (Yields.add64 rfl rfl (by omega) (by omega)) ?_
        refine OL.det trivial (Yields.add64 rfl rfl (by omega) (by omega)) ?_
        refine OL.det trivial (Yields.ixO1 rfl rfl (show _ = ((i * w + (j + 1) : Nat) : Int) from rfl) (by omega)) ?_
        refine OL.det trivial (Yields.ld rfl (hrow.cell (tot := ((xs.length + 1) * w) * 1) (by simp) i (j + 1) (by omega) (by omega) (by omega))) ?_
        refine OL.det trivial (Yields.pure rfl) ?_
        refine OL.nil ?_
        refine hK6 _ _ ?_
        refine PW.keep (T' := [(0, _), (1, _), (5, _), (6, _), (7, _), (8, _), (9, _)]) ⟨rfl, rfl, rfl, rfl, rfl, rfl, rfl, trivial⟩ ?_
        refine PW.seq fun K7 hK7 => ?_
        refine PW.seq fun K8 hK8 => ?_
        refine PW.quietK Try.mixed ?_
        refine QK.det trivial (Yields.pure rfl) ?_
        refine QK.det trivial (Yields.pure rfl) ?_
        refine QK.det trivial (Yields.ixN1 rfl rfl rfl (by omega)) ?_
        refine QK.det trivial (Yields.ld rfl (str_at hx.cons (by omega))) ?_
        refine QK.det trivial (Yields.pure rfl) ?_
        refine QK.det trivial (Yields.pure rfl) ?_
        refine QK.det trivial (Yields.ixN1 rfl rfl rfl (by omega)) ?_
        refine QK.det trivial (Yields.ld rfl (str_at hy.cons (by omega))) ?_
        refine QK.det trivial (Yields.pure rfl) ?_
        refine QK.bool trivial (Yields.pure rfl) (fun g71 => ?_) (fun g71 => ?_)
        · try simp only [decide_eq_true_eq, decide_eq_false_iff_not, beq_iff_eq, bne_iff_ne, beq_eq_false_iff_ne, bne_eq_false_iff_eq, Bool.not_eq_true', Bool.not_eq_false', Bool.not_eq_true, ne_eq, Decidable.not_not] at g71
          have he : xs[i] = ys[j] := bytes_ext g71
          refine QK.det rfl (Yields.pure rfl) ?_
          refine QK.det rfl (Yields.pure rfl) ?_
          refine QK.det rfl (Yields.add64 rfl rfl (by omega) (by omega)) ?_
          refine QK.det rfl (Yields.pure rfl) ?_
          refine QK.det rfl (Yields.mul64 rfl rfl (by omega) (by omega)) ?_
          refine QK.det rfl (Yields.pure rfl) ?_
          refine QK.det rfl (Yields.add64 rfl rfl (by omega) (by omega)) ?_
          refine QK.det rfl (Yields.add64 rfl rfl (by omega) (by omega)) ?_
          refine QK.det rfl (Yields.ixO1 rfl rfl (show _ = (((i + 1) * w + (j + 1) : Nat) : Int) from rfl) (by omega)) ?_
          refine QK.det rfl (Yields.ld rfl (hrow.cell (tot := ((xs.length + 1) * w) * 1) (by simp) (i + 1) (j + 1) (by omega) (by omega) (by omega))) ?_
          refine QK.det rfl (Yields.add64 rfl rfl (by omega) (by omega)) ?_
          refine QK.det rfl (Yields.pure rfl) ?_
          refine QK.nil ?_
          change OL _ _ _ [_, _] _ _ _
          refine OL.det rfl (Yields.pure rfl) ?_
          refine OL.det trivial (Yields.pure rfl) ?_
          refine OL.nil ?_
          refine hK8 _ _ ?_
          refine PW.keep (T' := [(0, _), (1, _), (5, _), (6, _), (7, _), (8, _), (9, _), (85, _)]) ⟨rfl, rfl, rfl, rfl, rfl, rfl, rfl, rfl, trivial⟩ ?_
          refine PW.cond rfl (fun c85 => ?_) (fun c85 => ?_)
          · try simp only [decide_eq_true_eq, decide_eq_false_iff_not, beq_iff_eq, bne_iff_ne, beq_eq_false_iff_ne, bne_eq_false_iff_eq, Bool.not_eq_true', Bool.not_eq_false', Bool.not_eq_true, ne_eq, Decidable.not_not] at c85
            refine PW.ops ?_
            refine OL.det trivial (Yields.pure rfl) ?_
            refine OL.det trivial (Yields.pure rfl) ?_
            refine OL.det trivial (Yields.add64 rfl rfl (by omega) (by omega)) ?_
            refine OL.det trivial (Yields.pure rfl) ?_
            refine OL.det trivial (Yields.mul64 rfl rfl (by omega) (by omega)) ?_
            refine OL.det trivial (Yields.pure rfl) ?_
            refine OL.det trivial (Yields.add64 rfl rfl (by omega) (by omega)) ?_
            refine OL.det trivial (Yields.add64 rfl rfl (by omega) (by omega)) ?_
            refine OL.det trivial (Yields.ixO1 rfl rfl (show _ = (((i + 1) * w + (j + 1) : Nat) : Int) from rfl) (by omega)) ?_
            refine OL.det trivial (Yields.ld rfl (hrow.cell (tot := ((xs.length + 1) * w) * 1) (by simp) (i + 1) (j + 1) (by omega) (by omega) (by omega))) ?_
            refine OL.det trivial (Yields.add64 rfl rfl (by omega) (by omega)) ?_
            refine OL.det trivial (Yields.pure rfl) ?_
            refine OL.nil ?_
            refine hK7 _ _ ?_
            refine PW.keep (T' := [(0, _), (1, _), (5, _), (6, _), (7, _), (8, _), (9, _)]) ⟨rfl, rfl, rfl, rfl, rfl, rfl, rfl, trivial⟩ ?_
            refine PW.ops ?_
            refine OL.det trivial (Yields.pure rfl) ?_
            refine OL.det trivial (Yields.pure rfl) ?_
            refine OL.det trivial (Yields.pure rfl) ?_
            refine OL.det trivial (Yields.mul64 rfl rfl (by omega) (by omega)) ?_
            refine OL.det trivial (Yields.pure rfl) ?_
            refine OL.det trivial (Yields.add64 rfl rfl (by omega) (by omega)) ?_
            refine OL.det trivial (Yields.pure rfl) ?_
            refine OL.det trivial (Yields.ixO1 rfl rfl (show _ = ((i * w + j : Nat) : Int) from rfl) (by omega)) ?_
            refine OL.cons trivial (OW.st (k := 0) rfl rfl rfl rfl (by have := hrow.1; omega) rfl) ?_
            rintro _ _ rfl
            refine OL.nil ?_
            refine hK5 _ _ ?_
            refine PW.keep (T' := [(0, _), (1, _), (5, _), (6, _), (7, _), (8, _)]) ⟨rfl, rfl, rfl, rfl, rfl, rfl, trivial⟩ ?_
            refine PW.ops ?_
            refine OL.det trivial (Yields.pure rfl) ?_
            refine OL.det trivial (Yields.sub64 rfl rfl (by omega) (by omega)) ?_
            refine OL.det trivial (Yields.pure rfl) ?_
            refine OL.nil ?_
            repeat rw [inBlk_n]
            rw [thenK_n]
            refine LoopEnd.mk (T'' := [(0, _), (1, _), (5, _), (6, _), (7, _), (8, _)]) ⟨rfl, rfl, rfl, rfl, rfl, rfl, trivial⟩ ?_
            refine ⟨j, by omega, j, _, ⟨by omega, rfl, hrow.put hw (by omega) (by omega) ?_⟩, rfl, rfl⟩
            rw [lcs_drop_ref (i := i) (j := j) (by omega) (by omega)]
            simp only [he, true_and, false_and, if_false]
            repeat' split
            all_goals omega
          · try simp only [decide_eq_true_eq, decide_eq_false_iff_not, beq_iff_eq, bne_iff_ne, beq_eq_false_iff_ne, bne_eq_false_iff_eq, Bool.not_eq_true', Bool.not_eq_false', Bool.not_eq_true, ne_eq, Decidable.not_not] at c85
            refine PW.skip ?_
            refine hK7 _ _ ?_
            refine PW.keep (T' := [(0, _), (1, _), (5, _), (6, _), (7, _), (8, _), (9, _)]) ⟨rfl, rfl, rfl, rfl, rfl, rfl, rfl, trivial⟩ ?_
            refine PW.ops ?_
            refine OL.det trivial (Yields.pure rfl) ?_
            refine OL.det trivial (Yields.pure rfl) ?_
            refine OL.det trivial (Yields.pure rfl) ?_
            refine OL.det trivial (Yields.mul64 rfl rfl (by omega) (by omega)) ?_
            refine OL.det trivial (Yields.pure rfl) ?_
            refine OL.det trivial (Yields.add64 rfl rfl (by omega) (by omega)) ?_
            refine OL.det trivial (Yields.pure rfl) ?_
            refine OL.det trivial (Yields.ixO1 rfl rfl (show _ = ((i * w + j : Nat) : Int) from rfl) (by omega)) ?_
            refine OL.cons trivial (OW.st (k := 0) rfl rfl rfl rfl (by have := hrow.1; omega) rfl) ?_
            rintro _ _ rfl
            refine OL.nil ?_
            refine hK5 _ _ ?_
            refine PW.keep (T' := [(0, _), (1, _), (5, _), (6, _), (7, _), (8, _)]) ⟨rfl, rfl, rfl, rfl, rfl, rfl, trivial⟩ ?_
            refine PW.ops ?_
            refine OL.det trivial (Yields.pure rfl) ?_
            refine OL.det trivial (Yields.sub64 rfl rfl (by omega) (by omega)) ?_
            refine OL.det trivial (Yields.pure rfl) ?_
            refine OL.nil ?_
            repeat rw [inBlk_n]
            rw [thenK_n]
            refine LoopEnd.mk (T'' := [(0, _), (1, _), (5, _), (6, _), (7, _), (8, _)]) ⟨rfl, rfl, rfl, rfl, rfl, rfl, trivial⟩ ?_
            refine ⟨j, by omega, j, _, ⟨by omega, rfl, hrow.put hw (by omega) (by omega) ?_⟩, rfl, rfl⟩
            rw [lcs_drop_ref (i := i) (j := j) (by omega) (by omega)]
            simp only [he, true_and, false_and, if_false]
            repeat' split
            all_goals omega
        · try simp only [decide_eq_true_eq, decide_eq_false_iff_not, beq_iff_eq, bne_iff_ne, beq_eq_false_iff_ne, bne_eq_false_iff_eq, Bool.not_eq_true', Bool.not_eq_false', Bool.not_eq_true, ne_eq, Decidable.not_not] at g71
          have he : ¬ xs[i] = ys[j] := fun e => g71 (by rw [e])
          refine QK.off rfl rfl ?_
          refine QK.off rfl rfl ?_
          refine QK.off rfl rfl ?_
          refine QK.off rfl rfl ?_
          refine QK.off rfl rfl ?_
          refine QK.off rfl rfl ?_
          refine QK.off rfl rfl ?_
          refine QK.off rfl rfl ?_
          refine QK.off rfl rfl ?_
          refine QK.off rfl rfl ?_
          refine QK.off rfl rfl ?_
          refine QK.off rfl rfl ?_
          refine QK.nil ?_
          change OL _ _ _ [_, _] _ _ _
          refine OL.off rfl rfl ?_
          refine OL.det trivial (Yields.pure rfl) ?_
          refine OL.nil ?_
          refine hK8 _ _ ?_
          refine PW.keep (T' := [(0, _), (1, _), (5, _), (6, _), (7, _), (8, _), (9, _), (85, _)]) ⟨rfl, rfl, rfl, rfl, rfl, rfl, rfl, rfl, trivial⟩ ?_
          refine PW.ite (b := false) rfl ?_
          rw [if_neg Bool.false_ne_true]
          refine PW.skip ?_
          refine hK7 _ _ ?_
          refine PW.keep (T' := [(0, _), (1, _), (5, _), (6, _), (7, _), (8, _), (9, _)]) ⟨rfl, rfl, rfl, rfl, rfl, rfl, rfl, trivial⟩ ?_
          refine PW.ops ?_
          refine OL.det trivial (Yields.pure rfl) ?_
          refine OL.det trivial (Yields.pure rfl) ?_
          refine OL.det trivial (Yields.pure rfl) ?_
          refine OL.det trivial (Yields.mul64 rfl rfl (by omega) (by omega)) ?_
          refine OL.det trivial (Yields.pure rfl) ?_
          refine OL.det trivial (Yields.add64 rfl rfl (by omega) (by omega)) ?_
          refine OL.det trivial (Yields.pure rfl) ?_
          refine OL.det trivial (Yields.ixO1 rfl rfl (show _ = ((i * w + j : Nat) : Int) from rfl) (by omega)) ?_
          refine OL.cons trivial (OW.st (k := 0) rfl rfl rfl rfl (by have := hrow.1; omega) rfl) ?_
          rintro _ _ rfl
          refine OL.nil ?_
          refine hK5 _ _ ?_
          refine PW.keep (T' := [(0, _), (1, _), (5, _), (6, _), (7, _), (8, _)]) ⟨rfl, rfl, rfl, rfl, rfl, rfl, trivial⟩ ?_
          refine PW.ops ?_
          refine OL.det trivial (Yields.pure rfl) ?_
          refine OL.det trivial (Yields.sub64 rfl rfl (by omega) (by omega)) ?_
          refine OL.det trivial (Yields.pure rfl) ?_
          refine OL.nil ?_
          repeat rw [inBlk_n]
          rw [thenK_n]
          refine LoopEnd.mk (T'' := [(0, _), (1, _), (5, _), (6, _), (7, _), (8, _)]) ⟨rfl, rfl, rfl, rfl, rfl, rfl, trivial⟩ ?_
          refine ⟨j, by omega, j, _, ⟨by omega, rfl, hrow.put hw (by omega) (by omega) ?_⟩, rfl, rfl⟩
          rw [lcs_drop_ref (i := i) (j := j) (by omega) (by omega)]
          simp only [he, true_and, false_and, if_false]
          repeat' split
          all_goals omega
      · try simp only [decide_eq_true_eq, decide_eq_false_iff_not, beq_iff_eq, bne_iff_ne, beq_eq_false_iff_ne, bne_eq_false_iff_eq, Bool.not_eq_true', Bool.not_eq_false', Bool.not_eq_true, ne_eq, Decidable.not_not] at c52
        refine PW.skip ?_
        refine hK6 _ _ ?_
        refine PW.keep (T' := [(0, _), (1, _), (5, _), (6, _), (7, _), (8, _), (9, _)]) ⟨rfl, rfl, rfl, rfl, rfl, rfl, rfl, trivial⟩ ?_
        refine PW.seq fun K9 hK9 => ?_
        refine PW.seq fun K10 hK10 => ?_
        refine PW.quietK Try.mixed ?_
        refine QK.det trivial (Yields.pure rfl) ?_
        refine QK.det trivial (Yields.pure rfl) ?_
        refine QK.det trivial (Yields.ixN1 rfl rfl rfl (by omega)) ?_
        refine QK.det trivial (Yields.ld rfl (str_at hx.cons (by omega))) ?_
        refine QK.det trivial (Yields.pure rfl) ?_
        refine QK.det trivial (Yields.pure rfl) ?_
        refine QK.det trivial (Yields.ixN1 rfl rfl rfl (by omega)) ?_
        refine QK.det trivial (Yields.ld rfl (str_at hy.cons (by omega))) ?_
        refine QK.det trivial (Yields.pure rfl) ?_
        refine QK.bool trivial (Yields.pure rfl) (fun g71 => ?_) (fun g71 => ?_)
        · try simp only [decide_eq_true_eq, decide_eq_false_iff_not, beq_iff_eq, bne_iff_ne, beq_eq_false_iff_ne, bne_eq_false_iff_eq, Bool.not_eq_true', Bool.not_eq_false', Bool.not_eq_true, ne_eq, Decidable.not_not] at g71
          have he : xs[i] = ys[j] := bytes_ext g71
          refine QK.det rfl (Yields.pure rfl) ?_
          refine QK.det rfl (Yields.pure rfl) ?_
          refine QK.det rfl (Yields.add64 rfl rfl (by omega) (by omega)) ?_
          refine QK.det rfl (Yields.pure rfl) ?_
          refine QK.det rfl (Yields.mul64 rfl rfl (by omega) (by omega)) ?_
          refine QK.det rfl (Yields.pure rfl) ?_
          refine QK.det rfl (Yields.add64 rfl rfl (by omega) (by omega)) ?_
          refine QK.det rfl (Yields.add64 rfl rfl (by omega) (by omega)) ?_
          refine QK.det rfl (Yields.ixO1 rfl rfl (show _ = (((i + 1) * w + (j + 1) : Nat) : Int) from rfl) (by omega)) ?_
          refine QK.det rfl (Yields.ld rfl (hrow.cell (tot := ((xs.length + 1) * w) * 1) (by simp) (i + 1) (j + 1) (by omega) (by omega) (by omega))) ?_
          refine QK.det rfl (Yields.add64 rfl rfl (by omega) (by omega)) ?_
          refine QK.det rfl (Yields.pure rfl) ?_
          refine QK.nil ?_
          change OL _ _ _ [_, _] _ _ _
          refine OL.det rfl (Yields.pure rfl) ?_
          refine OL.det trivial (Yields.pure rfl) ?_
          refine OL.nil ?_
          refine hK10 _ _ ?_
          refine PW.keep (T' := [(0, _), (1, _), (5, _), (6, _), (7, _), (8, _), (9, _), (85, _)]) ⟨rfl, rfl, rfl, rfl, rfl, rfl, rfl, rfl, trivial⟩ ?_
          refine PW.cond rfl (fun c85 => ?_) (fun c85 => ?_)
          · try simp only [decide_eq_true_eq, decide_eq_false_iff_not, beq_iff_eq, bne_iff_ne, beq_eq_false_iff_ne, bne_eq_false_iff_eq, Bool.not_eq_true', Bool.not_eq_false', Bool.not_eq_true, ne_eq, Decidable.not_not] at c85
            refine PW.ops ?_
            refine OL.det trivial (Yields.pure rfl) ?_
            refine OL.det trivial (Yields.pure rfl) ?_
            refine OL.det trivial (Yields.add64 rfl rfl (by omega) (by omega)) ?_
            refine OL.det trivial (Yields.pure rfl) ?_
            refine OL.det trivial (Yields.mul64 rfl rfl (by omega) (by omega)) ?_
            refine OL.det trivial (Yields.pure rfl) ?_
            refine OL.det trivial (Yields.add64 rfl rfl (by omega) (by omega)) ?_
            refine OL.det trivial (Yields.add64 rfl rfl (by omega) (by omega)) ?_
            refine OL.det trivial (Yields.ixO1 rfl rfl (show _ = (((i + 1) * w + (j + 1) : Nat) : Int) from rfl) (by omega)) ?_
            refine OL.det trivial (Yields.ld rfl (hrow.cell (tot := ((xs.length + 1) * w) * 1) (by simp) (i + 1) (j + 1) (by omega) (by omega) (by omega))) ?_
            refine OL.det trivial (Yields.add64 rfl rfl (by omega) (by omega)) ?_
            refine OL.det trivial (Yields.pure rfl) ?_
            refine OL.nil ?_
            refine hK9 _ _ ?_
            refine PW.keep (T' := [(0, _), (1, _), (5, _), (6, _), (7, _), (8, _), (9, _)]) ⟨rfl, rfl, rfl, rfl, rfl, rfl, rfl, trivial⟩ ?_
            refine PW.ops ?_
            refine OL.det trivial (Yields.pure rfl) ?_
            refine OL.det trivial (Yields.pure rfl) ?_
            refine OL.det trivial (Yields.pure rfl) ?_
            refine OL.det trivial (Yields.mul64 rfl rfl (by omega) (by omega)) ?_
            refine OL.det trivial (Yields.pure rfl) ?_
            refine OL.det trivial (Yields.add64 rfl rfl (by omega) (by omega)) ?_
            refine OL.det trivial (Yields.pure rfl) ?_
            refine OL.det trivial (Yields.ixO1 rfl rfl (show _ = ((i * w + j : Nat) : Int) from rfl) (by omega)) ?_
            refine OL.cons trivial (OW.st (k := 0) rfl rfl rfl rfl (by have := hrow.1; omega) rfl) ?_
            rintro _ _ rfl
            refine OL.nil ?_
            refine hK5 _ _ ?_
            refine PW.keep (T' := [(0, _), (1, _), (5, _), (6, _), (7, _), (8, _)]) ⟨rfl, rfl, rfl, rfl, rfl, rfl, trivial⟩ ?_
            refine PW.ops ?_
            refine OL.det trivial (Yields.pure rfl) ?_
            refine OL.det trivial (Yields.sub64 rfl rfl (by omega) (by omega)) ?_
            refine OL.det trivial (Yields.pure rfl) ?_
            refine OL.nil ?_
            repeat rw [inBlk_n]
            rw [thenK_n]
            refine LoopEnd.mk (T'' := [(0, _), (1, _), (5, _), (6, _), (7, _), (8, _)]) ⟨rfl, rfl, rfl, rfl, rfl, rfl, trivial⟩ ?_
            refine ⟨j, by omega, j, _, ⟨by omega, rfl, hrow.put hw (by omega) (by omega) ?_⟩, rfl, rfl⟩
            rw [lcs_drop_ref (i := i) (j := j) (by omega) (by omega)]
            simp only [he, true_and, false_and, if_false]
            repeat' split
            all_goals omega
          · try simp only [decide_eq_true_eq, decide_eq_false_iff_not, beq_iff_eq, bne_iff_ne, beq_eq_false_iff_ne, bne_eq_false_iff_eq, Bool.not_eq_true', Bool.not_eq_false', Bool.not_eq_true, ne_eq, Decidable.not_not] at c85
            refine PW.skip ?_
            refine hK9 _ _ ?_
            refine PW.keep (T' := [(0, _), (1, _), (5, _), (6, _), (7, _), (8, _), (9, _)]) ⟨rfl, rfl, rfl, rfl, rfl, rfl, rfl, trivial⟩ ?_
            refine PW.ops ?_
            refine OL.det trivial (Yields.pure rfl) ?_
            refine OL.det trivial (Yields.pure rfl) ?_
            refine OL.det trivial (Yields.pure rfl) ?_
            refine OL.det trivial (Yields.mul64 rfl rfl (by omega) (by omega)) ?_
            refine OL.det trivial (Yields.pure rfl) ?_
            refine OL.det trivial (Yields.add64 rfl rfl (by omega) (by omega)) ?_
            refine OL.det trivial (Yields.pure rfl) ?_
            refine OL.det trivial (Yields.ixO1 rfl rfl (show _ = ((i * w + j : Nat) : Int) from rfl) (by omega)) ?_
            refine OL.cons trivial (OW.st (k := 0) rfl rfl rfl rfl (by have := hrow.1; omega) rfl) ?_
            rintro _ _ rfl
            refine OL.nil ?_
            refine hK5 _ _ ?_
            refine PW.keep (T' := [(0, _), (1, _), (5, _), (6, _), (7, _), (8, _)]) ⟨rfl, rfl, rfl, rfl, rfl, rfl, trivial⟩ ?_
            refine PW.ops ?_
            refine OL.det trivial (Yields.pure rfl) ?_
            refine OL.det trivial (Yields.sub64 rfl rfl (by omega) (by omega)) ?_
            refine OL.det trivial (Yields.pure rfl) ?_
            refine OL.nil ?_
            repeat rw [inBlk_n]
            rw [thenK_n]
            refine LoopEnd.mk (T'' := [(0, _), (1, _), (5, _), (6, _), (7, _), (8, _)]) ⟨rfl, rfl, rfl, rfl, rfl, rfl, trivial⟩ ?_
            refine ⟨j, by omega, j, _, ⟨by omega, rfl, hrow.put hw (by omega) (by omega) ?_⟩, rfl, rfl⟩
            rw [lcs_drop_ref (i := i) (j := j) (by omega) (by omega)]
            simp only [he, true_and, false_and, if_false]
            repeat' split
            all_goals omega
        · try simp only [decide_eq_true_eq, decide_eq_false_iff_not, beq_iff_eq, bne_iff_ne, beq_eq_false_iff_ne, bne_eq_false_iff_eq, Bool.not_eq_true', Bool.not_eq_false', Bool.not_eq_true, ne_eq, Decidable.not_not] at g71
          have he : ¬ xs[i] = ys[j] := fun e => g71 (by rw [e])
          refine QK.off rfl rfl ?_
          refine QK.off rfl rfl ?_
          refine QK.off rfl rfl ?_
          refine QK.off rfl rfl ?_
          refine QK.off rfl rfl ?_
          refine QK.off rfl rfl ?_
          refine QK.off rfl rfl ?_
          refine QK.off rfl rfl ?_
          refine QK.off rfl rfl ?_
          refine QK.off rfl rfl ?_
          refine QK.off rfl rfl ?_
          refine QK.off rfl rfl ?_
          refine QK.nil ?_
          change OL _ _ _ [_, _] _ _ _
          refine OL.off rfl rfl ?_
          refine OL.det trivial (Yields.pure rfl) ?_
          refine OL.nil ?_
          refine hK10 _ _ ?_
          refine PW.keep (T' := [(0, _), (1, _), (5, _), (6, _), (7, _), (8, _), (9, _), (85, _)]) ⟨rfl, rfl, rfl, rfl, rfl, rfl, rfl, rfl, trivial⟩ ?_
          refine PW.ite (b := false) rfl ?_
          rw [if_neg Bool.false_ne_true]
          refine PW.skip ?_
          refine hK9 _ _ ?_
          refine PW.keep (T' := [(0, _), (1, _), (5, _), (6, _), (7, _), (8, _), (9, _)]) ⟨rfl, rfl, rfl, rfl, rfl, rfl, rfl, trivial⟩ ?_
          refine PW.ops ?_
          refine OL.det trivial (Yields.pure rfl) ?_
          refine OL.det trivial (Yields.pure rfl) ?_
          refine OL.det trivial (Yields.pure rfl) ?_
          refine OL.det trivial (Yields.mul64 rfl rfl (by omega) (by omega)) ?_
          refine OL.det trivial (Yields.pure rfl) ?_
          refine OL.det trivial (Yields.add64 rfl rfl (by omega) (by omega)) ?_
          refine OL.det trivial (Yields.pure rfl) ?_
          refine OL.det trivial (Yields.ixO1 rfl rfl (show _ = ((i * w + j : Nat) : Int) from rfl) (by omega)) ?_
          refine OL.cons trivial (OW.st (k := 0) rfl rfl rfl rfl (by have := hrow.1; omega) rfl) ?_
          rintro _ _ rfl
          refine OL.nil ?_
          refine hK5 _ _ ?_
          refine PW.keep (T' := [(0, _), (1, _), (5, _), (6, _), (7, _), (8, _)]) ⟨rfl, rfl, rfl, rfl, rfl, rfl, trivial⟩ ?_
          refine PW.ops ?_
          refine OL.det trivial (Yields.pure rfl) ?_
          refine OL.det trivial (Yields.sub64 rfl rfl (by omega) (by omega)) ?_
          refine OL.det trivial (Yields.pure rfl) ?_
          refine OL.nil ?_
          repeat rw [inBlk_n]
          rw [thenK_n]
          refine LoopEnd.mk (T'' := [(0, _), (1, _), (5, _), (6, _), (7, _), (8, _)]) ⟨rfl, rfl, rfl, rfl, rfl, rfl, trivial⟩ ?_
          refine ⟨j, by omega, j, _, ⟨by omega, rfl, hrow.put hw (by omega) (by omega) ?_⟩, rfl, rfl⟩
          rw [lcs_drop_ref (i := i) (j := j) (by omega) (by omega)]
          simp only [he, true_and, false_and, if_false]
          repeat' split
          all_goals omega
    · try simp only [decide_eq_true_eq, decide_eq_false_iff_not, beq_iff_eq, bne_iff_ne, beq_eq_false_iff_ne, bne_eq_false_iff_eq, Bool.not_eq_true', Bool.not_eq_false', Bool.not_eq_true, ne_eq, Decidable.not_not] at c30
      refine PW.exit ?_
      refine hK3 _ _ ?_
      refine PW.keep (T' := [(0, _), (1, _), (5, _), (6, _), (7, _)]) ⟨rfl, rfl, rfl, rfl, rfl, trivial⟩ ?_
      refine PW.ops ?_
      refine OL.det trivial (Yields.pure rfl) ?_
      refine OL.det trivial (Yields.sub64 rfl rfl (by omega) (by omega)) ?_
      refine OL.det trivial (Yields.pure rfl) ?_
      refine OL.nil ?_
      repeat rw [inBlk_n]
      rw [thenK_n]
      refine LoopEnd.mk (T'' := [(0, _), (1, _), (5, _), (6, _), (7, _)]) ⟨rfl, rfl, rfl, rfl, rfl, trivial⟩ ?_
      obtain rfl : jj = 0 := by omega
      exact ⟨i, by omega, i, c, ⟨by omega, rfl, hrow⟩, rfl, rfl⟩
  · try simp only [decide_eq_true_eq, decide_eq_false_iff_not, beq_iff_eq, bne_iff_ne, beq_eq_false_iff_ne, bne_eq_false_iff_eq, Bool.not_eq_true', Bool.not_eq_false', Bool.not_eq_true, ne_eq, Decidable.not_not] at c23
    refine PW.exit ?_
    refine hK1 _ _ ?_
    refine PW.keep (T' := [(6, _)]) ⟨rfl, trivial⟩ ?_
    refine PW.seqOps ?_
    refine OL.det trivial (Yields.pure rfl) ?_
    refine OL.det trivial (Yields.pure rfl) ?_
    refine OL.nil ?_
    refine PW.keep (T' := [(4, _)]) ⟨rfl, trivial⟩ ?_
    refine PW.ret ?_
    change (Exit.ret = Exit.normal ∨ Exit.ret = Exit.ret) ∧ ∃ v, resV _ _ = some v ∧ _
    obtain rfl : ii = 0 := by omega
    subst hw
    exact ⟨.inr rfl, _, rfl, r18, c, rfl, rfl, hrow0⟩

end Go.Proofs
