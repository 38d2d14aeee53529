/- Walks and plain facts for the laws of this seat: what each function answers, for every input. -/
import Derived.Test.YtpeikdbejafgbaaCoW20
set_option linter.unusedVariables false
set_option linter.unusedSimpArgs false
namespace Go.Proofs
open Go.SL Go.RowKit
set_option maxHeartbeats 1000000

theorem u8_self (b : UInt8) : UInt8.ofNat b.toNat = b := by simp
theorem once_gen : ∀ (l : List UInt8) (i n a k : Nat), n < 2 ^ (7 * i) → numR i n l = (a, k, 0) → ∃ q r, i < 10 ∧ a = n + q * 2 ^ (7 * i) ∧ l = numF (10 - i) q ++ r ∧ k = i + (numF (10 - i) q).length ∧ (0 < i → 0 < q) ∧ a < 18446744073709551616
  | [], i, n, a, k, hn, h => by simp [numR] at h
  | b :: l, i, n, a, k, hn, h => by
    by_cases h1 : 10 ≤ i ∨ (i = 9 ∧ 1 < b.toNat)
    · rw [numR_bad h1] at h; simp at h
    · obtain ⟨j, hj⟩ : ∃ j, 10 - i = j + 1 := ⟨9 - i, by omega⟩
      by_cases h2 : b.toNat < 128
      · by_cases h3 : b.toNat % 128 = 0 ∧ 0 < i
        · rw [numR_nil h1 h2 h3] at h; simp at h
        · rw [numR_end h1 h2 h3] at h
          simp only [Prod.mk.injEq, and_true] at h
          have hm : b.toNat % 128 = b.toNat := Nat.mod_eq_of_lt h2
          rw [hm] at h h3
          have hd := digit_lt (e := b.toNat) hn h2 (by omega) (by omega)
          refine ⟨b.toNat, l, by omega, h.1.symm, ?_, ?_, by omega, by omega⟩
          · rw [hj]; simp only [numF]; rw [if_pos h2, u8_self]; rfl
          · rw [hj]; simp only [numF]; rw [if_pos h2]; simp; omega
      · rw [numR_on h1 h2] at h
        have hb8 := b.toNat_lt
        have hd := digit_lt (e := b.toNat % 128) hn (Nat.mod_lt _ (by omega)) (by omega) (by omega)
        obtain ⟨q, r, hi, ha, hl, hk, hq, hlt⟩ := once_gen l (i + 1) _ a k hd.2.2 h
        have hq0 := hq (by omega)
        have hj' : 10 - (i + 1) = j := by omega
        rw [hj'] at hl hk
        have hdiv : (b.toNat % 128 + 128 * q) / 128 = q := by omega
        have hmod : (b.toNat % 128 + 128 * q) % 128 = b.toNat % 128 := by omega
        have hbig : ¬ b.toNat % 128 + 128 * q < 128 := by omega
        have hF : numF (10 - i) (b.toNat % 128 + 128 * q) = b :: numF j q := by
          rw [hj]; simp only [numF]
          rw [if_neg hbig, hdiv, hmod, show b.toNat % 128 + 128 = b.toNat by omega, u8_self]
        refine ⟨b.toNat % 128 + 128 * q, r, by omega, ?_, ?_, ?_, by omega, hlt⟩
        · rw [ha, show 7 * (i + 1) = 7 * i + 7 by omega, Nat.pow_add, Nat.add_mul, Nat.mul_comm 128 q, Nat.mul_assoc q 128, Nat.mul_comm 128 (2 ^ (7 * i)), show (2 : Nat) ^ 7 = 128 from rfl]
          omega
        · rw [hF, hl]; rfl
        · rw [hF, hk]; simp; omega
theorem once_dec {l : List UInt8} {a k : Nat} (h : numR 0 0 l = (a, k, 0)) : ∃ r, l = numB a ++ r ∧ k = (numB a).length ∧ a < 18446744073709551616 := by
  obtain ⟨q, r, _, ha, hl, hk, _, hlt⟩ := once_gen l 0 0 a k (by decide) h
  have : q = a := by rw [ha]; simp
  subst this
  exact ⟨r, hl, by rw [hk]; simp [numB], hlt⟩
theorem take_on {l b r : List UInt8} {at_ : Nat} (h : l.drop at_ = b ++ r) : l.take (at_ + b.length) = l.take at_ ++ b := by
  rw [List.take_add, h]; simp
theorem once_num {most at_ : Nat} {l : List UInt8} (h : (readN most l at_ 0).2.2 = 0) : l.take (readN most l at_ 0).2.1 = l.take at_ ++ numB (readN most l at_ 0).1 := by
  unfold readN at h ⊢
  rw [if_neg (by simp)] at h ⊢
  by_cases h1 : (lookN most (l.drop at_)).2.2 = 0
  · rw [if_pos h1]
    unfold lookN at h1 ⊢
    have h2 : (numR 0 0 (l.drop at_)).2.2 = 0 := by
      simp only at h1
      split at h1
      · simp at h1
      · exact h1
    obtain ⟨r, e1, e2, _⟩ := once_dec (l := l.drop at_) (a := (numR 0 0 (l.drop at_)).1) (k := (numR 0 0 (l.drop at_)).2.1) (by rw [← h2])
    simp only
    rw [e2]
    exact take_on e1
  · rw [if_neg h1] at h; exact absurd h h1
theorem once_tk {n at_ : Nat} {err : Int} {l : List UInt8} (h : (tkR n l at_ err).2.2 = 0) : err = 0 ∧ l.take (tkR n l at_ err).2.1 = l.take at_ ++ (tkR n l at_ err).1 ∧ (tkR n l at_ err).1.length = n := by
  unfold tkR at h ⊢
  by_cases h1 : err ≠ 0
  · rw [if_pos h1] at h; exact absurd h h1
  · rw [if_neg h1] at h ⊢
    by_cases h2 : n ≤ (l.drop at_).length
    · rw [if_pos h2]
      have h3 : ((l.drop at_).take n).length = n := by rw [List.length_take]; omega
      refine ⟨by simpa using h1, ?_, h3⟩
      simp only
      have := take_on (l := l) (at_ := at_) (b := (l.drop at_).take n) (r := (l.drop at_).drop n) (List.take_append_drop n _).symm
      rw [h3] at this
      exact this
    · rw [if_neg h2] at h; simp at h
theorem once_text {mo at_ : Nat} {l : List UInt8} (h : (textR mo l at_ 0).2.2 = 0) : l.take (textR mo l at_ 0).2.1 = l.take at_ ++ textB ⟨(textR mo l at_ 0).1.toArray⟩ := by
  unfold textR at h ⊢
  obtain ⟨h1, h2, h3⟩ := once_tk h
  rw [h2, once_num h1, List.append_assoc]
  have : (⟨(tkR (readN mo l at_ 0).1 l (readN mo l at_ 0).2.1 (readN mo l at_ 0).2.2).1.toArray⟩ : ByteArray).size = (readN mo l at_ 0).1 := by
    show (tkR (readN mo l at_ 0).1 l (readN mo l at_ 0).2.1 (readN mo l at_ 0).2.2).1.toArray.size = _
    simpa using h3
  unfold textB
  rw [this]
theorem once_hash {at_ : Nat} {err : Int} {l : List UInt8} (h : (hashR l at_ err).2.2 = 0) : err = 0 ∧ l.take (hashR l at_ err).2.1 = l.take at_ ++ (hashR l at_ err).1 := by
  unfold hashR at h ⊢
  obtain ⟨h1, h2, h3⟩ := once_tk h
  exact ⟨h1, by simp only; rw [h2, pad_self h3]⟩
theorem once_form {most at_ : Nat} {l : List UInt8} (h : (formN most l at_ 0).2.2 = 0) : l.take (formN most l at_ 0).2.1 = l.take at_ ++ numB (formN most l at_ 0).1 := by
  unfold formN at h ⊢
  apply once_num
  simp only at h
  split at h
  · simp at h
  · exact h
theorem comp_foldl : ∀ (r : List UInt8) (y : Nat), r.foldl (fun c x => 256 * c + x.toNat) y = y * 256 ^ r.length + comp r ∧ comp r < 256 ^ r.length
  | [], y => by simp [comp]
  | x :: r, y => by
    have h1 := comp_foldl r (256 * y + x.toNat)
    have h2 := comp_foldl r (256 * 0 + x.toNat)
    have hx := x.toNat_lt
    unfold comp at h1 h2 ⊢
    simp only [List.foldl_cons, List.length_cons, Nat.pow_succ]
    rw [h1.1, h2.1]
    generalize List.foldl (fun c x => 256 * c + x.toNat) 0 r = s at *
    have hs := h1.2
    generalize 256 ^ r.length = p at *
    rw [Nat.add_mul, Nat.add_mul, Nat.mul_comm 256 y, Nat.mul_assoc, Nat.mul_comm 256 p]
    have h3 : x.toNat * p ≤ 255 * p := Nat.mul_le_mul_right _ (by omega)
    refine ⟨by simp; omega, by simp; omega⟩
theorem beB_foldl : ∀ (r : List UInt8) (y : Nat), beB (r.foldl (fun c x => 256 * c + x.toNat) y) r.length = r
  | [], y => rfl
  | x :: r, y => by
    have h1 := comp_foldl r (256 * y + x.toNat)
    have ih := beB_foldl r (256 * y + x.toNat)
    simp only [List.foldl_cons, List.length_cons, beB]
    rw [ih]
    congr 1
    rw [h1.1, Nat.pow_mul, show (2 : Nat) ^ 8 = 256 from rfl]
    have hp : 0 < 256 ^ r.length := Nat.pow_pos (by decide)
    have hs := h1.2
    rw [Nat.mul_comm, Nat.mul_add_div hp, Nat.div_eq_of_lt hs]
    apply UInt8.toNat_inj.1
    have hx := x.toNat_lt
    simp
theorem once_label {at_ : Nat} {l : List UInt8} (h : (labelR l at_ 0).2.2 = 0) : l.take (labelR l at_ 0).2.1 = l.take at_ ++ labelB ((labelR l at_ 0).1.1 : Int) (labelR l at_ 0).1.2 := by
  unfold labelR at h ⊢
  simp only at h ⊢
  obtain ⟨h1, h2, h3⟩ := once_tk h
  have hf := (readN_le (most := 15) (l := l) (at_ := at_) (err := 0))
  rw [h2, once_form h1, if_pos h, List.append_assoc]
  simp only [labelB]
  have hu : uOf ((formN 15 l at_ 0).1 : Int) = (formN 15 l at_ 0).1 := by
    have : (formN 15 l at_ 0).1 ≤ 15 := by
      unfold formN readN at *
      simp only at *
      split
      · simp
      · split
        · rename_i h5 h6
          unfold lookN at h6 ⊢
          simp only at h6 ⊢
          split at h6
          · simp at h6
          · rename_i h7; omega
        · simp
    unfold uOf; omega
  rw [hu]
  have := beB_foldl (tkR 8 l (formN 15 l at_ 0).2.1 (formN 15 l at_ 0).2.2).1 0
  rw [h3] at this
  unfold comp
  rw [this]
theorem once_vertex {at_ : Nat} {l : List UInt8} (h : (vertexR l at_ 0).2.2 = 0) : l.take (vertexR l at_ 0).2.1 = l.take at_ ++ vertexB (vertexR l at_ 0).1.1 (vertexR l at_ 0).1.2 := by
  unfold vertexR at h ⊢
  simp only at h ⊢
  have h0 : (hashR l at_ 0).2.2 = 0 := by
    by_cases he : (hashR l at_ 0).2.2 = 0
    · exact he
    · unfold formN readN at h
      rw [if_pos he] at h
      simp only at h
      rw [if_neg (fun x => he x.1)] at h
      exact h
  obtain ⟨_, h2⟩ := once_hash h0
  rw [if_pos h]
  rw [h0] at h ⊢
  rw [once_form h, h2, List.append_assoc]
  simp only [vertexB]
  have hu : uOf (((formN 4294967296 l (hashR l at_ 0).2.1 0).1 : Int) - 2 + 2) = (formN 4294967296 l (hashR l at_ 0).2.1 0).1 := by
    have : (formN 4294967296 l (hashR l at_ 0).2.1 0).1 ≤ 4294967296 := by
      unfold formN readN at *
      simp only at *
      split
      · simp
      · split
        · rename_i h5 h6
          unfold lookN at h6 ⊢
          simp only at h6 ⊢
          split at h6
          · simp at h6
          · rename_i h7; omega
        · simp
    unfold uOf; omega
  rw [hu]

end Go.Proofs
