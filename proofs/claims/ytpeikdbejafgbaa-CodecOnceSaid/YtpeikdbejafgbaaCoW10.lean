/- Walks and plain facts for the laws of this seat: what each function answers, for every input. -/
import Derived.Test.YtpeikdbejafgbaaCoW9
set_option linter.unusedVariables false
set_option linter.unusedSimpArgs false
namespace Go.Proofs
open Go.SL Go.RowKit
set_option maxHeartbeats 1000000

theorem dec_gen (f : Nat) : ∀ (i n a : Nat) (r : List UInt8), a < 128 ^ f → 0 < f → a * 2 ^ (7 * i) < 18446744073709551616 → (0 < i → 0 < a) → numR i n (numF f a ++ r) = (n + a * 2 ^ (7 * i), i + (numF f a).length, 0) := by
  induction f with
  | zero => intro i n a r _ h; omega
  | succ f ih =>
    intro i n a r hf _ hlt hpos
    have hi9 : ∀ q : Nat, 0 < a → q ≤ i → 2 ^ (7 * q) < 18446744073709551616 := fun q ha hq => by
      have h1 : (2 : Nat) ^ (7 * q) ≤ 2 ^ (7 * i) := Nat.pow_le_pow_right (by omega) (by omega)
      have h2 : 2 ^ (7 * i) ≤ a * 2 ^ (7 * i) := Nat.le_mul_of_pos_left _ ha
      omega
    have hi : i ≤ 9 := by
      rcases Nat.lt_or_ge 9 i with h | h
      · exfalso
        have := hi9 10 (hpos (by omega)) h
        have e : (2 : Nat) ^ (7 * 10) = 1180591620717411303424 := rfl
        omega
      · exact h
    simp only [numF]
    by_cases ha : a < 128
    · rw [if_pos ha]
      have hb : (UInt8.ofNat a).toNat = a := by simp; omega
      have h9 : i = 9 → a ≤ 1 := fun h => by
        subst h
        have e : (2 : Nat) ^ (7 * 9) = 9223372036854775808 := rfl
        rw [e] at hlt; omega
      rw [List.singleton_append, numR_end (by rw [hb]; omega) (by rw [hb]; exact ha) (by rw [hb]; omega), hb, Nat.mod_eq_of_lt ha]
      simp
    · rw [if_neg ha]
      have hb : (UInt8.ofNat (a % 128 + 128)).toNat = a % 128 + 128 := by simp; omega
      have hp : 2 ^ (7 * (i + 1)) = 128 * 2 ^ (7 * i) := by rw [show 7 * (i + 1) = 7 * i + 7 by omega, Nat.pow_add, Nat.mul_comm]
      have hsum : a % 128 * 2 ^ (7 * i) + a / 128 * 2 ^ (7 * (i + 1)) = a * 2 ^ (7 * i) := by
        rw [hp, ← Nat.mul_assoc, ← Nat.add_mul]
        congr 1
        have := Nat.div_add_mod a 128
        omega
      have hi8 : i < 9 := by
        rcases Nat.lt_or_ge i 9 with h | h
        · exact h
        · exfalso
          obtain rfl : i = 9 := by omega
          have e : (2 : Nat) ^ (7 * 9) = 9223372036854775808 := rfl
          rw [e] at hlt; omega
      rw [List.cons_append, numR_on (by rw [hb]; omega) (by rw [hb]; omega), hb]
      have hm : (a % 128 + 128) % 128 = a % 128 := by omega
      rw [hm]
      have hf' : a / 128 < 128 ^ f := Nat.div_lt_of_lt_mul (by rw [Nat.pow_succ, Nat.mul_comm] at hf; exact hf)
      have hq : 0 < a / 128 := Nat.div_pos (by omega) (by omega)
      have f1 : 0 < f := Nat.pos_of_ne_zero fun e => by subst e; simp at hf'; omega
      rw [ih (i + 1) _ (a / 128) r hf' f1 (by omega) (fun _ => hq)]
      simp only [List.length_cons, Prod.mk.injEq, and_true]
      exact ⟨by omega, by omega⟩
theorem dec_num {a : Nat} (h : a < 18446744073709551616) (r : List UInt8) : numR 0 0 (numB a ++ r) = (a, (numB a).length, 0) := by
  have := dec_gen 10 0 0 a r (Nat.lt_of_lt_of_le h (by decide)) (by omega) (by simpa using h) (by omega)
  simpa [numB] using this
/-- one begins the other one -/
def Begins (x y : List UInt8) : Prop := x.take (min x.length y.length) = y.take (min x.length y.length)
theorem Begins.split {x y : List UInt8} (h : Begins x y) : (∃ r, y = x ++ r) ∨ ∃ r, x = y ++ r := by
  unfold Begins at h
  rcases Nat.le_total x.length y.length with hl | hl
  · rw [Nat.min_eq_left hl, List.take_length] at h
    exact .inl ⟨y.drop x.length, by conv => lhs; rw [← List.take_append_drop x.length y, ← h]⟩
  · rw [Nat.min_eq_right hl, List.take_length] at h
    exact .inr ⟨x.drop y.length, by conv => lhs; rw [← List.take_append_drop y.length x, h]⟩
theorem num_apart {a b : Nat} (ha : a < 18446744073709551616) (hb : b < 18446744073709551616) (r s : List UInt8) (h : Begins (numB a ++ r) (numB b ++ s)) : a = b := by
  rcases h.split with ⟨t, e⟩ | ⟨t, e⟩
  · have h1 := dec_num ha (r ++ t)
    have h2 := dec_num hb s
    rw [e, List.append_assoc, h1] at h2
    exact congrArg Prod.fst h2
  · have h1 := dec_num hb (s ++ t)
    have h2 := dec_num ha r
    rw [e, List.append_assoc, h1] at h2
    exact (congrArg Prod.fst h2).symm
theorem Begins.same (x : List UInt8) : Begins x x := rfl
theorem Begins.cancel {p x y : List UInt8} (h : Begins (p ++ x) (p ++ y)) : Begins x y := by
  rcases h.split with ⟨t, e⟩ | ⟨t, e⟩
  · rw [List.append_assoc] at e
    have := List.append_cancel_left e
    subst this
    unfold Begins; simp
  · rw [List.append_assoc] at e
    have := List.append_cancel_left e
    subst this
    unfold Begins; simp
theorem Begins.eq {x y : List UInt8} (h : Begins x y) (hl : x.length = y.length) : x = y := by
  unfold Begins at h
  rwa [hl, Nat.min_self, List.take_length, ← hl, List.take_length] at h
theorem text_apart {s t : ByteArray} (hs : s.size < 18446744073709551616) (ht : t.size < 18446744073709551616) (h : Begins (textB s) (textB t)) : s = t := by
  have he : s.size = t.size := num_apart hs ht _ _ h
  unfold textB at h
  rw [he] at h
  have := (Begins.cancel h).eq (by simpa using he)
  have h2 : s.data = t.data := Array.toList_inj.1 this
  cases s; cases t; simp at h2; rw [h2]
theorem beB_inj {c e : Nat} (k : Nat) (h : beB c k = beB e k) : c % 2 ^ (8 * k) = e % 2 ^ (8 * k) := by
  induction k with
  | zero => simp [Nat.mod_one]
  | succ k ih =>
    simp only [beB, List.cons.injEq] at h
    have h1 := ih h.2
    have h2 : c / 2 ^ (8 * k) % 256 = e / 2 ^ (8 * k) % 256 := by
      have := congrArg UInt8.toNat h.1
      simpa using this
    have hp : (2 : Nat) ^ (8 * (k + 1)) = 2 ^ (8 * k) * 256 := by rw [show 8 * (k + 1) = 8 * k + 8 by omega, Nat.pow_add]
    rw [hp, Nat.mod_mul, Nat.mod_mul, h1, h2]
theorem label_apart {lv lw : Int} {c e : Nat} (hc : c < 18446744073709551616) (he : e < 18446744073709551616) (h : Begins (labelB lv c) (labelB lw e)) : uOf lv = uOf lw ∧ c = e := by
  have h1 : uOf lv = uOf lw := num_apart (uOf_lt lv) (uOf_lt lw) _ _ h
  refine ⟨h1, ?_⟩
  unfold labelB at h
  rw [h1] at h
  have := beB_inj 8 ((Begins.cancel h).eq (by rw [beB_len, beB_len]))
  have e2 : (2 : Nat) ^ (8 * 8) = 18446744073709551616 := rfl
  rw [e2, Nat.mod_eq_of_lt hc, Nat.mod_eq_of_lt he] at this
  exact this

end Go.Proofs
