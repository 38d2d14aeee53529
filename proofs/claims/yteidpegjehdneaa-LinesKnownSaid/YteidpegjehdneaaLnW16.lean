/- Walks and plain facts for the laws of this seat: what each function answers, for every input. -/
import Derived.Test.YteidpegjehdneaaLnW15
set_option linter.unusedVariables false
set_option linter.unusedSimpArgs false
namespace Go.Proofs
open Go.SL Go.RowKit
set_option maxHeartbeats 1000000

theorem spl_join : ∀ (l : List UInt8) (ls : List ByteArray), splB l = some ls → joinL ls = l ∧ ls.length = l.count 10
  | [], ls, h => by obtain rfl : [] = ls := by simpa [splB] using h
                    simp [joinL]
  | b :: r, ls, h => by
    simp only [splB] at h
    split at h
    · rename_i hb
      obtain ⟨ls', h1, rfl⟩ := Option.map_eq_some_iff.1 h
      obtain ⟨h2, h3⟩ := spl_join r ls' h1
      refine ⟨?_, by simp [h3, hb]⟩
      show ([] : List UInt8) ++ [10] ++ joinL ls' = b :: r
      rw [h2, hb]; rfl
    · rename_i hb
      split at h
      · rename_i x xs h1
        obtain rfl := Option.some.inj h
        obtain ⟨h2, h3⟩ := spl_join r _ h1
        refine ⟨?_, ?_⟩
        · rw [← h2]
          simp [joinL]
        · rw [List.count_cons_of_ne (fun e => hb e), ← h3]; simp
      · cases h
theorem spl_of_join : ∀ (ls : List ByteArray), (∀ s ∈ ls, ∀ b ∈ s.data.toList, b ≠ 10) → splB (joinL ls) = some ls
  | [], _ => rfl
  | x :: ls, h => by
    have e : joinL (x :: ls) = x.data.toList ++ 10 :: joinL ls := by simp [joinL]
    rw [e, spl_cut _ _ (h x (by simp)), spl_of_join ls (fun s hs => h s (by simp [hs]))]
    rfl
theorem isP_no {s : ByteArray} (h : isP s = true) : plainP s = true ∧ ∀ b ∈ s.data.toList, b ≠ 10 := by
  unfold isP at h
  simp only [Bool.and_eq_true] at h
  refine ⟨h.1, fun b hb e => ?_⟩
  have h2 := h.1
  unfold plainP at h2
  simp only [Bool.and_eq_true, List.all_eq_true] at h2
  have := h2.1 b hb
  subst e
  revert this; decide
theorem check_all {ls : List ByteArray} (h : checkP ls = 0) : ∀ s ∈ ls, isP s = true := by
  intro s hs
  unfold checkP at h
  split at h
  · cases h
  · split at h
    · cases h
    · rename_i h2
      rw [any_not] at h2
      simp only [Bool.not_eq_true, Bool.not_eq_false', List.all_eq_true] at h2
      exact h2 s hs
theorem sp_back {ls : List ByteArray} (h : checkP ls = 0) : splP ⟨(joinL ls).toArray⟩ = (ls, 0) := by
  have h1 := spl_of_join ls (fun s hs => (isP_no (check_all h s hs)).2)
  have e : (⟨(joinL ls).toArray⟩ : ByteArray).data.toList = joinL ls := rfl
  unfold splP fine lst
  rw [e, h1]
  simp [h]
theorem sp_ok {tb : ByteArray} (h : (splP tb).2 = 0) : (splP tb).1 = lst tb ∧ joinL (lst tb) = tb.data.toList ∧ (lst tb).length = tb.data.toList.count 10 ∧ (toldP tb).2 = 0 := by
  unfold splP at h ⊢
  by_cases h1 : fine tb = false
  · rw [if_pos h1] at h; cases h
  · rw [if_neg h1] at h ⊢
    by_cases h2 : checkP (lst tb) ≠ 0
    · rw [if_pos h2] at h; exact absurd h h2
    · rw [if_neg h2]
      have h3 : checkP (lst tb) = 0 := by simpa using h2
      have h4 : splB tb.data.toList = some (lst tb) := by
        unfold fine at h1
        unfold lst
        cases hs : splB tb.data.toList <;> simp_all
      obtain ⟨h5, h6⟩ := spl_join _ _ h4
      refine ⟨rfl, h5, h6, ?_⟩
      unfold toldP
      rw [if_neg]
      simp only [not_or, Bool.not_eq_true]
      refine ⟨by simpa using h1, ?_⟩
      rw [any_not]
      simp only [Bool.not_eq_false', List.all_eq_true]
      exact fun s hs => (isP_no (check_all h3 s hs)).1
theorem told_ok {tb : ByteArray} (h : (toldP tb).2 = 0) : (toldP tb).1 = lst tb ∧ joinL (lst tb) = tb.data.toList ∧ (lst tb).length = tb.data.toList.count 10 := by
  unfold toldP at h ⊢
  split at h
  · cases h
  · rename_i h1
    rw [if_neg h1]
    simp only [not_or, Bool.not_eq_true] at h1
    have h4 : splB tb.data.toList = some (lst tb) := by
      have h2 := h1.1
      unfold fine at h2
      unfold lst
      cases hs : splB tb.data.toList <;> simp_all
    exact ⟨rfl, spl_join _ _ h4⟩
theorem ba_eta (s : ByteArray) : (⟨s.data.toList.toArray⟩ : ByteArray) = s := by cases s; simp

end Go.Proofs
