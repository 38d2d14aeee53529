/- Walks and plain facts for the laws of this seat: what each function answers, for every input. -/
import Derived.Test.YtefefmogjmimdaaSl8
import Derived.Test.YtefefmogjmimdaaMyW12
set_option linter.unusedVariables false
set_option linter.unusedSimpArgs false
namespace Go.Proofs
open Go.SL Go.RowKit

open Go.MyPlain
set_option maxHeartbeats 1000000
section
variable {α : Type} [DecidableEq α]
theorem lcs_drop' {X Y : List α} {i j : Nat} (hi : i < X.length) (hj : j < Y.length) : lcs (X.drop i) (Y.drop j) = if X[i] = Y[j] then lcs (X.drop (i + 1)) (Y.drop (j + 1)) + 1 else max (lcs (X.drop (i + 1)) (Y.drop j)) (lcs (X.drop i) (Y.drop (j + 1))) := by
  have e1 : X.drop i = X[i] :: X.drop (i + 1) := List.drop_eq_getElem_cons hi
  have e2 : Y.drop j = Y[j] :: Y.drop (j + 1) := List.drop_eq_getElem_cons hj
  rw [e1, e2, lcs_cons]
theorem rest_induct {X Y : List α} {P : Nat → Nat → List (Int × Int × Int) → Prop} (hend : P X.length Y.length [])
    (hkeep : ∀ i j r (hi : i < X.length) (hj : j < Y.length), X[i] = Y[j] → P (i + 1) (j + 1) r → P i j ((0, (i : Int), (j : Int)) :: r))
    (hgone : ∀ i j r (hi : i < X.length), j ≤ Y.length → (∀ h : j < Y.length, ¬ X[i] = Y[j] ∧ lcs (X.drop i) (Y.drop (j + 1)) ≤ lcs (X.drop (i + 1)) (Y.drop j)) → P (i + 1) j r → P i j ((1, (i : Int), 0) :: r))
    (hnew : ∀ i j r, i ≤ X.length → ∀ (hj : j < Y.length), (∀ h : i < X.length, ¬ X[i] = Y[j] ∧ ¬ lcs (X.drop i) (Y.drop (j + 1)) ≤ lcs (X.drop (i + 1)) (Y.drop j)) → P i (j + 1) r → P i j ((2, 0, (j : Int)) :: r)) :
    ∀ m i j, i ≤ X.length → j ≤ Y.length → (X.length - i) + (Y.length - j) = m → P i j (rest X Y i j) := by
  intro m
  induction m using Nat.strongRecOn with
  | _ m ih =>
    intro i j hi hj hm
    by_cases h1 : i < X.length
    · by_cases h2 : j < Y.length
      · by_cases he : X[i] = Y[j]
        · rw [rest_keep h1 h2 he]; exact hkeep i j _ h1 h2 he (ih _ (by omega) (i + 1) (j + 1) (by omega) (by omega) rfl)
        · by_cases hl : lcs (X.drop i) (Y.drop (j + 1)) ≤ lcs (X.drop (i + 1)) (Y.drop j)
          · rw [rest_gone h1 hj (fun _ => ⟨he, hl⟩)]; exact hgone i j _ h1 hj (fun _ => ⟨he, hl⟩) (ih _ (by omega) (i + 1) j (by omega) hj rfl)
          · rw [rest_new hi h2 (fun _ => ⟨he, hl⟩)]; exact hnew i j _ hi h2 (fun _ => ⟨he, hl⟩) (ih _ (by omega) i (j + 1) hi (by omega) rfl)
      · rw [rest_gone h1 hj (fun h => absurd h h2)]; exact hgone i j _ h1 hj (fun h => absurd h h2) (ih _ (by omega) (i + 1) j (by omega) hj rfl)
    · by_cases h2 : j < Y.length
      · rw [rest_new hi h2 (fun h => absurd h h1)]; exact hnew i j _ hi h2 (fun h => absurd h h1) (ih _ (by omega) i (j + 1) hi (by omega) rfl)
      · obtain rfl : i = X.length := by omega
        obtain rfl : j = Y.length := by omega
        rw [rest_end rfl rfl]; exact hend
theorem keptF_cons (s : Int × Int × Int) (r : List (Int × Int × Int)) : keptF (s :: r) = keptF r + if s.1 = 0 then 1 else 0 := by
  unfold keptF
  by_cases e : s.1 = 0 <;> simp [List.filter_cons, e]
theorem rest_kept (X Y : List α) (i j : Nat) (hi : i ≤ X.length) (hj : j ≤ Y.length) : keptF (rest X Y i j) = lcs (X.drop i) (Y.drop j) ∧ (rest X Y i j).length + lcs (X.drop i) (Y.drop j) = (X.length - i) + (Y.length - j) := by
  refine rest_induct (X := X) (Y := Y) (P := fun i j r => keptF r = lcs (X.drop i) (Y.drop j) ∧ r.length + lcs (X.drop i) (Y.drop j) = (X.length - i) + (Y.length - j)) ?_ ?_ ?_ ?_ _ i j hi hj rfl
  · simp [keptF, lcs_nil_left]
  · rintro i j r hi hj he ⟨h1, h2⟩
    rw [keptF_cons, lcs_drop' hi hj, if_pos he, if_pos rfl]
    simp only [List.length_cons]
    omega
  · rintro i j r hi hj he ⟨h1, h2⟩
    rw [keptF_cons, if_neg (by simp)]
    simp only [List.length_cons]
    by_cases hj2 : j < Y.length
    · obtain ⟨h3, h4⟩ := he hj2
      rw [lcs_drop' hi hj2, if_neg h3]
      omega
    · rw [List.drop_eq_nil_of_le (by omega : Y.length ≤ j), lcs_nil_right] at *
      omega
  · rintro i j r hi hj he ⟨h1, h2⟩
    rw [keptF_cons, if_neg (by simp)]
    simp only [List.length_cons]
    by_cases hi2 : i < X.length
    · obtain ⟨h3, h4⟩ := he hi2
      rw [lcs_drop' hi2 hj, if_neg h3]
      omega
    · rw [List.drop_eq_nil_of_le (by omega : X.length ≤ i), lcs_nil_left] at *
      omega
end
theorem scr_kept (X Y : List ByteArray) : keptF (scr X Y) = lcs X Y ∧ (scr X Y).length + lcs X Y = X.length + Y.length := by
  have := rest_kept X Y 0 0 (by omega) (by omega)
  rw [rest_zero] at this
  simpa using this
theorem rest_play (X Y : List ByteArray) (i j : Nat) (hi : i ≤ X.length) (hj : j ≤ Y.length) : ∀ o, (rest X Y i j).foldlM (stepF X Y) (i, j, o) = some (X.length, Y.length, o ++ Y.drop j) := by
  refine rest_induct (X := X) (Y := Y) (P := fun i j r => ∀ o, r.foldlM (stepF X Y) (i, j, o) = some (X.length, Y.length, o ++ Y.drop j)) ?_ ?_ ?_ ?_ _ i j hi hj rfl
  · intro o; simp [pure]
  · intro i j r hi hj he h o
    rw [List.foldlM_cons, stepF_keep rfl hi hj rfl rfl he]
    simp only [bind, Option.bind]
    rw [h, List.drop_eq_getElem_cons hj, List.append_assoc]
    rfl
  · intro i j r hi hj he h o
    rw [List.foldlM_cons, stepF_gone rfl hi rfl rfl]
    simp only [bind, Option.bind]
    rw [h]
  · intro i j r hi hj he h o
    rw [List.foldlM_cons, stepF_new rfl hj rfl rfl]
    simp only [bind, Option.bind]
    rw [h, List.drop_eq_getElem_cons hj, List.append_assoc]
    rfl
theorem scr_play (X Y : List ByteArray) : playF X Y (scr X Y) = some Y := by
  have h := rest_play X Y 0 0 (by omega) (by omega) []
  rw [rest_zero] at h
  unfold playF foldP
  rw [h]
  simp
/-- what a script leaves of the first list, what it makes of the second -/
def leftA (X : List ByteArray) (l : List (Int × Int × Int)) : List ByteArray := l.flatMap fun s => if s.1 = 2 then [] else (X[s.2.1.toNat]?).toList
def leftB (Y : List ByteArray) (l : List (Int × Int × Int)) : List ByteArray := l.flatMap fun s => if s.1 = 1 then [] else (Y[s.2.2.toNat]?).toList
theorem rest_left (X Y : List ByteArray) (i j : Nat) (hi : i ≤ X.length) (hj : j ≤ Y.length) : leftA X (rest X Y i j) = X.drop i ∧ leftB Y (rest X Y i j) = Y.drop j ∧ ∀ s ∈ rest X Y i j, (s.1 ≠ 2 → 0 ≤ s.2.1 ∧ s.2.1 < X.length) ∧ (s.1 ≠ 1 → 0 ≤ s.2.2 ∧ s.2.2 < Y.length) := by
  refine rest_induct (X := X) (Y := Y) (P := fun i j r => leftA X r = X.drop i ∧ leftB Y r = Y.drop j ∧ ∀ s ∈ r, (s.1 ≠ 2 → 0 ≤ s.2.1 ∧ s.2.1 < X.length) ∧ (s.1 ≠ 1 → 0 ≤ s.2.2 ∧ s.2.2 < Y.length)) ?_ ?_ ?_ ?_ _ i j hi hj rfl
  · simp [leftA, leftB]
  · rintro i j r hi hj he ⟨h1, h2, h3⟩
    refine ⟨?_, ?_, ?_⟩
    · unfold leftA at *; rw [List.flatMap_cons, h1, List.drop_eq_getElem_cons hi]; simp [hi]
    · unfold leftB at *; rw [List.flatMap_cons, h2, List.drop_eq_getElem_cons hj]; simp [hj]
    · intro s hs
      rcases List.mem_cons.1 hs with rfl | hs
      · exact ⟨fun _ => by simp; omega, fun _ => by simp; omega⟩
      · exact h3 s hs
  · rintro i j r hi hj he ⟨h1, h2, h3⟩
    refine ⟨?_, ?_, ?_⟩
    · unfold leftA at *; rw [List.flatMap_cons, h1, List.drop_eq_getElem_cons hi]; simp [hi]
    · unfold leftB at *; rw [List.flatMap_cons, h2]; simp
    · intro s hs
      rcases List.mem_cons.1 hs with rfl | hs
      · exact ⟨fun _ => by simp; omega, fun h => absurd rfl h⟩
      · exact h3 s hs
  · rintro i j r hi hj he ⟨h1, h2, h3⟩
    refine ⟨?_, ?_, ?_⟩
    · unfold leftA at *; rw [List.flatMap_cons, h1]; simp
    · unfold leftB at *; rw [List.flatMap_cons, h2, List.drop_eq_getElem_cons hj]; simp [hj]
    · intro s hs
      rcases List.mem_cons.1 hs with rfl | hs
      · exact ⟨fun h => absurd rfl h, fun _ => by simp; omega⟩
      · exact h3 s hs
theorem scr_left (X Y : List ByteArray) : leftA X (scr X Y) = X ∧ leftB Y (scr X Y) = Y ∧ ∀ s ∈ scr X Y, (s.1 ≠ 2 → 0 ≤ s.2.1 ∧ s.2.1 < X.length) ∧ (s.1 ≠ 1 → 0 ≤ s.2.2 ∧ s.2.2 < Y.length) := by
  have h := rest_left X Y 0 0 (by omega) (by omega)
  rw [rest_zero] at h
  simpa using h

end Go.Proofs
