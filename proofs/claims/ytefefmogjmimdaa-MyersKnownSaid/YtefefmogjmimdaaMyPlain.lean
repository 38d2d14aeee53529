/- Scripts for two lists: the longest common part row by row, the script that is meant; plain lists, no program. -/
namespace Go.MyPlain
section
variable {α : Type} [DecidableEq α]

def nextRow (x : α) : List α → List Nat → List Nat
  | y :: ys, p :: ps => let r := nextRow x ys ps; (if x = y then ps.headD 0 + 1 else max p (r.headD 0)) :: r
  | _, _ => [0]
def row : List α → List α → List Nat
  | [], ys => ys.map (fun _ => 0) ++ [0]
  | x :: xs, ys => nextRow x ys (row xs ys)
/-- how many texts two lists have in common, in order, at the most -/
def lcs (xs ys : List α) : Nat := (row xs ys).headD 0

theorem row_cons (xs : List α) (y : α) (ys : List α) : row xs (y :: ys) = lcs xs (y :: ys) :: row xs ys := by
  induction xs with
  | nil => simp [row, lcs]
  | cons x xs ih =>
    have h : row (x :: xs) (y :: ys) = nextRow x (y :: ys) (row xs (y :: ys)) := rfl
    rw [h]
    rw [ih]
    simp only [nextRow, lcs]
    rw [h, ih]
    simp only [nextRow, lcs, List.headD_cons]
    simp [row]
theorem row_nil (xs : List α) : row xs [] = [0] := by
  induction xs with
  | nil => rfl
  | cons x xs ih => simp [row, nextRow]
theorem lcs_nil_left (ys : List α) : lcs [] ys = 0 := by cases ys <;> simp [lcs, row]
theorem lcs_nil_right (xs : List α) : lcs xs [] = 0 := by simp [lcs, row_nil]
theorem lcs_cons (x : α) (xs : List α) (y : α) (ys : List α) : lcs (x :: xs) (y :: ys) = if x = y then lcs xs ys + 1 else max (lcs xs (y :: ys)) (lcs (x :: xs) ys) := by
  have h : row (x :: xs) (y :: ys) = nextRow x (y :: ys) (row xs (y :: ys)) := rfl
  unfold lcs
  rw [h, row_cons xs y ys]
  simp only [nextRow, List.headD_cons]
  rfl
theorem lcs_mono (xs ys : List α) : (∀ x, lcs xs ys ≤ lcs (x :: xs) ys ∧ lcs (x :: xs) ys ≤ lcs xs ys + 1) ∧ (∀ y, lcs xs ys ≤ lcs xs (y :: ys) ∧ lcs xs (y :: ys) ≤ lcs xs ys + 1) := by
  have main : ∀ n (xs ys : List α), xs.length + ys.length = n → (∀ x, lcs xs ys ≤ lcs (x :: xs) ys ∧ lcs (x :: xs) ys ≤ lcs xs ys + 1) ∧ (∀ y, lcs xs ys ≤ lcs xs (y :: ys) ∧ lcs xs (y :: ys) ≤ lcs xs ys + 1) := by
    intro n
    induction n using Nat.strongRecOn with
    | _ n ih =>
      intro xs ys hn
      constructor
      · intro x
        cases ys with
        | nil => simp [lcs_nil_right]
        | cons y ys =>
          rw [lcs_cons]
          have h1 := (ih (xs.length + ys.length) (by simp at hn; omega) xs ys rfl).2 y
          have h2 := (ih (xs.length + ys.length) (by simp at hn; omega) xs ys rfl).1 x
          split <;> omega
      · intro y
        cases xs with
        | nil => simp [lcs_nil_left]
        | cons x xs =>
          rw [lcs_cons]
          have h1 := (ih (xs.length + ys.length) (by simp at hn; omega) xs ys rfl).1 x
          have h2 := (ih (xs.length + ys.length) (by simp at hn; omega) xs ys rfl).2 y
          split <;> omega
  exact main _ xs ys rfl
/-- the document's table: the most of three -/
theorem lcs_ref (x : α) (xs : List α) (y : α) (ys : List α) : lcs (x :: xs) (y :: ys) =
    (let m := if lcs (x :: xs) ys > lcs xs (y :: ys) then lcs (x :: xs) ys else lcs xs (y :: ys); if x = y ∧ lcs xs ys + 1 > m then lcs xs ys + 1 else m) := by
  have h1 := (lcs_mono xs ys).1 x
  have h2 := (lcs_mono xs ys).2 y
  rw [lcs_cons]
  by_cases e : x = y
  · simp only [e, true_and, if_true]
    subst e
    split <;> split <;> omega
  · simp only [e, false_and, if_false]
    split <;> omega
theorem lcs_le (xs ys : List α) : lcs xs ys ≤ xs.length := by
  induction xs with
  | nil => simp [lcs_nil_left]
  | cons x xs ih => have := ((lcs_mono xs ys).1 x).2; simp; omega

/-- the script that is meant -/
def scrF : Nat → Nat → Nat → List α → List α → List (Int × Int × Int)
  | 0, _, _, _, _ => []
  | f + 1, i, j, x :: xs, y :: ys =>
    if x = y then (0, i, j) :: scrF f (i + 1) (j + 1) xs ys
    else if lcs (x :: xs) ys ≤ lcs xs (y :: ys) then (1, i, 0) :: scrF f (i + 1) j xs (y :: ys)
    else (2, 0, j) :: scrF f i (j + 1) (x :: xs) ys
  | f + 1, i, j, _ :: xs, [] => (1, i, 0) :: scrF f (i + 1) j xs []
  | f + 1, i, j, [], _ :: ys => (2, 0, j) :: scrF f i (j + 1) [] ys
  | _ + 1, _, _, [], [] => []
def scr (xs ys : List α) : List (Int × Int × Int) := scrF (xs.length + ys.length) 0 0 xs ys
theorem scrF_length (f i j : Nat) (xs ys : List α) : (scrF f i j xs ys).length ≤ f := by
  induction f generalizing i j xs ys with
  | zero => simp [scrF]
  | succ f ih =>
    cases xs with
    | nil => cases ys with
      | nil => simp [scrF]
      | cons y ys => simp [scrF]; exact ih ..
    | cons x xs => cases ys with
      | nil => simp [scrF]; exact ih ..
      | cons y ys =>
        simp only [scrF]
        split
        · simp; exact ih ..
        · split <;> (simp; exact ih ..)
theorem scr_length (xs ys : List α) : (scr xs ys).length ≤ xs.length + ys.length := scrF_length ..
/-- more fuel gives no more -/
theorem scrF_fuel (f g i j : Nat) (xs ys : List α) (hf : xs.length + ys.length ≤ f) (hg : xs.length + ys.length ≤ g) : scrF f i j xs ys = scrF g i j xs ys := by
  induction f generalizing g i j xs ys with
  | zero =>
    have h1 : xs = [] := List.eq_nil_of_length_eq_zero (by omega)
    have h2 : ys = [] := List.eq_nil_of_length_eq_zero (by omega)
    subst h1; subst h2
    cases g <;> simp [scrF]
  | succ f ih =>
    cases g with
    | zero =>
      have h1 : xs = [] := List.eq_nil_of_length_eq_zero (by omega)
      have h2 : ys = [] := List.eq_nil_of_length_eq_zero (by omega)
      subst h1; subst h2
      simp [scrF]
    | succ g =>
      cases xs with
      | nil => cases ys with
        | nil => simp [scrF]
        | cons y ys => simp only [scrF]; rw [ih]; all_goals simp at *; omega
      | cons x xs => cases ys with
        | nil => simp only [scrF]; rw [ih]; all_goals simp at *; omega
        | cons y ys =>
          simp only [scrF]
          rw [ih g (i + 1) (j + 1) xs ys (by simp at hf; omega) (by simp at hg; omega), ih g (i + 1) j xs (y :: ys) (by simp at hf ⊢; omega) (by simp at hg ⊢; omega), ih g i (j + 1) (x :: xs) ys (by simp at hf ⊢; omega) (by simp at hg ⊢; omega)]
end

section
variable {α β : Type} [DecidableEq α] [DecidableEq β]
theorem lcs_map (g : α → β) : ∀ (xs ys : List α), (∀ x ∈ xs, ∀ y ∈ ys, g x = g y → x = y) → lcs (xs.map g) (ys.map g) = lcs xs ys := by
  have main : ∀ n (xs ys : List α), xs.length + ys.length = n → (∀ x ∈ xs, ∀ y ∈ ys, g x = g y → x = y) → lcs (xs.map g) (ys.map g) = lcs xs ys := by
    intro n
    induction n using Nat.strongRecOn with
    | _ n ih =>
      intro xs ys hn h
      cases xs with
      | nil => simp [lcs_nil_left]
      | cons x xs =>
        cases ys with
        | nil => simp [lcs_nil_right]
        | cons y ys =>
          simp only [List.map_cons]
          rw [lcs_cons, lcs_cons]
          have e : (g x = g y) = (x = y) := propext ⟨fun e => h x (by simp) y (by simp) e, fun e => by rw [e]⟩
          simp only [e]
          rw [ih (xs.length + ys.length) (by simp at hn; omega) xs ys rfl (fun a ha b hb => h a (by simp [ha]) b (by simp [hb]))]
          have h1 := ih (xs.length + (y :: ys).length) (by simp at hn ⊢; omega) xs (y :: ys) rfl (fun a ha b hb => h a (by simp [ha]) b hb)
          have h2 := ih ((x :: xs).length + ys.length) (by simp at hn ⊢; omega) (x :: xs) ys rfl (fun a ha b hb => h a ha b (by simp [hb]))
          simp only [List.map_cons] at h1 h2
          rw [h1, h2]
  exact fun xs ys h => main _ xs ys rfl h
theorem scrF_map (g : α → β) (f i j : Nat) (xs ys : List α) (h : ∀ x ∈ xs, ∀ y ∈ ys, g x = g y → x = y) : scrF f i j (xs.map g) (ys.map g) = scrF f i j xs ys := by
  induction f generalizing i j xs ys with
  | zero => simp [scrF]
  | succ f ih =>
    cases xs with
    | nil => cases ys with
      | nil => simp [scrF]
      | cons y ys =>
        simp only [List.map_cons, List.map_nil, scrF]
        have := ih i (j + 1) [] ys (by simp)
        simp only [List.map_nil] at this
        rw [this]
    | cons x xs => cases ys with
      | nil =>
        simp only [List.map_cons, List.map_nil, scrF]
        have := ih (i + 1) j xs [] (by simp)
        simp only [List.map_nil] at this
        rw [this]
      | cons y ys =>
        simp only [List.map_cons, scrF]
        have e : (g x = g y) = (x = y) := propext ⟨fun e => h x (by simp) y (by simp) e, fun e => by rw [e]⟩
        have h0 := ih (i + 1) (j + 1) xs ys (fun a ha b hb => h a (by simp [ha]) b (by simp [hb]))
        have h1 := ih (i + 1) j xs (y :: ys) (fun a ha b hb => h a (by simp [ha]) b hb)
        have h2 := ih i (j + 1) (x :: xs) ys (fun a ha b hb => h a ha b (by simp [hb]))
        have l1 := lcs_map g xs (y :: ys) (fun a ha b hb => h a (by simp [ha]) b hb)
        have l2 := lcs_map g (x :: xs) ys (fun a ha b hb => h a ha b (by simp [hb]))
        simp only [List.map_cons] at h1 h2 l1 l2
        simp only [e, h0, h1, h2, l1, l2]
theorem scr_map (g : α → β) (xs ys : List α) (h : ∀ x ∈ xs, ∀ y ∈ ys, g x = g y → x = y) : scr (xs.map g) (ys.map g) = scr xs ys := by
  unfold scr
  rw [List.length_map, List.length_map]
  exact scrF_map g _ 0 0 xs ys h
end

/-! ### numbers for texts -/
section
variable {α : Type} [DecidableEq α]
def idx : List α → α → Option Nat
  | [], _ => none
  | k :: ks, s => if s = k then some 0 else (idx ks s).map (· + 1)
def numF : List α → List α → List α × List Nat
  | ks, [] => (ks, [])
  | ks, s :: r => match idx ks s with
    | some i => let q := numF ks r; (q.1, i :: q.2)
    | none => let q := numF (ks ++ [s]) r; (q.1, ks.length :: q.2)
theorem idx_append {ks r : List α} {s : α} {i : Nat} (h : idx ks s = some i) : idx (ks ++ r) s = some i := by
  induction ks generalizing i with
  | nil => simp [idx] at h
  | cons k ks ih =>
    simp only [idx, List.cons_append] at h ⊢
    split
    · rename_i e; rw [if_pos e] at h; exact h
    · rename_i e
      rw [if_neg e] at h
      cases hi : idx ks s with
      | none => rw [hi] at h; simp at h
      | some j => rw [hi] at h; rw [ih hi]; exact h
theorem idx_new {ks : List α} {s : α} (h : idx ks s = none) : idx (ks ++ [s]) s = some ks.length := by
  induction ks with
  | nil => simp [idx]
  | cons k ks ih =>
    simp only [idx, List.cons_append] at h ⊢
    split
    · rename_i e; rw [if_pos e] at h; simp at h
    · rename_i e
      rw [if_neg e] at h
      rw [ih (by simpa using h)]
      simp
theorem idx_inj {ks : List α} {s t : α} {i : Nat} (h : idx ks s = some i) (k : idx ks t = some i) : s = t := by
  induction ks generalizing i with
  | nil => simp [idx] at h
  | cons a ks ih =>
    simp only [idx] at h k
    split at h
    · rename_i e
      split at k
      · rename_i e'; rw [e, e']
      · cases hi : idx ks t with
        | none => rw [hi] at k; simp at k
        | some j => rw [hi] at k; simp at h k; omega
    · split at k
      · cases hi : idx ks s with
        | none => rw [hi] at h; simp at h
        | some j => rw [hi] at h; simp at h k; omega
      · cases hi : idx ks s with
        | none => rw [hi] at h; simp at h
        | some j =>
          cases hj : idx ks t with
          | none => rw [hj] at k; simp at k
          | some j' =>
            rw [hi] at h; rw [hj] at k
            simp at h k
            exact ih hi (by rw [hj]; congr 1; omega)
theorem numF_spec (ks xs : List α) : (∃ r, (numF ks xs).1 = ks ++ r) ∧ (∀ s ∈ xs, ∃ i, idx (numF ks xs).1 s = some i) ∧ (numF ks xs).2 = xs.map fun s => (idx (numF ks xs).1 s).getD 0 := by
  induction xs generalizing ks with
  | nil => exact ⟨⟨[], by simp [numF]⟩, by simp, rfl⟩
  | cons s r ih =>
    simp only [numF]
    cases h : idx ks s with
    | some i =>
      obtain ⟨⟨q, hq⟩, h2, h3⟩ := ih ks
      simp only
      have hs : idx (numF ks r).1 s = some i := by rw [hq]; exact idx_append h
      refine ⟨⟨q, hq⟩, fun t ht => ?_, ?_⟩
      · rcases List.mem_cons.1 ht with rfl | ht
        · exact ⟨i, hs⟩
        · exact h2 t ht
      · rw [List.map_cons, hs, ← h3]; rfl
    | none =>
      obtain ⟨⟨q, hq⟩, h2, h3⟩ := ih (ks ++ [s])
      simp only
      have hs : idx (numF (ks ++ [s]) r).1 s = some ks.length := by rw [hq]; exact idx_append (idx_new h)
      refine ⟨⟨s :: q, by rw [hq]; simp⟩, fun t ht => ?_, ?_⟩
      · rcases List.mem_cons.1 ht with rfl | ht
        · exact ⟨_, hs⟩
        · exact h2 t ht
      · rw [List.map_cons, hs, ← h3]; rfl
theorem numF_length (ks xs : List α) : (numF ks xs).2.length = xs.length := by rw [(numF_spec ks xs).2.2]; simp
theorem numF_keys (ks xs : List α) : (numF ks xs).1.length ≤ ks.length + xs.length := by
  induction xs generalizing ks with
  | nil => simp [numF]
  | cons s r ih =>
    simp only [numF]
    cases h : idx ks s with
    | some i => simp only; have := ih ks; simp; omega
    | none => simp only; have := ih (ks ++ [s]); simp at this ⊢; omega
/-- the numbers of two lists tell the same script -/
theorem scr_nums (xs ys : List α) : scr (numF [] xs).2 (numF (numF [] xs).1 ys).2 = scr xs ys := by
  obtain ⟨⟨r, hr⟩, h2, h3⟩ := numF_spec [] xs
  obtain ⟨⟨q, hq⟩, k2, k3⟩ := numF_spec (numF [] xs).1 ys
  have e : (numF [] xs).2 = xs.map fun s => (idx (numF (numF [] xs).1 ys).1 s).getD 0 := by
    conv => lhs; rw [h3]
    refine List.map_congr_left fun s hs => ?_
    obtain ⟨i, hi⟩ := h2 s hs
    rw [hi, hq, idx_append hi]
  rw [k3, e]
  refine scr_map _ xs ys fun x hx y hy hxy => ?_
  obtain ⟨i, hi⟩ := h2 x hx
  obtain ⟨j, hj⟩ := k2 y hy
  have hi' : idx (numF (numF [] xs).1 ys).1 x = some i := by rw [hq]; exact idx_append hi
  rw [hi', hj] at hxy
  simp at hxy
  subst hxy
  exact idx_inj hi' hj
/-- one by one, as the loop has it -/
def numS (st : List α × List Nat) (s : α) : List α × List Nat :=
  match idx st.1 s with
  | some i => (st.1, st.2 ++ [i])
  | none => (st.1 ++ [s], st.2 ++ [st.1.length])
theorem numS_foldl (xs : List α) : ∀ (ks : List α) (l : List Nat), xs.foldl numS (ks, l) = ((numF ks xs).1, l ++ (numF ks xs).2) := by
  induction xs with
  | nil => intro ks l; simp [numF]
  | cons s r ih =>
    intro ks l
    simp only [List.foldl_cons, numF, numS]
    cases h : idx ks s with
    | some i => simp only; rw [ih]; simp
    | none => simp only; rw [ih]; simp
end
end Go.MyPlain
