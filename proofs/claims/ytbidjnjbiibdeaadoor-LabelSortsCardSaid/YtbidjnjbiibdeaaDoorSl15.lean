/- Values of many parts read: structs and arrays of plain cells, one in the other. -/
import Derived.Test.YtbidjnjbiibdeaaDoorSl14
set_option linter.unusedVariables false
set_option linter.unusedSimpArgs false
namespace Go.SL
open Go.ChangeShapes Go.WideShapes Go.ChangeAt Go.RowKit

section
variable {H : Type} {enc : TypeId × Value → H} {P : Program} {W : World}
def structShape (P : Program) (g : TypeId → Option (List CK)) : Nat → List Field → Option (List CK)
  | _, [] => some []
  | off, f :: fs => match g f.type with
    | some s => if f.offset = off ∧ P.cellsOf f.type = s.length then (structShape P g (off + s.length) fs).map (s ++ ·) else none
    | none => none
def deepOf (P : Program) : Nat → TypeId → Option (List CK)
  | 0, _ => none
  | d + 1, t => match ckOf P t with
    | some c => some [c]
    | none => match P.underlying t with
      | some (.struct fs) => structShape P (deepOf P d) 0 fs.toList
      | some (.array n e) => match deepOf P d e with
        | some s => if P.cellsOf e = s.length then some ((List.replicate n s).flatten) else none
        | none => none
      | _ => none
def FitsAll : List CK → List Value → Prop
  | [], [] => True
  | c :: cs, v :: vs => Fits c v ∧ FitsAll cs vs
  | _, _ => False
theorem FitsAll.append {s t : List CK} {a b : List Value} (h1 : FitsAll s a) (h2 : FitsAll t b) : FitsAll (s ++ t) (a ++ b) := by
  induction s generalizing a with
  | nil => cases a with
    | nil => exact h2
    | cons v a => exact h1.elim
  | cons c s ih => cases a with
    | nil => exact h1.elim
    | cons v a => exact ⟨h1.1, ih h1.2⟩
theorem FitsAll.len {s : List CK} {a : List Value} (h : FitsAll s a) : s.length = a.length := by
  induction s generalizing a with
  | nil => cases a with
    | nil => rfl
    | cons v a => exact h.elim
  | cons c s ih => cases a with
    | nil => exact h.elim
    | cons v a => simp [ih h.2]
theorem struct_fits {g : TypeId → Option (List CK)} {cs : List Value} {n : Nat} {xs : List (DataW H × List MemPlace)}
    (hg : ∀ t s l y, g t = some s → DataW.trod enc P W 0 (fun _ => true) true n t l = some y → l.length = s.length → FitsAll s l) :
    ∀ (fs : List Field) (off i : Nat) (sh : List CK), structShape P g off fs = some sh → off + sh.length ≤ cs.length → (∀ (j : Nat) (f : Field), fs[j]? = some f → ∃ y, DataW.trod enc P W 0 (fun _ => true) true n f.type ((cs.drop f.offset).take (P.cellsOf f.type)) = some y) → FitsAll sh ((cs.drop off).take sh.length)
  | [], off, i, sh, h, _, _ => by
    simp [structShape] at h; subst h
    simp [FitsAll]
  | f :: fs, off, i, sh, h, hl, hx => by
    simp only [structShape] at h
    split at h
    · rename_i s hs
      split at h
      · rename_i hc
        obtain ⟨r, hr, rfl⟩ := Option.map_eq_some_iff.1 h
        obtain ⟨y, hy⟩ := hx 0 f rfl
        simp only [List.length_append] at hl
        have h1 := hg _ _ _ _ hs hy (by rw [hc.1, hc.2]; simp; omega)
        rw [hc.1, hc.2] at h1
        have h2 := struct_fits (cs := cs) (xs := xs) hg fs (off + s.length) i r hr (by omega) (fun j f' hj => hx (j + 1) f' (by simpa using hj))
        have e : (cs.drop off).take (s ++ r).length = (cs.drop off).take s.length ++ (cs.drop (off + s.length)).take r.length := by
          rw [List.length_append, List.take_add, List.drop_drop]
        show FitsAll (s ++ r) _
        rw [e]
        exact h1.append h2
      · cases h
    · cases h
theorem arr_fits {s : List CK} : ∀ (n : Nat) (cs : List Value), cs.length = n * s.length → (∀ i, i < n → FitsAll s ((cs.drop (i * s.length)).take s.length)) → FitsAll (List.replicate n s).flatten cs
  | 0, cs, hl, _ => by
    have : cs = [] := List.eq_nil_of_length_eq_zero (by simpa using hl)
    subst this; simp [FitsAll]
  | n + 1, cs, hl, h => by
    have h0 := h 0 (by omega)
    rw [Nat.zero_mul, List.drop_zero] at h0
    have h1 := arr_fits (s := s) n (cs.drop s.length) (by rw [List.length_drop, hl, Nat.succ_mul]; omega) (fun i hi => by
      have := h (i + 1) (by omega)
      rwa [List.drop_drop, show s.length + i * s.length = (i + 1) * s.length by rw [Nat.succ_mul]; omega])
    rw [List.replicate_succ, List.flatten_cons]
    have := h0.append h1
    rwa [List.take_append_drop] at this
theorem deep_fits (d : Nat) : ∀ (n : Nat) (t : TypeId) (sh : List CK) (cs : List Value) (y : DataW H × List MemPlace), deepOf P d t = some sh → DataW.trod enc P W 0 (fun _ => true) true n t cs = some y → cs.length = sh.length → FitsAll sh cs := by
  induction d with
  | zero => intro n t sh cs y h; simp [deepOf] at h
  | succ d ih =>
    intro n t sh cs y h ht hlen
    simp only [deepOf] at h
    split at h
    · rename_i c hc
      cases h
      obtain ⟨v, rfl, hf⟩ := trod_ck hc ht
      exact ⟨hf, trivial⟩
    · split at h
      · rename_i fs hu
        obtain ⟨xs, m, _, _, hl, hlx, hx⟩ := DataW.trod_struct hu ht
        have := struct_fits (enc := enc) (P := P) (W := W) (n := m) (cs := cs) (xs := xs) (g := fun t => (deepOf P d t)) ?_ fs.toList 0 0 sh h (by omega) ?_
        · rw [List.drop_zero, ← hlen, List.take_length] at this; exact this
        · exact fun t s l y h1 h2 h3 => ih m t s l y h1 h2 h3
        · intro j f hj
          have h1 := hx j f (by rw [← Array.getElem?_toList]; exact hj)
          have hjl : j < xs.length := by have := (List.getElem?_eq_some_iff.1 hj).1; rw [hlx]; simpa using this
          rw [List.getElem?_eq_getElem hjl] at h1
          exact ⟨_, h1⟩
      · rename_i k e hu
        split at h
        · rename_i s hs
          split at h
          · rename_i hc
            cases h
            obtain ⟨xs, m, _, _, hl, hlx, hx⟩ := DataW.trod_array hu ht
            have hlen2 : cs.length = k * s.length := by rw [hlen]; simp
            refine arr_fits k cs hlen2 (fun i hi => ?_)
            have h1 := hx i hi
            rw [List.getElem?_eq_getElem (by omega), hc] at h1
            refine ih m e s _ _ hs h1 ?_
            have h2 : (i + 1) * s.length ≤ k * s.length := Nat.mul_le_mul_right _ hi
            rw [Nat.succ_mul] at h2
            simp; omega
          · cases h
        · cases h
      · cases h
end
end Go.SL
