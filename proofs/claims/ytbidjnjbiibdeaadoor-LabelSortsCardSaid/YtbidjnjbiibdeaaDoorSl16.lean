/- More of arguments read. -/
import Derived.Test.YtbidjnjbiibdeaaDoorSl15
set_option linter.unusedVariables false
namespace Go.SL
open Go.RowKit Go.ChangeShapes Go.WideShapes Go.ChangeAt
section
variable {H : Type} {enc : TypeId × Value → H} {P : Program} {W : World}
theorem nil_cap {t e : TypeId} {A : Option Addr} {len cap : Nat} {d : DataW H} {ps : List MemPlace} (hu : P.underlying t = some (.slice e)) (h : DataW.Trod enc P W 0 (fun _ => true) true t (.slice A len cap) d ps) : A = none → cap = 0 := by
  obtain ⟨fuel, h⟩ := h
  rcases DataW.trod_slice hu h with ⟨h0, _⟩ | ⟨a, len', cap', elems, rest, n, _, hcs, _⟩
  · simp [Value.cells] at h0
    exact fun _ => h0.2.2
  · simp [Value.cells] at hcs
    intro e; rw [hcs.1] at e; cases e
theorem bytes_ints {l : List Int} (h : ∀ x ∈ l, (Lit.int .u8 x).wf = true) : ∃ b : List UInt8, b.length = l.length ∧ l.map (Value.int .u8) = bytesC b := by
  induction l with
  | nil => exact ⟨[], rfl, rfl⟩
  | cons z l ih =>
    obtain ⟨b, h1, h2⟩ := ih (fun x hx => h x (by simp [hx]))
    have hw := h z (by simp)
    have hz : 0 ≤ z ∧ z ≤ 255 := by
      simp only [Lit.wf, Bool.and_eq_true, decide_eq_true_eq] at hw
      exact hw
    refine ⟨UInt8.ofNat z.toNat :: b, by simp [h1], ?_⟩
    have : ((UInt8.ofNat z.toNat).toNat : Int) = z := by simp; omega
    rw [List.map_cons, h2, show bytesC (UInt8.ofNat z.toNat :: b) = .int .u8 z :: bytesC b from by unfold bytesC; rw [List.map_cons, this]]
end
end Go.SL
