/- More helpers of a walk. -/
import Derived.Test.YtbidjnjbiibdeaaDoorSl7
set_option linter.unusedVariables false
set_option linter.unusedSimpArgs false
namespace Go.SL
open Go.RowKit

section
variable {P : Program} {w0 : World} {n : Nat} {T : TT} {S : SS}
theorem add_own (r j : Nat) : (⟨r, 0, none⟩ : Addr).add j = ⟨r, j, none⟩ := by rw [Addr.add_lit]; simp
theorem Yields.ixO {sz : Nat} {x i : PV} {r len cap j : Nat} {k : IntKind} {z : Int} (hx : x.val T = some (.slice (some ⟨r, 0, none⟩) len cap)) (hi : i.val T = some (.int k z)) (hz : z = (j : Int)) (h : j < len) :
    Yields P w0 n (.ixS sz x i) T S (.pointer (some ⟨r, j * sz, none⟩)) := by
  have := Yields.ixN (P := P) (w0 := w0) (n := n) (S := S) (sz := sz) hx hi hz h
  rwa [add_own] at this
theorem Yields.ixO1 {x i : PV} {r len cap j : Nat} {k : IntKind} {z : Int} (hx : x.val T = some (.slice (some ⟨r, 0, none⟩) len cap)) (hi : i.val T = some (.int k z)) (hz : z = (j : Int)) (h : j < len) :
    Yields P w0 n (.ixS 1 x i) T S (.pointer (some ⟨r, j, none⟩)) := by
  have := Yields.ixN1 (P := P) (w0 := w0) (n := n) (S := S) hx hi hz h
  rwa [add_own] at this
theorem made1 (z : Value) (hz : z.cells = #[z]) (m : Nat) : (madeCells z.cells (m * 1)).toList = List.replicate m z := by rw [hz, Nat.mul_one, toList_madeCells_one]
theorem setAt_get (c : List Value) (k : Nat) (v : Value) (h : k < c.length) (p : Nat) : (setAt c k [v])[p]? = if p = k then some v else c[p]? := by
  induction c generalizing k p with
  | nil => simp at h
  | cons x c ih =>
    cases k with
    | zero => cases p <;> simp [setAt, setAt_nil]
    | succ k =>
      simp only [setAt]
      cases p with
      | zero => simp
      | succ p => simp [ih k (by simpa using h) p]
theorem own_at {r E tot : Nat} {c : List Value} (h : (r, AO.cells c E tot) ∈ S.flatten) {j : Nat} {v : Value} (hj : c[j]? = some v) : Cell w0 S ⟨r, j, none⟩ v := by
  have := (Rd.own (w0 := w0) h).at hj
  rwa [add_own] at this
theorem cutV0 (A : Option Addr) (cap sz h : Nat) : cutV A cap sz 0 h = .slice A h cap := by
  unfold cutV
  have : A.map (fun a => a.add (0 * sz)) = A := by cases A <;> simp [Addr.add]
  rw [this]; simp
theorem Rd.pre {A : Option Addr} {cs cs' : List Value} (h : Rd w0 S A cs) (hp : cs' <+: cs) : Rd w0 S A cs' := by
  obtain ⟨r, rfl⟩ := hp
  intro j v hj
  have hlt := (List.getElem?_eq_some_iff.1 hj).1
  exact h j v (by rw [List.getElem?_append_left hlt]; exact hj)
theorem Sub.nilL {S' S : SS} (h : Sub S' S) : Sub ([] :: S') S := ⟨fun p hp => h.mem p (by simpa using hp), fun hn => by simpa using h.nodup hn⟩
theorem inBlk_n {k : Nat} {Q : Exit → TT → SS → Prop} : inBlk k Q .normal T S = Q .normal T S := rfl
end
end Go.SL
