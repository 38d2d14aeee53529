/- Walks and plain facts for the laws of this seat: what each function answers, for every input. -/
import Derived.Test.YtpeikdbejafgbaaCoW11
set_option linter.unusedVariables false
set_option linter.unusedSimpArgs false
namespace Go.Proofs
open Go.SL Go.RowKit
set_option maxHeartbeats 1000000

def valsC (l : List Val) : List Value := l.flatMap valC
theorem valsC_get {l : List Val} (hh : ∀ x ∈ l, x.h.length = 32) {k : Nat} (h : k < l.length) (j : Nat) (hj : j < 39) : (valsC l)[k * 39 + j]? = (valC l[k])[j]? := by
  induction l generalizing k with
  | nil => simp at h
  | cons x l ih =>
    have hx := valC_len (hh x (by simp))
    cases k with
    | zero =>
      simp only [valsC, List.flatMap_cons, Nat.zero_mul, Nat.zero_add, List.getElem_cons_zero]
      rw [List.getElem?_append_left (by omega)]
    | succ k =>
      simp only [valsC, List.flatMap_cons]
      rw [List.getElem?_append_right (by omega)]
      have := ih (fun y hy => hh y (by simp [hy])) (k := k) (by simpa using h)
      simp only [valsC] at this
      rw [show (k + 1) * 39 + j - (valC x).length = k * 39 + j by omega, this]
      simp
theorem val_at {w0 : World} {S : SS} {a : Addr} {l : List Val} (hr : Rd w0 S (some a) (valsC l)) (hh : ∀ x ∈ l, x.h.length = 32) {k : Nat} (hk : k < l.length) (j : Nat) (hj : j < 39) {v : Value} (hv : (valC l[k])[j]? = some v) : Cell w0 S ((a.add (k * 39)).add j) v := by
  rw [addr_add_add]
  exact hr.at (by rw [valsC_get hh hk j hj, hv])

end Go.Proofs
