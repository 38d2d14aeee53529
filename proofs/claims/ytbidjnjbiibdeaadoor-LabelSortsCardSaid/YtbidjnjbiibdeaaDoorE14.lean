/- A closed call beside package variables whose cells are known. -/
import Derived.Test.YtbidjnjbiibdeaaDoorE13
set_option linter.unusedVariables false
set_option linter.unusedSimpArgs false
namespace Go.SL
open Go.RowKit
section
variable {P : Program} {w0 : World} {S : SS}
def GlobOk (w0 : World) (g : List (Nat × List Value)) : Prop := ∀ p ∈ g, ∀ (j : Nat) (v : Value), p.2[j]? = some v → w0.cell? ⟨p.1, j, none⟩ = some v
theorem ev_fcg {tbl : FuncId → Option EFn} {fuel d : Nat} {k : FuncId} {v : Value} {H' : EH} {g : List (Nat × List Value)} (hm : P.follows .mixedOrders = true) (ht : TblOk P tbl) (hv : flatV v = true) {vs : List Value} (hvs : vs.all flatV = true)
    (hg : GlobOk w0 g) (hgf : (g.all fun p => p.2.all flatV) = true)
    (h : evF tbl fuel d k vs ⟨0, .leaf, g⟩ = some (v, H')) : FC P w0 k vs S (fun u S' => u = v ∧ S' = S) := by
  have hH : HR w0 [] ⟨0, .leaf, g⟩ [] := ⟨rfl, Nat.zero_le _, by simp, by simp, (fun i o hi => by rw [Tr.get_leaf] at hi; cases hi), fun p hp j v hj =>
    ⟨v, hg p hp j v hj, .flat (List.all_eq_true.1 (List.all_eq_true.1 hgf p hp) v (List.mem_of_getElem? hj))⟩⟩
  have := (evF_ok (w0 := w0) (fuel := fuel) hm ht d k vs _ _ h).2 [] [] S vs (VRL.flat hvs) hH
  intro w hw
  refine (this w hw).mono ?_
  rintro e w' ⟨u, S', rfl, hr, ρ', L', _, hvr, rfl, _⟩
  refine ⟨u, S, rfl, ?_, ?_, rfl⟩
  · refine hr.sub (fun p hp => ?_) ?_
    · simp only [cs, List.flatten_append, List.mem_append]; exact .inr hp
    · have := hr.nodup
      simp only [cs, List.flatten_append, List.map_append, List.nodup_append] at this
      exact this.2.1
  · exact hvr.flat_inv hv
/-- a closed call returns true -/
theorem ev_trueg {tbl : List (FuncId × EFn)} {fuel d : Nat} {k : FuncId} {g : List (Nat × List Value)} (hm : P.follows .mixedOrders = true) (ht : AllK P tbl) {vs : List Value} (hvs : vs.all flatV = true)
    (hg : GlobOk w0 g) (hgf : (g.all fun p => p.2.all flatV) = true)
    (h : evT (evF (lk tbl) fuel d k vs ⟨0, .leaf, g⟩) = true) : FC P w0 k vs S (fun u S' => u = .bool true ∧ S' = S) := by
  unfold evT at h
  split at h
  · rename_i H' he
    exact ev_fcg hm (lk_ok ht) rfl hvs hg hgf he
  · cases h
/-- .. beside variables that may hold pointers of which nothing is known -/
theorem ev_trueR {tbl : List (FuncId × EFn)} {fuel d : Nat} {k : FuncId} {g : List (Nat × List Value)} (hm : P.follows .mixedOrders = true) (ht : AllK P tbl) {vs : List Value} (hvs : vs.all flatV = true)
    (hg : ∀ p ∈ g, extR w0 [] p.1 p.2)
    (h : evT (evF (lk tbl) fuel d k vs ⟨0, .leaf, g⟩) = true) : FC P w0 k vs S (fun u S' => u = .bool true ∧ S' = S) := by
  unfold evT at h
  split at h
  case h_2 => cases h
  rename_i H' he
  have hH : HR w0 [] ⟨0, .leaf, g⟩ [] := ⟨rfl, Nat.zero_le _, by simp, by simp, (fun i o hi => by rw [Tr.get_leaf] at hi; cases hi), hg⟩
  have := (evF_ok (w0 := w0) (fuel := fuel) hm (lk_ok ht) d k vs _ _ he).2 [] [] S vs (VRL.flat hvs) hH
  intro w hw
  refine (this w hw).mono ?_
  rintro e w' ⟨u, S', rfl, hr, ρ', L', _, hvr, rfl, _⟩
  refine ⟨u, S, rfl, ?_, ?_, rfl⟩
  · refine hr.sub (fun p hp => ?_) ?_
    · simp only [cs, List.flatten_append, List.mem_append]; exact .inr hp
    · have := hr.nodup
      simp only [cs, List.flatten_append, List.map_append, List.nodup_append] at this
      exact this.2.1
  · exact hvr.flat_inv rfl
end
end Go.SL
