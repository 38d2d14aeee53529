/- An argument that is a slice of texts: each of them within the reach. -/
import Derived.Test.YtbidjnjbiibdeaaDoorSl21
set_option linter.unusedVariables false
set_option linter.unusedSimpArgs false
namespace Go.SL
open Go.ChangeShapes Go.WideShapes Go.ChangeAt Go.RowKit
section
variable {H : Type} {enc : TypeId × Value → H} {P : Program} {W : World}
theorem weights_mem_all {P : Program} {e : TypeId} : ∀ {ds : List (DataW H)} {d : DataW H} {k : Nat}, d ∈ ds → k ∈ d.weights P e → k ∈ DataW.weightsAll P e ds
  | x :: r, d, k, hd, hk => by
    simp only [DataW.weightsAll, List.mem_append]
    rcases List.mem_cons.1 hd with rfl | h
    · exact .inl hk
    · exact .inr (weights_mem_all h hk)
theorem arg_listW {α : Type} {f : α → List Value} {R : α → Prop} {t e : TypeId} {A : Option Addr} {len cap j : Nat} {d : DataW H} {ps : List MemPlace} {ts : List TypeId} {ds : List (DataW H)} (hu : P.underlying t = some (.slice e))
    (hQ : ∀ n cs y, DataW.trod enc P W 0 (fun _ => true) true n e cs = some y → cs.length = P.cellsOf e → (∀ k ∈ y.1.weights P e, k ≤ reachBytes) → ∃ x, cs = f x ∧ R x)
    (h : DataW.Trod enc P W 0 (fun _ => true) true t (.slice A len cap) d ps) (hsz : (DataW.weightsEach P ts ds).all (· ≤ reachBytes) = true) (ht : ts[j]? = some t) (hd : ds[j]? = some d) :
    ∃ l : List α, l.length = len ∧ Rd W [] A (l.flatMap f) ∧ (∀ x ∈ l, R x) ∧ len * P.bytesOf e ≤ reachBytes ∧ len ≤ cap := by
  obtain ⟨fuel, h⟩ := h
  rcases DataW.trod_slice hu h with ⟨h0, _⟩ | ⟨a, len', cap', elems, rest, n, _, hcs, hx, hb, hl, hm, hlen, hel, _, _⟩
  · simp [Value.cells] at h0
    obtain ⟨rfl, rfl, rfl⟩ := h0
    exact ⟨[], rfl, Rd.nil, by simp, by simp, by simp⟩
  · simp [Value.cells] at hcs
    obtain ⟨rfl, rfl, rfl⟩ := hcs
    have hw := sized_slice (P := P) hsz ht (elems := elems.map (·.1)) (spare := rest.map (·.1)) (by rw [hd]; simpa using congrArg Prod.fst hx) hu
    have hwt : ∀ (i : Nat) (hi : i < elems.length), ∀ k ∈ (elems[i].1).weights P e, k ≤ reachBytes := by
      intro i hi k hk
      have hdd : ds[j]? = some (.slice (elems.map (·.1)) (rest.map (·.1))) := by rw [hd]; simpa using congrArg Prod.fst hx
      have := List.all_eq_true.1 hsz _ (DataW.weights_mem_each ht hdd k (by
        simp only [DataW.weights, hu, List.mem_cons, List.mem_append]
        exact .inr (.inl (weights_mem_all (List.mem_map.2 ⟨elems[i], List.getElem_mem hi, rfl⟩) hk))))
      simpa using this
    generalize hmm : P.cellsOf e = m at *
    have row : ∀ i, i < len → ∃ cs', cs'.length = m ∧ (∀ q, q < m → W.cell? (a.add (i * m + q)) = cs'[q]?) ∧ ∃ x, cs' = f x ∧ R x := by
      intro i hi
      have := hel i hi
      have hs : elems[i]? = some (elems[i]'(by omega)) := List.getElem?_eq_getElem (by omega)
      rw [hs, Option.bind_eq_some_iff] at this
      obtain ⟨cs', hc, ht'⟩ := this
      obtain ⟨_, hlc, hcell⟩ := World.cells?_some hc
      refine ⟨cs', hlc, fun q hq => ?_, hQ _ _ _ ht' hlc (hwt i (by omega))⟩
      rw [← addr_add_add]
      exact hcell q hq
    have cellAt : ∀ j, j < len * m → ∃ v, W.cell? (a.add j) = some v := by
      intro j hj
      have hm0 : 0 < m := Nat.pos_of_ne_zero fun e => by subst e; omega
      have hi : j / m < len := Nat.div_lt_of_lt_mul (by rw [Nat.mul_comm]; exact hj)
      have hq := Nat.mod_lt j hm0
      obtain ⟨cs', h1, h2, _⟩ := row (j / m) hi
      have := h2 (j % m) hq
      rw [Nat.mul_comm, Nat.div_add_mod] at this
      exact ⟨_, by rw [this]; exact List.getElem?_eq_getElem (by omega)⟩
    let cs := (List.range (len * m)).map fun j => (W.cell? (a.add j)).getD undef
    have hcs : ∀ j, j < len * m → cs[j]? = W.cell? (a.add j) := by
      intro j hj
      obtain ⟨v, hv⟩ := cellAt j hj
      simp [cs, hj, hv]
    have hcl : cs.length = len * m := by simp [cs]
    obtain ⟨l, h1, h2, h3⟩ := split_rows (f := f) (R := R) (m := m) len cs hcl (fun i hi => by
      obtain ⟨cs', g1, g2, x, g3, g4⟩ := row i hi
      refine ⟨x, ?_, g4⟩
      rw [← g3]
      apply List.ext_getElem?
      intro q
      by_cases hq : q < m
      · have : (i + 1) * m ≤ len * m := Nat.mul_le_mul_right _ hi
        rw [Nat.succ_mul] at this
        rw [List.getElem?_take_of_lt hq, List.getElem?_drop, hcs _ (by omega), g2 q hq]
      · rw [List.getElem?_eq_none (by simp; omega), List.getElem?_eq_none (by omega)])
    refine ⟨l, h1, ?_, h3, ?_, hl⟩
    · rw [← h2]
      intro j v hj
      have hlt : j < len * m := by have := (List.getElem?_eq_some_iff.1 hj).1; omega
      rw [hcs j hlt] at hj
      exact ⟨a, rfl, .inl hj⟩
    · refine Nat.le_trans (Nat.mul_le_mul_right _ ?_) hw
      simp; omega

theorem arg_stringW_list {t e : TypeId} {A : Option Addr} {len cap j : Nat} {d : DataW H} {ps : List MemPlace} {ts : List TypeId} {ds : List (DataW H)} (hu : P.underlying t = some (.slice e)) (he : P.underlying e = some .string)
    (h : DataW.Trod enc P W 0 (fun _ => true) true t (.slice A len cap) d ps) (hsz : (DataW.weightsEach P ts ds).all (· ≤ reachBytes) = true) (ht : ts[j]? = some t) (hd : ds[j]? = some d) :
    ∃ l : List ByteArray, l.length = len ∧ Rd W [] A (l.map .string) ∧ (∀ x ∈ l, x.size ≤ 140737488351232) ∧ len * P.bytesOf e ≤ reachBytes ∧ len ≤ cap := by
  obtain ⟨l, h1, h2, h3, h4⟩ := arg_listW (f := fun s : ByteArray => [Value.string s]) (R := fun s => s.size ≤ 140737488351232) hu (fun n cs y hh _ hwt => by
    obtain ⟨s, rfl, hy, hw⟩ := DataW.trod_string he hh
    refine ⟨s, rfl, ?_⟩
    have := hwt s.data.toList.length (by rw [hy]; simp [DataW.weights])
    have e : s.data.toList.length = s.size := by simp
    rw [e] at this
    exact this) h hsz ht hd
  exact ⟨l, h1, by rw [List.map_eq_flatMap]; exact h2, h3, h4⟩
end
end Go.SL
