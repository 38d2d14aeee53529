/- How a law's row is closed: its arguments are read, and stay as they were. -/
import Derived.Test.YtbidjnjbiibdeaaDoorSl8
import Derived.WalkKit
import Derived.ProofKit
import Derived.OpenShut
import Derived.ShutString
import Derived.ChangeOld
import Derived.Below
import Derived.SizedLaws
import Derived.SliceStrings
import Derived.Carry
set_option linter.unusedVariables false
set_option linter.unusedSimpArgs false
namespace Go.SL
open Go.ChangeShapes Go.WideShapes Go.ChangeAt Go.RowKit

section
variable {H : Type} {enc : TypeId × Value → H} {P : Program} {W : World}

theorem trodAll_below (hl : laidOutB P = true) {W' : World} (hb : Below W.heap.size W W') : ∀ {ts : List TypeId} {vs : List Value} {ds : List (DataW H)} {ps : List MemPlace}, ts.all (fun t => P.readableRec t && decide (t < P.types.size)) = true →
    DataW.TrodAll enc P W 0 (fun _ => true) true ts vs ds ps → DataW.TrodAll enc P W' 0 (fun b => decide (b < W.heap.size)) true ts vs ds ps
  | [], [], [], ps, _, h => h
  | t :: ts, v :: vs, d :: ds, ps, hr, h => by
    obtain ⟨p, q, h1, h2, rfl⟩ := h
    simp only [List.all_cons, Bool.and_eq_true, decide_eq_true_eq] at hr
    obtain ⟨m, hm⟩ := h1
    exact ⟨p, q, Below.trod hl hr.1.1 hr.1.2 ⟨m, hm⟩ hb (DataW.trod_lt m _ _ _ hm), trodAll_below hl hb hr.2 h2, rfl⟩

/-! ### slices read -/
theorem split_rows {α : Type} {f : α → List Value} {R : α → Prop} {m : Nat} : ∀ (len : Nat) (cs : List Value), cs.length = len * m → (∀ i, i < len → ∃ x, (cs.drop (i * m)).take m = f x ∧ R x) → ∃ l : List α, l.length = len ∧ cs = l.flatMap f ∧ ∀ x ∈ l, R x
  | 0, cs, hl, _ => ⟨[], rfl, by simpa using hl, by simp⟩
  | len + 1, cs, hl, h => by
    obtain ⟨x, hx, hR⟩ := h 0 (by omega)
    obtain ⟨l, h1, h2, h3⟩ := split_rows (f := f) (R := R) (m := m) len (cs.drop m) (by rw [List.length_drop, hl, Nat.succ_mul]; omega) (fun i hi => by
      obtain ⟨y, hy, hy2⟩ := h (i + 1) (by omega)
      exact ⟨y, by rw [List.drop_drop, show m + i * m = (i + 1) * m by rw [Nat.succ_mul]; omega]; exact hy, hy2⟩)
    refine ⟨x :: l, by simp [h1], ?_, by simpa using ⟨hR, h3⟩⟩
    rw [List.flatMap_cons, ← h2, ← hx]
    simp
theorem arg_list {α : Type} {f : α → List Value} {R : α → Prop} {t e : TypeId} {A : Option Addr} {len cap j : Nat} {d : DataW H} {ps : List MemPlace} {ts : List TypeId} {ds : List (DataW H)} (hu : P.underlying t = some (.slice e))
    (hQ : ∀ n cs y, DataW.trod enc P W 0 (fun _ => true) true n e cs = some y → cs.length = P.cellsOf e → ∃ x, cs = f x ∧ R x)
    (h : DataW.Trod enc P W 0 (fun _ => true) true t (.slice A len cap) d ps) (hsz : (DataW.weightsEach P ts ds).all (· ≤ reachBytes) = true) (ht : ts[j]? = some t) (hd : ds[j]? = some d) :
    ∃ l : List α, l.length = len ∧ Rd W [] A (l.flatMap f) ∧ (∀ x ∈ l, R x) ∧ len * P.bytesOf e ≤ reachBytes ∧ len ≤ cap := by
  obtain ⟨fuel, h⟩ := h
  rcases DataW.trod_slice hu h with ⟨h0, _⟩ | ⟨a, len', cap', elems, rest, n, _, hcs, hx, hb, hl, hm, hlen, hel, _, _⟩
  · simp [Value.cells] at h0
    obtain ⟨rfl, rfl, rfl⟩ := h0
    exact ⟨[], rfl, Rd.nil, by simp, by simp, by simp⟩
  · simp [Value.cells] at hcs
    obtain ⟨rfl, rfl, rfl⟩ := hcs
    have hw := sized_slice (P := P) hsz ht (elems := elems.map (·.1)) (spare := rest.map (·.1)) (by rw [hd]; simpa using congrArg Prod.fst hx) hu
    generalize hmm : P.cellsOf e = m at *
    have row : ∀ i, i < len → ∃ cs', cs'.length = m ∧ (∀ q, q < m → W.cell? (a.add (i * m + q)) = cs'[q]?) ∧ ∃ x, cs' = f x ∧ R x := by
      intro i hi
      have := hel i hi
      have hs : elems[i]? = some (elems[i]'(by omega)) := List.getElem?_eq_getElem (by omega)
      rw [hs, Option.bind_eq_some_iff] at this
      obtain ⟨cs', hc, ht'⟩ := this
      obtain ⟨_, hlc, hcell⟩ := World.cells?_some hc
      refine ⟨cs', hlc, fun q hq => ?_, hQ _ _ _ ht' hlc⟩
      rw [← addr_add_add]
      exact hcell q hq
    have cellAt : ∀ j, j < len * m → ∃ v, W.cell? (a.add j) = some v := by
      intro j hj
      have hm0 : 0 < m := Nat.pos_of_ne_zero fun e => by subst e; omega
      have hi : j / m < len := Nat.div_lt_of_lt_mul (by rw [Nat.mul_comm]; exact hj)
      have hq := Nat.mod_lt j hm0
      obtain ⟨cs', h1, h2, _⟩ := row (j / m) hi
      have := h2 (j % m) hq
      rw [Nat.mul_comm, Nat.div_add_mod] at this
      exact ⟨_, by rw [this]; exact List.getElem?_eq_getElem (by omega)⟩
    let cs := (List.range (len * m)).map fun j => (W.cell? (a.add j)).getD undef
    have hcs : ∀ j, j < len * m → cs[j]? = W.cell? (a.add j) := by
      intro j hj
      obtain ⟨v, hv⟩ := cellAt j hj
      simp [cs, hj, hv]
    have hcl : cs.length = len * m := by simp [cs]
    obtain ⟨l, h1, h2, h3⟩ := split_rows (f := f) (R := R) (m := m) len cs hcl (fun i hi => by
      obtain ⟨cs', g1, g2, x, g3, g4⟩ := row i hi
      refine ⟨x, ?_, g4⟩
      rw [← g3]
      apply List.ext_getElem?
      intro q
      by_cases hq : q < m
      · have : (i + 1) * m ≤ len * m := Nat.mul_le_mul_right _ hi
        rw [Nat.succ_mul] at this
        rw [List.getElem?_take_of_lt hq, List.getElem?_drop, hcs _ (by omega), g2 q hq]
      · rw [List.getElem?_eq_none (by simp; omega), List.getElem?_eq_none (by omega)])
    refine ⟨l, h1, ?_, h3, ?_, hl⟩
    · rw [← h2]
      intro j v hj
      have hlt : j < len * m := by have := (List.getElem?_eq_some_iff.1 hj).1; omega
      rw [hcs j hlt] at hj
      exact ⟨a, rfl, .inl hj⟩
    · refine Nat.le_trans (Nat.mul_le_mul_right _ ?_) hw
      simp; omega

/-! ### structs of plain cells -/
def Fits : CK → Value → Prop
  | .int k, v => ∃ n, v = .int k n ∧ (Lit.int k n).wf = true
  | .str, v => ∃ s : ByteArray, v = .string s ∧ s.size ≤ maxLen
  | .bool, v => ∃ b, v = .bool b
theorem trod_ck {t : TypeId} {c : CK} {n : Nat} {cs : List Value} {y : DataW H × List MemPlace} (hc : ckOf P t = some c) (h : DataW.trod enc P W 0 (fun _ => true) true n t cs = some y) : ∃ v, cs = [v] ∧ Fits c v := by
  unfold ckOf at hc
  split at hc
  · rename_i k hk; cases hc; obtain ⟨m, rfl, _, hw⟩ := DataW.trod_int hk h; exact ⟨_, rfl, m, rfl, hw⟩
  · rename_i hk; cases hc; obtain ⟨s, rfl, _, hw⟩ := DataW.trod_string hk h; exact ⟨_, rfl, s, rfl, hw⟩
  · rename_i hk; cases hc; obtain ⟨b, rfl, _⟩ := DataW.trod_bool hk h; exact ⟨_, rfl, b, rfl⟩
  · cases hc
theorem flatFrom_get : ∀ {fs : List Field} {i : Nat} {sh : List CK}, flatFrom P i fs = some sh → fs.length = sh.length ∧ ∀ (j : Nat) (f : Field), fs[j]? = some f → ∃ c, sh[j]? = some c ∧ ckOf P f.type = some c ∧ f.offset = i + j
  | [], i, sh, h => by simp [flatFrom] at h; subst h; simp
  | f :: fs, i, sh, h => by
    simp only [flatFrom] at h
    split at h
    · rename_i c cs h1 h2
      split at h
      · rename_i h3
        cases h
        obtain ⟨g1, g2⟩ := flatFrom_get h2
        refine ⟨by simp [g1], fun j f' hj => ?_⟩
        cases j with
        | zero => simp at hj; subst hj; exact ⟨c, by simp, h1, by simpa using h3.1⟩
        | succ j => obtain ⟨c', e1, e2, e3⟩ := g2 j f' (by simpa using hj); exact ⟨c', by simpa using e1, e2, by omega⟩
      · cases h
    · cases h
theorem trod_flat {t : TypeId} {sh : List CK} {n : Nat} {cs : List Value} {y : DataW H × List MemPlace} (hs : flatOf P t = some sh) (hc : P.cellsOf t = sh.length) (h : DataW.trod enc P W 0 (fun _ => true) true n t cs = some y) :
    cs.length = sh.length ∧ ∀ (j : Nat) (c : CK), sh[j]? = some c → ∃ v, cs[j]? = some v ∧ Fits c v := by
  obtain ⟨hu, _, _, hf⟩ := flatOf_spec hs
  obtain ⟨xs, m, _, _, hl, hlen, hx⟩ := DataW.trod_struct hu h
  obtain ⟨g1, g2⟩ := flatFrom_get hf
  refine ⟨by omega, fun j c hj => ?_⟩
  have hjl : j < (P.fieldsOf t).toList.length := by have := (List.getElem?_eq_some_iff.1 hj).1; omega
  have hfj : (P.fieldsOf t).toList[j]? = some ((P.fieldsOf t).toList[j]) := List.getElem?_eq_getElem hjl
  obtain ⟨c', e1, e2, e3⟩ := g2 j _ hfj
  rw [hj] at e1
  obtain rfl := Option.some.inj e1
  have := hx j _ (by rw [← Array.getElem?_toList]; exact hfj)
  rw [List.getElem?_eq_getElem (by rw [hlen]; simpa using hjl)] at this
  obtain ⟨v, hv, hfit⟩ := trod_ck e2 this
  refine ⟨v, ?_, hfit⟩
  have h0 := congrArg (fun l => l[0]?) hv
  simp only [List.getElem?_cons_zero] at h0
  have hpos : 0 < P.cellsOf ((P.fieldsOf t).toList[j]).type := Nat.pos_of_ne_zero fun e => by rw [e] at h0; simp at h0
  rw [List.getElem?_take_of_lt hpos, List.getElem?_drop] at h0
  rw [e3, Nat.zero_add] at h0
  simpa using h0
theorem arg_string_list {t e : TypeId} {A : Option Addr} {len cap j : Nat} {d : DataW H} {ps : List MemPlace} {ts : List TypeId} {ds : List (DataW H)} (hu : P.underlying t = some (.slice e)) (he : P.underlying e = some .string)
    (h : DataW.Trod enc P W 0 (fun _ => true) true t (.slice A len cap) d ps) (hsz : (DataW.weightsEach P ts ds).all (· ≤ reachBytes) = true) (ht : ts[j]? = some t) (hd : ds[j]? = some d) :
    ∃ l : List ByteArray, l.length = len ∧ Rd W [] A (l.map .string) ∧ (∀ x ∈ l, x.size ≤ maxLen) ∧ len * P.bytesOf e ≤ reachBytes ∧ len ≤ cap := by
  obtain ⟨l, h1, h2, h3, h4⟩ := arg_list (f := fun s : ByteArray => [Value.string s]) (R := fun s => s.size ≤ maxLen) hu (fun n cs y hh _ => by
    obtain ⟨s, rfl, _, hw⟩ := DataW.trod_string he hh; exact ⟨s, rfl, hw⟩) h hsz ht hd
  exact ⟨l, h1, by rw [List.map_eq_flatMap]; exact h2, h3, h4⟩
theorem arg_int_list {t e : TypeId} {k : IntKind} {A : Option Addr} {len cap j : Nat} {d : DataW H} {ps : List MemPlace} {ts : List TypeId} {ds : List (DataW H)} (hu : P.underlying t = some (.slice e)) (he : P.underlying e = some (.int k))
    (h : DataW.Trod enc P W 0 (fun _ => true) true t (.slice A len cap) d ps) (hsz : (DataW.weightsEach P ts ds).all (· ≤ reachBytes) = true) (ht : ts[j]? = some t) (hd : ds[j]? = some d) :
    ∃ l : List Int, l.length = len ∧ Rd W [] A (l.map (.int k)) ∧ (∀ x ∈ l, (Lit.int k x).wf = true) ∧ len * P.bytesOf e ≤ reachBytes ∧ len ≤ cap := by
  obtain ⟨l, h1, h2, h3, h4⟩ := arg_list (f := fun s : Int => [Value.int k s]) (R := fun s => (Lit.int k s).wf = true) hu (fun n cs y hh _ => by
    obtain ⟨s, rfl, _, hw⟩ := DataW.trod_int he hh; exact ⟨s, rfl, hw⟩) h hsz ht hd
  exact ⟨l, h1, by rw [List.map_eq_flatMap]; exact h2, h3, h4⟩
/-- a contract gives the walk that a row asks for -/
theorem FC.below {k : FuncId} {args : List Value} {v : Value} (h : FC P W k args [] (fun u _ => u = v)) : Calls P k args.toArray W fun e w' => e = .returned v ∧ Below W.heap.size W w' :=
  (h W ⟨Below.refl _ _, by simp, by simp, .inr (Nat.le_refl _)⟩).mono fun e w' ⟨u, S', he, hr, hu⟩ => ⟨by rw [he, hu], hr.below⟩
end
end Go.SL
