/- '==' of values of many parts: structs and arrays of plain cells, one in the other. -/
import Derived.Test.YtbidjnjbiibdeaaDoorSl17
import Derived.ChangeKeysEq
set_option linter.unusedVariables false
set_option linter.unusedSimpArgs false
namespace Go.SL
open Go.RowKit
def eqL : List CK → List Value → List Value → Option Bool
  | [], [], [] => some true
  | c :: cs, x :: xs, y :: ys => match eqCell c x y, eqL cs xs ys with | some p, some q => some (p && q) | _, _ => none
  | _, _, _ => none
theorem eqL_cons {c : CK} {cs : List CK} {xs ys : List Value} {r : Bool} (h : eqL (c :: cs) xs ys = some r) : ∃ x xs' y ys' p q, xs = x :: xs' ∧ ys = y :: ys' ∧ eqCell c x y = some p ∧ eqL cs xs' ys' = some q ∧ r = (p && q) := by
  cases xs with
  | nil => simp [eqL] at h
  | cons x xs' =>
    cases ys with
    | nil => simp [eqL] at h
    | cons y ys' =>
      simp only [eqL] at h
      split at h
      · rename_i p q h1 h2
        exact ⟨x, xs', y, ys', p, q, rfl, rfl, h1, h2, (Option.some.inj h).symm⟩
      · cases h
theorem eqL_append {s t : List CK} : ∀ {xs ys : List Value} {r : Bool}, eqL (s ++ t) xs ys = some r → ∃ p q, eqL s (xs.take s.length) (ys.take s.length) = some p ∧ eqL t (xs.drop s.length) (ys.drop s.length) = some q ∧ r = (p && q) := by
  induction s with
  | nil => intro xs ys r h; exact ⟨true, r, by simp [eqL], by simpa using h, by simp⟩
  | cons c s ih =>
    intro xs ys r h
    obtain ⟨x, xs', y, ys', p, q, rfl, rfl, h1, h2, rfl⟩ := eqL_cons (cs := s ++ t) h
    obtain ⟨p', q', h3, h4, rfl⟩ := ih h2
    exact ⟨p && p', q', by simp [eqL, h1, h3], by simpa using h4, by rw [Bool.and_assoc]⟩
theorem eqL_len {s : List CK} : ∀ {xs ys : List Value} {r : Bool}, eqL s xs ys = some r → xs.length = s.length ∧ ys.length = s.length := by
  induction s with
  | nil => intro xs ys r h; cases xs <;> cases ys <;> simp [eqL] at h ⊢
  | cons c s ih =>
    intro xs ys r h
    obtain ⟨x, xs', y, ys', p, q, rfl, rfl, h1, h2, rfl⟩ := eqL_cons h
    have := ih h2
    simp [this]
section
variable {P : Program} {w0 : World} {n : Nat} {T : TT} {S : SS} {w : World}
def AggEq (P : Program) (w : World) (d : Nat) : Prop := ∀ (t : TypeId) (sh : List CK), deepQ P d t = some sh → ckOf P t = none → (∃ dd, P.underlying t = some dd ∧ rowD dd = true) ∧
  ∀ (D : Nat), d ≤ D → ∀ (xs ys : Array Value) (r : Bool), eqL sh xs.toList ys.toList = some r → (Op.equalIn D t (.agg xs) (.agg ys)).run P w = .ok r w
theorem part_eq {d : Nat} (ih : AggEq P w d) {t : TypeId} {sh : List CK} (hd : deepQ P d t = some sh) (hc : P.cellsOf t = sh.length) {D : Nat} (hD : d ≤ D) (h1 : 0 < d) {xs ys : Array Value} {off : Nat} {r : Bool}
    (h : eqL sh ((xs.toList.drop off).take sh.length) ((ys.toList.drop off).take sh.length) = some r) : ∃ a b, (part t xs off).run P w = .ok a w ∧ (part t ys off).run P w = .ok b w ∧ (Op.equalIn D t a b).run P w = .ok r w := by
  cases hk : ckOf P t with
  | some c =>
    obtain ⟨d', rfl⟩ : ∃ d', d = d' + 1 := ⟨d - 1, by omega⟩
    simp only [deepQ, hk, Option.some.injEq] at hd
    subst hd
    obtain ⟨x, xs', y, ys', p, q, hx, hy, h2, h3, rfl⟩ := eqL_cons h
    have hq : q = true := by
      have := eqL_len h3
      obtain ⟨l1, l2⟩ := this
      have e1 : xs' = [] := List.eq_nil_of_length_eq_zero (by simpa using l1)
      have e2 : ys' = [] := List.eq_nil_of_length_eq_zero (by simpa using l2)
      subst e1; subst e2
      simpa [eqL] using h3.symm
    have get : ∀ (zs : Array Value) z zs', (zs.toList.drop off).take 1 = z :: zs' → zs[off]? = some z := by
      intro zs z zs' hz
      have : ((zs.toList.drop off).take 1)[0]? = some z := by rw [hz]; rfl
      simpa using this
    obtain ⟨dd, hu, hrow⟩ := ckOf_agg hk
    obtain ⟨D', rfl⟩ : ∃ D', D = D' + 1 := ⟨D - 1, by omega⟩
    refine ⟨x, y, ?_, ?_, ?_⟩
    · simp [part, run_isAgg hu, hrow, get xs x xs' hx]
    · simp [part, run_isAgg hu, hrow, get ys y ys' hy]
    · rw [hq, Bool.and_true]
      exact run_eqCell hk h2 D' w
  | none =>
    obtain ⟨⟨dd, hu, hrow⟩, hrun⟩ := ih t sh hd hk
    obtain ⟨i, hi⟩ := info_of_underlying hu
    have hsz := run_sizeOf w hi
    have hpart : ∀ zs : Array Value, (part t zs off).run P w = .ok (.agg (zs.extract off (off + sh.length))) w := by
      intro zs
      simp only [part, Sem.run_bind, run_isAgg hu, hrow, Result.andThen_ok, if_true, hsz, hc]
      rfl
    refine ⟨_, _, hpart xs, hpart ys, hrun D hD _ _ r ?_⟩
    simpa [List.extract] using h
theorem eqFields_deep {d : Nat} (ih : AggEq P w d) (h1 : 0 < d) {D : Nat} (hD : d ≤ D) {xs ys : Array Value} : ∀ (fs : List Field) (off : Nat) (sh : List CK) (r : Bool), structQ P (deepQ P d) off fs = some sh → eqL sh (xs.toList.drop off) (ys.toList.drop off) = some r → (Op.eqFields D xs ys fs).run P w = .ok r w
  | [], off, sh, r, hs, he => by
    simp only [structQ, Option.some.injEq] at hs
    subst hs
    have := eqL_len he
    obtain ⟨l1, l2⟩ := this
    have e1 : xs.toList.drop off = [] := List.eq_nil_of_length_eq_zero l1
    have e2 : ys.toList.drop off = [] := List.eq_nil_of_length_eq_zero l2
    rw [e1, e2] at he
    simp only [eqL, Option.some.injEq] at he
    subst he
    simp [Op.eqFields]
  | f :: fs, off, sh, r, hs, he => by
    simp only [structQ] at hs
    split at hs
    · rename_i s hf
      split at hs
      · rename_i hc
        obtain ⟨ho, hcells, hname⟩ := hc
        simp only [Option.map_eq_some_iff] at hs
        obtain ⟨sh', hs', rfl⟩ := hs
        obtain ⟨p, q, h2, h3, rfl⟩ := eqL_append he
        rw [List.drop_drop, List.drop_drop] at h3
        obtain ⟨a, b, g1, g2, g3⟩ := part_eq ih hf hcells hD h1 h2
        subst ho
        simp only [Op.eqFields, hname, ne_eq, not_false_eq_true, if_true, Sem.run_bind, g1, g2, g3, Result.andThen_ok]
        cases p
        · simp
        · simp only [Bool.not_true, Bool.false_eq_true, if_false, Bool.true_and]
          exact eqFields_deep ih h1 hD fs _ sh' q hs' h3
      · cases hs
    · cases hs
theorem eqItems_deep {d : Nat} (ih : AggEq P w d) (h1 : 0 < d) {D : Nat} (hD : d ≤ D) {xs ys : Array Value} {e : TypeId} {s : List CK} (hd : deepQ P d e = some s) (hc : P.cellsOf e = s.length) : ∀ (m i : Nat) (r : Bool), eqL (List.replicate m s).flatten (xs.toList.drop (i * s.length)) (ys.toList.drop (i * s.length)) = some r →
    (Op.eqItems D e (P.cellsOf e) xs ys (List.range' i m)).run P w = .ok r w
  | 0, i, r, he => by
    obtain ⟨l1, l2⟩ := eqL_len he
    have e1 : xs.toList.drop (i * s.length) = [] := List.eq_nil_of_length_eq_zero (by simpa using l1)
    have e2 : ys.toList.drop (i * s.length) = [] := List.eq_nil_of_length_eq_zero (by simpa using l2)
    rw [e1, e2] at he
    have : r = true := by simpa [eqL] using he.symm
    subst this
    simp [Op.eqItems]
  | m + 1, i, r, he => by
    rw [List.replicate_succ, List.flatten_cons] at he
    obtain ⟨p, q, h2, h3, rfl⟩ := eqL_append he
    rw [List.drop_drop, List.drop_drop] at h3
    obtain ⟨a, b, g1, g2, g3⟩ := part_eq ih hd hc hD h1 h2
    rw [← hc] at g1 g2
    rw [List.range'_succ]
    simp only [Op.eqItems, Sem.run_bind, g1, g2, g3, Result.andThen_ok]
    cases p
    · simp
    · simp only [Bool.not_true, Bool.false_eq_true, if_false, Bool.true_and]
      refine eqItems_deep ih h1 hD hd hc m (i + 1) q ?_
      rw [show (i + 1) * s.length = i * s.length + s.length by rw [Nat.add_mul, Nat.one_mul]]
      exact h3
theorem agg_eq (P : Program) (w : World) : ∀ d, AggEq P w d
  | 0 => fun t sh h => by simp [deepQ] at h
  | d + 1 => by
    intro t sh h hk
    have ih := agg_eq P w d
    simp only [deepQ, hk] at h
    split at h
    · rename_i fs hu
      split at h
      · rename_i hst
        refine ⟨⟨_, hu, rfl⟩, fun D hD xs ys r he => ?_⟩
        obtain ⟨D', rfl⟩ : ∃ D', D = D' + 1 := ⟨D - 1, by omega⟩
        have hfs : P.fieldsOf t = fs := by simp [Program.fieldsOf, hu]
        rw [run_equalIn_struct w D' t xs ys (by rw [hfs]; exact hu) hst, hfs]
        by_cases h0 : 0 < d
        · exact eqFields_deep ih h0 (by omega) _ 0 sh r h (by simpa using he)
        · obtain rfl : d = 0 := by omega
          cases hl : fs.toList with
          | nil =>
            rw [hl] at h
            simp only [structQ, Option.some.injEq] at h
            subst h
            obtain ⟨l1, l2⟩ := eqL_len he
            have e1 : xs.toList = [] := List.eq_nil_of_length_eq_zero l1
            have e2 : ys.toList = [] := List.eq_nil_of_length_eq_zero l2
            rw [e1, e2] at he
            simp only [eqL, Option.some.injEq] at he
            subst he
            simp [Op.eqFields]
          | cons f fs => rw [hl] at h; simp [structQ, deepQ] at h
      · cases h
    · rename_i m e hu
      split at h
      · rename_i s hs
        split at h
        · rename_i hc
          obtain rfl := Option.some.inj h
          refine ⟨⟨_, hu, rfl⟩, fun D hD xs ys r he => ?_⟩
          obtain ⟨D', rfl⟩ : ∃ D', D = D' + 1 := ⟨D - 1, by omega⟩
          obtain ⟨i, hi⟩ : ∃ i, P.info? e = some i := by
            cases hq : P.info? e with
            | some i => exact ⟨i, rfl⟩
            | none =>
              exfalso
              by_cases h0 : 0 < d
              · obtain ⟨d', rfl⟩ : ∃ d', d = d' + 1 := ⟨d - 1, by omega⟩
                have hun : P.underlying e = none := by
                  cases hx : P.underlying e with
                  | none => rfl
                  | some x => obtain ⟨i, hi⟩ := info_of_underlying hx; rw [hq] at hi; cases hi
                simp [deepQ, ckOf, hun] at hs
              · obtain rfl : d = 0 := by omega
                simp [deepQ] at hs
          rw [run_equalIn_array w D' xs ys hu hi, List.range_eq_range']
          have h0 : 0 < d := Nat.pos_of_ne_zero fun e => by subst e; simp [deepQ] at hs
          exact eqItems_deep ih h0 (by omega) hs hc m 0 r (by simpa using he)
        · cases h
      · cases h
    · cases h
theorem Yields.eqD {neg : Bool} {t : TypeId} {sh : List CK} {x y : PV} {xs ys : Array Value} {r : Bool} (hx : x.val T = some (.agg xs)) (hy : y.val T = some (.agg ys)) (h : eqL sh xs.toList ys.toList = some r) :
    Yields P w0 n (.more (.eqD neg t sh x y)) T S (.bool (if neg then !r else r)) := by
  intro o a w hco hs hr
  obtain ⟨c, d, u, ho, rfl, rfl, hfl, hg, dd, hu, hdd⟩ := cOp_spec P hco
  have hk : ckOf P t = none := by
    unfold ckOf
    rw [hu]
    cases dd <;> simp_all
  have heq : (Op.equalIn 10000 t (.agg xs) (.agg ys)).run P w = .ok r w := (agg_eq P w 8 t sh hfl hk).2 10000 (by omega) xs ys r h
  simp only [execOp, ho, hs.eval hx, hs.eval hy]
  cases neg
  · simp only [Bool.false_eq_true, if_false, Sem.run_bind, run_eqGuard_agg w .eql t c d xs ys hg, Result.andThen_ok, run_eql_struct, heq]
    simp
  · simp only [if_true, Sem.run_bind, run_eqGuard_agg w .neq t c d xs ys hg, Result.andThen_ok]
    have : (binOp .neq t (.agg xs) (.agg ys)).run P w = .ok (.bool !r) w := by
      show (do Pure.pure (Value.bool (!(← Op.equal t (.agg xs) (.agg ys)))) : Sem Value).run P w = _
      have h2 : (Op.equal t (.agg xs) (.agg ys)).run P w = .ok r w := heq
      simp [h2]
    simp [this]
end
end Go.SL
