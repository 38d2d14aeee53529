/- Operations that need no memory: what the evaluator tells is so. -/
import Derived.Test.YtbidjnjbiibdeaaDoorE3
set_option linter.unusedVariables false
set_option linter.unusedSimpArgs false
namespace Go.SL
open Go.RowKit
section
variable {P : Program} {w0 : World} {n : Nat} {T Tc : TT} {S : SS} {ρ : Rho} {H : EH} {L : LL}
theorem addr_idx {a a' : Addr} (h : AR ρ a a') (k : Nat) : VR ρ (.pointer (some ⟨a.block, a.off + k, none⟩)) (.pointer (some (a'.add k))) := (h.add k).ptr
theorem binB_VR {op : BinOp} {a b a' b' v : Value} (h : binB op a b = some v) (ha : VR ρ a a') (hb : VR ρ b b') : a' = a ∧ b' = b ∧ VR ρ v v := by
  unfold binB at h
  split at h
  · refine ⟨ha.bool_inv, hb.bool_inv, ?_⟩
    cases op <;> simp at h <;> subst h <;> exact .flat rfl
  · cases h
theorem binI_flat {op : BinOp} {k : IntKind} {a b : Int} {v : Value} (h : binI op k a b = some v) : VR ρ v v := by
  cases op <;> simp [binI] at h <;> subst h <;> exact .flat rfl
theorem binE_VR {op : BinOp} {a b a' b' v : Value} (h : binE op a b = some v) (ha : VR ρ a a') (hb : VR ρ b b') : a' = a ∧ b' = b ∧ VR ρ v v := by
  unfold binE at h
  split at h
  · refine ⟨ha.int_inv, hb.int_inv, ?_⟩
    split at h
    all_goals (split at h)
    all_goals (first | (cases h; done) | skip)
    all_goals (first | (obtain rfl := Option.some.inj h; exact .flat rfl) | exact binI_flat h)
  · refine ⟨ha.str_inv, hb.str_inv, ?_⟩
    split at h
    · cases hb : Nat.ble ((strL _).length + (strL _).length) 1000000000 with
      | false => rw [hb] at h; simp at h
      | true => rw [hb] at h; simp only [cond_true, Option.some.injEq] at h; subst h; exact .flat rfl
    all_goals (first | (cases h; done) | (obtain rfl := Option.some.inj h; exact .flat rfl))
  · cases h
/-- of a slice: an address that the index steps from -/
theorem ix_slice {a : Addr} {l e : Nat} {u : Value} (h : VR ρ (.slice (some a) l e) u) (hl : 0 < l) : ∃ a' c, u = .slice (some a') l c ∧ AR ρ a a' := by
  rcases h.slice_inv with ⟨i, b, t, ha, rfl, hi, _⟩ | ⟨_, h0, _⟩
  · refine ⟨_, _, rfl, ?_⟩
    have h1 := congrArg Addr.spot ha
    have h2 := congrArg Addr.block ha
    exact ⟨h1, rfl, rfl, .inr ⟨i, t, h2, hi⟩⟩
  · omega

set_option maxHeartbeats 1000000 in
theorem evP_snd {po : PO} {v : Value} (hT : TR ρ T Tc) (h : evP po T = some v) : ∃ u, Yields P w0 n po Tc S u ∧ VR ρ v u := by
  unfold evP at h
  split at h
  · rename_i x
    obtain ⟨u, h1, h2⟩ := hT.ev h
    exact ⟨u, Yields.pure h1, h2⟩
  · rename_i op x y
    split at h
    · rename_i a b hx hy
      obtain ⟨a', h1, h2⟩ := hT.ev hx
      obtain ⟨b', h3, h4⟩ := hT.ev hy
      obtain ⟨rfl, rfl, h5⟩ := binE_VR h h2 h4
      exact ⟨v, bin_snd h1 h3 h, h5⟩
    · cases h
  · rename_i op x y
    split at h
    · rename_i a b hx hy
      obtain ⟨a', h1, h2⟩ := hT.ev hx
      obtain ⟨b', h3, h4⟩ := hT.ev hy
      obtain ⟨rfl, rfl, h5⟩ := binB_VR h h2 h4
      exact ⟨v, Yields.pure (by simp [evalP, h1, h3, h]), h5⟩
    · cases h
  · rename_i x
    split at h
    · rename_i b hx
      obtain ⟨u, h1, h2⟩ := hT.ev hx
      obtain rfl := h2.bool_inv
      obtain rfl := Option.some.inj h
      exact ⟨_, Yields.pure (by simp [evalP, h1]), .flat rfl⟩
    · cases h
  · rename_i k x
    split at h
    · rename_i j a hx
      obtain ⟨u, h1, h2⟩ := hT.ev hx
      obtain rfl := h2.int_inv
      obtain rfl := Option.some.inj h
      exact ⟨_, Yields.pure (by simp [evalP, h1]), .flat rfl⟩
    · cases h
  · rename_i c a b
    split at h
    · rename_i hc
      obtain ⟨u, h1, h2⟩ := hT.ev hc
      obtain rfl := h2.bool_inv
      obtain ⟨u, h3, h4⟩ := hT.ev h
      exact ⟨u, Yields.pure (by simp [evalP, h1, h3]), h4⟩
    · rename_i hc
      obtain ⟨u, h1, h2⟩ := hT.ev hc
      obtain rfl := h2.bool_inv
      obtain ⟨u, h3, h4⟩ := hT.ev h
      exact ⟨u, Yields.pure (by simp [evalP, h1, h3]), h4⟩
    · cases h
  · rename_i x
    split at h
    · rename_i A m c hx
      obtain ⟨u, h1, h2⟩ := hT.ev hx
      obtain rfl := Option.some.inj h
      refine ⟨.int .i64 m, ?_, .flat rfl⟩
      cases A with
      | none => obtain ⟨rfl, rfl, rfl⟩ := h2.slice_nil_inv; exact Yields.pure (by simp [evalP, h1])
      | some a =>
        rcases h2.slice_inv with ⟨i, b, t, _, rfl, _⟩ | ⟨_, rfl, _, a', c', rfl⟩
        · exact Yields.pure (by simp [evalP, h1])
        · exact Yields.pure (by simp [evalP, h1])
    · cases h
  · rename_i x
    split at h
    · rename_i s hx
      obtain ⟨u, h1, h2⟩ := hT.ev hx
      obtain rfl := h2.str_inv
      obtain rfl := Option.some.inj h
      exact ⟨_, Yields.pure (by simp [evalP, h1, strL_length]), .flat rfl⟩
    · cases h
  · rename_i i x
    split at h
    · rename_i vs hx
      obtain ⟨u, h1, h2⟩ := hT.ev hx
      obtain ⟨us, rfl, h3⟩ := h2.tuple_inv
      obtain ⟨u, h4, h5⟩ := h3.get h
      exact ⟨u, Yields.pure (by simp [evalP, h1, h4]), h5⟩
    · cases h
  · rename_i off x
    split at h
    · rename_i a hx
      obtain ⟨u, h1, h2⟩ := hT.ev hx
      obtain ⟨a', rfl, h3⟩ := h2.ptr_inv
      obtain rfl := Option.some.inj h
      exact ⟨_, Yields.pure (by simp [evalP, h1]), addr_idx h3 off⟩
    · cases h
  · rename_i mx x y
    split at h
    · rename_i k a k' b hx hy
      obtain ⟨u, h1, h2⟩ := hT.ev hx
      obtain ⟨u', h3, h4⟩ := hT.ev hy
      obtain rfl := h2.int_inv
      obtain rfl := h4.int_inv
      obtain rfl := Option.some.inj h
      exact ⟨_, Yields.pure (by simp [evalP, h1, h3]), .flat rfl⟩
    · cases h
  · rename_i x
    split at h
    · rename_i a hx
      obtain ⟨u, h1, h2⟩ := hT.ev hx
      obtain ⟨a', rfl, h3⟩ := h2.ptr_inv
      obtain rfl := Option.some.inj h
      exact ⟨_, Yields.nilc h1, h2⟩
    · rename_i f fi ca hx
      obtain ⟨u, h1, h2⟩ := hT.ev hx
      obtain ⟨fi', ca', rfl, h3⟩ := h2.func_inv
      obtain rfl := Option.some.inj h
      exact ⟨_, Yields.nilcF h1, h2⟩
    · cases h
  · rename_i off x
    split at h
    · rename_i c hx
      obtain ⟨u, h1, h2⟩ := hT.ev hx
      obtain ⟨us, rfl, h3⟩ := h2.agg_inv
      obtain ⟨u, h4, h5⟩ := h3.get h
      exact ⟨u, Yields.fld h1 (by simpa using h4), h5⟩
    · cases h
  · rename_i off m x
    split at h
    · rename_i c hx
      obtain ⟨u, h1, h2⟩ := hT.ev hx
      obtain ⟨us, rfl, h3⟩ := h2.agg_inv
      obtain rfl := Option.some.inj h
      refine ⟨_, Yields.fldA h1, ?_⟩
      have h4 := (h3.drop off).take m
      have e : us.toArray.extract off (off + m) = ((us.drop off).take m).toArray := by
        apply Array.toList_inj.1
        simp [List.extract]
      rw [e]
      exact .agg h4.1 h4.2
    · cases h
  · rename_i sz x i
    split at h
    · rename_i a l e k j hx hi
      split at h
      · rename_i hj
        obtain ⟨u, h1, h2⟩ := hT.ev hx
        obtain ⟨u', h3, h4⟩ := hT.ev hi
        obtain rfl := h4.int_inv
        obtain ⟨a', c, rfl, h5⟩ := ix_slice h2 (by omega)
        obtain rfl := Option.some.inj h
        exact ⟨_, Yields.ixS h1 h3 hj.1 hj.2, addr_idx h5 _⟩
      · cases h
    · cases h
  · rename_i len sz x i
    split at h
    · rename_i a k j hx hi
      split at h
      · rename_i hj
        obtain ⟨u, h1, h2⟩ := hT.ev hx
        obtain ⟨u', h3, h4⟩ := hT.ev hi
        obtain rfl := h4.int_inv
        obtain ⟨a', rfl, h5⟩ := h2.ptr_inv
        obtain rfl := Option.some.inj h
        exact ⟨_, Yields.ixA (j := j.toNat) h1 h3 (by omega) (by omega), addr_idx h5 _⟩
      · cases h
    · cases h
  · rename_i x i
    split at h
    · rename_i s k j hx hi
      split at h
      · rename_i hj
        split at h
        · rename_i b hb
          obtain ⟨u, h1, h2⟩ := hT.ev hx
          obtain ⟨u', h3, h4⟩ := hT.ev hi
          obtain rfl := h4.int_inv
          obtain rfl := h2.str_inv
          obtain rfl := Option.some.inj h
          have e : j = ((j.toNat : Nat) : Int) := by omega
          rw [e] at h3
          exact ⟨_, Yields.ixStr h1 h3 (getElem?_strL hb), .flat rfl⟩
        · cases h
      · cases h
    · cases h
  · rename_i x lo hi
    split at h
    · rename_i s l hh hx hl hh'
      obtain ⟨u, h1, h2⟩ := hT.ev hx
      obtain rfl := h2.str_inv
      have h3 := ovE_spec hT hl
      have h4 := ovE_spec hT hh'
      unfold evP.slStrE at h
      split at h
      · rename_i hc
        obtain rfl := Option.some.inj h
        obtain ⟨c1, c2, c3⟩ := hc
        have e9 := strL_length s
        refine ⟨_, Yields.slStr (l := (l.getD 0).toNat) (h := (hh.getD (strL s).length).toNat) h1 h3 h4 ?_ ?_ (by omega) (by omega), ?_⟩
        · cases l with
          | none => exact .inr ⟨rfl, rfl⟩
          | some z => left; simp at c1 ⊢; omega
        · cases hh with
          | none => right; simp [strL_length]
          | some z => left; simp at c1 c2 ⊢; omega
        · rw [extract_strL]; exact .flat rfl
      · cases h
    · cases h
  · rename_i f caps
    split at h
    · rename_i vs hv
      obtain ⟨us, h1, h2⟩ := evs_spec hT hv
      obtain rfl := Option.some.inj h
      refine ⟨_, Yields.mkF h1, ?_⟩
      exact VR.func (fi := []) (fi' := []) rfl (fun j v u h => by simp at h) h2.1 h2.2
    · cases h
  · rename_i neg x y
    split at h
    · rename_i hx hy
      obtain ⟨u, h1, h2⟩ := hT.ev hx
      obtain ⟨u', h3, h4⟩ := hT.ev hy
      obtain rfl := h2.nilptr_inv
      obtain rfl := h4.nilptr_inv
      obtain rfl := Option.some.inj h
      exact ⟨_, Yields.eqPn h1 h3, by cases neg <;> exact .flat rfl⟩
    · rename_i a hx hy
      obtain ⟨u, h1, h2⟩ := hT.ev hx
      obtain ⟨u', h3, h4⟩ := hT.ev hy
      obtain ⟨a', rfl, _⟩ := h2.ptr_inv
      obtain rfl := h4.nilptr_inv
      obtain rfl := Option.some.inj h
      exact ⟨_, Yields.eqPn h1 h3, by cases neg <;> exact .flat rfl⟩
    · cases h
  · rename_i neg t sh x y
    split at h
    · rename_i a b hx hy
      split at h
      · rename_i r hr
        obtain ⟨u, h1, h2⟩ := hT.ev hx
        obtain ⟨u', h3, h4⟩ := hT.ev hy
        obtain ⟨us, rfl, h5⟩ := h2.agg_inv
        obtain ⟨us', rfl, h6⟩ := h4.agg_inv
        obtain rfl := Option.some.inj h
        exact ⟨_, Yields.eqA h1 h3 (by simpa using eqCells_VR hr h5 h6), .flat rfl⟩
      · cases h
    · cases h
  · cases h
end
end Go.SL
