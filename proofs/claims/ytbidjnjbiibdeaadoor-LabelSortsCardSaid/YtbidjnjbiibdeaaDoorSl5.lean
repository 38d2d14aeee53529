/- Regions that draw their order: operations that turn nothing, in whatever order, then the others one behind the other. -/
import Derived.Test.YtbidjnjbiibdeaaDoorSl4
set_option linter.unusedVariables false
set_option linter.unusedSimpArgs false
namespace Go.SL
open Go.RowKit

section
variable {P : Program} {w0 : World} {n : Nat} {T : TT} {S : SS}

/-! ### what stands ahead -/
theorem foldl_bit {acc : List Nat} {es : List Edge} {s j : Nat} (h : (es.foldl (fun s e => if Region.binds .any e then s ||| 2 ^ e.on ||| acc.getD e.on 0 else s) s).testBit j = true) :
    s.testBit j = true ∨ ∃ e ∈ es, Region.binds .any e = true ∧ (e.on = j ∨ (acc.getD e.on 0).testBit j = true) := by
  induction es generalizing s with
  | nil => exact .inl h
  | cons e es ih =>
    simp only [List.foldl_cons] at h
    rcases ih h with h | ⟨e', he, hb, hj⟩
    · split at h
      · rename_i hb
        simp only [Nat.testBit_or, Bool.or_eq_true, Nat.testBit_two_pow] at h
        rcases h with (h | h) | h
        · exact .inl h
        · exact .inr ⟨e, by simp, hb, .inl (by simpa using h)⟩
        · exact .inr ⟨e, by simp, hb, .inr h⟩
      · exact .inl h
    · exact .inr ⟨e', by simp [he], hb, hj⟩

/-- a set of operations that holds with each one what it waits for -/
def Closed (ops : Array Oper) (X : Nat → Prop) : Prop := ∀ i o, ops[i]? = some o → X i → ∀ e ∈ o.after, Region.binds .any e = true → X e.on

theorem ancs_spec {all : Array Oper} {X : Nat → Prop} (hX : Closed all X) : ∀ (ops : List Oper) (acc : List Nat), all.toList = all.toList.take acc.length ++ ops → acc.length + ops.length = all.size →
    (∀ i, i < acc.length → ∀ j, (acc.getD i 0).testBit j = true → X i → X j) → ∀ i j, i < all.size → ((ancs ops acc).getD i 0).testBit j = true → X i → X j
  | [], acc, h1, h2, hacc => fun i j hi hj hx => hacc i (by simp at h2; omega) j (by simpa [ancs] using hj) hx
  | o :: r, acc, h1, h2, hacc => by
    have ho : all[acc.length]? = some o := by
      have := congrArg (fun l => l[acc.length]?) h1
      simp only [Array.getElem?_toList] at this
      rw [this, List.getElem?_append_right (by simp [Nat.min_le_left])]
      simp at h2 ⊢
      have : min acc.length all.size = acc.length := by omega
      rw [this]
      simp
    refine ancs_spec hX r (acc ++ [ancOf acc o]) ?_ (by simp at h2 ⊢; omega) ?_
    · have hlen : acc.length < all.toList.length := by simp at h2 ⊢; omega
      have e1 : all.toList.take (acc.length + 1) = all.toList.take acc.length ++ [o] := by
        rw [List.take_add_one]
        simp [ho]
      simp only [List.length_append, List.length_singleton, e1, List.append_assoc, List.singleton_append]
      exact h1
    · intro i hi j hj hx
      simp only [List.length_append, List.length_singleton] at hi
      by_cases hlt : i < acc.length
      · rw [List.getD_eq_getElem?_getD, List.getElem?_append_left hlt, ← List.getD_eq_getElem?_getD] at hj
        exact hacc i hlt j hj hx
      · obtain rfl : i = acc.length := by omega
        simp only [List.getD_eq_getElem?_getD, List.getElem?_concat_length, Option.getD_some] at hj
        rcases foldl_bit hj with h | ⟨e, he, hb, h⟩
        · simp at h
        · have hxe : X e.on := hX _ o ho hx e (by simpa using he) hb
          rcases h with rfl | h
          · exact hxe
          · by_cases hle : e.on < acc.length
            · exact hacc _ hle j h hxe
            · rw [List.getD_eq_getElem?_getD, List.getElem?_eq_none (by omega)] at h
              simp at h


/-- operations that turn nothing, one behind the other as the text has them -/
inductive QL (P : Program) (w0 : World) (n : Nat) (S : SS) : List PI → TT → TT → Prop
  | nil {T : TT} : QL P w0 n S [] T T
  | step {T T' : TT} {d : Option Nat} {g : Option (Nat × Bool)} {po : PO} {v : Value} {r : List PI} (hg : gOk T g) (h : OW P w0 n po T S (fun v' S' => v' = v ∧ S' = S)) (k : QL P w0 n S r (put d v T) T') : QL P w0 n S (⟨d, g, po⟩ :: r) T T'
  | off {T T' : TT} {d : Option Nat} {s : Nat} {b : Bool} {u : Value} {po : PO} {r : List PI} (hl : look T s = some u) (hc : (boolOf u == some b) = false) (k : QL P w0 n S r (put d undef T) T') : QL P w0 n S (⟨d, some (s, b), po⟩ :: r) T T'

theorem foldl_ext' {α β : Type} (f g : β → α → β) (l : List α) : ∀ b, (∀ b, ∀ j ∈ l, f b j = g b j) → l.foldl f b = l.foldl g b := by
  induction l with
  | nil => intro b _; rfl
  | cons x l ih => intro b h; simp only [List.foldl_cons]; rw [h b x (by simp)]; exact ih _ fun b j hj => h b j (by simp [hj])
def dstAt (ops : Array Oper) (i : Nat) : Option Nat := (ops[i]?).bind (·.dst)
def runA (ops : Array Oper) (vs : Nat → Value) (s m : Nat) (a : Act) : Act := (List.range' s m).foldl (fun a i => a.put (dstAt ops i) (vs i)) a
/-- at this state the operation i gives v -/
def GivesAt (P : Program) (w0 : World) (S : SS) (ops : Array Oper) (i : Nat) (v : Value) (a : Act) : Prop :=
  ∀ o, ops[i]? = some o → (Region.wanted o (yielded ops a.tmps) = true ∧ ∀ w, Rep w0 S w → o.wp P a w (fun b w' => b = a.put o.dst v ∧ Rep w0 S w') (fun _ _ _ => False)) ∨
    (Region.wanted o (yielded ops a.tmps) = false ∧ v = undef)

theorem QL.trace {ops : Array Oper} {l : List PI} {T T' : TT} (h : QL P w0 n S l T T') : ∀ s a, cIs P n ops (List.range' s l.length) = some l → Sat n T a →
    ∃ vs : Nat → Value, Sat n T' (runA ops vs s l.length a) ∧ (∀ j, j < l.length → GivesAt P w0 S ops (s + j) (vs (s + j)) (runA ops vs s j a)) ∧ (∀ j o, j < l.length → ops[s + j]? = some o → dstOk n o.dst = true) := by
  induction h with
  | nil => intro s a _ hs; exact ⟨fun _ => undef, by simpa [runA] using hs, fun j hj => by simp at hj, fun j o hj => by simp at hj⟩
  | @step T T' d g po v r hg h k ih =>
    intro s a hc hs
    simp only [List.length_cons, List.range'_succ] at hc
    obtain ⟨i, is, he, hi, hrest⟩ := cIs_cons hc
    simp only [List.cons.injEq] at he
    obtain ⟨rfl, rfl⟩ := he
    obtain ⟨o, ho, hpo, hd, hdst, hgd⟩ := cI_spec hi
    simp only at hpo hdst
    subst hdst
    obtain ⟨vs, h1, h2, h3⟩ := ih (s + 1) _ hrest (hs.put hd v)
    have hda : dstAt ops s = o.dst := by simp [dstAt, ho]
    have hrun : ∀ m, runA ops (fun i => if i = s then v else vs i) s (m + 1) a = runA ops vs (s + 1) m (a.put o.dst v) := by
      intro m
      unfold runA
      rw [List.range'_succ, List.foldl_cons]
      simp only [if_true, hda]
      refine foldl_ext' _ _ _ _ fun b j hj => ?_
      have : j ≠ s := by have := List.mem_range'.1 hj; omega
      simp [this]
    refine ⟨fun i => if i = s then v else vs i, by rw [List.length_cons, hrun]; exact h1, ?_, ?_⟩
    · intro j hj
      cases j with
      | zero =>
        simp only [Nat.add_zero, if_true]
        intro o' ho'
        obtain rfl : o = o' := by rw [ho] at ho'; exact Option.some.inj ho'
        left
        simp only [runA, List.range'_zero, List.foldl_nil]
        refine ⟨?_, fun w hr => ?_⟩
        · rcases hgd with ⟨hgd, _⟩ | ⟨j, b, s', hgd, hjj, he⟩
          · simp [Region.wanted, hgd]
          · simp only at he
            subst he
            simp [Region.wanted, hgd, hs.yielded hjj hg]
        · refine Oper.wp_mono ?_ (h o a w _ hpo hs hr)
          rintro b w' ⟨v', S', rfl, hr', rfl, rfl⟩
          exact ⟨rfl, hr'⟩
      | succ j =>
        have hne : ¬ s + (j + 1) = s := by omega
        simp only [hne, if_false]
        rw [hrun]
        have := h2 j (by simpa using hj)
        rwa [show s + 1 + j = s + (j + 1) by omega] at this
    · intro j o' hj ho'
      cases j with
      | zero => obtain rfl : o = o' := by rw [Nat.add_zero, ho] at ho'; exact Option.some.inj ho'
                exact hd
      | succ j => exact h3 j o' (by simpa using hj) (by rwa [show s + 1 + j = s + (j + 1) by omega])
  | @off T T' d sl b u po r hl hcb k ih =>
    intro s a hc hs
    simp only [List.length_cons, List.range'_succ] at hc
    obtain ⟨i, is, he, hi, hrest⟩ := cIs_cons hc
    simp only [List.cons.injEq] at he
    obtain ⟨rfl, rfl⟩ := he
    obtain ⟨o, ho, hpo, hd, hdst, hgd⟩ := cI_spec hi
    simp only at hpo hdst
    subst hdst
    obtain ⟨vs, h1, h2, h3⟩ := ih (s + 1) _ hrest (hs.put (d := o.dst) hd undef)
    have hda : dstAt ops s = o.dst := by simp [dstAt, ho]
    have hrun : ∀ m, runA ops (fun i => if i = s then undef else vs i) s (m + 1) a = runA ops vs (s + 1) m (a.put o.dst undef) := by
      intro m
      unfold runA
      rw [List.range'_succ, List.foldl_cons]
      simp only [if_true, hda]
      refine foldl_ext' _ _ _ _ fun b j hj => ?_
      have : j ≠ s := by have := List.mem_range'.1 hj; omega
      simp [this]
    refine ⟨fun i => if i = s then undef else vs i, by rw [List.length_cons, hrun]; exact h1, ?_, ?_⟩
    · intro j hj
      cases j with
      | zero =>
        simp only [Nat.add_zero, if_true]
        intro o' ho'
        obtain rfl : o = o' := by rw [ho] at ho'; exact Option.some.inj ho'
        right
        refine ⟨?_, rfl⟩
        simp only [runA, List.range'_zero, List.foldl_nil]
        rcases hgd with ⟨_, hgd⟩ | ⟨j, b', s', hgd, hjj, he⟩
        · simp at hgd
        · simp only [Option.some.injEq, Prod.mk.injEq] at he
          obtain ⟨rfl, rfl⟩ := he
          simp only [Region.wanted, hgd, hs.yieldedV hjj hl]; exact hcb
      | succ j =>
        have hne : ¬ s + (j + 1) = s := by omega
        simp only [hne, if_false]
        rw [hrun]
        have := h2 j (by simpa using hj)
        rwa [show s + 1 + j = s + (j + 1) by omega] at this
    · intro j o' hj ho'
      cases j with
      | zero => obtain rfl : o = o' := by rw [Nat.add_zero, ho] at ho'; exact Option.some.inj ho'
                exact hd
      | succ j => exact h3 j o' (by simpa using hj) (by rwa [show s + 1 + j = s + (j + 1) by omega])

/-! ### any order -/
def foldF (ops : Array Oper) (vs : Nat → Value) (f : Nat → Bool) (k : Nat) (a : Act) : Act := (List.range k).foldl (fun a i => if f i then a.put (dstAt ops i) (vs i) else a) a
theorem foldF_succ (ops : Array Oper) (vs : Nat → Value) (f : Nat → Bool) (k : Nat) (a : Act) : foldF ops vs f (k + 1) a = if f k then (foldF ops vs f k a).put (dstAt ops k) (vs k) else foldF ops vs f k a := by
  simp [foldF, List.range_succ]
theorem foldF_size (ops : Array Oper) (vs : Nat → Value) (f : Nat → Bool) (k : Nat) (a : Act) : (foldF ops vs f k a).tmps.size = a.tmps.size ∧ (foldF ops vs f k a).defers = a.defers := by
  induction k with
  | zero => simp [foldF]
  | succ k ih =>
    rw [foldF_succ]
    split
    · cases dstAt ops k <;> simp [Act.put, ih]
    · exact ih
theorem foldF_agree (ops : Array Oper) (vs : Nat → Value) (f g : Nat → Bool) (k : Nat) (a : Act) (x : Nat) (h : ∀ j, j < k → dstAt ops j = some x → f j = g j) : (foldF ops vs f k a).tmps[x]? = (foldF ops vs g k a).tmps[x]? := by
  induction k with
  | zero => rfl
  | succ k ih =>
    have ih' := ih fun j hj => h j (by omega)
    rw [foldF_succ, foldF_succ]
    by_cases hd : dstAt ops k = some x
    · rw [h k (by omega) hd]
      split
      · simp only [hd, Act.put]
        by_cases hlt : x < a.tmps.size
        · rw [Array.getElem?_setIfInBounds_self_of_lt (by rw [(foldF_size ops vs f k a).1]; exact hlt), Array.getElem?_setIfInBounds_self_of_lt (by rw [(foldF_size ops vs g k a).1]; exact hlt)]
        · rw [Array.getElem?_eq_none (by simp [(foldF_size ops vs f k a).1]; omega), Array.getElem?_eq_none (by simp [(foldF_size ops vs g k a).1]; omega)]
      · exact ih'
    · have hp : ∀ b : Act, (b.put (dstAt ops k) (vs k)).tmps[x]? = b.tmps[x]? := by
        intro b
        cases hdk : dstAt ops k with
        | none => rfl
        | some y =>
          have : y ≠ x := fun e => hd (by rw [hdk, e])
          simp [Act.put, Array.getElem?_setIfInBounds_ne this]
      split <;> split <;> simp [hp, ih']
theorem foldF_runA (ops : Array Oper) (vs : Nat → Value) (i k : Nat) (a : Act) (h : i ≤ k) : foldF ops vs (fun j => decide (j < i)) k a = runA ops vs 0 i a := by
  induction k with
  | zero => obtain rfl : i = 0 := by omega
            rfl
  | succ k ih =>
    rw [foldF_succ]
    by_cases hk : k < i
    · obtain rfl : i = k + 1 := by omega
      simp only [hk, decide_true, if_true]
      have : foldF ops vs (fun j => decide (j < k + 1)) k a = runA ops vs 0 k a := by
        unfold foldF runA
        rw [List.range_eq_range']
        refine foldl_ext' _ _ _ _ fun b j hj => ?_
        have := List.mem_range'.1 hj
        simp; omega
      rw [this]
      simp [runA, List.range'_concat]
    · simp only [hk, decide_false, Bool.false_eq_true, if_false]
      exact ih (by omega)
theorem act_ext {a b : Act} (h1 : a.tmps.size = b.tmps.size) (h2 : a.defers = b.defers) (h3 : ∀ x : Nat, a.tmps[x]? = b.tmps[x]?) : a = b := by
  obtain ⟨ta, da⟩ := a
  obtain ⟨tb, db⟩ := b
  simp only [Act.mk.injEq]
  exact ⟨Array.ext_getElem? h3, h2⟩


theorem wp_transfer {o : Oper} {a a' : Act} {w : World} {v : Value} {R : World → Prop} {Q : Exit → Act → World → Prop} (he : execOp a.eval o = execOp a'.eval o) (hn : a.tmps.size = a'.tmps.size) (hd : dstOk a.tmps.size o.dst = true)
    (hdf : a.defers = [])
    (h : o.wp P a w (fun b w' => b = a.put o.dst v ∧ R w') (fun _ _ _ => False)) : o.wp P a' w (fun b w' => b = a'.put o.dst v ∧ R w') Q := by
  have put_eq : ∀ x : Value, a.put o.dst x = a.put o.dst v → a'.put o.dst x = a'.put o.dst v := by
    intro x hx
    cases hdst : o.dst with
    | none => rfl
    | some d =>
      rw [hdst] at hx hd
      simp only [dstOk, decide_eq_true_eq] at hd
      have : x = v := by
        have := congrArg (fun b : Act => b.tmps[d]?) hx
        simpa [Act.put, hd] using this
      rw [this]
  unfold Oper.wp at *
  rw [← he]
  generalize (execOp a.eval o).run P w = r at *
  cases r with
  | ok x w' =>
    cases x <;> simp only [Oper.upon] at h ⊢
    case value x => exact ⟨put_eq _ h.1, h.2⟩
    case skip => exact ⟨put_eq _ h.1, h.2⟩
    case defer d =>
      exfalso
      have := congrArg Act.defers h.1
      cases hdst : o.dst <;> simp [Act.put, hdst, hdf] at this
    case enter f args =>
      refine h.mono ?_
      intro e w'' he
      cases e with
      | returned x => exact ⟨put_eq _ he.1, he.2⟩
      | panicked c => exact he.elim
      | outgrown => obtain ⟨_, _, hf⟩ := he; exact hf.elim
    case row row args => exact h.mono fun v w'' hv => ⟨put_eq _ hv.1, hv.2⟩
    all_goals exact h.elim
  | halt x w' => cases x <;> simp only [Oper.upon] at h ⊢

theorem wpAny_tail {ops : Array Oper} {Q : Exit → Act → World → Prop} (hb : backB ops = true) : ∀ (m s : Nat) (listed : Array Bool) (a : Act) (w : World), s + m = ops.size → listed.size = ops.size →
    (∀ j, j < ops.size → listed.getD j true = decide (j < s)) → (∀ t i, s < t → t < ops.size → i < t → s ≤ i → listed.getD i false = false → t ∉ Region.ready .any ops listed) →
    (∀ listed' : Array Bool, ∀ t s', s ≤ s' → s' < t → t < ops.size → (∀ j, j < ops.size → listed'.getD j true = decide (j < s')) → listed'.size = ops.size → t ∉ Region.ready .any ops listed') →
    wpOps P ops Q (List.range' s m) a w → wpAny P .any ops Q m listed a w
  | 0, s, listed, a, w, hs, hsz, hl, _, _, h => by
    refine ⟨?_, by simpa [wpOps] using h⟩
    unfold Region.ready
    rw [List.filter_eq_nil_iff]
    intro i hi
    have := hl i (List.mem_range.1 hi)
    have h2 : i < s := by have := List.mem_range.1 hi; omega
    simp [hl i (List.mem_range.1 hi), h2]
  | m + 1, s, listed, a, w, hs, hsz, hl, hr, hr2, h => by
    rw [List.range'_succ, wpOps_cons] at h
    have hnext : ∀ a w, wpOps P ops Q (List.range' (s + 1) m) a w → wpAny P .any ops Q m (listed.setIfInBounds s true) a w := by
      intro a w h
      have hl' : ∀ j, j < ops.size → (listed.setIfInBounds s true).getD j true = decide (j < s + 1) := by
        intro j hj
        by_cases e : s = j
        · subst e
          simp [hsz, hj]
        · rw [getD_set_ne true e, hl j hj]
          simp; omega
      exact wpAny_tail hb m (s + 1) _ a w (by omega) (by simp [hsz]) hl' (fun t i h1 h2 h3 h4 h5 => hr2 _ t (s + 1) (by omega) h1 h2 hl' (by simp [hsz])) (fun l' t s' h1 h2 h3 h4 h5 => hr2 l' t s' (by omega) h2 h3 h4 h5) h
    have hready : s ∈ Region.ready .any ops listed := by
      rw [mem_ready]
      have hlt : s < ops.size := by omega
      refine ⟨by rw [hl s hlt]; simp, ops[s], by simp [hlt], fun e he hbd => ?_⟩
      have h1 := List.all_eq_true.1 hb s (List.mem_range.2 hlt)
      simp only [Array.getElem?_eq_getElem hlt] at h1
      have h2 := (Array.all_eq_true_iff_forall_mem.1 h1) e he
      simp only [hbd, Bool.not_true, Bool.false_or, decide_eq_true_eq] at h2
      have h3 := hl e.on (by omega)
      simp only [h2, decide_true] at h3
      have : e.on < listed.size := by omega
      simpa [this] using h3
    refine ⟨fun h0 => by rw [h0] at hready; simp at hready, fun i hi => ?_⟩
    have hi' := mem_ready.1 hi
    have hilt : i < ops.size := by obtain ⟨_, o, ho, _⟩ := hi'; exact (Array.getElem?_eq_some_iff.1 ho).1
    have hge : s ≤ i := by
      have := hi'.1
      rw [hl i hilt] at this
      simpa using this
    have : i = s := by
      rcases Nat.lt_or_ge s i with h' | h'
      · exact absurd hi (hr2 listed i s (Nat.le_refl _) h' hilt hl hsz)
      · omega
    subst this
    exact wpOp_mono hnext h


def cnt (f : Nat → Bool) : Nat → Nat
  | 0 => 0
  | m + 1 => cnt f m + (if f m then 0 else 1)
theorem cnt_set {f g : Nat → Bool} {i : Nat} (hf : f i = false) (hg : g i = true) (he : ∀ j, j ≠ i → g j = f j) : ∀ m, cnt f m = cnt g m + (if i < m then 1 else 0)
  | 0 => by simp [cnt]
  | m + 1 => by
    simp only [cnt]
    rw [cnt_set hf hg he m]
    by_cases e : m = i
    · subst e; simp [hf, hg]
    · rw [he m e]
      by_cases h : i < m
      · have : i < m + 1 := by omega
        simp [h, this]; omega
      · have : ¬ i < m + 1 := by omega
        simp [h, this]
theorem cnt_congr {f g : Nat → Bool} : ∀ m, (∀ j, j < m → f j = g j) → cnt f m = cnt g m
  | 0, _ => rfl
  | m + 1, h => by simp only [cnt]; rw [cnt_congr m (fun j hj => h j (by omega)), h m (by omega)]
theorem cnt_below (s : Nat) : ∀ m, cnt (fun j => decide (j < s)) m = m - s
  | 0 => by simp [cnt]
  | m + 1 => by
    simp only [cnt]
    rw [cnt_below s m]
    by_cases h : m < s
    · simp [h]; omega
    · simp [h]; omega
theorem cnt_pos {f : Nat → Bool} : ∀ m, 0 < cnt f m → ∃ i, i < m ∧ f i = false ∧ ∀ j, j < i → f j = true
  | 0, h => by simp [cnt] at h
  | m + 1, h => by
    by_cases h0 : 0 < cnt f m
    · obtain ⟨i, h1, h2⟩ := cnt_pos m h0
      exact ⟨i, by omega, h2⟩
    · have hz : cnt f m = 0 := by omega
      simp only [cnt, hz] at h
      refine ⟨m, by omega, by cases hf : f m <;> simp_all, fun j hj => ?_⟩
      clear h
      induction m with
      | zero => omega
      | succ m ih =>
        simp only [cnt] at hz
        by_cases e : j = m
        · subst e; cases hf : f j <;> simp_all
        · exact ih (by simp only [cnt] at h0; omega) (by omega) (by omega)

theorem cIs_length {ops : Array Oper} : ∀ {is : List Nat} {l : List PI}, cIs P n ops is = some l → l.length = is.length
  | [], l, h => by simp [cIs] at h; subst h; rfl
  | i :: is, l, h => by
    cases l with
    | nil => simp only [cIs] at h; split at h <;> simp at h
    | cons x l =>
      obtain ⟨i', r, he, _, h2⟩ := cIs_cons h
      simp only [List.cons.injEq] at he
      obtain ⟨rfl, rfl⟩ := he
      simp [cIs_length h2]
theorem cIs_append {ops : Array Oper} : ∀ {is js : List Nat} {l : List PI}, cIs P n ops (is ++ js) = some l → cIs P n ops is = some (l.take is.length) ∧ cIs P n ops js = some (l.drop is.length)
  | [], js, l, h => by simpa [cIs] using h
  | i :: is, js, l, h => by
    cases l with
    | nil => simp only [List.cons_append, cIs] at h; split at h <;> simp at h
    | cons x l =>
      rw [List.cons_append] at h
      obtain ⟨i', r, he, h1, h2⟩ := cIs_cons h
      simp only [List.cons.injEq] at he
      obtain ⟨rfl, rfl⟩ := he
      obtain ⟨h3, h4⟩ := cIs_append h2
      simp [cIs, h1, h3, h4]
theorem headB_all (ops : Array Oper) (H : List Nat) : headB ops H ops.size = true := by
  simp only [headB, List.all_eq_true, List.mem_range, Bool.or_eq_true, decide_eq_true_eq]
  exact fun t ht => .inl ht
theorem headOf_spec (ops : Array Oper) (H : List Nat) : ∀ d, d ≤ ops.size → headB ops (H.filter (· < headOf ops H d)) (headOf ops H d) = true ∧ headOf ops H d ≤ ops.size
  | 0, _ => ⟨headB_all ops _, Nat.le_refl _⟩
  | d + 1, h => by
    simp only [headOf]
    split
    · rename_i h1; exact ⟨h1, by omega⟩
    · exact headOf_spec ops H d (by omega)
theorem backB_spec {ops : Array Oper} (h : backB ops = true) {t : Nat} {o : Oper} (ho : ops[t]? = some o) {e : Edge} (he : e ∈ o.after) (hb : Region.binds .any e = true) : e.on < t := by
  have hlt : t < ops.size := (Array.getElem?_eq_some_iff.1 ho).1
  have h1 := List.all_eq_true.1 h t (List.mem_range.2 hlt)
  rw [ho] at h1
  have h2 := (Array.all_eq_true_iff_forall_mem.1 h1) e he
  simpa [hb] using h2
theorem behind_spec {ops : Array Oper} {X : Nat → Prop} (hX : Closed ops X) {i j : Nat} (hi : i < ops.size) (h : behind (reach ops) i j = true) (hx : X i) : X j :=
  ancs_spec hX ops.toList [] (by simp) (by simp) (fun i hi => by simp at hi) i j hi h hx

theorem eval_agree {a b : Act} {x : Operand} (h : ∀ t, x = .tmp t → a.tmps[t]? = b.tmps[t]?) : a.eval x = b.eval x := by
  cases x with
  | tmp t => simp [Act.eval, Array.getD_eq_getD_getElem?, h t rfl]
  | const v => rfl
  | global g => rfl
  | func f => rfl
theorem looks_op {ops : Array Oper} {o : Oper} {t : Nat} (h : Operand.tmp t ∈ o.op.operands) : t ∈ o.looksAt ops := by
  unfold Oper.looksAt
  rw [List.mem_append]
  left
  rw [List.mem_filterMap]
  exact ⟨.tmp t, by simpa using h, rfl⟩
theorem wanted_agree {ops : Array Oper} {o : Oper} {a b : Act} (h : ∀ t, t ∈ o.looksAt ops → a.tmps[t]? = b.tmps[t]?) : Region.wanted o (yielded ops a.tmps) = Region.wanted o (yielded ops b.tmps) := by
  unfold Region.wanted
  cases hg : o.guard with
  | none => rfl
  | some p =>
    obtain ⟨j, c⟩ := p
    simp only
    have : yielded ops a.tmps j = yielded ops b.tmps j := by
      unfold yielded
      cases hd : (ops[j]?).bind (·.dst) with
      | none => simp
      | some d =>
        have := h d (by unfold Oper.looksAt; rw [List.mem_append]; right; simp [hg, hd])
        simp [this]
    rw [this]

set_option maxHeartbeats 1000000 in
theorem PW.quiet {k : Nat} {l : List PI} {Q : Exit → TT → SS → Prop} {T' : TT} (hm : P.follows .mixedOrders = true) (h1 : QL P w0 n S (l.take k) T T') (h2 : OL P w0 n (l.drop k) T' S (Q .normal)) : PW P w0 n (.quiet k l) T S Q := by
  intro c hc a w hs hr
  cases c
  case region id ops dr =>
    cases dr with
    | false => simp [cC] at hc
    | true =>
      simp only [cC] at hc
      split at hc
      case isFalse => simp at hc
      rename_i hcond
      simp only [Bool.and_eq_true] at hcond
      obtain ⟨⟨⟨hap, hback⟩, hsel⟩, hhoist⟩ := hcond
      simp only [Option.map_eq_some_iff] at hc
      obtain ⟨l', hcis, hmk⟩ := hc
      obtain ⟨rfl, rfl⟩ := mkQ_quiet hmk
      obtain ⟨hhead, hkle⟩ := headOf_spec ops (hoists ops) ops.size (Nat.le_refl _)
      change headB ops ((hoists ops).filter (· < quietAt ops)) (quietAt ops) = true at hhead
      change quietAt ops ≤ ops.size at hkle
      generalize hk : quietAt ops = k at *
      generalize hH : (hoists ops).filter (· < k) = Hs at *
      have hHk : ∀ i ∈ Hs, i < k := fun i hi => by rw [← hH] at hi; simpa using (List.mem_filter.1 hi).2
      have hsplit : List.range ops.size = List.range' 0 k ++ List.range' k (ops.size - k) := by
        rw [List.range_eq_range']
        have := List.range'_append (s := 0) (m := k) (n := ops.size - k) (step := 1)
        simp only [Nat.one_mul, Nat.zero_add] at this
        rw [this]
        congr 1
        omega
      rw [hsplit] at hcis
      obtain ⟨hc1, hc2⟩ := cIs_append hcis
      simp only [List.length_range'] at hc1 hc2
      have hlen : (l'.take k).length = k := by simpa using cIs_length hc1
      obtain ⟨vs, hsat', hgives, hdst⟩ := h1.trace (ops := ops) 0 a (by rw [hlen]; exact hc1) hs
      rw [hlen] at hsat' hgives hdst
      simp only [Nat.zero_add] at hgives hdst
      -- ordered pairs
      have hpair : ∀ i j, i < j → j < ops.size → ∀ oi oj, ops[i]? = some oi → ops[j]? = some oj → behind (reach ops) j i = true ∨ oi.apart ops oj = true := by
        intro i j hij hj oi oj hoi hoj
        have := List.all_eq_true.1 (List.all_eq_true.1 hap j (List.mem_range.2 hj)) i (List.mem_range.2 hij)
        simpa [hoi, hoj] using this
      have htail : ∀ t i, k ≤ t → t < ops.size → i < t → i ∉ Hs → behind (reach ops) t i = true := by
        intro t i hkt ht hi hnH
        have := List.all_eq_true.1 hhead t (List.mem_range.2 ht)
        simp only [Bool.or_eq_true, decide_eq_true_eq] at this
        rcases this with h | h
        · omega
        · have := List.all_eq_true.1 h i (List.mem_range.2 hi)
          simpa [hnH] using this
      have hreadyX : ∀ (listed : Array Bool) i, (∀ j o, ops[j]? = some o → listed.getD j true = true → ∀ e ∈ o.after, Region.binds .any e = true → listed.getD e.on true = true) → i ∈ Region.ready .any ops listed →
          ∀ j, j < ops.size → behind (reach ops) i j = true → j ≠ i → listed.getD j true = true := by
        intro listed i hcl hi j hj hb hne
        obtain ⟨hun, o, ho, hall⟩ := mem_ready.1 hi
        have hX : Closed ops (fun x => listed.getD x true = true ∨ x = i) := by
          rintro x ox hox (hx | rfl) e he hbd
          · exact .inl (hcl x ox hox hx e he hbd)
          · obtain rfl : o = ox := by rw [ho] at hox; exact Option.some.inj hox
            have := hall e he hbd
            left
            cases hlt : listed[e.on]? with
            | none => simp [hlt] at this
            | some b => simpa [hlt] using this
        rcases behind_spec hX (Array.getElem?_eq_some_iff.1 ho).1 hb (.inr rfl) with h | h
        · exact h
        · exact absurd h hne
      have horder : ∀ (listed : Array Bool) i o, (∀ j o, ops[j]? = some o → listed.getD j true = true → ∀ e ∈ o.after, Region.binds .any e = true → listed.getD e.on true = true) → i ∈ Region.ready .any ops listed → ops[i]? = some o → i < k →
          ∀ x, (x ∈ o.looksAt ops ∨ o.dst = some x) → ∀ j, j < k → j ≠ i → dstAt ops j = some x → decide (j < i) = listed.getD j true := by
        intro listed i o hcl hi ho hik x hx j hj hne hdj
        obtain ⟨hun, o', ho', hpre⟩ := mem_ready.1 hi
        have hilt : i < ops.size := (Array.getElem?_eq_some_iff.1 ho).1
        have hjlt : j < ops.size := by omega
        have hoj : ops[j]? = some ops[j] := by simp [hjlt]
        have hdj' : ops[j].dst = some x := by simpa [dstAt, hoj] using hdj
        rcases Nat.lt_or_gt_of_ne hne with h | h
        · rcases hpair j i h hilt _ _ hoj ho with hb' | hap'
          · rw [hreadyX listed i hcl hi j hjlt hb' hne]
            simp [h]
          · obtain ⟨e1, e2, e3⟩ := Oper.apart_spec hap'
            rcases hx with hx | hx
            · exact absurd hx (e1 x hdj')
            · exact absurd hx (e2 x hdj')
        · rcases hpair i j h hjlt _ _ ho hoj with hb' | hap'
          · have hnl : listed.getD j true = false := by
              cases hlj : listed.getD j true with
              | false => rfl
              | true =>
                exfalso
                have hX : Closed ops (fun x => listed.getD x true = true) := fun x ox hox hx e he hbd => hcl x ox hox hx e he hbd
                have := behind_spec hX hjlt hb' hlj
                rw [hun] at this
                cases this
            rw [hnl]
            simp; omega
          · obtain ⟨e1, e2, e3⟩ := Oper.apart_spec hap'
            rcases hx with hx | hx
            · exact absurd hx (e3 x hdj')
            · exact absurd hdj' (e2 x hx)
      have hgetset : ∀ (listed : Array Bool) i, listed.size = ops.size → i < ops.size → (listed.setIfInBounds i true).getD i true = true := by
        intro listed i h1 h2
        have : i < listed.size := by omega
        simp [this]
      have hput : ∀ (listed : Array Bool) i o, listed.size = ops.size → (∀ j o, ops[j]? = some o → listed.getD j true = true → ∀ e ∈ o.after, Region.binds .any e = true → listed.getD e.on true = true) → i ∈ Region.ready .any ops listed → ops[i]? = some o → i < k →
          (foldF ops vs (fun j => listed.getD j true) k a).put o.dst (vs i) = foldF ops vs (fun j => (listed.setIfInBounds i true).getD j true) k a := by
        intro listed i o hsz hcl hi ho hik
        have hilt : i < ops.size := (Array.getElem?_eq_some_iff.1 ho).1
        have hdo : dstOk n o.dst = true := hdst i o hik ho
        have hda : dstAt ops i = o.dst := by simp [dstAt, ho]
        have hgi := hgetset listed i hsz hilt
        have hgj : ∀ j, j ≠ i → (listed.setIfInBounds i true).getD j true = listed.getD j true := fun j hj => getD_set_ne true (Ne.symm hj)
        have szs : ∀ f, (foldF ops vs f k a).tmps.size = a.tmps.size := fun f => (foldF_size ops vs f k a).1
        have dfs : ∀ f, (foldF ops vs f k a).defers = a.defers := fun f => (foldF_size ops vs f k a).2
        refine act_ext ?_ ?_ fun x => ?_
        · cases o.dst <;> simp [Act.put, szs]
        · cases o.dst <;> simp [Act.put, dfs]
        · by_cases hx : o.dst = some x
          · have e1 : (foldF ops vs (fun j => (listed.setIfInBounds i true).getD j true) k a).tmps[x]? = (foldF ops vs (fun j => decide (j < i + 1)) k a).tmps[x]? := by
              refine foldF_agree ops vs _ _ k a x fun j hj hdj => ?_
              by_cases e : j = i
              · subst e; rw [hgi]; simp
              · rw [hgj j e, ← horder listed i o hcl hi ho hik x (.inr hx) j hj e hdj]
                by_cases h : j < i
                · have : j < i + 1 := by omega
                  simp [h, this]
                · have : ¬ j < i + 1 := by omega
                  simp [h, this]
            rw [e1, foldF_runA ops vs (i + 1) k a (by omega)]
            have e2 : runA ops vs 0 (i + 1) a = (runA ops vs 0 i a).put (dstAt ops i) (vs i) := by
              simp [runA, List.range'_concat]
            rw [e2, hda, hx]
            simp only [Act.put]
            have hxn : x < a.tmps.size := by rw [hs.size]; simpa [dstOk, hx] using hdo
            have hsz1 : (runA ops vs 0 i a).tmps.size = a.tmps.size := by rw [← foldF_runA ops vs i k a (by omega)]; exact szs _
            rw [Array.getElem?_setIfInBounds_self_of_lt (by rw [szs]; exact hxn), Array.getElem?_setIfInBounds_self_of_lt (by rw [hsz1]; exact hxn)]
          · have e1 : (foldF ops vs (fun j => (listed.setIfInBounds i true).getD j true) k a).tmps[x]? = (foldF ops vs (fun j => listed.getD j true) k a).tmps[x]? := by
              refine foldF_agree ops vs _ _ k a x fun j hj hdj => ?_
              by_cases e : j = i
              · subst e; rw [hda] at hdj; exact absurd hdj hx
              · exact hgj j e
            rw [e1]
            cases hd : o.dst with
            | none => rfl
            | some y =>
              have : y ≠ x := fun e => hx (by rw [hd, e])
              simp [Act.put, Array.getElem?_setIfInBounds_ne this]
      have hagree : ∀ (listed : Array Bool) i o, (∀ j o, ops[j]? = some o → listed.getD j true = true → ∀ e ∈ o.after, Region.binds .any e = true → listed.getD e.on true = true) → i ∈ Region.ready .any ops listed → ops[i]? = some o → i < k →
          ∀ x, x ∈ o.looksAt ops → (runA ops vs 0 i a).tmps[x]? = (foldF ops vs (fun j => listed.getD j true) k a).tmps[x]? := by
        intro listed i o hcl hi ho hik x hx
        rw [← foldF_runA ops vs i k a (by omega)]
        refine foldF_agree ops vs _ _ k a x fun j hj hdj => ?_
        by_cases e : j = i
        · subst e
          have hun := (mem_ready.1 hi).1
          rw [hun]; simp
        · exact horder listed i o hcl hi ho hik x (.inl hx) j hj e hdj
      have hclset : ∀ (listed : Array Bool) i o, listed.size = ops.size → (∀ j o, ops[j]? = some o → listed.getD j true = true → ∀ e ∈ o.after, Region.binds .any e = true → listed.getD e.on true = true) → i ∈ Region.ready .any ops listed → ops[i]? = some o →
          (∀ j o, ops[j]? = some o → (listed.setIfInBounds i true).getD j true = true → ∀ e ∈ o.after, Region.binds .any e = true → (listed.setIfInBounds i true).getD e.on true = true) := by
        intro listed i o hsz hcl hi ho j oj hoj hj e he hbd
        have hilt : i < ops.size := (Array.getElem?_eq_some_iff.1 ho).1
        obtain ⟨hun, o', ho', hpre⟩ := mem_ready.1 hi
        obtain rfl : o = o' := by rw [ho] at ho'; exact Option.some.inj ho'
        have hgj : ∀ j, j ≠ i → (listed.setIfInBounds i true).getD j true = listed.getD j true := fun j hj => getD_set_ne true (Ne.symm hj)
        by_cases e1 : e.on = i
        · rw [e1]; exact hgetset listed i hsz hilt
        · rw [hgj _ e1]
          by_cases e2 : j = i
          · subst e2
            obtain rfl : o = oj := by rw [ho] at hoj; exact Option.some.inj hoj
            have := hpre e he hbd
            cases hlt : listed[e.on]? with
            | none => simp [hlt] at this
            | some bb => simpa [hlt] using this
          · rw [hgj _ e2] at hj
            exact hcl j oj hoj hj e he hbd
      have hcntset : ∀ (listed : Array Bool) i, listed.size = ops.size → i ∈ Region.ready .any ops listed → i < ops.size → cnt (fun j => listed.getD j true) ops.size = cnt (fun j => (listed.setIfInBounds i true).getD j true) ops.size + 1 := by
        intro listed i hsz hi hilt
        have := cnt_set (f := fun j => listed.getD j true) (g := fun j => (listed.setIfInBounds i true).getD j true) (i := i) (mem_ready.1 hi).1 (hgetset listed i hsz hilt) (fun j hj => getD_set_ne true (Ne.symm hj)) ops.size
        simpa [hilt] using this
      refine wp_mono (Q := fun e a' w' => e = .normal ∧ ∃ T' S', Sat n T' a' ∧ Rep w0 S' w' ∧ Q e T' S') ?_ (fun e a' w' h => h.2)
      refine wp_region_any hm ?_
      have key : ∀ (fuel : Nat) (listed : Array Bool) (b : Act) (w' : World), listed.size = ops.size →
          (∀ j o, ops[j]? = some o → listed.getD j true = true → ∀ e ∈ o.after, Region.binds .any e = true → listed.getD e.on true = true) → (∀ i ∈ Hs, listed.getD i true = true) →
          (∀ t, k ≤ t → t < ops.size → listed.getD t true = false) → b = foldF ops vs (fun j => listed.getD j true) k a → Rep w0 S w' → cnt (fun j => listed.getD j true) ops.size = fuel →
          wpAny P .any ops (fun e a' w' => e = .normal ∧ ∃ T' S', Sat n T' a' ∧ Rep w0 S' w' ∧ Q e T' S') fuel listed b w' := by
        intro fuel
        induction fuel with
        | zero =>
          intro listed b w' hsz hcl hHl htl hb hr' hcnt
          have hall : ∀ j, j < ops.size → listed.getD j true = true := by
            intro j hj
            cases hx : listed.getD j true with
            | true => rfl
            | false =>
              exfalso
              have : ∀ m, j < m → 0 < cnt (fun j => listed.getD j true) m := by
                intro m
                induction m with
                | zero => intro h; omega
                | succ m ih =>
                  intro h
                  simp only [cnt]
                  by_cases e : j = m
                  · subst e; simp [hx]
                  · have := ih (by omega); omega
              have := this ops.size hj
              omega
          have hkeq : k = ops.size := by
            rcases Nat.lt_or_ge k ops.size with h | h
            · have h1 := htl k (Nat.le_refl _) h
              have h2 := hall k h
              rw [h1] at h2
              cases h2
            · omega
          have hbt : b = runA ops vs 0 k a := by
            rw [hb, ← foldF_runA ops vs k k a (Nat.le_refl _)]
            unfold foldF
            refine foldl_ext' _ _ _ _ fun b j hj => ?_
            have hj' := List.mem_range.1 hj
            simp [hall j (by omega), hj']
          refine ⟨?_, ?_⟩
          · unfold Region.ready
            rw [List.filter_eq_nil_iff]
            intro i hi
            rw [hall i (List.mem_range.1 hi)]
            simp
          · have := h2 ops [] b w' (fun e a' w' => e = .normal ∧ ∃ T' S', Sat n T' a' ∧ Rep w0 S' w' ∧ Q e T' S') (by
              rw [hkeq, Nat.sub_self] at hc2
              rw [hkeq]
              simpa using hc2) (hbt ▸ hsat') hr' (fun a' w' T' S' h3 h4 h5 => ⟨rfl, T', S', h3, h4, h5⟩)
            simpa [wpOps] using this
        | succ fuel ih =>
          intro listed b w' hsz hcl hHl htl hb hr' hcnt
          by_cases hall : ∀ j, j < k → listed.getD j true = true
          · -- the head is done
            have hexact : ∀ j, j < ops.size → listed.getD j true = decide (j < k) := by
              intro j hj
              by_cases h : j < k
              · rw [hall j h]; simp [h]
              · rw [htl j (by omega) hj]; simp [h]
            have hbt : b = runA ops vs 0 k a := by
              rw [hb, ← foldF_runA ops vs k k a (Nat.le_refl _)]
              unfold foldF
              refine foldl_ext' _ _ _ _ fun b j hj => ?_
              have hj' := List.mem_range.1 hj
              simp [hall j hj', hj']
            have hfuel : fuel + 1 = ops.size - k := by
              rw [← hcnt, cnt_congr ops.size hexact, cnt_below]
            rw [hfuel]
            have htl2 : ∀ listed' : Array Bool, ∀ t s', k ≤ s' → s' < t → t < ops.size → (∀ j, j < ops.size → listed'.getD j true = decide (j < s')) → listed'.size = ops.size → t ∉ Region.ready .any ops listed' := by
              intro l'' t s' h1 h2 h3 h4 h5 hmem
              have := hreadyX l'' t (fun j o ho hj e he hbd => by
                have hlt := backB_spec hback ho he hbd
                have hjs : j < ops.size := (Array.getElem?_eq_some_iff.1 ho).1
                rw [h4 j hjs] at hj
                rw [h4 e.on (by omega)]
                simp only [decide_eq_true_eq] at hj ⊢
                omega) hmem s' (by omega) (htail t s' (by omega) h3 h2 (fun hm' => by have := hHk s' hm'; omega)) (by omega)
              rw [h4 s' (by omega)] at this
              simp at this
            refine wpAny_tail hback (ops.size - k) k listed b w' (by omega) hsz hexact (fun t i h1 h2 h3 h4 h5 => htl2 listed t k (Nat.le_refl _) h1 h2 hexact hsz) htl2 ?_
            exact h2 ops _ b w' _ hc2 (hbt ▸ hsat') hr' (fun a' w' T' S' h3 h4 h5 => ⟨rfl, T', S', h3, h4, h5⟩)
          · refine ⟨fun h0 => ?_, fun i hi => ?_⟩
            · exfalso
              obtain ⟨i, hi1, hi2, hi3⟩ := cnt_pos ops.size (by rw [hcnt]; omega : 0 < cnt (fun j => listed.getD j true) ops.size)
              have : i ∈ Region.ready .any ops listed := by
                rw [mem_ready]
                refine ⟨hi2, ops[i], by simp [hi1], fun e he hbd => ?_⟩
                have hlt := backB_spec hback (show ops[i]? = some ops[i] by simp [hi1]) he hbd
                have h3 := hi3 e.on hlt
                have : e.on < listed.size := by omega
                simpa [this] using h3
              rw [h0] at this
              simp at this
            · have hmem := mem_ready.1 hi
              obtain ⟨hun, o, ho, hpre⟩ := hmem
              have hilt : i < ops.size := (Array.getElem?_eq_some_iff.1 ho).1
              have hik : i < k := by
                rcases Nat.lt_or_ge i k with h | h
                · exact h
                · exfalso
                  refine hall fun j hj => ?_
                  by_cases hjH : j ∈ Hs
                  · exact hHl j hjH
                  · exact hreadyX listed i hcl hi j (by omega) (htail i j h hilt (by omega) hjH) (by omega)
              have hdo : dstOk n o.dst = true := hdst i o hik ho
              have hagree' := hagree listed i o hcl hi ho hik
              rw [← hb] at hagree'
              have hev : execOp (runA ops vs 0 i a).eval o = execOp b.eval o :=
                execOp_congr o (fun cs bb hh => Region.noSelect_spec hsel i o cs bb ho hh) fun x hx => eval_agree fun t ht => hagree' t (looks_op (ht ▸ hx))
              have hwan := wanted_agree (ops := ops) (o := o) (a := runA ops vs 0 i a) (b := b) hagree'
              have hnext : ∀ w'', Rep w0 S w'' → wpAny P .any ops (fun e a' w' => e = .normal ∧ ∃ T' S', Sat n T' a' ∧ Rep w0 S' w' ∧ Q e T' S') fuel (listed.setIfInBounds i true) (b.put o.dst (vs i)) w'' := by
                intro w'' hr''
                have hgj : ∀ j, j ≠ i → (listed.setIfInBounds i true).getD j true = listed.getD j true := fun j hj => getD_set_ne true (Ne.symm hj)
                refine ih _ _ w'' (by simpa using hsz) (hclset listed i o hsz hcl hi ho) ?_ ?_ ?_ hr'' ?_
                · intro j hj
                  by_cases e : j = i
                  · subst e; exact hgetset listed j hsz hilt
                  · rw [hgj j e]; exact hHl j hj
                · intro t h3 h4
                  rw [hgj t (by omega)]
                  exact htl t h3 h4
                · rw [hb]; exact hput listed i o hsz hcl hi ho hik
                · have := hcntset listed i hsz hi hilt
                  omega
              unfold wpOp
              simp only [ho]
              rcases hgives i hik o ho with ⟨hw1, hw2⟩ | ⟨hw1, hw2⟩
              · rw [hwan] at hw1
                rw [if_pos hw1]
                left
                have hsz1 : (runA ops vs 0 i a).tmps.size = n := by rw [← foldF_runA ops vs i k a (by omega), (foldF_size ops vs _ k a).1, hs.size]
                have hsz2 : b.tmps.size = n := by rw [hb, (foldF_size ops vs _ k a).1, hs.size]
                have hdf : (runA ops vs 0 i a).defers = [] := by rw [← foldF_runA ops vs i k a (by omega), (foldF_size ops vs _ k a).2, hs.defers]
                refine Oper.wp_mono ?_ (wp_transfer hev (by rw [hsz1, hsz2]) (by rw [hsz1]; exact hdo) hdf (hw2 w' hr'))
                rintro b' w'' ⟨rfl, hr''⟩
                exact hnext w'' hr''
              · rw [hwan] at hw1
                rw [hw1]
                simp only [Bool.false_eq_true, if_false]
                rw [← hw2]
                exact hnext w' hr'
      -- the moves first
      have phase0 : ∀ (Hr : List Nat) (listed : Array Bool) (b : Act) (w' : World), hoistB ops Hr listed = true → (∀ i ∈ Hr, i < k) → listed.size = ops.size →
          (∀ j o, ops[j]? = some o → listed.getD j true = true → ∀ e ∈ o.after, Region.binds .any e = true → listed.getD e.on true = true) → (∀ i ∈ Hs, listed.getD i true = true ∨ i ∈ Hr) →
          (∀ t, k ≤ t → t < ops.size → listed.getD t true = false) → b = foldF ops vs (fun j => listed.getD j true) k a → Rep w0 S w' →
          wpAny P .any ops (fun e a' w' => e = .normal ∧ ∃ T' S', Sat n T' a' ∧ Rep w0 S' w' ∧ Q e T' S') (cnt (fun j => listed.getD j true) ops.size) listed b w' := by
        intro Hr
        induction Hr with
        | nil =>
          intro listed b w' _ _ hsz hcl hHl htl hb hr'
          exact key _ listed b w' hsz hcl (fun i hi => (hHl i hi).resolve_right (by simp)) htl hb hr' rfl
        | cons i Hr ih =>
          intro listed b w' hh hlt hsz hcl hHl htl hb hr'
          simp only [hoistB, Bool.and_eq_true] at hh
          obtain ⟨⟨⟨hho, hfree⟩, hready⟩, hrest⟩ := hh
          have hi : i ∈ Region.ready .any ops listed := by simpa using hready
          obtain ⟨hun, o, ho, hpre⟩ := mem_ready.1 hi
          have hilt : i < ops.size := (Array.getElem?_eq_some_iff.1 ho).1
          have hik : i < k := hlt i (by simp)
          have hgj : ∀ j, j ≠ i → (listed.setIfInBounds i true).getD j true = listed.getD j true := fun j hj => getD_set_ne true (Ne.symm hj)
          rw [hcntset listed i hsz hi hilt]
          simp only [hoistable?, ho, hoistable, Bool.and_eq_true] at hho
          obtain ⟨hgn, hmv⟩ := hho
          have hgn' : o.guard = none := by simpa using hgn
          have hwant : ∀ t : Array Value, Region.wanted o (yielded ops t) = true := fun t => by simp [Region.wanted, hgn']
          have hagree' := hagree listed i o hcl hi ho hik
          rw [← hb] at hagree'
          have hdo : dstOk n o.dst = true := hdst i o hik ho
          have hsz1 : (runA ops vs 0 i a).tmps.size = n := by rw [← foldF_runA ops vs i k a (by omega), (foldF_size ops vs _ k a).1, hs.size]
          have hmove : ∃ x, (o.op = .move x ∨ o.op = .assign x) := by
            cases hop : o.op <;> rw [hop] at hmv <;> simp at hmv
            · exact ⟨_, .inl rfl⟩
            · exact ⟨_, .inr rfl⟩
          obtain ⟨x, hx⟩ := hmove
          have hexec : ∀ ρ, execOp ρ o = pure (.value (ρ x)) := by
            intro ρ
            rcases hx with hx | hx <;> simp [execOp, hx]
          have hval : b.eval x = vs i ∨ o.dst = none := by
            rcases hgives i hik o ho with ⟨_, hw2⟩ | ⟨hw1, _⟩
            · have := hw2 w' hr'
              unfold Oper.wp at this
              rw [hexec] at this
              simp only [Sem.run_pure, Oper.upon] at this
              have hev : (runA ops vs 0 i a).eval x = b.eval x := eval_agree fun t ht => hagree' t (looks_op (by rcases hx with hx | hx <;> simp [hx, Op.operands, ht]))
              cases hd : o.dst with
              | none => exact .inr rfl
              | some d =>
                left
                rw [hd] at this hdo
                have h3 := congrArg (fun c : Act => c.tmps[d]?) this.1
                have hdn : d < n := by simpa [dstOk] using hdo
                simp [Act.put, hsz1, hdn] at h3
                rw [← hev]; exact h3
            · rw [hwant] at hw1; cases hw1
          refine wpAny_take (oi := o) (v := b.eval x) ho hsel hfree hready (fun c a w hq => by simp at hq) (.inl ⟨hwant _, fun w => by rw [hexec]; rfl⟩) ?_
          have hbput : b.put o.dst (b.eval x) = foldF ops vs (fun j => (listed.setIfInBounds i true).getD j true) k a := by
            rw [← hput listed i o hsz hcl hi ho hik, ← hb]
            rcases hval with h | h
            · rw [h]
            · rw [h]; rfl
          rw [hbput]
          refine ih _ _ w' hrest (fun j hj => hlt j (by simp [hj])) (by simpa using hsz) (hclset listed i o hsz hcl hi ho) ?_ ?_ rfl hr'
          · intro j hj
            by_cases e : j = i
            · subst e; exact .inl (hgetset listed j hsz hilt)
            · rw [hgj j e]
              rcases hHl j hj with h | h
              · exact .inl h
              · rcases List.mem_cons.1 h with h | h
                · exact absurd h e
                · exact .inr h
          · intro t h3 h4
            rw [hgj t (by omega)]
            exact htl t h3 h4
      have hcnt0 : cnt (fun j => (Array.replicate ops.size false).getD j true) ops.size = ops.size := by
        rw [cnt_congr (g := fun j => decide (j < 0)) ops.size (fun j hj => by simp [hj]), cnt_below]
        omega
      have := phase0 Hs (Array.replicate ops.size false) a { w with drawn := w.drawn + 1 } hhoist hHk (by simp) ?_ (fun i hi => .inr hi) ?_ ?_ ?_
      · rwa [hcnt0] at this
      · intro j o ho hj
        exfalso
        have hlt : j < ops.size := (Array.getElem?_eq_some_iff.1 ho).1
        simp [hlt] at hj
      · intro t _ ht
        simp [ht]
      · have : ∀ j, j < k → (Array.replicate ops.size false).getD j true = decide (j < 0) := by
          intro j hj
          have : j < ops.size := by omega
          simp [this]
        have h0 : foldF ops vs (fun j => (Array.replicate ops.size false).getD j true) k a = foldF ops vs (fun j => decide (j < 0)) k a := by
          unfold foldF
          refine foldl_ext' _ _ _ _ fun b j hj => ?_
          simp only [this j (List.mem_range.1 hj)]
        rw [h0, foldF_runA ops vs 0 k a (Nat.zero_le _)]
        rfl
      · exact hr.same ((Below.refl _ w).drew) (fun _ _ => rfl)
  all_goals (first | (simp [cC] at hc; done) | (simp only [cC] at hc; split at hc <;> simp at hc; done))

end
end Go.SL
