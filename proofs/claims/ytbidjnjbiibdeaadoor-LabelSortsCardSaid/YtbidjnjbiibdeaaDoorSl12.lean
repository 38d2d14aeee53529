/- Regions that draw their order, with one operation that turns something. -/
import Derived.Test.YtbidjnjbiibdeaaDoorSl11
set_option linter.unusedVariables false
set_option linter.unusedSimpArgs false
namespace Go.SL
open Go.RowKit

section
variable {P : Program} {w0 : World} {n : Nat} {T : TT} {S : SS}
/-- operations that turn nothing, in whichever of some states -/
inductive QLs (P : Program) (w0 : World) (n : Nat) (Ss : SS → Prop) : List PI → TT → TT → List Value → Prop
  | nil {T : TT} : QLs P w0 n Ss [] T T []
  | step {T T' : TT} {d : Option Nat} {g : Option (Nat × Bool)} {po : PO} {v : Value} {r : List PI} {vs : List Value} (hg : gOk T g) (h : ∀ S, Ss S → OW P w0 n po T S (fun v' S' => v' = v ∧ S' = S)) (k : QLs P w0 n Ss r (put d v T) T' vs) : QLs P w0 n Ss (⟨d, g, po⟩ :: r) T T' (v :: vs)
  | off {T T' : TT} {d : Option Nat} {s : Nat} {b : Bool} {u : Value} {po : PO} {r : List PI} {vs : List Value} (hl : look T s = some u) (hc : (boolOf u == some b) = false) (k : QLs P w0 n Ss r (put d undef T) T' vs) : QLs P w0 n Ss (⟨d, some (s, b), po⟩ :: r) T T' (undef :: vs)
theorem QLs.trace {ops : Array Oper} {Ss : SS → Prop} {l : List PI} {T T' : TT} {vals : List Value} (h : QLs P w0 n Ss l T T' vals) : ∀ s a, cIs P n ops (List.range' s l.length) = some l → Sat n T a →
    vals.length = l.length ∧ Sat n T' (runA ops (fun i => vals.getD (i - s) undef) s l.length a) ∧ (∀ j, j < l.length → ∀ S, Ss S → GivesAt P w0 S ops (s + j) (vals.getD j undef) (runA ops (fun i => vals.getD (i - s) undef) s j a)) ∧ (∀ j o, j < l.length → ops[s + j]? = some o → dstOk n o.dst = true) ∧ (∀ j, j < l.length → ∀ x, l[j]? = some x → x.d = dstAt ops (s + j)) := by
  have shift : ∀ (v : Value) (vs : List Value) (s m : Nat) (a : Act) (o : Oper), ops[s]? = some o → runA ops (fun i => (v :: vs).getD (i - s) undef) s (m + 1) a = runA ops (fun i => vs.getD (i - (s + 1)) undef) (s + 1) m (a.put o.dst v) := by
    intro v vs s m a o ho
    have hda : dstAt ops s = o.dst := by simp [dstAt, ho]
    unfold runA
    rw [List.range'_succ, List.foldl_cons]
    simp only [Nat.sub_self, List.getD_cons_zero, hda]
    refine foldl_ext' _ _ _ _ fun b j hj => ?_
    have : s + 1 ≤ j := by have := List.mem_range'.1 hj; omega
    rw [show j - s = (j - (s + 1)) + 1 by omega, List.getD_cons_succ]
  induction h with
  | nil => intro s a _ hs; exact ⟨rfl, by simpa [runA] using hs, fun j hj => by simp at hj, fun j o hj => by simp at hj, fun j hj => by simp at hj⟩
  | @step T T' d g po v r vs hg h k ih =>
    intro s a hc hs
    simp only [List.length_cons, List.range'_succ] at hc
    obtain ⟨i, is, he, hi, hrest⟩ := cIs_cons hc
    simp only [List.cons.injEq] at he
    obtain ⟨rfl, rfl⟩ := he
    obtain ⟨o, ho, hpo, hd, hdst, hgd⟩ := cI_spec hi
    simp only at hpo hdst
    subst hdst
    obtain ⟨h0, h1, h2, h3, h4⟩ := ih (s + 1) _ hrest (hs.put hd v)
    refine ⟨by simp [h0], by rw [List.length_cons, shift v vs s _ a o ho]; exact h1, ?_, ?_, ?_⟩
    · intro j hj S hS
      cases j with
      | zero =>
        intro o' ho'
        obtain rfl : o = o' := by rw [Nat.add_zero, ho] at ho'; exact Option.some.inj ho'
        left
        simp only [runA, List.range'_zero, List.foldl_nil, List.getD_cons_zero]
        refine ⟨?_, fun w hr => ?_⟩
        · rcases hgd with ⟨hgd, _⟩ | ⟨j, b, s', hgd, hjj, he⟩
          · simp [Region.wanted, hgd]
          · simp only at he
            subst he
            simp [Region.wanted, hgd, hs.yielded hjj hg]
        · refine Oper.wp_mono ?_ (h S hS o a w _ hpo hs hr)
          rintro b w' ⟨v', S', rfl, hr', rfl, rfl⟩
          exact ⟨rfl, hr'⟩
      | succ j =>
        rw [shift v vs s _ a o ho, List.getD_cons_succ]
        have := h2 j (by simpa using hj) S hS
        rwa [show s + 1 + j = s + (j + 1) by omega] at this
    · intro j o' hj ho'
      cases j with
      | zero => obtain rfl : o = o' := by rw [Nat.add_zero, ho] at ho'; exact Option.some.inj ho'
                exact hd
      | succ j => exact h3 j o' (by simpa using hj) (by rwa [show s + 1 + j = s + (j + 1) by omega])
    · intro j hj x hx
      cases j with
      | zero => simp at hx; subst hx; simp [dstAt, ho]
      | succ j => have := h4 j (by simpa using hj) x (by simpa using hx); rwa [show s + 1 + j = s + (j + 1) by omega] at this
  | @off T T' d sl b u po r vs hl hcb k ih =>
    intro s a hc hs
    simp only [List.length_cons, List.range'_succ] at hc
    obtain ⟨i, is, he, hi, hrest⟩ := cIs_cons hc
    simp only [List.cons.injEq] at he
    obtain ⟨rfl, rfl⟩ := he
    obtain ⟨o, ho, hpo, hd, hdst, hgd⟩ := cI_spec hi
    simp only at hpo hdst
    subst hdst
    obtain ⟨h0, h1, h2, h3, h4⟩ := ih (s + 1) _ hrest (hs.put hd undef)
    refine ⟨by simp [h0], by rw [List.length_cons, shift undef vs s _ a o ho]; exact h1, ?_, ?_, ?_⟩
    · intro j hj S hS
      cases j with
      | zero =>
        intro o' ho'
        obtain rfl : o = o' := by rw [Nat.add_zero, ho] at ho'; exact Option.some.inj ho'
        right
        refine ⟨?_, by simp⟩
        simp only [runA, List.range'_zero, List.foldl_nil]
        rcases hgd with ⟨_, hgd⟩ | ⟨j, b', s', hgd, hjj, he⟩
        · simp at hgd
        · simp only [Option.some.injEq, Prod.mk.injEq] at he
          obtain ⟨rfl, rfl⟩ := he
          simp only [Region.wanted, hgd, hs.yieldedV hjj hl]; exact hcb
      | succ j =>
        rw [shift undef vs s _ a o ho, List.getD_cons_succ]
        have := h2 j (by simpa using hj) S hS
        rwa [show s + 1 + j = s + (j + 1) by omega] at this
    · intro j o' hj ho'
      cases j with
      | zero => obtain rfl : o = o' := by rw [Nat.add_zero, ho] at ho'; exact Option.some.inj ho'
                exact hd
      | succ j => exact h3 j o' (by simpa using hj) (by rwa [show s + 1 + j = s + (j + 1) by omega])
    · intro j hj x hx
      cases j with
      | zero => simp at hx; subst hx; simp [dstAt, ho]
      | succ j => have := h4 j (by simpa using hj) x (by simpa using hx); rwa [show s + 1 + j = s + (j + 1) by omega] at this

theorem wp_transfer_any {o : Oper} {a a' : Act} {w : World} {R : Value → SS → World → Prop} {Q : Exit → Act → World → Prop} (he : execOp a.eval o = execOp a'.eval o) (hn : a.tmps.size = a'.tmps.size) (hd : dstOk a.tmps.size o.dst = true)
    (hdf : a.defers = [])
    (h : o.wp P a w (fun b w' => ∃ v S', b = a.put o.dst v ∧ R v S' w') (fun _ _ _ => False)) : o.wp P a' w (fun b w' => ∃ v S', b = a'.put o.dst v ∧ R v S' w') Q := by
  have put_eq : ∀ x v : Value, a.put o.dst x = a.put o.dst v → a'.put o.dst x = a'.put o.dst v := by
    intro x v hx
    cases hdst : o.dst with
    | none => rfl
    | some d =>
      rw [hdst] at hx hd
      simp only [dstOk, decide_eq_true_eq] at hd
      have : x = v := by
        have := congrArg (fun b : Act => b.tmps[d]?) hx
        simpa [Act.put, hd] using this
      rw [this]
  unfold Oper.wp at *
  rw [← he]
  generalize (execOp a.eval o).run P w = r at *
  cases r with
  | ok x w' =>
    cases x <;> simp only [Oper.upon] at h ⊢
    case value x => obtain ⟨v, S', h1, h2⟩ := h; exact ⟨v, S', put_eq _ _ h1, h2⟩
    case skip => obtain ⟨v, S', h1, h2⟩ := h; exact ⟨v, S', put_eq _ _ h1, h2⟩
    case defer d =>
      exfalso
      obtain ⟨v, S', h1, h2⟩ := h
      have := congrArg Act.defers h1
      cases hdst : o.dst <;> simp [Act.put, hdst, hdf] at this
    case enter f args =>
      refine h.mono ?_
      intro e w'' he
      cases e with
      | returned x => obtain ⟨v, S', h1, h2⟩ := he; exact ⟨v, S', put_eq _ _ h1, h2⟩
      | panicked c => exact he.elim
      | outgrown => obtain ⟨_, _, hf⟩ := he; exact hf.elim
    case row row args => exact h.mono fun v w'' ⟨v', S', h1, h2⟩ => ⟨v', S', put_eq _ _ h1, h2⟩
    all_goals exact h.elim
  | halt x w' => cases x <;> simp only [Oper.upon] at h ⊢

set_option maxHeartbeats 4000000 in
/-- a region that draws its order, one of whose first operations turns something that the others do not look at -/
theorem PW.quiet1 {k d : Nat} {l A B : List PI} {c : PI} {Q : Exit → TT → SS → Prop} {T1 T2 : TT} {va vb : List Value} {Ss : SS → Prop} {K : Value → SS → Prop} (hm : P.follows .mixedOrders = true) (hl : l.take k = A ++ c :: B) (hcg : c.g = none) (hd : c.d = some d)
    (hcm : ∀ x, c.o ≠ .mov x) (hB : B.all (fun x => x.d != some d) = true) (hA : QLs P w0 n Ss A T T1 va) (hc2x : OW P w0 n c.o T1 S K) (hSs : Ss S) (hK : ∀ v S', K v S' → Ss S') (hBq : QLs P w0 n Ss B (SL.del (some d) T1) T2 vb)
    (h4 : ∀ v S', K v S' → OL P w0 n (l.drop k) ((d, v) :: T2) S' (Q .normal)) : PW P w0 n (.quiet k l) T S Q := by
  intro c hc a w hs hr
  cases c
  case region id ops dr =>
    cases dr with
    | false => simp [cC] at hc
    | true =>
      simp only [cC] at hc
      split at hc
      case isFalse => simp at hc
      rename_i hcond
      simp only [Bool.and_eq_true] at hcond
      obtain ⟨⟨⟨hap, hback⟩, hsel⟩, hhoist⟩ := hcond
      simp only [Option.map_eq_some_iff] at hc
      obtain ⟨l', hcis, hmk⟩ := hc
      obtain ⟨rfl, rfl⟩ := mkQ_quiet hmk
      obtain ⟨hhead, hkle⟩ := headOf_spec ops (hoists ops) ops.size (Nat.le_refl _)
      change headB ops ((hoists ops).filter (· < quietAt ops)) (quietAt ops) = true at hhead
      change quietAt ops ≤ ops.size at hkle
      generalize hk : quietAt ops = k at *
      generalize hH : (hoists ops).filter (· < k) = Hs at *
      have hHk : ∀ i ∈ Hs, i < k := fun i hi => by rw [← hH] at hi; simpa using (List.mem_filter.1 hi).2
      have hsplit : List.range ops.size = List.range' 0 k ++ List.range' k (ops.size - k) := by
        rw [List.range_eq_range']
        have := List.range'_append (s := 0) (m := k) (n := ops.size - k) (step := 1)
        simp only [Nat.one_mul, Nat.zero_add] at this
        rw [this]
        congr 1
        omega
      rw [hsplit] at hcis
      obtain ⟨hc1, hc2⟩ := cIs_append hcis
      simp only [List.length_range'] at hc1 hc2
      have hlen : (l'.take k).length = k := by simpa using cIs_length hc1
      rw [hl] at hc1 hlen
      simp only [List.length_append, List.length_cons] at hlen
      have hpk : A.length < k := by omega
      have hra : List.range' 0 k = List.range' 0 A.length ++ (A.length :: List.range' (A.length + 1) B.length) := by
        have h1 := List.range'_append (s := 0) (m := A.length) (n := B.length + 1) (step := 1)
        simp only [Nat.one_mul, Nat.zero_add, List.range'_succ] at h1
        rw [show k = A.length + (B.length + 1) by omega, ← h1]
      rw [hra] at hc1
      obtain ⟨hcA, hcR⟩ := cIs_append hc1
      simp only [List.length_range', List.take_left', List.drop_left'] at hcA hcR
      obtain ⟨ic, isc, hce, hci, hcB⟩ := cIs_cons hcR
      simp only [List.cons.injEq] at hce
      obtain ⟨rfl, rfl⟩ := hce
      obtain ⟨oc, hoc, hpoc, hdc, hdstc, hgdc⟩ := cI_spec hci
      obtain ⟨hla, hsA, hgA, hdA⟩ := hA.trace 0 a hcA hs
      simp only [Nat.zero_add, Nat.sub_zero] at hsA hgA hdA
      let vs : Value → Nat → Value := fun u i => (va ++ u :: vb).getD i undef
      have hvA : ∀ u i, i < A.length → vs u i = va.getD i undef := by
        intro u i hi
        simp only [vs, List.getD_eq_getElem?_getD]
        rw [List.getElem?_append_left (by omega)]
      have hrunA : ∀ u m, m ≤ A.length → runA ops (vs u) 0 m a = runA ops (fun i => va.getD i undef) 0 m a := fun u m hm' =>
        foldl_ext' _ _ _ _ fun b j hj => by
          have := List.mem_range'.1 hj
          rw [hvA u j (by omega)]
      have hoc' : dstAt ops A.length = some d := by rw [← hd, ← hdstc]; simp [dstAt, hoc]
      have hrunC : ∀ u, runA ops (vs u) 0 (A.length + 1) a = (runA ops (vs u) 0 A.length a).put (some d) u := by
        intro u
        have e2 : runA ops (vs u) 0 (A.length + 1) a = (runA ops (vs u) 0 A.length a).put (dstAt ops A.length) (vs u A.length) := by
          simp [runA, List.range'_concat]
        rw [e2, hoc']
        simp only [vs, List.getD_eq_getElem?_getD]
        rw [List.getElem?_append_right (by omega), hla]
        simp
      have hsC : ∀ u, Sat n T1 (runA ops (vs u) 0 A.length a) := fun u => by rw [hrunA u _ (Nat.le_refl _)]; exact hsA
      have hdok : dstOk n (some d) = true := by rw [← hd, ← hdstc]; exact hdc
      have hB' : ∀ u, _ := fun u => hBq.trace (A.length + 1) (runA ops (vs u) 0 (A.length + 1) a) hcB (by rw [hrunC u]; exact (hsC u).del u)
      have hrunB : ∀ u m, m ≤ B.length → runA ops (vs u) 0 (A.length + 1 + m) a = runA ops (fun i => vb.getD (i - (A.length + 1)) undef) (A.length + 1) m (runA ops (vs u) 0 (A.length + 1) a) := by
        intro u m hm'
        have h1 := List.range'_append (s := 0) (m := A.length + 1) (n := m) (step := 1)
        simp only [Nat.one_mul, Nat.zero_add] at h1
        unfold runA
        rw [← h1, List.foldl_append]
        refine foldl_ext' _ _ _ _ fun b j hj => ?_
        have := List.mem_range'.1 hj
        have e : vs u j = vb.getD (j - (A.length + 1)) undef := by
          simp only [vs, List.getD_eq_getElem?_getD]
          rw [List.getElem?_append_right (by omega), hla, show j - A.length = (j - (A.length + 1)) + 1 by omega, List.getElem?_cons_succ]
        rw [e]
      have hkB : k = A.length + 1 + B.length := by omega
      have hsat' : ∀ u, Sat n ((d, u) :: T2) (runA ops (vs u) 0 k a) := by
        intro u
        have h2 := (hB' u).2.1
        rw [hkB, hrunB u _ (Nat.le_refl _)]
        refine ⟨h2.size, h2.defers, fun i v hv => ?_⟩
        by_cases e : d = i
        · subst e
          rw [look_put_same] at hv
          obtain rfl := Option.some.inj hv
          have hother : ∀ m, m ≤ B.length → (runA ops (fun i => vb.getD (i - (A.length + 1)) undef) (A.length + 1) m (runA ops (vs u) 0 (A.length + 1) a)).tmps[d]? = some u := by
            intro m
            induction m with
            | zero =>
              intro _
              have e0 : runA ops (fun i => vb.getD (i - (A.length + 1)) undef) (A.length + 1) 0 (runA ops (vs u) 0 (A.length + 1) a) = (runA ops (vs u) 0 A.length a).put (some d) u := hrunC u
              rw [e0]
              have hdn : d < (runA ops (vs u) 0 A.length a).tmps.size := by rw [(hsC u).size]; simpa [dstOk] using hdok
              simp [Act.put, hdn]
            | succ m ih =>
              intro hm'
              have e2 : runA ops (fun i => vb.getD (i - (A.length + 1)) undef) (A.length + 1) (m + 1) (runA ops (vs u) 0 (A.length + 1) a) = (runA ops (fun i => vb.getD (i - (A.length + 1)) undef) (A.length + 1) m (runA ops (vs u) 0 (A.length + 1) a)).put (dstAt ops (A.length + 1 + m)) (vb.getD (A.length + 1 + m - (A.length + 1)) undef) := by
                simp [runA, List.range'_concat]
              rw [e2]
              have hne := (hB' u).2.2.2.2 m (by omega)
              cases hdd : dstAt ops (A.length + 1 + m) with
              | none => simp only [Act.put]; exact ih (by omega)
              | some y =>
                have : y ≠ d := by
                  intro e; subst e
                  have h5 := List.all_eq_true.1 hB (B[m]'(by omega)) (List.getElem_mem _)
                  have h6 := hne (B[m]'(by omega)) (List.getElem?_eq_getElem (by omega))
                  rw [hdd] at h6
                  simp [← h6] at h5
                simp only [Act.put]
                rw [Array.getElem?_setIfInBounds_ne this]
                exact ih (by omega)
          exact hother _ (Nat.le_refl _)
        · rw [look_cons_ne _ _ e] at hv
          exact h2.get i v hv
      have hgives : ∀ u S', Ss S' → ∀ i, i < k → i ≠ A.length → GivesAt P w0 S' ops i (vs u i) (runA ops (vs u) 0 i a) := by
        intro u S' hS' i hi hne
        rcases Nat.lt_or_gt_of_ne hne with h | h
        · have := hgA i h S' hS'
          rw [hvA u i h, hrunA u i (by omega)]
          exact this
        · obtain ⟨m, rfl⟩ : ∃ m, i = A.length + 1 + m := ⟨i - (A.length + 1), by omega⟩
          have := (hB' u).2.2.1 m (by omega) S' hS'
          rw [hrunB u m (by omega)]
          have e : vs u (A.length + 1 + m) = vb.getD m undef := by
            simp only [vs, List.getD_eq_getElem?_getD]
            rw [List.getElem?_append_right (by omega), hla, show A.length + 1 + m - A.length = m + 1 by omega, List.getElem?_cons_succ]
          rw [e]
          exact this
      have hdst : ∀ i o, i < k → ops[i]? = some o → dstOk n o.dst = true := by
        intro i o hi ho
        rcases Nat.lt_trichotomy i A.length with h | h | h
        · exact hdA.1 i o h ho
        · subst h; obtain rfl : oc = o := by rw [hoc] at ho; exact Option.some.inj ho
          exact hdc
        · obtain ⟨m, rfl⟩ : ∃ m, i = A.length + 1 + m := ⟨i - (A.length + 1), by omega⟩
          exact (hB' undef).2.2.2.1 m o (by omega) ho
      -- ordered pairs
      have hpair : ∀ i j, i < j → j < ops.size → ∀ oi oj, ops[i]? = some oi → ops[j]? = some oj → behind (reach ops) j i = true ∨ oi.apart ops oj = true := by
        intro i j hij hj oi oj hoi hoj
        have := List.all_eq_true.1 (List.all_eq_true.1 hap j (List.mem_range.2 hj)) i (List.mem_range.2 hij)
        simpa [hoi, hoj] using this
      have htail : ∀ t i, k ≤ t → t < ops.size → i < t → i ∉ Hs → behind (reach ops) t i = true := by
        intro t i hkt ht hi hnH
        have := List.all_eq_true.1 hhead t (List.mem_range.2 ht)
        simp only [Bool.or_eq_true, decide_eq_true_eq] at this
        rcases this with h | h
        · omega
        · have := List.all_eq_true.1 h i (List.mem_range.2 hi)
          simpa [hnH] using this
      have hreadyX : ∀ (listed : Array Bool) i, (∀ j o, ops[j]? = some o → listed.getD j true = true → ∀ e ∈ o.after, Region.binds .any e = true → listed.getD e.on true = true) → i ∈ Region.ready .any ops listed →
          ∀ j, j < ops.size → behind (reach ops) i j = true → j ≠ i → listed.getD j true = true := by
        intro listed i hcl hi j hj hb hne
        obtain ⟨hun, o, ho, hall⟩ := mem_ready.1 hi
        have hX : Closed ops (fun x => listed.getD x true = true ∨ x = i) := by
          rintro x ox hox (hx | rfl) e he hbd
          · exact .inl (hcl x ox hox hx e he hbd)
          · obtain rfl : o = ox := by rw [ho] at hox; exact Option.some.inj hox
            have := hall e he hbd
            left
            cases hlt : listed[e.on]? with
            | none => simp [hlt] at this
            | some b => simpa [hlt] using this
        rcases behind_spec hX (Array.getElem?_eq_some_iff.1 ho).1 hb (.inr rfl) with h | h
        · exact h
        · exact absurd h hne
      have horder : ∀ (listed : Array Bool) i o, (∀ j o, ops[j]? = some o → listed.getD j true = true → ∀ e ∈ o.after, Region.binds .any e = true → listed.getD e.on true = true) → i ∈ Region.ready .any ops listed → ops[i]? = some o → i < k →
          ∀ x, (x ∈ o.looksAt ops ∨ o.dst = some x) → ∀ j, j < k → j ≠ i → dstAt ops j = some x → decide (j < i) = listed.getD j true := by
        intro listed i o hcl hi ho hik x hx j hj hne hdj
        obtain ⟨hun, o', ho', hpre⟩ := mem_ready.1 hi
        have hilt : i < ops.size := (Array.getElem?_eq_some_iff.1 ho).1
        have hjlt : j < ops.size := by omega
        have hoj : ops[j]? = some ops[j] := by simp [hjlt]
        have hdj' : ops[j].dst = some x := by simpa [dstAt, hoj] using hdj
        rcases Nat.lt_or_gt_of_ne hne with h | h
        · rcases hpair j i h hilt _ _ hoj ho with hb' | hap'
          · rw [hreadyX listed i hcl hi j hjlt hb' hne]
            simp [h]
          · obtain ⟨e1, e2, e3⟩ := Oper.apart_spec hap'
            rcases hx with hx | hx
            · exact absurd hx (e1 x hdj')
            · exact absurd hx (e2 x hdj')
        · rcases hpair i j h hjlt _ _ ho hoj with hb' | hap'
          · have hnl : listed.getD j true = false := by
              cases hlj : listed.getD j true with
              | false => rfl
              | true =>
                exfalso
                have hX : Closed ops (fun x => listed.getD x true = true) := fun x ox hox hx e he hbd => hcl x ox hox hx e he hbd
                have := behind_spec hX hjlt hb' hlj
                rw [hun] at this
                cases this
            rw [hnl]
            simp; omega
          · obtain ⟨e1, e2, e3⟩ := Oper.apart_spec hap'
            rcases hx with hx | hx
            · exact absurd hx (e3 x hdj')
            · exact absurd hdj' (e2 x hx)
      have hgetset : ∀ (listed : Array Bool) i, listed.size = ops.size → i < ops.size → (listed.setIfInBounds i true).getD i true = true := by
        intro listed i h1 h2
        have : i < listed.size := by omega
        simp [this]
      have hput : ∀ u (listed : Array Bool) i o, listed.size = ops.size → (∀ j o, ops[j]? = some o → listed.getD j true = true → ∀ e ∈ o.after, Region.binds .any e = true → listed.getD e.on true = true) → i ∈ Region.ready .any ops listed → ops[i]? = some o → i < k →
          (foldF ops (vs u) (fun j => listed.getD j true) k a).put o.dst (vs u i) = foldF ops (vs u) (fun j => (listed.setIfInBounds i true).getD j true) k a := by
        intro u listed i o hsz hcl hi ho hik
        have hilt : i < ops.size := (Array.getElem?_eq_some_iff.1 ho).1
        have hdo : dstOk n o.dst = true := hdst i o hik ho
        have hda : dstAt ops i = o.dst := by simp [dstAt, ho]
        have hgi := hgetset listed i hsz hilt
        have hgj : ∀ j, j ≠ i → (listed.setIfInBounds i true).getD j true = listed.getD j true := fun j hj => getD_set_ne true (Ne.symm hj)
        have szs : ∀ f, (foldF ops (vs u) f k a).tmps.size = a.tmps.size := fun f => (foldF_size ops (vs u) f k a).1
        have dfs : ∀ f, (foldF ops (vs u) f k a).defers = a.defers := fun f => (foldF_size ops (vs u) f k a).2
        refine act_ext ?_ ?_ fun x => ?_
        · cases o.dst <;> simp [Act.put, szs]
        · cases o.dst <;> simp [Act.put, dfs]
        · by_cases hx : o.dst = some x
          · have e1 : (foldF ops (vs u) (fun j => (listed.setIfInBounds i true).getD j true) k a).tmps[x]? = (foldF ops (vs u) (fun j => decide (j < i + 1)) k a).tmps[x]? := by
              refine foldF_agree ops (vs u) _ _ k a x fun j hj hdj => ?_
              by_cases e : j = i
              · subst e; rw [hgi]; simp
              · rw [hgj j e, ← horder listed i o hcl hi ho hik x (.inr hx) j hj e hdj]
                by_cases h : j < i
                · have : j < i + 1 := by omega
                  simp [h, this]
                · have : ¬ j < i + 1 := by omega
                  simp [h, this]
            rw [e1, foldF_runA ops (vs u) (i + 1) k a (by omega)]
            have e2 : runA ops (vs u) 0 (i + 1) a = (runA ops (vs u) 0 i a).put (dstAt ops i) (vs u i) := by
              simp [runA, List.range'_concat]
            rw [e2, hda, hx]
            simp only [Act.put]
            have hxn : x < a.tmps.size := by rw [hs.size]; simpa [dstOk, hx] using hdo
            have hsz1 : (runA ops (vs u) 0 i a).tmps.size = a.tmps.size := by rw [← foldF_runA ops (vs u) i k a (by omega)]; exact szs _
            rw [Array.getElem?_setIfInBounds_self_of_lt (by rw [szs]; exact hxn), Array.getElem?_setIfInBounds_self_of_lt (by rw [hsz1]; exact hxn)]
          · have e1 : (foldF ops (vs u) (fun j => (listed.setIfInBounds i true).getD j true) k a).tmps[x]? = (foldF ops (vs u) (fun j => listed.getD j true) k a).tmps[x]? := by
              refine foldF_agree ops (vs u) _ _ k a x fun j hj hdj => ?_
              by_cases e : j = i
              · subst e; rw [hda] at hdj; exact absurd hdj hx
              · exact hgj j e
            rw [e1]
            cases hd : o.dst with
            | none => rfl
            | some y =>
              have : y ≠ x := fun e => hx (by rw [hd, e])
              simp [Act.put, Array.getElem?_setIfInBounds_ne this]
      have hagree : ∀ u (listed : Array Bool) i o, (∀ j o, ops[j]? = some o → listed.getD j true = true → ∀ e ∈ o.after, Region.binds .any e = true → listed.getD e.on true = true) → i ∈ Region.ready .any ops listed → ops[i]? = some o → i < k →
          ∀ x, x ∈ o.looksAt ops → (runA ops (vs u) 0 i a).tmps[x]? = (foldF ops (vs u) (fun j => listed.getD j true) k a).tmps[x]? := by
        intro u listed i o hcl hi ho hik x hx
        rw [← foldF_runA ops (vs u) i k a (by omega)]
        refine foldF_agree ops (vs u) _ _ k a x fun j hj hdj => ?_
        by_cases e : j = i
        · subst e
          have hun := (mem_ready.1 hi).1
          rw [hun]; simp
        · exact horder listed i o hcl hi ho hik x (.inl hx) j hj e hdj
      have hclset : ∀ (listed : Array Bool) i o, listed.size = ops.size → (∀ j o, ops[j]? = some o → listed.getD j true = true → ∀ e ∈ o.after, Region.binds .any e = true → listed.getD e.on true = true) → i ∈ Region.ready .any ops listed → ops[i]? = some o →
          (∀ j o, ops[j]? = some o → (listed.setIfInBounds i true).getD j true = true → ∀ e ∈ o.after, Region.binds .any e = true → (listed.setIfInBounds i true).getD e.on true = true) := by
        intro listed i o hsz hcl hi ho j oj hoj hj e he hbd
        have hilt : i < ops.size := (Array.getElem?_eq_some_iff.1 ho).1
        obtain ⟨hun, o', ho', hpre⟩ := mem_ready.1 hi
        obtain rfl : o = o' := by rw [ho] at ho'; exact Option.some.inj ho'
        have hgj : ∀ j, j ≠ i → (listed.setIfInBounds i true).getD j true = listed.getD j true := fun j hj => getD_set_ne true (Ne.symm hj)
        by_cases e1 : e.on = i
        · rw [e1]; exact hgetset listed i hsz hilt
        · rw [hgj _ e1]
          by_cases e2 : j = i
          · subst e2
            obtain rfl : o = oj := by rw [ho] at hoj; exact Option.some.inj hoj
            have := hpre e he hbd
            cases hlt : listed[e.on]? with
            | none => simp [hlt] at this
            | some bb => simpa [hlt] using this
          · rw [hgj _ e2] at hj
            exact hcl j oj hoj hj e he hbd
      have hcntset : ∀ (listed : Array Bool) i, listed.size = ops.size → i ∈ Region.ready .any ops listed → i < ops.size → cnt (fun j => listed.getD j true) ops.size = cnt (fun j => (listed.setIfInBounds i true).getD j true) ops.size + 1 := by
        intro listed i hsz hi hilt
        have := cnt_set (f := fun j => listed.getD j true) (g := fun j => (listed.setIfInBounds i true).getD j true) (i := i) (mem_ready.1 hi).1 (hgetset listed i hsz hilt) (fun j hj => getD_set_ne true (Ne.symm hj)) ops.size
        simpa [hilt] using this
      refine wp_mono (Q := fun e a' w' => e = .normal ∧ ∃ T' S', Sat n T' a' ∧ Rep w0 S' w' ∧ Q e T' S') ?_ (fun e a' w' h => h.2)
      refine wp_region_any hm ?_
      have key : ∀ (fuel : Nat) (listed : Array Bool) (b : Act) (w' : World), listed.size = ops.size →
          (∀ j o, ops[j]? = some o → listed.getD j true = true → ∀ e ∈ o.after, Region.binds .any e = true → listed.getD e.on true = true) → (∀ i ∈ Hs, listed.getD i true = true) →
          (∀ t, k ≤ t → t < ops.size → listed.getD t true = false) → (∃ u Sx, (if listed.getD A.length true = true then K u Sx else (u = undef ∧ Sx = S)) ∧ b = foldF ops (vs u) (fun j => listed.getD j true) k a ∧ Rep w0 Sx w') → cnt (fun j => listed.getD j true) ops.size = fuel →
          wpAny P .any ops (fun e a' w' => e = .normal ∧ ∃ T' S', Sat n T' a' ∧ Rep w0 S' w' ∧ Q e T' S') fuel listed b w' := by
        intro fuel
        induction fuel with
        | zero =>
          intro listed b w' hsz hcl hHl htl ⟨u, Sx, hph, hb, hr'⟩ hcnt
          have hall : ∀ j, j < ops.size → listed.getD j true = true := by
            intro j hj
            cases hx : listed.getD j true with
            | true => rfl
            | false =>
              exfalso
              have : ∀ m, j < m → 0 < cnt (fun j => listed.getD j true) m := by
                intro m
                induction m with
                | zero => intro h; omega
                | succ m ih =>
                  intro h
                  simp only [cnt]
                  by_cases e : j = m
                  · subst e; simp [hx]
                  · have := ih (by omega); omega
              have := this ops.size hj
              omega
          have hKx : K u Sx := by rw [if_pos (hall A.length (by omega))] at hph; exact hph
          have hkeq : k = ops.size := by
            rcases Nat.lt_or_ge k ops.size with h | h
            · have h1 := htl k (Nat.le_refl _) h
              have h2 := hall k h
              rw [h1] at h2
              cases h2
            · omega
          have hbt : b = runA ops (vs u) 0 k a := by
            rw [hb, ← foldF_runA ops (vs u) k k a (Nat.le_refl _)]
            unfold foldF
            refine foldl_ext' _ _ _ _ fun b j hj => ?_
            have hj' := List.mem_range.1 hj
            simp [hall j (by omega), hj']
          refine ⟨?_, ?_⟩
          · unfold Region.ready
            rw [List.filter_eq_nil_iff]
            intro i hi
            rw [hall i (List.mem_range.1 hi)]
            simp
          · have := h4 u Sx hKx ops [] b w' (fun e a' w' => e = .normal ∧ ∃ T' S', Sat n T' a' ∧ Rep w0 S' w' ∧ Q e T' S') (by
              rw [hkeq, Nat.sub_self] at hc2
              rw [hkeq]
              simpa using hc2) (hbt ▸ hsat' u) hr' (fun a' w' T' S' h3 h4 h5 => ⟨rfl, T', S', h3, h4, h5⟩)
            simpa [wpOps] using this
        | succ fuel ih =>
          intro listed b w' hsz hcl hHl htl ⟨u, Sx, hph, hb, hr'⟩ hcnt
          by_cases hall : ∀ j, j < k → listed.getD j true = true
          · -- the head is done
            have hKx : K u Sx := by rw [if_pos (hall A.length hpk)] at hph; exact hph
            have hexact : ∀ j, j < ops.size → listed.getD j true = decide (j < k) := by
              intro j hj
              by_cases h : j < k
              · rw [hall j h]; simp [h]
              · rw [htl j (by omega) hj]; simp [h]
            have hbt : b = runA ops (vs u) 0 k a := by
              rw [hb, ← foldF_runA ops (vs u) k k a (Nat.le_refl _)]
              unfold foldF
              refine foldl_ext' _ _ _ _ fun b j hj => ?_
              have hj' := List.mem_range.1 hj
              simp [hall j hj', hj']
            have hfuel : fuel + 1 = ops.size - k := by
              rw [← hcnt, cnt_congr ops.size hexact, cnt_below]
            rw [hfuel]
            have htl2 : ∀ listed' : Array Bool, ∀ t s', k ≤ s' → s' < t → t < ops.size → (∀ j, j < ops.size → listed'.getD j true = decide (j < s')) → listed'.size = ops.size → t ∉ Region.ready .any ops listed' := by
              intro l'' t s' h1 h2 h3 h4 h5 hmem
              have := hreadyX l'' t (fun j o ho hj e he hbd => by
                have hlt := backB_spec hback ho he hbd
                have hjs : j < ops.size := (Array.getElem?_eq_some_iff.1 ho).1
                rw [h4 j hjs] at hj
                rw [h4 e.on (by omega)]
                simp only [decide_eq_true_eq] at hj ⊢
                omega) hmem s' (by omega) (htail t s' (by omega) h3 h2 (fun hm' => by have := hHk s' hm'; omega)) (by omega)
              rw [h4 s' (by omega)] at this
              simp at this
            refine wpAny_tail hback (ops.size - k) k listed b w' (by omega) hsz hexact (fun t i h1 h2 h3 h4 h5 => htl2 listed t k (Nat.le_refl _) h1 h2 hexact hsz) htl2 ?_
            exact h4 u Sx hKx ops _ b w' _ hc2 (hbt ▸ hsat' u) hr' (fun a' w' T' S' h3 h4 h5 => ⟨rfl, T', S', h3, h4, h5⟩)
          · refine ⟨fun h0 => ?_, fun i hi => ?_⟩
            · exfalso
              obtain ⟨i, hi1, hi2, hi3⟩ := cnt_pos ops.size (by rw [hcnt]; omega : 0 < cnt (fun j => listed.getD j true) ops.size)
              have : i ∈ Region.ready .any ops listed := by
                rw [mem_ready]
                refine ⟨hi2, ops[i], by simp [hi1], fun e he hbd => ?_⟩
                have hlt := backB_spec hback (show ops[i]? = some ops[i] by simp [hi1]) he hbd
                have h3 := hi3 e.on hlt
                have : e.on < listed.size := by omega
                simpa [this] using h3
              rw [h0] at this
              simp at this
            · have hmem := mem_ready.1 hi
              obtain ⟨hun, o, ho, hpre⟩ := hmem
              have hilt : i < ops.size := (Array.getElem?_eq_some_iff.1 ho).1
              have hik : i < k := by
                rcases Nat.lt_or_ge i k with h | h
                · exact h
                · exfalso
                  refine hall fun j hj => ?_
                  by_cases hjH : j ∈ Hs
                  · exact hHl j hjH
                  · exact hreadyX listed i hcl hi j (by omega) (htail i j h hilt (by omega) hjH) (by omega)
              have hdo : dstOk n o.dst = true := hdst i o hik ho
              have hagree' := hagree u listed i o hcl hi ho hik
              rw [← hb] at hagree'
              have hev : execOp (runA ops (vs u) 0 i a).eval o = execOp b.eval o :=
                execOp_congr o (fun cs bb hh => Region.noSelect_spec hsel i o cs bb ho hh) fun x hx => eval_agree fun t ht => hagree' t (looks_op (ht ▸ hx))
              have hwan := wanted_agree (ops := ops) (o := o) (a := runA ops (vs u) 0 i a) (b := b) hagree'
              have hgj : ∀ j, j ≠ i → (listed.setIfInBounds i true).getD j true = listed.getD j true := fun j hj => getD_set_ne true (Ne.symm hj)
              have hnext : ∀ u2 S2 w'' b2, (if (listed.setIfInBounds i true).getD A.length true = true then K u2 S2 else (u2 = undef ∧ S2 = S)) → b2 = foldF ops (vs u2) (fun j => (listed.setIfInBounds i true).getD j true) k a → Rep w0 S2 w'' → wpAny P .any ops (fun e a' w' => e = .normal ∧ ∃ T' S', Sat n T' a' ∧ Rep w0 S' w' ∧ Q e T' S') fuel (listed.setIfInBounds i true) b2 w'' := by
                intro u2 S2 w'' b2 hp2 hb2 hr''
                refine ih _ _ w'' (by simpa using hsz) (hclset listed i o hsz hcl hi ho) ?_ ?_ ⟨u2, S2, hp2, hb2, hr''⟩ ?_
                · intro j hj
                  by_cases e : j = i
                  · subst e; exact hgetset listed j hsz hilt
                  · rw [hgj j e]; exact hHl j hj
                · intro t h3 h4'
                  rw [hgj t (by omega)]
                  exact htl t h3 h4'
                · have := hcntset listed i hsz hi hilt
                  omega
              have hsz1 : (runA ops (vs u) 0 i a).tmps.size = n := by rw [← foldF_runA ops (vs u) i k a (by omega), (foldF_size ops (vs u) _ k a).1, hs.size]
              have hsz2 : b.tmps.size = n := by rw [hb, (foldF_size ops (vs u) _ k a).1, hs.size]
              have hdf : (runA ops (vs u) 0 i a).defers = [] := by rw [← foldF_runA ops (vs u) i k a (by omega), (foldF_size ops (vs u) _ k a).2, hs.defers]
              have hputu := fun u2 => hput u2 listed i o hsz hcl hi ho hik
              unfold wpOp
              simp only [ho]
              by_cases hip : i = A.length
              · -- the one that turns something
                subst hip
                obtain rfl : oc = o := by rw [hoc] at ho; exact Option.some.inj ho
                rw [if_neg (by simp [hun])] at hph
                obtain ⟨rfl, rfl⟩ := hph
                have hwt : Region.wanted oc (yielded ops b.tmps) = true := by
                  rcases hgdc with ⟨hgn, _⟩ | ⟨j, b', s', hgn, hj, he⟩
                  · simp [Region.wanted, hgn]
                  · rw [hcg] at he; cases he
                rw [if_pos hwt]
                left
                have hl2 := hc2x oc _ w' (fun _ _ _ => False) hpoc (hsC undef) hr'
                refine Oper.wp_mono ?_ (wp_transfer_any hev (by rw [hsz1, hsz2]) (by rw [hsz1]; exact hdo) hdf hl2)
                rintro b' w'' ⟨v2, S2, rfl, hr2, hk2⟩
                refine hnext v2 S2 w'' _ (by rw [if_pos (hgetset listed _ hsz hilt)]; exact hk2) ?_ hr2
                have h7 := hputu v2
                have h8 : vs v2 A.length = v2 := by
                  simp only [vs, List.getD_eq_getElem?_getD]
                  rw [List.getElem?_append_right (by omega), hla]
                  simp
                rw [h8] at h7
                rw [← h7, hb]
                congr 1
                unfold foldF
                refine foldl_ext' _ _ _ _ fun b j hj => ?_
                by_cases hjl : listed.getD j true = true
                · have hjp : j ≠ A.length := fun e => by rw [e, hun] at hjl; cases hjl
                  have : vs undef j = vs v2 j := by
                    simp only [vs, List.getD_eq_getElem?_getD]
                    rcases Nat.lt_or_gt_of_ne hjp with h | h
                    · rw [List.getElem?_append_left (by omega), List.getElem?_append_left (by omega)]
                    · rw [List.getElem?_append_right (by omega), List.getElem?_append_right (by omega), show j - va.length = (j - va.length - 1) + 1 by omega, List.getElem?_cons_succ, List.getElem?_cons_succ]
                  rw [this]
                · simp [hjl]
              · have hSx : Ss Sx := by
                  split at hph
                  · exact hK _ _ hph
                  · rw [hph.2]; exact hSs
                have hph2 : (if (listed.setIfInBounds i true).getD A.length true = true then K u Sx else (u = undef ∧ Sx = S)) := by
                  rw [hgj A.length (Ne.symm hip)]; exact hph
                rcases hgives u Sx hSx i hik hip o ho with ⟨hw1, hw2⟩ | ⟨hw1, hw2⟩
                · rw [hwan] at hw1
                  rw [if_pos hw1]
                  left
                  refine Oper.wp_mono ?_ (wp_transfer hev (by rw [hsz1, hsz2]) (by rw [hsz1]; exact hdo) hdf (hw2 w' hr'))
                  rintro b' w'' ⟨rfl, hr''⟩
                  exact hnext u Sx w'' _ hph2 (by rw [hb]; exact hputu u) hr''
                · rw [hwan] at hw1
                  rw [hw1]
                  simp only [Bool.false_eq_true, if_false]
                  have h9 := hputu u
                  rw [hw2] at h9
                  exact hnext u Sx w' _ hph2 (by rw [hb]; exact h9) hr'
      -- the moves first
      have phase0 : ∀ (Hr : List Nat) (listed : Array Bool) (b : Act) (w' : World), hoistB ops Hr listed = true → (∀ i ∈ Hr, i < k) → listed.size = ops.size →
          (∀ j o, ops[j]? = some o → listed.getD j true = true → ∀ e ∈ o.after, Region.binds .any e = true → listed.getD e.on true = true) → (∀ i ∈ Hs, listed.getD i true = true ∨ i ∈ Hr) →
          (∀ t, k ≤ t → t < ops.size → listed.getD t true = false) → listed.getD A.length true = false → b = foldF ops (vs undef) (fun j => listed.getD j true) k a → Rep w0 S w' →
          wpAny P .any ops (fun e a' w' => e = .normal ∧ ∃ T' S', Sat n T' a' ∧ Rep w0 S' w' ∧ Q e T' S') (cnt (fun j => listed.getD j true) ops.size) listed b w' := by
        intro Hr
        induction Hr with
        | nil =>
          intro listed b w' _ _ hsz hcl hHl htl hnp hb hr'
          exact key _ listed b w' hsz hcl (fun i hi => (hHl i hi).resolve_right (by simp)) htl ⟨undef, S, by rw [if_neg (by simp [hnp])]; exact ⟨rfl, rfl⟩, hb, hr'⟩ rfl
        | cons i Hr ih =>
          intro listed b w' hh hlt hsz hcl hHl htl hnp hb hr'
          simp only [hoistB, Bool.and_eq_true] at hh
          obtain ⟨⟨⟨hho, hfree⟩, hready⟩, hrest⟩ := hh
          have hi : i ∈ Region.ready .any ops listed := by simpa using hready
          obtain ⟨hun, o, ho, hpre⟩ := mem_ready.1 hi
          have hilt : i < ops.size := (Array.getElem?_eq_some_iff.1 ho).1
          have hik : i < k := hlt i (by simp)
          have hgj : ∀ j, j ≠ i → (listed.setIfInBounds i true).getD j true = listed.getD j true := fun j hj => getD_set_ne true (Ne.symm hj)
          rw [hcntset listed i hsz hi hilt]
          simp only [hoistable?, ho, hoistable, Bool.and_eq_true] at hho
          obtain ⟨hgn, hmv⟩ := hho
          have hgn' : o.guard = none := by simpa using hgn
          have hwant : ∀ t : Array Value, Region.wanted o (yielded ops t) = true := fun t => by simp [Region.wanted, hgn']
          have hagree' := hagree undef listed i o hcl hi ho hik
          rw [← hb] at hagree'
          have hdo : dstOk n o.dst = true := hdst i o hik ho
          have hsz1 : (runA ops (vs undef) 0 i a).tmps.size = n := by rw [← foldF_runA ops (vs undef) i k a (by omega), (foldF_size ops (vs undef) _ k a).1, hs.size]
          have hmove : ∃ x, (o.op = .move x ∨ o.op = .assign x) := by
            cases hop : o.op <;> rw [hop] at hmv <;> simp at hmv
            · exact ⟨_, .inl rfl⟩
            · exact ⟨_, .inr rfl⟩
          obtain ⟨x, hx⟩ := hmove
          have hip : i ≠ A.length := by
            intro e; subst e
            obtain rfl : oc = o := by rw [hoc] at ho; exact Option.some.inj ho
            have : c.o = .mov (cV x) := by
              have h5 : cOp P oc = some (.mov (cV x)) := by unfold cOp cOp0; rcases hx with hx | hx <;> simp [hx]
              rw [h5] at hpoc
              exact (Option.some.inj hpoc).symm
            exact hcm _ this
          have hexec : ∀ ρ, execOp ρ o = pure (.value (ρ x)) := by
            intro ρ
            rcases hx with hx | hx <;> simp [execOp, hx]
          have hval : b.eval x = vs undef i ∨ o.dst = none := by
            rcases hgives undef S hSs i hik hip o ho with ⟨_, hw2⟩ | ⟨hw1, _⟩
            · have := hw2 w' hr'
              unfold Oper.wp at this
              rw [hexec] at this
              simp only [Sem.run_pure, Oper.upon] at this
              have hev : (runA ops (vs undef) 0 i a).eval x = b.eval x := eval_agree fun t ht => hagree' t (looks_op (by rcases hx with hx | hx <;> simp [hx, Op.operands, ht]))
              cases hd : o.dst with
              | none => exact .inr rfl
              | some d =>
                left
                rw [hd] at this hdo
                have h3 := congrArg (fun c : Act => c.tmps[d]?) this.1
                have hdn : d < n := by simpa [dstOk] using hdo
                simp [Act.put, hsz1, hdn] at h3
                rw [← hev]; exact h3
            · rw [hwant] at hw1; cases hw1
          refine wpAny_take (oi := o) (v := b.eval x) ho hsel hfree hready (fun c a w hq => by simp at hq) (.inl ⟨hwant _, fun w => by rw [hexec]; rfl⟩) ?_
          have hbput : b.put o.dst (b.eval x) = foldF ops (vs undef) (fun j => (listed.setIfInBounds i true).getD j true) k a := by
            rw [← hput undef listed i o hsz hcl hi ho hik, ← hb]
            rcases hval with h | h
            · rw [h]
            · rw [h]; rfl
          rw [hbput]
          refine ih _ _ w' hrest (fun j hj => hlt j (by simp [hj])) (by simpa using hsz) (hclset listed i o hsz hcl hi ho) ?_ ?_ (by rw [hgj _ (Ne.symm hip)]; exact hnp) rfl hr'
          · intro j hj
            by_cases e : j = i
            · subst e; exact .inl (hgetset listed j hsz hilt)
            · rw [hgj j e]
              rcases hHl j hj with h | h
              · exact .inl h
              · rcases List.mem_cons.1 h with h | h
                · exact absurd h e
                · exact .inr h
          · intro t h3 h4
            rw [hgj t (by omega)]
            exact htl t h3 h4
      have hcnt0 : cnt (fun j => (Array.replicate ops.size false).getD j true) ops.size = ops.size := by
        rw [cnt_congr (g := fun j => decide (j < 0)) ops.size (fun j hj => by simp [hj]), cnt_below]
        omega
      have := phase0 Hs (Array.replicate ops.size false) a { w with drawn := w.drawn + 1 } hhoist hHk (by simp) ?_ (fun i hi => .inr hi) ?_ (by have : A.length < ops.size := (by omega); simp [this]) ?_ ?_
      · rwa [hcnt0] at this
      · intro j o ho hj
        exfalso
        have hlt : j < ops.size := (Array.getElem?_eq_some_iff.1 ho).1
        simp [hlt] at hj
      · intro t _ ht
        simp [ht]
      · have : ∀ j, j < k → (Array.replicate ops.size false).getD j true = decide (j < 0) := by
          intro j hj
          have : j < ops.size := by omega
          simp [this]
        have h0 : foldF ops (vs undef) (fun j => (Array.replicate ops.size false).getD j true) k a = foldF ops (vs undef) (fun j => decide (j < 0)) k a := by
          unfold foldF
          refine foldl_ext' _ _ _ _ fun b j hj => ?_
          simp only [this j (List.mem_range.1 hj)]
        rw [h0, foldF_runA ops (vs undef) 0 k a (Nat.zero_le _)]
        rfl
      · exact hr.same ((Below.refl _ w).drew) (fun _ _ => rfl)
  all_goals (first | (simp [cC] at hc; done) | (simp only [cC] at hc; split at hc <;> simp at hc; done))
end
end Go.SL
