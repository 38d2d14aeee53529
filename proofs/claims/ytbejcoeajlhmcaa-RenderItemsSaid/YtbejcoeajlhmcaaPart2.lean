/- Walks. -/
import Derived.Test.YtbejcoeajlhmcaaPart1
import Derived.ChangeKeysEq
import Derived.RangeFuncLeaves
import Derived.RangeFuncRecord
import Derived.RangeFuncKeeps
import Derived.OrdersIn
import Derived.Lib.AppendZerosOnto
import Derived.Lib.Overlaps
import Derived.Maps.RangeRun
import Derived.DeepKeys4
set_option linter.unusedVariables false
set_option linter.unusedSimpArgs false
set_option linter.unusedSectionVars false

namespace Go.SL
open Go.RowKit
section
variable {P : Program} {w0 : World} {n : Nat} {T : TT} {S : SS}
inductive QLs (P : Program) (w0 : World) (n : Nat) (Ss : SS -> Prop) : List PI -> TT -> TT -> List Value -> Prop
 | nil {T : TT} : QLs P w0 n Ss [] T T []
 | step {T T' : TT} {d : Option Nat} {g : Option (Nat × Bool)} {po : PO} {v : Value} {r : List PI} {vs : List Value} (hg : gOk T g) (h : ∀ S, Ss S -> OW P w0 n po T S (fun v' S' => v' = v /\ S' = S)) (k : QLs P w0 n Ss r (put d v T) T' vs) : QLs P w0 n Ss (⟨d, g, po⟩ :: r) T T' (v :: vs)
 | off {T T' : TT} {d : Option Nat} {s : Nat} {b : Bool} {u : Value} {po : PO} {r : List PI} {vs : List Value} (hl : look T s = some u) (hc : (boolOf u == some b) = false) (k : QLs P w0 n Ss r (put d undef T) T' vs) : QLs P w0 n Ss (⟨d, some (s, b), po⟩ :: r) T T' (undef :: vs)
theorem QLs.trace {ops : Array Oper} {Ss : SS -> Prop} {l : List PI} {T T' : TT} {vals : List Value} (h : QLs P w0 n Ss l T T' vals) : ∀ s a, cIs P n ops (List.range' s l.length) = some l -> Sat n T a ->
    vals.length = l.length /\ Sat n T' (runA ops (fun i => vals.getD (i - s) undef) s l.length a) /\ (∀ j, j < l.length -> ∀ S, Ss S -> GivesAt P w0 S ops (s + j) (vals.getD j undef) (runA ops (fun i => vals.getD (i - s) undef) s j a)) /\ (∀ j o, j < l.length -> ops[s + j]? = some o -> dstOk n o.dst = true) /\ (∀ j, j < l.length -> ∀ x, l[j]? = some x -> x.d = dstAt ops (s + j)) := by
  have shift : ∀ (v : Value) (vs : List Value) (s m : Nat) (a : Act) (o : Oper), ops[s]? = some o -> runA ops (fun i => (v :: vs).getD (i - s) undef) s (m + 1) a = runA ops (fun i => vs.getD (i - (s + 1)) undef) (s + 1) m (a.put o.dst v) := by
    intro v vs s m a o ho
    have hda : dstAt ops s = o.dst := by simp [dstAt, ho]
    unfold runA
    rw [List.range'_succ, List.foldl_cons]
    simp only [Nat.sub_self, List.getD_cons_zero, hda]
    refine foldl_ext' _ _ _ _ fun b j hj => ?_
    have : s + 1 <= j := by have := List.mem_range'.1 hj; omega
    rw [show j - s = (j - (s + 1)) + 1 by omega, List.getD_cons_succ]
  induction h with
  | nil => intro s a _ hs; exact ⟨rfl, by simpa [runA] using hs, fun j hj => by simp at hj, fun j o hj => by simp at hj, fun j hj => by simp at hj⟩
  | @step T T' d g po v r vs hg h k ih =>
    intro s a hc hs
    simp only [List.length_cons, List.range'_succ] at hc
    obtain ⟨i, is, he, hi, hrest⟩ := cIs_cons hc
    simp only [List.cons.injEq] at he
    obtain ⟨rfl, rfl⟩ := he
    obtain ⟨o, ho, hpo, hd, hdst, hgd⟩ := cI_spec hi
    simp only at hpo hdst
    subst hdst
    obtain ⟨h0, h1, h2, h3, h4⟩ := ih (s + 1) _ hrest (hs.put hd v)
    refine ⟨by simp [h0], by rw [List.length_cons, shift v vs s _ a o ho]; exact h1, ?_, ?_, ?_⟩
    · intro j hj S hS
      cases j with
      | zero =>
        intro o' ho'
        obtain rfl : o = o' := by rw [Nat.add_zero, ho] at ho'; exact Option.some.inj ho'
        left
        simp only [runA, List.range'_zero, List.foldl_nil, List.getD_cons_zero]
        refine ⟨?_, fun w hr => ?_⟩
        · rcases hgd with ⟨hgd, _⟩ | ⟨j, b, s', hgd, hjj, he⟩
          · simp [Region.wanted, hgd]
          simp only at he
          subst he
          simp [Region.wanted, hgd, hs.yielded hjj hg]
        refine Oper.wp_mono ?_ (h S hS o a w _ hpo hs hr)
        rintro b w' ⟨v', S', rfl, hr', rfl, rfl⟩
        exact ⟨rfl, hr'⟩
      | succ j =>
        rw [shift v vs s _ a o ho, List.getD_cons_succ]
        have := h2 j (by simpa using hj) S hS
        rwa [show s + 1 + j = s + (j + 1) by omega] at this
    · intro j o' hj ho'
      cases j with
      | zero => obtain rfl : o = o' := by rw [Nat.add_zero, ho] at ho'; exact Option.some.inj ho'
                exact hd
      | succ j => exact h3 j o' (by simpa using hj) (by rwa [show s + 1 + j = s + (j + 1) by omega])
    intro j hj x hx
    cases j with
    | zero => simp at hx; subst hx; simp [dstAt, ho]
    | succ j => have := h4 j (by simpa using hj) x (by simpa using hx); rwa [show s + 1 + j = s + (j + 1) by omega] at this
  | @off T T' d sl b u po r vs hl hcb k ih =>
    intro s a hc hs
    simp only [List.length_cons, List.range'_succ] at hc
    obtain ⟨i, is, he, hi, hrest⟩ := cIs_cons hc
    simp only [List.cons.injEq] at he
    obtain ⟨rfl, rfl⟩ := he
    obtain ⟨o, ho, hpo, hd, hdst, hgd⟩ := cI_spec hi
    simp only at hpo hdst
    subst hdst
    obtain ⟨h0, h1, h2, h3, h4⟩ := ih (s + 1) _ hrest (hs.put hd undef)
    refine ⟨by simp [h0], by rw [List.length_cons, shift undef vs s _ a o ho]; exact h1, ?_, ?_, ?_⟩
    · intro j hj S hS
      cases j with
      | zero =>
        intro o' ho'
        obtain rfl : o = o' := by rw [Nat.add_zero, ho] at ho'; exact Option.some.inj ho'
        right
        refine ⟨?_, by simp⟩
        simp only [runA, List.range'_zero, List.foldl_nil]
        rcases hgd with ⟨_, hgd⟩ | ⟨j, b', s', hgd, hjj, he⟩
        · simp at hgd
        simp only [Option.some.injEq, Prod.mk.injEq] at he
        obtain ⟨rfl, rfl⟩ := he
        simp only [Region.wanted, hgd, hs.yieldedV hjj hl]; exact hcb
      | succ j =>
        rw [shift undef vs s _ a o ho, List.getD_cons_succ]
        have := h2 j (by simpa using hj) S hS
        rwa [show s + 1 + j = s + (j + 1) by omega] at this
    · intro j o' hj ho'
      cases j with
      | zero => obtain rfl : o = o' := by rw [Nat.add_zero, ho] at ho'; exact Option.some.inj ho'
                exact hd
      | succ j => exact h3 j o' (by simpa using hj) (by rwa [show s + 1 + j = s + (j + 1) by omega])
    intro j hj x hx
    cases j with
    | zero => simp at hx; subst hx; simp [dstAt, ho]
    | succ j => have := h4 j (by simpa using hj) x (by simpa using hx); rwa [show s + 1 + j = s + (j + 1) by omega] at this
theorem wp_transfer_any {o : Oper} {a a' : Act} {w : World} {R : Value -> SS -> World -> Prop} {Q : Exit -> Act -> World -> Prop} (he : execOp a.eval o = execOp a'.eval o) (hn : a.tmps.size = a'.tmps.size) (hd : dstOk a.tmps.size o.dst = true)
  (hdf : a.defers = [])
  (h : o.wp P a w (fun b w' => ∃ v S', b = a.put o.dst v /\ R v S' w') (fun _ _ _ => False)) : o.wp P a' w (fun b w' => ∃ v S', b = a'.put o.dst v /\ R v S' w') Q := by
 have put_eq : ∀ x v : Value, a.put o.dst x = a.put o.dst v -> a'.put o.dst x = a'.put o.dst v := by
  intro x v hx
  cases hdst : o.dst with
  | none => rfl
  | some d =>
   rw [hdst] at hx hd
   simp only [dstOk, decide_eq_true_eq] at hd
   have : x = v := by
    have := congrArg (fun b : Act => b.tmps[d]?) hx
    simpa [Act.put, hd] using this
   rw [this]
 unfold Oper.wp at *
 rw [<- he]
 generalize (execOp a.eval o).run P w = r at *
 cases r with
 | ok x w' =>
  cases x <;> simp only [Oper.upon] at h ⊢
  case value x => obtain ⟨v, S', h1, h2⟩ := h; exact ⟨v, S', put_eq _ _ h1, h2⟩
  case skip => obtain ⟨v, S', h1, h2⟩ := h; exact ⟨v, S', put_eq _ _ h1, h2⟩
  case defer d =>
   exfalso
   obtain ⟨v, S', h1, h2⟩ := h
   have := congrArg Act.defers h1
   cases hdst : o.dst <;> simp [Act.put, hdst, hdf] at this
  case enter f args =>
   refine h.mono ?_
   intro e w'' he
   cases e with
   | returned x => obtain ⟨v, S', h1, h2⟩ := he; exact ⟨v, S', put_eq _ _ h1, h2⟩
   | panicked c => exact he.elim
   | outgrown => obtain ⟨_, _, hf⟩ := he; exact hf.elim
  case row row args => exact h.mono fun v w'' ⟨v', S', h1, h2⟩ => ⟨v', S', put_eq _ _ h1, h2⟩
  all_goals exact h.elim
 | halt x w' => cases x <;> simp only [Oper.upon] at h ⊢
set_option maxHeartbeats 4000000 in
theorem PW.quiet1 {k d : Nat} {l A B : List PI} {c : PI} {Q : Exit -> TT -> SS -> Prop} {T1 T2 : TT} {va vb : List Value} {Ss : SS -> Prop} {K : Value -> SS -> Prop} (hm : P.follows .mixedOrders = true) (hl : l.take k = A ++ c :: B) (hcg : c.g = none) (hd : c.d = some d)
  (hcm : ∀ x, c.o ≠ .mov x) (hB : B.all (fun x => x.d != some d) = true) (hA : QLs P w0 n Ss A T T1 va) (hc2x : OW P w0 n c.o T1 S K) (hSs : Ss S) (hK : ∀ v S', K v S' -> Ss S') (hBq : QLs P w0 n Ss B (SL.del (some d) T1) T2 vb)
  (h4 : ∀ v S', K v S' -> OL P w0 n (l.drop k) ((d, v) :: T2) S' (Q .normal)) : PW P w0 n (.quiet k l) T S Q := by
 intro c hc a w hs hr
 cases c
 case region id ops dr =>
  cases dr with
  | false => simp [cC] at hc
  | true =>
   simp only [cC] at hc
   split at hc
   case isFalse => simp at hc
   rename_i hcond
   simp only [Bool.and_eq_true] at hcond
   obtain ⟨⟨⟨hap, hback⟩, hsel⟩, hhoist⟩ := hcond
   simp only [Option.map_eq_some_iff] at hc
   obtain ⟨l', hcis, hmk⟩ := hc
   obtain ⟨rfl, rfl⟩ := mkQ_quiet hmk
   obtain ⟨hhead, hkle⟩ := headOf_spec ops (hoists ops) ops.size (Nat.le_refl _)
   change headB ops ((hoists ops).filter (· < quietAt ops)) (quietAt ops) = true at hhead
   change quietAt ops <= ops.size at hkle
   generalize hk : quietAt ops = k at *
   generalize hH : (hoists ops).filter (· < k) = Hs at *
   have hHk : ∀ i ∈ Hs, i < k := fun i hi => by rw [<- hH] at hi; simpa using (List.mem_filter.1 hi).2
   have hsplit : List.range ops.size = List.range' 0 k ++ List.range' k (ops.size - k) := by
    rw [List.range_eq_range']
    have := List.range'_append (s := 0) (m := k) (n := ops.size - k) (step := 1)
    simp only [Nat.one_mul, Nat.zero_add] at this
    rw [this]
    congr 1
    omega
   rw [hsplit] at hcis
   obtain ⟨hc1, hc2⟩ := cIs_append hcis
   simp only [List.length_range'] at hc1 hc2
   have hlen : (l'.take k).length = k := by simpa using cIs_length hc1
   rw [hl] at hc1 hlen
   simp only [List.length_append, List.length_cons] at hlen
   have hpk : A.length < k := by omega
   have hra : List.range' 0 k = List.range' 0 A.length ++ (A.length :: List.range' (A.length + 1) B.length) := by
    have h1 := List.range'_append (s := 0) (m := A.length) (n := B.length + 1) (step := 1)
    simp only [Nat.one_mul, Nat.zero_add, List.range'_succ] at h1
    rw [show k = A.length + (B.length + 1) by omega, <- h1]
   rw [hra] at hc1
   obtain ⟨hcA, hcR⟩ := cIs_append hc1
   simp only [List.length_range', List.take_left', List.drop_left'] at hcA hcR
   obtain ⟨ic, isc, hce, hci, hcB⟩ := cIs_cons hcR
   simp only [List.cons.injEq] at hce
   obtain ⟨rfl, rfl⟩ := hce
   obtain ⟨oc, hoc, hpoc, hdc, hdstc, hgdc⟩ := cI_spec hci
   obtain ⟨hla, hsA, hgA, hdA⟩ := hA.trace 0 a hcA hs
   simp only [Nat.zero_add, Nat.sub_zero] at hsA hgA hdA
   let vs : Value -> Nat -> Value := fun u i => (va ++ u :: vb).getD i undef
   have hvA : ∀ u i, i < A.length -> vs u i = va.getD i undef := by
    intro u i hi
    simp only [vs, List.getD_eq_getElem?_getD]
    rw [List.getElem?_append_left (by omega)]
   have hrunA : ∀ u m, m <= A.length -> runA ops (vs u) 0 m a = runA ops (fun i => va.getD i undef) 0 m a := fun u m hm' =>
    foldl_ext' _ _ _ _ fun b j hj => by
     have := List.mem_range'.1 hj
     rw [hvA u j (by omega)]
   have hoc' : dstAt ops A.length = some d := by rw [<- hd, <- hdstc]; simp [dstAt, hoc]
   have hrunC : ∀ u, runA ops (vs u) 0 (A.length + 1) a = (runA ops (vs u) 0 A.length a).put (some d) u := by
    intro u
    have e2 : runA ops (vs u) 0 (A.length + 1) a = (runA ops (vs u) 0 A.length a).put (dstAt ops A.length) (vs u A.length) := by
     simp [runA, List.range'_concat]
    rw [e2, hoc']
    simp only [vs, List.getD_eq_getElem?_getD]
    rw [List.getElem?_append_right (by omega), hla]
    simp
   have hsC : ∀ u, Sat n T1 (runA ops (vs u) 0 A.length a) := fun u => by rw [hrunA u _ (Nat.le_refl _)]; exact hsA
   have hdok : dstOk n (some d) = true := by rw [<- hd, <- hdstc]; exact hdc
   have hB' : ∀ u, _ := fun u => hBq.trace (A.length + 1) (runA ops (vs u) 0 (A.length + 1) a) hcB (by rw [hrunC u]; exact (hsC u).del u)
   have hrunB : ∀ u m, m <= B.length -> runA ops (vs u) 0 (A.length + 1 + m) a = runA ops (fun i => vb.getD (i - (A.length + 1)) undef) (A.length + 1) m (runA ops (vs u) 0 (A.length + 1) a) := by
    intro u m hm'
    have h1 := List.range'_append (s := 0) (m := A.length + 1) (n := m) (step := 1)
    simp only [Nat.one_mul, Nat.zero_add] at h1
    unfold runA
    rw [<- h1, List.foldl_append]
    refine foldl_ext' _ _ _ _ fun b j hj => ?_
    have := List.mem_range'.1 hj
    have e : vs u j = vb.getD (j - (A.length + 1)) undef := by
     simp only [vs, List.getD_eq_getElem?_getD]
     rw [List.getElem?_append_right (by omega), hla, show j - A.length = (j - (A.length + 1)) + 1 by omega, List.getElem?_cons_succ]
    rw [e]
   have hkB : k = A.length + 1 + B.length := by omega
   have hsat' : ∀ u, Sat n ((d, u) :: T2) (runA ops (vs u) 0 k a) := by
    intro u
    have h2 := (hB' u).2.1
    rw [hkB, hrunB u _ (Nat.le_refl _)]
    refine ⟨h2.size, h2.defers, fun i v hv => ?_⟩
    by_cases e : d = i
    ·subst e
     rw [look_put_same] at hv
     obtain rfl := Option.some.inj hv
     have hother : ∀ m, m <= B.length -> (runA ops (fun i => vb.getD (i - (A.length + 1)) undef) (A.length + 1) m (runA ops (vs u) 0 (A.length + 1) a)).tmps[d]? = some u := by
      intro m
      induction m with
      | zero =>
       intro _
       have e0 : runA ops (fun i => vb.getD (i - (A.length + 1)) undef) (A.length + 1) 0 (runA ops (vs u) 0 (A.length + 1) a) = (runA ops (vs u) 0 A.length a).put (some d) u := hrunC u
       rw [e0]
       have hdn : d < (runA ops (vs u) 0 A.length a).tmps.size := by rw [(hsC u).size]; simpa [dstOk] using hdok
       simp [Act.put, hdn]
      | succ m ih =>
       intro hm'
       have e2 : runA ops (fun i => vb.getD (i - (A.length + 1)) undef) (A.length + 1) (m + 1) (runA ops (vs u) 0 (A.length + 1) a) = (runA ops (fun i => vb.getD (i - (A.length + 1)) undef) (A.length + 1) m (runA ops (vs u) 0 (A.length + 1) a)).put (dstAt ops (A.length + 1 + m)) (vb.getD (A.length + 1 + m - (A.length + 1)) undef) := by
        simp [runA, List.range'_concat]
       rw [e2]
       have hne := (hB' u).2.2.2.2 m (by omega)
       cases hdd : dstAt ops (A.length + 1 + m) with
       | none => simp only [Act.put]; exact ih (by omega)
       | some y =>
        have : y ≠ d := by
         intro e; subst e
         have h5 := List.all_eq_true.1 hB (B[m]'(by omega)) (List.getElem_mem _)
         have h6 := hne (B[m]'(by omega)) (List.getElem?_eq_getElem (by omega))
         rw [hdd] at h6
         simp [<- h6] at h5
        simp only [Act.put]
        rw [Array.getElem?_setIfInBounds_ne this]
        exact ih (by omega)
     exact hother _ (Nat.le_refl _)
    rw [look_cons_ne _ _ e] at hv
    exact h2.get i v hv
   have hgives : ∀ u S', Ss S' -> ∀ i, i < k -> i ≠ A.length -> GivesAt P w0 S' ops i (vs u i) (runA ops (vs u) 0 i a) := by
    intro u S' hS' i hi hne
    rcases Nat.lt_or_gt_of_ne hne with h | h
    ·have := hgA i h S' hS'
     rw [hvA u i h, hrunA u i (by omega)]
     exact this
    obtain ⟨m, rfl⟩ : ∃ m, i = A.length + 1 + m := ⟨i - (A.length + 1), by omega⟩
    have := (hB' u).2.2.1 m (by omega) S' hS'
    rw [hrunB u m (by omega)]
    have e : vs u (A.length + 1 + m) = vb.getD m undef := by
     simp only [vs, List.getD_eq_getElem?_getD]
     rw [List.getElem?_append_right (by omega), hla, show A.length + 1 + m - A.length = m + 1 by omega, List.getElem?_cons_succ]
    rw [e]
    exact this
   have hdst : ∀ i o, i < k -> ops[i]? = some o -> dstOk n o.dst = true := by
    intro i o hi ho
    rcases Nat.lt_trichotomy i A.length with h | h | h
    ·exact hdA.1 i o h ho
    ·subst h; obtain rfl : oc = o := by rw [hoc] at ho; exact Option.some.inj ho
     exact hdc
    obtain ⟨m, rfl⟩ : ∃ m, i = A.length + 1 + m := ⟨i - (A.length + 1), by omega⟩
    exact (hB' undef).2.2.2.1 m o (by omega) ho
   -- ordered pairs
   have hpair : ∀ i j, i < j -> j < ops.size -> ∀ oi oj, ops[i]? = some oi -> ops[j]? = some oj -> behind (reach ops) j i = true ∨ oi.apart ops oj = true := by
    intro i j hij hj oi oj hoi hoj
    have := List.all_eq_true.1 (List.all_eq_true.1 hap j (List.mem_range.2 hj)) i (List.mem_range.2 hij)
    simpa [hoi, hoj] using this
   have htail : ∀ t i, k <= t -> t < ops.size -> i < t -> i ∉ Hs -> behind (reach ops) t i = true := by
    intro t i hkt ht hi hnH
    have := List.all_eq_true.1 hhead t (List.mem_range.2 ht)
    simp only [Bool.or_eq_true, decide_eq_true_eq] at this
    rcases this with h | h
    ·omega
    have := List.all_eq_true.1 h i (List.mem_range.2 hi)
    simpa [hnH] using this
   have hreadyX : ∀ (listed : Array Bool) i, (∀ j o, ops[j]? = some o -> listed.getD j true = true -> ∀ e ∈ o.after, Region.binds .any e = true -> listed.getD e.on true = true) -> i ∈ Region.ready .any ops listed ->
     ∀ j, j < ops.size -> behind (reach ops) i j = true -> j ≠ i -> listed.getD j true = true := by
    intro listed i hcl hi j hj hb hne
    obtain ⟨hun, o, ho, hall⟩ := mem_ready.1 hi
    have hX : Closed ops (fun x => listed.getD x true = true ∨ x = i) := by
     rintro x ox hox (hx | rfl) e he hbd
     ·exact .inl (hcl x ox hox hx e he hbd)
     obtain rfl : o = ox := by rw [ho] at hox; exact Option.some.inj hox
     have := hall e he hbd
     left
     cases hlt : listed[e.on]? with
     | none => simp [hlt] at this
     | some b => simpa [hlt] using this
    rcases behind_spec hX (Array.getElem?_eq_some_iff.1 ho).1 hb (.inr rfl) with h | h
    ·exact h
    exact absurd h hne
   have horder : ∀ (listed : Array Bool) i o, (∀ j o, ops[j]? = some o -> listed.getD j true = true -> ∀ e ∈ o.after, Region.binds .any e = true -> listed.getD e.on true = true) -> i ∈ Region.ready .any ops listed -> ops[i]? = some o -> i < k ->
     ∀ x, (x ∈ o.looksAt ops ∨ o.dst = some x) -> ∀ j, j < k -> j ≠ i -> dstAt ops j = some x -> decide (j < i) = listed.getD j true := by
    intro listed i o hcl hi ho hik x hx j hj hne hdj
    obtain ⟨hun, o', ho', hpre⟩ := mem_ready.1 hi
    have hilt : i < ops.size := (Array.getElem?_eq_some_iff.1 ho).1
    have hjlt : j < ops.size := by omega
    have hoj : ops[j]? = some ops[j] := by simp [hjlt]
    have hdj' : ops[j].dst = some x := by simpa [dstAt, hoj] using hdj
    rcases Nat.lt_or_gt_of_ne hne with h | h
    ·rcases hpair j i h hilt _ _ hoj ho with hb' | hap'
     ·rw [hreadyX listed i hcl hi j hjlt hb' hne]
      simp [h]
     obtain ⟨e1, e2, e3⟩ := Oper.apart_spec hap'
     rcases hx with hx | hx
     ·exact absurd hx (e1 x hdj')
     exact absurd hx (e2 x hdj')
    rcases hpair i j h hjlt _ _ ho hoj with hb' | hap'
    ·have hnl : listed.getD j true = false := by
      cases hlj : listed.getD j true with
      | false => rfl
      | true =>
       exfalso
       have hX : Closed ops (fun x => listed.getD x true = true) := fun x ox hox hx e he hbd => hcl x ox hox hx e he hbd
       have := behind_spec hX hjlt hb' hlj
       rw [hun] at this
       cases this
     rw [hnl]
     simp; omega
    obtain ⟨e1, e2, e3⟩ := Oper.apart_spec hap'
    rcases hx with hx | hx
    ·exact absurd hx (e3 x hdj')
    exact absurd hdj' (e2 x hx)
   have hgetset : ∀ (listed : Array Bool) i, listed.size = ops.size -> i < ops.size -> (listed.setIfInBounds i true).getD i true = true := by
    intro listed i h1 h2
    have : i < listed.size := by omega
    simp [this]
   have hput : ∀ u (listed : Array Bool) i o, listed.size = ops.size -> (∀ j o, ops[j]? = some o -> listed.getD j true = true -> ∀ e ∈ o.after, Region.binds .any e = true -> listed.getD e.on true = true) -> i ∈ Region.ready .any ops listed -> ops[i]? = some o -> i < k ->
     (foldF ops (vs u) (fun j => listed.getD j true) k a).put o.dst (vs u i) = foldF ops (vs u) (fun j => (listed.setIfInBounds i true).getD j true) k a := by
    intro u listed i o hsz hcl hi ho hik
    have hilt : i < ops.size := (Array.getElem?_eq_some_iff.1 ho).1
    have hdo : dstOk n o.dst = true := hdst i o hik ho
    have hda : dstAt ops i = o.dst := by simp [dstAt, ho]
    have hgi := hgetset listed i hsz hilt
    have hgj : ∀ j, j ≠ i -> (listed.setIfInBounds i true).getD j true = listed.getD j true := fun j hj => getD_set_ne true (Ne.symm hj)
    have szs : ∀ f, (foldF ops (vs u) f k a).tmps.size = a.tmps.size := fun f => (foldF_size ops (vs u) f k a).1
    have dfs : ∀ f, (foldF ops (vs u) f k a).defers = a.defers := fun f => (foldF_size ops (vs u) f k a).2
    refine act_ext ?_ ?_ fun x => ?_
    ·cases o.dst <;> simp [Act.put, szs]
    ·cases o.dst <;> simp [Act.put, dfs]
    by_cases hx : o.dst = some x
    ·have e1 : (foldF ops (vs u) (fun j => (listed.setIfInBounds i true).getD j true) k a).tmps[x]? = (foldF ops (vs u) (fun j => decide (j < i + 1)) k a).tmps[x]? := by
      refine foldF_agree ops (vs u) _ _ k a x fun j hj hdj => ?_
      by_cases e : j = i
      ·subst e; rw [hgi]; simp
      rw [hgj j e, <- horder listed i o hcl hi ho hik x (.inr hx) j hj e hdj]
      by_cases h : j < i
      ·have : j < i + 1 := by omega
       simp [h, this]
      have : ¬ j < i + 1 := by omega
      simp [h, this]
     rw [e1, foldF_runA ops (vs u) (i + 1) k a (by omega)]
     have e2 : runA ops (vs u) 0 (i + 1) a = (runA ops (vs u) 0 i a).put (dstAt ops i) (vs u i) := by
      simp [runA, List.range'_concat]
     rw [e2, hda, hx]
     simp only [Act.put]
     have hxn : x < a.tmps.size := by rw [hs.size]; simpa [dstOk, hx] using hdo
     have hsz1 : (runA ops (vs u) 0 i a).tmps.size = a.tmps.size := by rw [<- foldF_runA ops (vs u) i k a (by omega)]; exact szs _
     rw [Array.getElem?_setIfInBounds_self_of_lt (by rw [szs]; exact hxn), Array.getElem?_setIfInBounds_self_of_lt (by rw [hsz1]; exact hxn)]
    have e1 : (foldF ops (vs u) (fun j => (listed.setIfInBounds i true).getD j true) k a).tmps[x]? = (foldF ops (vs u) (fun j => listed.getD j true) k a).tmps[x]? := by
     refine foldF_agree ops (vs u) _ _ k a x fun j hj hdj => ?_
     by_cases e : j = i
     ·subst e; rw [hda] at hdj; exact absurd hdj hx
     exact hgj j e
    rw [e1]
    cases hd : o.dst with
    | none => rfl
    | some y =>
     have : y ≠ x := fun e => hx (by rw [hd, e])
     simp [Act.put, Array.getElem?_setIfInBounds_ne this]
   have hagree : ∀ u (listed : Array Bool) i o, (∀ j o, ops[j]? = some o -> listed.getD j true = true -> ∀ e ∈ o.after, Region.binds .any e = true -> listed.getD e.on true = true) -> i ∈ Region.ready .any ops listed -> ops[i]? = some o -> i < k ->
     ∀ x, x ∈ o.looksAt ops -> (runA ops (vs u) 0 i a).tmps[x]? = (foldF ops (vs u) (fun j => listed.getD j true) k a).tmps[x]? := by
    intro u listed i o hcl hi ho hik x hx
    rw [<- foldF_runA ops (vs u) i k a (by omega)]
    refine foldF_agree ops (vs u) _ _ k a x fun j hj hdj => ?_
    by_cases e : j = i
    ·subst e
     have hun := (mem_ready.1 hi).1
     rw [hun]; simp
    exact horder listed i o hcl hi ho hik x (.inl hx) j hj e hdj
   have hclset : ∀ (listed : Array Bool) i o, listed.size = ops.size -> (∀ j o, ops[j]? = some o -> listed.getD j true = true -> ∀ e ∈ o.after, Region.binds .any e = true -> listed.getD e.on true = true) -> i ∈ Region.ready .any ops listed -> ops[i]? = some o ->
     (∀ j o, ops[j]? = some o -> (listed.setIfInBounds i true).getD j true = true -> ∀ e ∈ o.after, Region.binds .any e = true -> (listed.setIfInBounds i true).getD e.on true = true) := by
    intro listed i o hsz hcl hi ho j oj hoj hj e he hbd
    have hilt : i < ops.size := (Array.getElem?_eq_some_iff.1 ho).1
    obtain ⟨hun, o', ho', hpre⟩ := mem_ready.1 hi
    obtain rfl : o = o' := by rw [ho] at ho'; exact Option.some.inj ho'
    have hgj : ∀ j, j ≠ i -> (listed.setIfInBounds i true).getD j true = listed.getD j true := fun j hj => getD_set_ne true (Ne.symm hj)
    by_cases e1 : e.on = i
    ·rw [e1]; exact hgetset listed i hsz hilt
    rw [hgj _ e1]
    by_cases e2 : j = i
    ·subst e2
     obtain rfl : o = oj := by rw [ho] at hoj; exact Option.some.inj hoj
     have := hpre e he hbd
     cases hlt : listed[e.on]? with
     | none => simp [hlt] at this
     | some bb => simpa [hlt] using this
    rw [hgj _ e2] at hj
    exact hcl j oj hoj hj e he hbd
   have hcntset : ∀ (listed : Array Bool) i, listed.size = ops.size -> i ∈ Region.ready .any ops listed -> i < ops.size -> cnt (fun j => listed.getD j true) ops.size = cnt (fun j => (listed.setIfInBounds i true).getD j true) ops.size + 1 := by
    intro listed i hsz hi hilt
    have := cnt_set (f := fun j => listed.getD j true) (g := fun j => (listed.setIfInBounds i true).getD j true) (i := i) (mem_ready.1 hi).1 (hgetset listed i hsz hilt) (fun j hj => getD_set_ne true (Ne.symm hj)) ops.size
    simpa [hilt] using this
   refine wp_mono (Q := fun e a' w' => e = .normal /\ ∃ T' S', Sat n T' a' /\ Rep w0 S' w' /\ Q e T' S') ?_ (fun e a' w' h => h.2)
   refine wp_region_any hm ?_
   have key : ∀ (fuel : Nat) (listed : Array Bool) (b : Act) (w' : World), listed.size = ops.size ->
     (∀ j o, ops[j]? = some o -> listed.getD j true = true -> ∀ e ∈ o.after, Region.binds .any e = true -> listed.getD e.on true = true) -> (∀ i ∈ Hs, listed.getD i true = true) ->
     (∀ t, k <= t -> t < ops.size -> listed.getD t true = false) -> (∃ u Sx, (if listed.getD A.length true = true then K u Sx else (u = undef /\ Sx = S)) /\ b = foldF ops (vs u) (fun j => listed.getD j true) k a /\ Rep w0 Sx w') -> cnt (fun j => listed.getD j true) ops.size = fuel ->
     wpAny P .any ops (fun e a' w' => e = .normal /\ ∃ T' S', Sat n T' a' /\ Rep w0 S' w' /\ Q e T' S') fuel listed b w' := by
    intro fuel
    induction fuel with
    | zero =>
     intro listed b w' hsz hcl hHl htl ⟨u, Sx, hph, hb, hr'⟩ hcnt
     have hall : ∀ j, j < ops.size -> listed.getD j true = true := by
      intro j hj
      cases hx : listed.getD j true with
      | true => rfl
      | false =>
       exfalso
       have : ∀ m, j < m -> 0 < cnt (fun j => listed.getD j true) m := by
        intro m
        induction m with
        | zero => intro h; omega
        | succ m ih =>
         intro h
         simp only [cnt]
         by_cases e : j = m
         ·subst e; simp [hx]
         have := ih (by omega); omega
       have := this ops.size hj
       omega
     have hKx : K u Sx := by rw [if_pos (hall A.length (by omega))] at hph; exact hph
     have hkeq : k = ops.size := by
      rcases Nat.lt_or_ge k ops.size with h | h
      ·have h1 := htl k (Nat.le_refl _) h
       have h2 := hall k h
       rw [h1] at h2
       cases h2
      omega
     have hbt : b = runA ops (vs u) 0 k a := by
      rw [hb, <- foldF_runA ops (vs u) k k a (Nat.le_refl _)]
      unfold foldF
      refine foldl_ext' _ _ _ _ fun b j hj => ?_
      have hj' := List.mem_range.1 hj
      simp [hall j (by omega), hj']
     refine ⟨?_, ?_⟩
     ·unfold Region.ready
      rw [List.filter_eq_nil_iff]
      intro i hi
      rw [hall i (List.mem_range.1 hi)]
      simp
     have := h4 u Sx hKx ops [] b w' (fun e a' w' => e = .normal /\ ∃ T' S', Sat n T' a' /\ Rep w0 S' w' /\ Q e T' S') (by
      rw [hkeq, Nat.sub_self] at hc2
      rw [hkeq]
      simpa using hc2) (hbt ▸ hsat' u) hr' (fun a' w' T' S' h3 h4 h5 => ⟨rfl, T', S', h3, h4, h5⟩)
     simpa [wpOps] using this
    | succ fuel ih =>
     intro listed b w' hsz hcl hHl htl ⟨u, Sx, hph, hb, hr'⟩ hcnt
     by_cases hall : ∀ j, j < k -> listed.getD j true = true
     ·-- the head is done
      have hKx : K u Sx := by rw [if_pos (hall A.length hpk)] at hph; exact hph
      have hexact : ∀ j, j < ops.size -> listed.getD j true = decide (j < k) := by
       intro j hj
       by_cases h : j < k
       ·rw [hall j h]; simp [h]
       rw [htl j (by omega) hj]; simp [h]
      have hbt : b = runA ops (vs u) 0 k a := by
       rw [hb, <- foldF_runA ops (vs u) k k a (Nat.le_refl _)]
       unfold foldF
       refine foldl_ext' _ _ _ _ fun b j hj => ?_
       have hj' := List.mem_range.1 hj
       simp [hall j hj', hj']
      have hfuel : fuel + 1 = ops.size - k := by
       rw [<- hcnt, cnt_congr ops.size hexact, cnt_below]
      rw [hfuel]
      have htl2 : ∀ listed' : Array Bool, ∀ t s', k <= s' -> s' < t -> t < ops.size -> (∀ j, j < ops.size -> listed'.getD j true = decide (j < s')) -> listed'.size = ops.size -> t ∉ Region.ready .any ops listed' := by
       intro l'' t s' h1 h2 h3 h4 h5 hmem
       have := hreadyX l'' t (fun j o ho hj e he hbd => by
        have hlt := backB_spec hback ho he hbd
        have hjs : j < ops.size := (Array.getElem?_eq_some_iff.1 ho).1
        rw [h4 j hjs] at hj
        rw [h4 e.on (by omega)]
        simp only [decide_eq_true_eq] at hj ⊢
        omega) hmem s' (by omega) (htail t s' (by omega) h3 h2 (fun hm' => by have := hHk s' hm'; omega)) (by omega)
       rw [h4 s' (by omega)] at this
       simp at this
      refine wpAny_tail hback (ops.size - k) k listed b w' (by omega) hsz hexact (fun t i h1 h2 h3 h4 h5 => htl2 listed t k (Nat.le_refl _) h1 h2 hexact hsz) htl2 ?_
      exact h4 u Sx hKx ops _ b w' _ hc2 (hbt ▸ hsat' u) hr' (fun a' w' T' S' h3 h4 h5 => ⟨rfl, T', S', h3, h4, h5⟩)
     refine ⟨fun h0 => ?_, fun i hi => ?_⟩
     ·exfalso
      obtain ⟨i, hi1, hi2, hi3⟩ := cnt_pos ops.size (by rw [hcnt]; omega : 0 < cnt (fun j => listed.getD j true) ops.size)
      have : i ∈ Region.ready .any ops listed := by
       rw [mem_ready]
       refine ⟨hi2, ops[i], by simp [hi1], fun e he hbd => ?_⟩
       have hlt := backB_spec hback (show ops[i]? = some ops[i] by simp [hi1]) he hbd
       have h3 := hi3 e.on hlt
       have : e.on < listed.size := by omega
       simpa [this] using h3
      rw [h0] at this
      simp at this
     have hmem := mem_ready.1 hi
     obtain ⟨hun, o, ho, hpre⟩ := hmem
     have hilt : i < ops.size := (Array.getElem?_eq_some_iff.1 ho).1
     have hik : i < k := by
      rcases Nat.lt_or_ge i k with h | h
      ·exact h
      exfalso
      refine hall fun j hj => ?_
      by_cases hjH : j ∈ Hs
      ·exact hHl j hjH
      exact hreadyX listed i hcl hi j (by omega) (htail i j h hilt (by omega) hjH) (by omega)
     have hdo : dstOk n o.dst = true := hdst i o hik ho
     have hagree' := hagree u listed i o hcl hi ho hik
     rw [<- hb] at hagree'
     have hev : execOp (runA ops (vs u) 0 i a).eval o = execOp b.eval o :=
      execOp_congr o (fun cs bb hh => Region.noSelect_spec hsel i o cs bb ho hh) fun x hx => eval_agree fun t ht => hagree' t (looks_op (ht ▸ hx))
     have hwan := wanted_agree (ops := ops) (o := o) (a := runA ops (vs u) 0 i a) (b := b) hagree'
     have hgj : ∀ j, j ≠ i -> (listed.setIfInBounds i true).getD j true = listed.getD j true := fun j hj => getD_set_ne true (Ne.symm hj)
     have hnext : ∀ u2 S2 w'' b2, (if (listed.setIfInBounds i true).getD A.length true = true then K u2 S2 else (u2 = undef /\ S2 = S)) -> b2 = foldF ops (vs u2) (fun j => (listed.setIfInBounds i true).getD j true) k a -> Rep w0 S2 w'' -> wpAny P .any ops (fun e a' w' => e = .normal /\ ∃ T' S', Sat n T' a' /\ Rep w0 S' w' /\ Q e T' S') fuel (listed.setIfInBounds i true) b2 w'' := by
      intro u2 S2 w'' b2 hp2 hb2 hr''
      refine ih _ _ w'' (by simpa using hsz) (hclset listed i o hsz hcl hi ho) ?_ ?_ ⟨u2, S2, hp2, hb2, hr''⟩ ?_
      ·intro j hj
       by_cases e : j = i
       ·subst e; exact hgetset listed j hsz hilt
       rw [hgj j e]; exact hHl j hj
      ·intro t h3 h4'
       rw [hgj t (by omega)]
       exact htl t h3 h4'
      have := hcntset listed i hsz hi hilt
      omega
     have hsz1 : (runA ops (vs u) 0 i a).tmps.size = n := by rw [<- foldF_runA ops (vs u) i k a (by omega), (foldF_size ops (vs u) _ k a).1, hs.size]
     have hsz2 : b.tmps.size = n := by rw [hb, (foldF_size ops (vs u) _ k a).1, hs.size]
     have hdf : (runA ops (vs u) 0 i a).defers = [] := by rw [<- foldF_runA ops (vs u) i k a (by omega), (foldF_size ops (vs u) _ k a).2, hs.defers]
     have hputu := fun u2 => hput u2 listed i o hsz hcl hi ho hik
     unfold wpOp
     simp only [ho]
     by_cases hip : i = A.length
     ·-- the one that turns something
      subst hip
      obtain rfl : oc = o := by rw [hoc] at ho; exact Option.some.inj ho
      rw [if_neg (by simp [hun])] at hph
      obtain ⟨rfl, rfl⟩ := hph
      have hwt : Region.wanted oc (yielded ops b.tmps) = true := by
       rcases hgdc with ⟨hgn, _⟩ | ⟨j, b', s', hgn, hj, he⟩
       ·simp [Region.wanted, hgn]
       rw [hcg] at he; cases he
      rw [if_pos hwt]
      left
      have hl2 := hc2x oc _ w' (fun _ _ _ => False) hpoc (hsC undef) hr'
      refine Oper.wp_mono ?_ (wp_transfer_any hev (by rw [hsz1, hsz2]) (by rw [hsz1]; exact hdo) hdf hl2)
      rintro b' w'' ⟨v2, S2, rfl, hr2, hk2⟩
      refine hnext v2 S2 w'' _ (by rw [if_pos (hgetset listed _ hsz hilt)]; exact hk2) ?_ hr2
      have h7 := hputu v2
      have h8 : vs v2 A.length = v2 := by
       simp only [vs, List.getD_eq_getElem?_getD]
       rw [List.getElem?_append_right (by omega), hla]
       simp
      rw [h8] at h7
      rw [<- h7, hb]
      congr 1
      unfold foldF
      refine foldl_ext' _ _ _ _ fun b j hj => ?_
      by_cases hjl : listed.getD j true = true
      ·have hjp : j ≠ A.length := fun e => by rw [e, hun] at hjl; cases hjl
       have : vs undef j = vs v2 j := by
        simp only [vs, List.getD_eq_getElem?_getD]
        rcases Nat.lt_or_gt_of_ne hjp with h | h
        ·rw [List.getElem?_append_left (by omega), List.getElem?_append_left (by omega)]
        rw [List.getElem?_append_right (by omega), List.getElem?_append_right (by omega), show j - va.length = (j - va.length - 1) + 1 by omega, List.getElem?_cons_succ, List.getElem?_cons_succ]
       rw [this]
      simp [hjl]
     have hSx : Ss Sx := by
      split at hph
      ·exact hK _ _ hph
      rw [hph.2]; exact hSs
     have hph2 : (if (listed.setIfInBounds i true).getD A.length true = true then K u Sx else (u = undef /\ Sx = S)) := by
      rw [hgj A.length (Ne.symm hip)]; exact hph
     rcases hgives u Sx hSx i hik hip o ho with ⟨hw1, hw2⟩ | ⟨hw1, hw2⟩
     ·rw [hwan] at hw1
      rw [if_pos hw1]
      left
      refine Oper.wp_mono ?_ (wp_transfer hev (by rw [hsz1, hsz2]) (by rw [hsz1]; exact hdo) hdf (hw2 w' hr'))
      rintro b' w'' ⟨rfl, hr''⟩
      exact hnext u Sx w'' _ hph2 (by rw [hb]; exact hputu u) hr''
     rw [hwan] at hw1
     rw [hw1]
     simp only [Bool.false_eq_true, if_false]
     have h9 := hputu u
     rw [hw2] at h9
     exact hnext u Sx w' _ hph2 (by rw [hb]; exact h9) hr'
   -- the moves first
   have phase0 : ∀ (Hr : List Nat) (listed : Array Bool) (b : Act) (w' : World), hoistB ops Hr listed = true -> (∀ i ∈ Hr, i < k) -> listed.size = ops.size ->
     (∀ j o, ops[j]? = some o -> listed.getD j true = true -> ∀ e ∈ o.after, Region.binds .any e = true -> listed.getD e.on true = true) -> (∀ i ∈ Hs, listed.getD i true = true ∨ i ∈ Hr) ->
     (∀ t, k <= t -> t < ops.size -> listed.getD t true = false) -> listed.getD A.length true = false -> b = foldF ops (vs undef) (fun j => listed.getD j true) k a -> Rep w0 S w' ->
     wpAny P .any ops (fun e a' w' => e = .normal /\ ∃ T' S', Sat n T' a' /\ Rep w0 S' w' /\ Q e T' S') (cnt (fun j => listed.getD j true) ops.size) listed b w' := by
    intro Hr
    induction Hr with
    | nil =>
     intro listed b w' _ _ hsz hcl hHl htl hnp hb hr'
     exact key _ listed b w' hsz hcl (fun i hi => (hHl i hi).resolve_right (by simp)) htl ⟨undef, S, by rw [if_neg (by simp [hnp])]; exact ⟨rfl, rfl⟩, hb, hr'⟩ rfl
    | cons i Hr ih =>
     intro listed b w' hh hlt hsz hcl hHl htl hnp hb hr'
     simp only [hoistB, Bool.and_eq_true] at hh
     obtain ⟨⟨⟨hho, hfree⟩, hready⟩, hrest⟩ := hh
     have hi : i ∈ Region.ready .any ops listed := by simpa using hready
     obtain ⟨hun, o, ho, hpre⟩ := mem_ready.1 hi
     have hilt : i < ops.size := (Array.getElem?_eq_some_iff.1 ho).1
     have hik : i < k := hlt i (by simp)
     have hgj : ∀ j, j ≠ i -> (listed.setIfInBounds i true).getD j true = listed.getD j true := fun j hj => getD_set_ne true (Ne.symm hj)
     rw [hcntset listed i hsz hi hilt]
     simp only [hoistable?, ho, hoistable, Bool.and_eq_true] at hho
     obtain ⟨hgn, hmv⟩ := hho
     have hgn' : o.guard = none := by simpa using hgn
     have hwant : ∀ t : Array Value, Region.wanted o (yielded ops t) = true := fun t => by simp [Region.wanted, hgn']
     have hagree' := hagree undef listed i o hcl hi ho hik
     rw [<- hb] at hagree'
     have hdo : dstOk n o.dst = true := hdst i o hik ho
     have hsz1 : (runA ops (vs undef) 0 i a).tmps.size = n := by rw [<- foldF_runA ops (vs undef) i k a (by omega), (foldF_size ops (vs undef) _ k a).1, hs.size]
     have hmove : ∃ x, (o.op = .move x ∨ o.op = .assign x) := by
      cases hop : o.op <;> rw [hop] at hmv <;> simp at hmv
      ·exact ⟨_, .inl rfl⟩
      exact ⟨_, .inr rfl⟩
     obtain ⟨x, hx⟩ := hmove
     have hip : i ≠ A.length := by
      intro e; subst e
      obtain rfl : oc = o := by rw [hoc] at ho; exact Option.some.inj ho
      have : c.o = .mov (cV x) := by
       have h5 : cOp P oc = some (.mov (cV x)) := by unfold cOp cOp0; rcases hx with hx | hx <;> simp [hx]
       rw [h5] at hpoc
       exact (Option.some.inj hpoc).symm
      exact hcm _ this
     have hexec : ∀ ρ, execOp ρ o = pure (.value (ρ x)) := by
      intro ρ
      rcases hx with hx | hx <;> simp [execOp, hx]
     have hval : b.eval x = vs undef i ∨ o.dst = none := by
      rcases hgives undef S hSs i hik hip o ho with ⟨_, hw2⟩ | ⟨hw1, _⟩
      ·have := hw2 w' hr'
       unfold Oper.wp at this
       rw [hexec] at this
       simp only [Sem.run_pure, Oper.upon] at this
       have hev : (runA ops (vs undef) 0 i a).eval x = b.eval x := eval_agree fun t ht => hagree' t (looks_op (by rcases hx with hx | hx <;> simp [hx, Op.operands, ht]))
       cases hd : o.dst with
       | none => exact .inr rfl
       | some d =>
        left
        rw [hd] at this hdo
        have h3 := congrArg (fun c : Act => c.tmps[d]?) this.1
        have hdn : d < n := by simpa [dstOk] using hdo
        simp [Act.put, hsz1, hdn] at h3
        rw [<- hev]; exact h3
      rw [hwant] at hw1; cases hw1
     refine wpAny_take (oi := o) (v := b.eval x) ho hsel hfree hready (fun c a w hq => by simp at hq) (.inl ⟨hwant _, fun w => by rw [hexec]; rfl⟩) ?_
     have hbput : b.put o.dst (b.eval x) = foldF ops (vs undef) (fun j => (listed.setIfInBounds i true).getD j true) k a := by
      rw [<- hput undef listed i o hsz hcl hi ho hik, <- hb]
      rcases hval with h | h
      ·rw [h]
      rw [h]; rfl
     rw [hbput]
     refine ih _ _ w' hrest (fun j hj => hlt j (by simp [hj])) (by simpa using hsz) (hclset listed i o hsz hcl hi ho) ?_ ?_ (by rw [hgj _ (Ne.symm hip)]; exact hnp) rfl hr'
     ·intro j hj
      by_cases e : j = i
      ·subst e; exact .inl (hgetset listed j hsz hilt)
      rw [hgj j e]
      rcases hHl j hj with h | h
      ·exact .inl h
      rcases List.mem_cons.1 h with h | h
      ·exact absurd h e
      exact .inr h
     intro t h3 h4
     rw [hgj t (by omega)]
     exact htl t h3 h4
   have hcnt0 : cnt (fun j => (Array.replicate ops.size false).getD j true) ops.size = ops.size := by
    rw [cnt_congr (g := fun j => decide (j < 0)) ops.size (fun j hj => by simp [hj]), cnt_below]
    omega
   have := phase0 Hs (Array.replicate ops.size false) a { w with drawn := w.drawn + 1 } hhoist hHk (by simp) ?_ (fun i hi => .inr hi) ?_ (by have : A.length < ops.size := (by omega); simp [this]) ?_ ?_
   ·rwa [hcnt0] at this
   ·intro j o ho hj
    exfalso
    have hlt : j < ops.size := (Array.getElem?_eq_some_iff.1 ho).1
    simp [hlt] at hj
   ·intro t _ ht
    simp [ht]
   ·have : ∀ j, j < k -> (Array.replicate ops.size false).getD j true = decide (j < 0) := by
     intro j hj
     have : j < ops.size := by omega
     simp [this]
    have h0 : foldF ops (vs undef) (fun j => (Array.replicate ops.size false).getD j true) k a = foldF ops (vs undef) (fun j => decide (j < 0)) k a := by
     unfold foldF
     refine foldl_ext' _ _ _ _ fun b j hj => ?_
     simp only [this j (List.mem_range.1 hj)]
    rw [h0, foldF_runA ops (vs undef) 0 k a (Nat.zero_le _)]
    rfl
   exact hr.same ((Below.refl _ w).drew) (fun _ _ => rfl)
 all_goals (first | (simp [cC] at hc; done) | (simp only [cC] at hc; split at hc <;> simp at hc; done))
end
end Go.SL

namespace Go.SL
open Go.RowKit
section
variable {P : Program} {w0 : World} {n : Nat} {T : TT} {S : SS}
def Over (base : SS) (S : SS) : Prop := ∀ q ∈ base.flatten, q ∈ S.flatten
def QKs (P : Program) (w0 : World) (n : Nat) (base : SS) (l : List PI) (T : TT) (K : TT -> Prop) : Prop := ∃ T' vs, QLs P w0 n (Over base) l T T' vs /\ K T'
theorem QKs.nil {base : SS} {K : TT -> Prop} (h : K T) : QKs P w0 n base [] T K := ⟨T, [], .nil, h⟩
theorem QKs.det {base : SS} {po : PO} {d : Option Nat} {g : Option (Nat × Bool)} {v : Value} {r : List PI} {K : TT -> Prop} (hg : gOk T g) (h : ∀ S, Over base S -> Yields P w0 n po T S v) (k : QKs P w0 n base r (put d v T) K) : QKs P w0 n base (⟨d, g, po⟩ :: r) T K :=
 let ⟨T', vs, h1, h2⟩ := k; ⟨T', _, .step hg (fun S hS => OW.of_yields (h S hS)) h1, h2⟩
theorem PW.quiet1K {k p d : Nat} {l B : List PI} {c : PI} {base : SS} {Q : Exit -> TT -> SS -> Prop} {K : Value -> SS -> Prop} (hm : P.follows .mixedOrders = true) (hl : (l.take k).drop p = c :: B) (hcg : c.g = none) (hd : c.d = some d)
  (hcm : ∀ x, c.o ≠ .mov x) (hB : B.all (fun x => x.d != some d) = true) (hS : Over base S)
  (h : QKs P w0 n base ((l.take k).take p) T (fun T1 => OW P w0 n c.o T1 S K /\ (∀ v S', K v S' -> Over base S') /\ QKs P w0 n base B (SL.del (some d) T1) (fun T2 => ∀ v S', K v S' -> OL P w0 n (l.drop k) ((d, v) :: T2) S' (Q .normal)))) : PW P w0 n (.quiet k l) T S Q := by
 obtain ⟨T1, va, h1, h2, h3, T2, vb, h4, h5⟩ := h
 refine PW.quiet1 (A := (l.take k).take p) hm ?_ hcg hd hcm hB h1 h2 hS h3 h4 h5
 rw [<- hl, List.take_append_drop]
theorem Over.cons {base : SS} {s : Seg} (h : Over base S) : Over base (s :: S) := fun q hq => by simp [h q hq]
theorem Over.refl (S : SS) : Over S S := fun _ h => h
theorem Over.hd (s : Seg) (S : SS) : Over [s] (s :: S) := fun q hq => by simp only [List.flatten_cons, List.flatten_nil, List.append_nil] at hq; simp [hq]
theorem Yields.ixA1 {len j : Nat} {x i : PV} {a : Addr} {k : IntKind} {z : Int} (hx : x.val T = some (.pointer (some a))) (hi : i.val T = some (.int k z)) (hz : z = (j : Int)) (h : j < len) : Yields P w0 n (.ixA len 1 x i) T S (.pointer (some (a.add j))) := by
 have := Yields.ixA (P := P) (w0 := w0) (n := n) (S := S) (sz := 1) hx hi hz h
 simpa using this
end
end Go.SL



namespace Go.SL
open Go.ChangeShapes Go.WideShapes Go.ChangeAt Go.RowKit
section
variable {H : Type} {enc : TypeId × Value -> H} {P : Program} {W : World}
def structShape (P : Program) (g : TypeId -> Option (List CK)) : Nat -> List Field -> Option (List CK)
 | _, [] => some []
 | off, f :: fs => match g f.type with
  | some s => if f.offset = off /\ P.cellsOf f.type = s.length then (structShape P g (off + s.length) fs).map (s ++ ·) else none
  | none => none
def deepOf (P : Program) : Nat -> TypeId -> Option (List CK)
 | 0, _ => none
 | d + 1, t => match ckOf P t with
  | some c => some [c]
  | none => match P.underlying t with
   | some (.struct fs) => structShape P (deepOf P d) 0 fs.toList
   | some (.array n e) => match deepOf P d e with
    | some s => if P.cellsOf e = s.length then some ((List.replicate n s).flatten) else none
    | none => none
   | _ => none
def FitsAll : List CK -> List Value -> Prop
 | [], [] => True
 | c :: cs, v :: vs => Fits c v /\ FitsAll cs vs
 | _, _ => False
theorem FitsAll.append {s t : List CK} {a b : List Value} (h1 : FitsAll s a) (h2 : FitsAll t b) : FitsAll (s ++ t) (a ++ b) := by
 induction s generalizing a with
 | nil => cases a with
  | nil => exact h2
  | cons v a => exact h1.elim
 | cons c s ih => cases a with
  | nil => exact h1.elim
  | cons v a => exact ⟨h1.1, ih h1.2⟩
theorem FitsAll.len {s : List CK} {a : List Value} (h : FitsAll s a) : s.length = a.length := by
 induction s generalizing a with
 | nil => cases a with
  | nil => rfl
  | cons v a => exact h.elim
 | cons c s ih => cases a with
  | nil => exact h.elim
  | cons v a => simp [ih h.2]
theorem struct_fits {g : TypeId -> Option (List CK)} {cs : List Value} {n : Nat} {xs : List (DataW H × List MemPlace)}
  (hg : ∀ t s l y, g t = some s -> DataW.trod enc P W 0 (fun _ => true) true n t l = some y -> l.length = s.length -> FitsAll s l) :
  ∀ (fs : List Field) (off i : Nat) (sh : List CK), structShape P g off fs = some sh -> off + sh.length <= cs.length -> (∀ (j : Nat) (f : Field), fs[j]? = some f -> ∃ y, DataW.trod enc P W 0 (fun _ => true) true n f.type ((cs.drop f.offset).take (P.cellsOf f.type)) = some y) -> FitsAll sh ((cs.drop off).take sh.length)
 | [], off, i, sh, h, _, _ => by
  simp [structShape] at h; subst h
  simp [FitsAll]
 | f :: fs, off, i, sh, h, hl, hx => by
  simp only [structShape] at h
  split at h
  ·rename_i s hs
   split at h
   ·rename_i hc
    obtain ⟨r, hr, rfl⟩ := Option.map_eq_some_iff.1 h
    obtain ⟨y, hy⟩ := hx 0 f rfl
    simp only [List.length_append] at hl
    have h1 := hg _ _ _ _ hs hy (by rw [hc.1, hc.2]; simp; omega)
    rw [hc.1, hc.2] at h1
    have h2 := struct_fits (cs := cs) (xs := xs) hg fs (off + s.length) i r hr (by omega) (fun j f' hj => hx (j + 1) f' (by simpa using hj))
    have e : (cs.drop off).take (s ++ r).length = (cs.drop off).take s.length ++ (cs.drop (off + s.length)).take r.length := by
     rw [List.length_append, List.take_add, List.drop_drop]
    show FitsAll (s ++ r) _
    rw [e]
    exact h1.append h2
   cases h
  cases h
theorem arr_fits {s : List CK} : ∀ (n : Nat) (cs : List Value), cs.length = n * s.length -> (∀ i, i < n -> FitsAll s ((cs.drop (i * s.length)).take s.length)) -> FitsAll (List.replicate n s).flatten cs
 | 0, cs, hl, _ => by
  have : cs = [] := List.eq_nil_of_length_eq_zero (by simpa using hl)
  subst this; simp [FitsAll]
 | n + 1, cs, hl, h => by
  have h0 := h 0 (by omega)
  rw [Nat.zero_mul, List.drop_zero] at h0
  have h1 := arr_fits (s := s) n (cs.drop s.length) (by rw [List.length_drop, hl, Nat.succ_mul]; omega) (fun i hi => by
   have := h (i + 1) (by omega)
   rwa [List.drop_drop, show s.length + i * s.length = (i + 1) * s.length by rw [Nat.succ_mul]; omega])
  rw [List.replicate_succ, List.flatten_cons]
  have := h0.append h1
  rwa [List.take_append_drop] at this
theorem deep_fits (d : Nat) : ∀ (n : Nat) (t : TypeId) (sh : List CK) (cs : List Value) (y : DataW H × List MemPlace), deepOf P d t = some sh -> DataW.trod enc P W 0 (fun _ => true) true n t cs = some y -> cs.length = sh.length -> FitsAll sh cs := by
 induction d with
 | zero => intro n t sh cs y h; simp [deepOf] at h
 | succ d ih =>
  intro n t sh cs y h ht hlen
  simp only [deepOf] at h
  split at h
  ·rename_i c hc
   cases h
   obtain ⟨v, rfl, hf⟩ := trod_ck hc ht
   exact ⟨hf, trivial⟩
  split at h
  ·rename_i fs hu
   obtain ⟨xs, m, _, _, hl, hlx, hx⟩ := DataW.trod_struct hu ht
   have := struct_fits (enc := enc) (P := P) (W := W) (n := m) (cs := cs) (xs := xs) (g := fun t => (deepOf P d t)) ?_ fs.toList 0 0 sh h (by omega) ?_
   ·rw [List.drop_zero, <- hlen, List.take_length] at this; exact this
   ·exact fun t s l y h1 h2 h3 => ih m t s l y h1 h2 h3
   intro j f hj
   have h1 := hx j f (by rw [<- Array.getElem?_toList]; exact hj)
   have hjl : j < xs.length := by have := (List.getElem?_eq_some_iff.1 hj).1; rw [hlx]; simpa using this
   rw [List.getElem?_eq_getElem hjl] at h1
   exact ⟨_, h1⟩
  ·rename_i k e hu
   split at h
   ·rename_i s hs
    split at h
    ·rename_i hc
     cases h
     obtain ⟨xs, m, _, _, hl, hlx, hx⟩ := DataW.trod_array hu ht
     have hlen2 : cs.length = k * s.length := by rw [hlen]; simp
     refine arr_fits k cs hlen2 (fun i hi => ?_)
     have h1 := hx i hi
     rw [List.getElem?_eq_getElem (by omega), hc] at h1
     refine ih m e s _ _ hs h1 ?_
     have h2 : (i + 1) * s.length <= k * s.length := Nat.mul_le_mul_right _ hi
     rw [Nat.succ_mul] at h2
     simp; omega
    cases h
   cases h
  cases h
end
end Go.SL

namespace Go.SL
open Go.RowKit Go.ChangeShapes Go.WideShapes Go.ChangeAt
section
variable {H : Type} {enc : TypeId × Value -> H} {P : Program} {W : World}
theorem nil_cap {t e : TypeId} {A : Option Addr} {len cap : Nat} {d : DataW H} {ps : List MemPlace} (hu : P.underlying t = some (.slice e)) (h : DataW.Trod enc P W 0 (fun _ => true) true t (.slice A len cap) d ps) : A = none -> cap = 0 := by
 obtain ⟨fuel, h⟩ := h
 rcases DataW.trod_slice hu h with ⟨h0, _⟩ | ⟨a, len', cap', elems, rest, n, _, hcs, _⟩
 ·simp [Value.cells] at h0
  exact fun _ => h0.2.2
 simp [Value.cells] at hcs
 intro e; rw [hcs.1] at e; cases e
end
end Go.SL

namespace Go.SL
open Go.RowKit
section
variable {P : Program} {w0 : World} {n : Nat} {T : TT} {S : SS}
theorem constNil2 {y : Operand} (h : constNil y = 2) : y = .const (.slice none 0 0) := by
 unfold constNil at h
 split at h
 ·cases h
 ·rfl
 cases h
theorem Yields.mkI {t : TypeId} {x : PV} {v : Value} (hx : x.val T = some v) : Yields P w0 n (.more (.mkI t x)) T S (.iface t v) := by
 intro o a w hco hs hr
 obtain ⟨y, d, ho, rfl, hu, hd⟩ := cOp_spec P hco
 have : (Instr.makeInterface t v).run P w = .ok (.iface t v) w := by
  unfold Instr.makeInterface
  simp only [Sem.run_bind, run_underlying hu, Result.andThen_ok]
  cases d <;> (first | rfl | exact absurd rfl (hd _))
 simp [execOp, ho, hs.eval hx, this]
theorem Yields.slNil {neg : Bool} {x : PV} {A : Option Addr} {l c : Nat} (hx : x.val T = some (.slice A l c)) : Yields P w0 n (.more (.slNil neg x)) T S (.bool (if neg then A.isSome else A.isNone)) := by
 intro o a w hco hs hr
 obtain ⟨t, y, z, u, e, ho, rfl, hz, hu⟩ := cOp_spec P hco
 obtain rfl := constNil2 hz
 have he : a.eval (.const (.slice none 0 0)) = .slice none 0 0 := rfl
 have heq0 : ∀ d, (Op.equalIn (d + 1) t (.slice A l c) (.slice none 0 0)).run P w = .ok A.isNone w := by
  intro d
  cases A <;> simp [Op.equalIn, run_underlying hu]
 have heq : (Op.equal t (.slice A l c) (.slice none 0 0)).run P w = .ok A.isNone w := heq0 9999
 cases neg
 ·simp only [execOp, ho, Bool.false_eq_true, if_false, hs.eval hx, he]
  simp [eqGuard, binOp, heq]
 simp only [execOp, ho, if_true, hs.eval hx, he]
 simp [eqGuard, binOp, heq]
theorem Yields.bldA {zero : List Value} {parts : List (Nat × Nat × PV)} {cs : List Value} (h : fillP T zero parts = some cs) : Yields P w0 n (.more (.bldA zero parts)) T S (.agg cs.toArray) := by
 intro o a w hco hs hr
 obtain ⟨t, qs, m, e, i, ie, z, ho, hu, hi, hie, hz, rfl, hpa⟩ := cOp_spec P hco
 have hfill := fill_spec hs (place := fun j => some (j * ie.size, ie.size)) (cells := z.cells) hpa h
 simp only [execOp, ho]
 have hb : P.built t (qs.map fun (i, x) => (i, a.eval x)).toList = some cs.toArray := by
  unfold Program.built
  simp only [hi, hu, hz, hie]
  simp only [Array.toList_map]
  exact hfill
 have := run_build (P := P) w t _ cs.toArray hb
 simp only [Sem.run_bind, this, Result.andThen_ok]
 rfl
end
end Go.SL

namespace Go.SL
open Go.RowKit
def eqL : List CK -> List Value -> List Value -> Option Bool
 | [], [], [] => some true
 | c :: cs, x :: xs, y :: ys => match eqCell c x y, eqL cs xs ys with | some p, some q => some (p && q) | _, _ => none
 | _, _, _ => none
theorem eqL_cons {c : CK} {cs : List CK} {xs ys : List Value} {r : Bool} (h : eqL (c :: cs) xs ys = some r) : ∃ x xs' y ys' p q, xs = x :: xs' /\ ys = y :: ys' /\ eqCell c x y = some p /\ eqL cs xs' ys' = some q /\ r = (p && q) := by
 cases xs with
 | nil => simp [eqL] at h
 | cons x xs' =>
  cases ys with
  | nil => simp [eqL] at h
  | cons y ys' =>
   simp only [eqL] at h
   split at h
   ·rename_i p q h1 h2
    exact ⟨x, xs', y, ys', p, q, rfl, rfl, h1, h2, (Option.some.inj h).symm⟩
   cases h
theorem eqL_append {s t : List CK} : ∀ {xs ys : List Value} {r : Bool}, eqL (s ++ t) xs ys = some r -> ∃ p q, eqL s (xs.take s.length) (ys.take s.length) = some p /\ eqL t (xs.drop s.length) (ys.drop s.length) = some q /\ r = (p && q) := by
 induction s with
 | nil => intro xs ys r h; exact ⟨true, r, by simp [eqL], by simpa using h, by simp⟩
 | cons c s ih =>
  intro xs ys r h
  obtain ⟨x, xs', y, ys', p, q, rfl, rfl, h1, h2, rfl⟩ := eqL_cons (cs := s ++ t) h
  obtain ⟨p', q', h3, h4, rfl⟩ := ih h2
  exact ⟨p && p', q', by simp [eqL, h1, h3], by simpa using h4, by rw [Bool.and_assoc]⟩
theorem eqL_len {s : List CK} : ∀ {xs ys : List Value} {r : Bool}, eqL s xs ys = some r -> xs.length = s.length /\ ys.length = s.length := by
 induction s with
 | nil => intro xs ys r h; cases xs <;> cases ys <;> simp [eqL] at h ⊢
 | cons c s ih =>
  intro xs ys r h
  obtain ⟨x, xs', y, ys', p, q, rfl, rfl, h1, h2, rfl⟩ := eqL_cons h
  have := ih h2
  simp [this]
section
variable {P : Program} {w0 : World} {n : Nat} {T : TT} {S : SS} {w : World}
def AggEq (P : Program) (w : World) (d : Nat) : Prop := ∀ (t : TypeId) (sh : List CK), deepQ P d t = some sh -> ckOf P t = none -> (∃ dd, P.underlying t = some dd /\ rowD dd = true) /\
 ∀ (D : Nat), d <= D -> ∀ (xs ys : Array Value) (r : Bool), eqL sh xs.toList ys.toList = some r -> (Op.equalIn D t (.agg xs) (.agg ys)).run P w = .ok r w
theorem part_eq {d : Nat} (ih : AggEq P w d) {t : TypeId} {sh : List CK} (hd : deepQ P d t = some sh) (hc : P.cellsOf t = sh.length) {D : Nat} (hD : d <= D) (h1 : 0 < d) {xs ys : Array Value} {off : Nat} {r : Bool}
  (h : eqL sh ((xs.toList.drop off).take sh.length) ((ys.toList.drop off).take sh.length) = some r) : ∃ a b, (part t xs off).run P w = .ok a w /\ (part t ys off).run P w = .ok b w /\ (Op.equalIn D t a b).run P w = .ok r w := by
 cases hk : ckOf P t with
 | some c =>
  obtain ⟨d', rfl⟩ : ∃ d', d = d' + 1 := ⟨d - 1, by omega⟩
  simp only [deepQ, hk, Option.some.injEq] at hd
  subst hd
  obtain ⟨x, xs', y, ys', p, q, hx, hy, h2, h3, rfl⟩ := eqL_cons h
  have hq : q = true := by
   have := eqL_len h3
   obtain ⟨l1, l2⟩ := this
   have e1 : xs' = [] := List.eq_nil_of_length_eq_zero (by simpa using l1)
   have e2 : ys' = [] := List.eq_nil_of_length_eq_zero (by simpa using l2)
   subst e1; subst e2
   simpa [eqL] using h3.symm
  have get : ∀ (zs : Array Value) z zs', (zs.toList.drop off).take 1 = z :: zs' -> zs[off]? = some z := by
   intro zs z zs' hz
   have : ((zs.toList.drop off).take 1)[0]? = some z := by rw [hz]; rfl
   simpa using this
  obtain ⟨dd, hu, hrow⟩ := ckOf_agg hk
  obtain ⟨D', rfl⟩ : ∃ D', D = D' + 1 := ⟨D - 1, by omega⟩
  refine ⟨x, y, ?_, ?_, ?_⟩
  ·simp [part, run_isAgg hu, hrow, get xs x xs' hx]
  ·simp [part, run_isAgg hu, hrow, get ys y ys' hy]
  rw [hq, Bool.and_true]
  exact run_eqCell hk h2 D' w
 | none =>
  obtain ⟨⟨dd, hu, hrow⟩, hrun⟩ := ih t sh hd hk
  obtain ⟨i, hi⟩ := info_of_underlying hu
  have hsz := run_sizeOf w hi
  have hpart : ∀ zs : Array Value, (part t zs off).run P w = .ok (.agg (zs.extract off (off + sh.length))) w := by
   intro zs
   simp only [part, Sem.run_bind, run_isAgg hu, hrow, Result.andThen_ok, if_true, hsz, hc]
   rfl
  refine ⟨_, _, hpart xs, hpart ys, hrun D hD _ _ r ?_⟩
  simpa [List.extract] using h
theorem eqFields_deep {d : Nat} (ih : AggEq P w d) (h1 : 0 < d) {D : Nat} (hD : d <= D) {xs ys : Array Value} : ∀ (fs : List Field) (off : Nat) (sh : List CK) (r : Bool), structQ P (deepQ P d) off fs = some sh -> eqL sh (xs.toList.drop off) (ys.toList.drop off) = some r -> (Op.eqFields D xs ys fs).run P w = .ok r w
 | [], off, sh, r, hs, he => by
  simp only [structQ, Option.some.injEq] at hs
  subst hs
  have := eqL_len he
  obtain ⟨l1, l2⟩ := this
  have e1 : xs.toList.drop off = [] := List.eq_nil_of_length_eq_zero l1
  have e2 : ys.toList.drop off = [] := List.eq_nil_of_length_eq_zero l2
  rw [e1, e2] at he
  simp only [eqL, Option.some.injEq] at he
  subst he
  simp [Op.eqFields]
 | f :: fs, off, sh, r, hs, he => by
  simp only [structQ] at hs
  split at hs
  ·rename_i s hf
   split at hs
   ·rename_i hc
    obtain ⟨ho, hcells, hname⟩ := hc
    simp only [Option.map_eq_some_iff] at hs
    obtain ⟨sh', hs', rfl⟩ := hs
    obtain ⟨p, q, h2, h3, rfl⟩ := eqL_append he
    rw [List.drop_drop, List.drop_drop] at h3
    obtain ⟨a, b, g1, g2, g3⟩ := part_eq ih hf hcells hD h1 h2
    subst ho
    simp only [Op.eqFields, hname, ne_eq, not_false_eq_true, if_true, Sem.run_bind, g1, g2, g3, Result.andThen_ok]
    cases p
    ·simp
    simp only [Bool.not_true, Bool.false_eq_true, if_false, Bool.true_and]
    exact eqFields_deep ih h1 hD fs _ sh' q hs' h3
   cases hs
  cases hs
theorem eqItems_deep {d : Nat} (ih : AggEq P w d) (h1 : 0 < d) {D : Nat} (hD : d <= D) {xs ys : Array Value} {e : TypeId} {s : List CK} (hd : deepQ P d e = some s) (hc : P.cellsOf e = s.length) : ∀ (m i : Nat) (r : Bool), eqL (List.replicate m s).flatten (xs.toList.drop (i * s.length)) (ys.toList.drop (i * s.length)) = some r ->
  (Op.eqItems D e (P.cellsOf e) xs ys (List.range' i m)).run P w = .ok r w
 | 0, i, r, he => by
  obtain ⟨l1, l2⟩ := eqL_len he
  have e1 : xs.toList.drop (i * s.length) = [] := List.eq_nil_of_length_eq_zero (by simpa using l1)
  have e2 : ys.toList.drop (i * s.length) = [] := List.eq_nil_of_length_eq_zero (by simpa using l2)
  rw [e1, e2] at he
  have : r = true := by simpa [eqL] using he.symm
  subst this
  simp [Op.eqItems]
 | m + 1, i, r, he => by
  rw [List.replicate_succ, List.flatten_cons] at he
  obtain ⟨p, q, h2, h3, rfl⟩ := eqL_append he
  rw [List.drop_drop, List.drop_drop] at h3
  obtain ⟨a, b, g1, g2, g3⟩ := part_eq ih hd hc hD h1 h2
  rw [<- hc] at g1 g2
  rw [List.range'_succ]
  simp only [Op.eqItems, Sem.run_bind, g1, g2, g3, Result.andThen_ok]
  cases p
  ·simp
  simp only [Bool.not_true, Bool.false_eq_true, if_false, Bool.true_and]
  refine eqItems_deep ih h1 hD hd hc m (i + 1) q ?_
  rw [show (i + 1) * s.length = i * s.length + s.length by rw [Nat.add_mul, Nat.one_mul]]
  exact h3
theorem agg_eq (P : Program) (w : World) : ∀ d, AggEq P w d
 | 0 => fun t sh h => by simp [deepQ] at h
 | d + 1 => by
  intro t sh h hk
  have ih := agg_eq P w d
  simp only [deepQ, hk] at h
  split at h
  ·rename_i fs hu
   split at h
   ·rename_i hst
    refine ⟨⟨_, hu, rfl⟩, fun D hD xs ys r he => ?_⟩
    obtain ⟨D', rfl⟩ : ∃ D', D = D' + 1 := ⟨D - 1, by omega⟩
    have hfs : P.fieldsOf t = fs := by simp [Program.fieldsOf, hu]
    rw [run_equalIn_struct w D' t xs ys (by rw [hfs]; exact hu) hst, hfs]
    by_cases h0 : 0 < d
    ·exact eqFields_deep ih h0 (by omega) _ 0 sh r h (by simpa using he)
    obtain rfl : d = 0 := by omega
    cases hl : fs.toList with
    | nil =>
     rw [hl] at h
     simp only [structQ, Option.some.injEq] at h
     subst h
     obtain ⟨l1, l2⟩ := eqL_len he
     have e1 : xs.toList = [] := List.eq_nil_of_length_eq_zero l1
     have e2 : ys.toList = [] := List.eq_nil_of_length_eq_zero l2
     rw [e1, e2] at he
     simp only [eqL, Option.some.injEq] at he
     subst he
     simp [Op.eqFields]
    | cons f fs => rw [hl] at h; simp [structQ, deepQ] at h
   cases h
  ·rename_i m e hu
   split at h
   ·rename_i s hs
    split at h
    ·rename_i hc
     obtain rfl := Option.some.inj h
     refine ⟨⟨_, hu, rfl⟩, fun D hD xs ys r he => ?_⟩
     obtain ⟨D', rfl⟩ : ∃ D', D = D' + 1 := ⟨D - 1, by omega⟩
     obtain ⟨i, hi⟩ : ∃ i, P.info? e = some i := by
      cases hq : P.info? e with
      | some i => exact ⟨i, rfl⟩
      | none =>
       exfalso
       by_cases h0 : 0 < d
       ·obtain ⟨d', rfl⟩ : ∃ d', d = d' + 1 := ⟨d - 1, by omega⟩
        have hun : P.underlying e = none := by
         cases hx : P.underlying e with
         | none => rfl
         | some x => obtain ⟨i, hi⟩ := info_of_underlying hx; rw [hq] at hi; cases hi
        simp [deepQ, ckOf, hun] at hs
       obtain rfl : d = 0 := by omega
       simp [deepQ] at hs
     rw [run_equalIn_array w D' xs ys hu hi, List.range_eq_range']
     have h0 : 0 < d := Nat.pos_of_ne_zero fun e => by subst e; simp [deepQ] at hs
     exact eqItems_deep ih h0 (by omega) hs hc m 0 r (by simpa using he)
    cases h
   cases h
  cases h
theorem Yields.eqD {neg : Bool} {t : TypeId} {sh : List CK} {x y : PV} {xs ys : Array Value} {r : Bool} (hx : x.val T = some (.agg xs)) (hy : y.val T = some (.agg ys)) (h : eqL sh xs.toList ys.toList = some r) :
  Yields P w0 n (.more (.eqD neg t sh x y)) T S (.bool (if neg then !r else r)) := by
 intro o a w hco hs hr
 obtain ⟨c, d, u, ho, rfl, rfl, hfl, hg, dd, hu, hdd⟩ := cOp_spec P hco
 have hk : ckOf P t = none := by
  unfold ckOf
  rw [hu]
  cases dd <;> simp_all
 have heq : (Op.equalIn 10000 t (.agg xs) (.agg ys)).run P w = .ok r w := (agg_eq P w 8 t sh hfl hk).2 10000 (by omega) xs ys r h
 simp only [execOp, ho, hs.eval hx, hs.eval hy]
 cases neg
 ·simp only [Bool.false_eq_true, if_false, Sem.run_bind, run_eqGuard_agg w .eql t c d xs ys hg, Result.andThen_ok, run_eql_struct, heq]
  simp
 simp only [if_true, Sem.run_bind, run_eqGuard_agg w .neq t c d xs ys hg, Result.andThen_ok]
 have : (binOp .neq t (.agg xs) (.agg ys)).run P w = .ok (.bool !r) w := by
  show (do Pure.pure (Value.bool (!(<- Op.equal t (.agg xs) (.agg ys)))) : Sem Value).run P w = _
  have h2 : (Op.equal t (.agg xs) (.agg ys)).run P w = .ok r w := heq
  simp [h2]
 simp [this]
end
end Go.SL

namespace Go.SL
open Go.RowKit
section
variable {P : Program} {w0 : World} {n : Nat} {T : TT} {S : SS}
set_option maxHeartbeats 1000000 in
theorem PW.quiet2Q {p k : Nat} {l : List PI} {Q : Exit -> TT -> SS -> Prop} {T' : TT} (hm : P.follows .mixedOrders = true) (h1 : QL P w0 n S (l.take k) T T') (h2 : OL P w0 n (l.drop k) T' S (Q .normal)) : PW P w0 n (.quiet2 p k l) T S Q := by
 intro c hc a w hs hr
 cases c
 case region id ops dr =>
  cases dr with
  | false => simp [cC] at hc
  | true =>
   simp only [cC] at hc
   split at hc
   case isFalse => simp at hc
   rename_i hcond
   simp only [Bool.and_eq_true] at hcond
   obtain ⟨⟨⟨hap, hback⟩, hsel⟩, hhoist⟩ := hcond
   simp only [Option.map_eq_some_iff] at hc
   obtain ⟨l', hcis, hmk⟩ := hc
   obtain ⟨rfl, rfl, _, _⟩ := mkQ_quiet2 hmk
   obtain ⟨hhead, hkle⟩ := headOf_spec ops (hoists ops) ops.size (Nat.le_refl _)
   change headB ops ((hoists ops).filter (· < quietAt ops)) (quietAt ops) = true at hhead
   change quietAt ops <= ops.size at hkle
   generalize hk : quietAt ops = k at *
   generalize hH : (hoists ops).filter (· < k) = Hs at *
   have hHk : ∀ i ∈ Hs, i < k := fun i hi => by rw [<- hH] at hi; simpa using (List.mem_filter.1 hi).2
   have hsplit : List.range ops.size = List.range' 0 k ++ List.range' k (ops.size - k) := by
    rw [List.range_eq_range']
    have := List.range'_append (s := 0) (m := k) (n := ops.size - k) (step := 1)
    simp only [Nat.one_mul, Nat.zero_add] at this
    rw [this]
    congr 1
    omega
   rw [hsplit] at hcis
   obtain ⟨hc1, hc2⟩ := cIs_append hcis
   simp only [List.length_range'] at hc1 hc2
   have hlen : (l'.take k).length = k := by simpa using cIs_length hc1
   obtain ⟨vs, hsat', hgives, hdst⟩ := h1.trace (ops := ops) 0 a (by rw [hlen]; exact hc1) hs
   rw [hlen] at hsat' hgives hdst
   simp only [Nat.zero_add] at hgives hdst
   -- ordered pairs
   have hpair : ∀ i j, i < j -> j < ops.size -> ∀ oi oj, ops[i]? = some oi -> ops[j]? = some oj -> behind (reach ops) j i = true ∨ oi.apart ops oj = true := by
    intro i j hij hj oi oj hoi hoj
    have := List.all_eq_true.1 (List.all_eq_true.1 hap j (List.mem_range.2 hj)) i (List.mem_range.2 hij)
    simpa [hoi, hoj] using this
   have htail : ∀ t i, k <= t -> t < ops.size -> i < t -> i ∉ Hs -> behind (reach ops) t i = true := by
    intro t i hkt ht hi hnH
    have := List.all_eq_true.1 hhead t (List.mem_range.2 ht)
    simp only [Bool.or_eq_true, decide_eq_true_eq] at this
    rcases this with h | h
    ·omega
    have := List.all_eq_true.1 h i (List.mem_range.2 hi)
    simpa [hnH] using this
   have hreadyX : ∀ (listed : Array Bool) i, (∀ j o, ops[j]? = some o -> listed.getD j true = true -> ∀ e ∈ o.after, Region.binds .any e = true -> listed.getD e.on true = true) -> i ∈ Region.ready .any ops listed ->
     ∀ j, j < ops.size -> behind (reach ops) i j = true -> j ≠ i -> listed.getD j true = true := by
    intro listed i hcl hi j hj hb hne
    obtain ⟨hun, o, ho, hall⟩ := mem_ready.1 hi
    have hX : Closed ops (fun x => listed.getD x true = true ∨ x = i) := by
     rintro x ox hox (hx | rfl) e he hbd
     ·exact .inl (hcl x ox hox hx e he hbd)
     obtain rfl : o = ox := by rw [ho] at hox; exact Option.some.inj hox
     have := hall e he hbd
     left
     cases hlt : listed[e.on]? with
     | none => simp [hlt] at this
     | some b => simpa [hlt] using this
    rcases behind_spec hX (Array.getElem?_eq_some_iff.1 ho).1 hb (.inr rfl) with h | h
    ·exact h
    exact absurd h hne
   have horder : ∀ (listed : Array Bool) i o, (∀ j o, ops[j]? = some o -> listed.getD j true = true -> ∀ e ∈ o.after, Region.binds .any e = true -> listed.getD e.on true = true) -> i ∈ Region.ready .any ops listed -> ops[i]? = some o -> i < k ->
     ∀ x, (x ∈ o.looksAt ops ∨ o.dst = some x) -> ∀ j, j < k -> j ≠ i -> dstAt ops j = some x -> decide (j < i) = listed.getD j true := by
    intro listed i o hcl hi ho hik x hx j hj hne hdj
    obtain ⟨hun, o', ho', hpre⟩ := mem_ready.1 hi
    have hilt : i < ops.size := (Array.getElem?_eq_some_iff.1 ho).1
    have hjlt : j < ops.size := by omega
    have hoj : ops[j]? = some ops[j] := by simp [hjlt]
    have hdj' : ops[j].dst = some x := by simpa [dstAt, hoj] using hdj
    rcases Nat.lt_or_gt_of_ne hne with h | h
    ·rcases hpair j i h hilt _ _ hoj ho with hb' | hap'
     ·rw [hreadyX listed i hcl hi j hjlt hb' hne]
      simp [h]
     obtain ⟨e1, e2, e3⟩ := Oper.apart_spec hap'
     rcases hx with hx | hx
     ·exact absurd hx (e1 x hdj')
     exact absurd hx (e2 x hdj')
    rcases hpair i j h hjlt _ _ ho hoj with hb' | hap'
    ·have hnl : listed.getD j true = false := by
      cases hlj : listed.getD j true with
      | false => rfl
      | true =>
       exfalso
       have hX : Closed ops (fun x => listed.getD x true = true) := fun x ox hox hx e he hbd => hcl x ox hox hx e he hbd
       have := behind_spec hX hjlt hb' hlj
       rw [hun] at this
       cases this
     rw [hnl]
     simp; omega
    obtain ⟨e1, e2, e3⟩ := Oper.apart_spec hap'
    rcases hx with hx | hx
    ·exact absurd hx (e3 x hdj')
    exact absurd hdj' (e2 x hx)
   have hgetset : ∀ (listed : Array Bool) i, listed.size = ops.size -> i < ops.size -> (listed.setIfInBounds i true).getD i true = true := by
    intro listed i h1 h2
    have : i < listed.size := by omega
    simp [this]
   have hput : ∀ (listed : Array Bool) i o, listed.size = ops.size -> (∀ j o, ops[j]? = some o -> listed.getD j true = true -> ∀ e ∈ o.after, Region.binds .any e = true -> listed.getD e.on true = true) -> i ∈ Region.ready .any ops listed -> ops[i]? = some o -> i < k ->
     (foldF ops vs (fun j => listed.getD j true) k a).put o.dst (vs i) = foldF ops vs (fun j => (listed.setIfInBounds i true).getD j true) k a := by
    intro listed i o hsz hcl hi ho hik
    have hilt : i < ops.size := (Array.getElem?_eq_some_iff.1 ho).1
    have hdo : dstOk n o.dst = true := hdst i o hik ho
    have hda : dstAt ops i = o.dst := by simp [dstAt, ho]
    have hgi := hgetset listed i hsz hilt
    have hgj : ∀ j, j ≠ i -> (listed.setIfInBounds i true).getD j true = listed.getD j true := fun j hj => getD_set_ne true (Ne.symm hj)
    have szs : ∀ f, (foldF ops vs f k a).tmps.size = a.tmps.size := fun f => (foldF_size ops vs f k a).1
    have dfs : ∀ f, (foldF ops vs f k a).defers = a.defers := fun f => (foldF_size ops vs f k a).2
    refine act_ext ?_ ?_ fun x => ?_
    ·cases o.dst <;> simp [Act.put, szs]
    ·cases o.dst <;> simp [Act.put, dfs]
    by_cases hx : o.dst = some x
    ·have e1 : (foldF ops vs (fun j => (listed.setIfInBounds i true).getD j true) k a).tmps[x]? = (foldF ops vs (fun j => decide (j < i + 1)) k a).tmps[x]? := by
      refine foldF_agree ops vs _ _ k a x fun j hj hdj => ?_
      by_cases e : j = i
      ·subst e; rw [hgi]; simp
      rw [hgj j e, <- horder listed i o hcl hi ho hik x (.inr hx) j hj e hdj]
      by_cases h : j < i
      ·have : j < i + 1 := by omega
       simp [h, this]
      have : ¬ j < i + 1 := by omega
      simp [h, this]
     rw [e1, foldF_runA ops vs (i + 1) k a (by omega)]
     have e2 : runA ops vs 0 (i + 1) a = (runA ops vs 0 i a).put (dstAt ops i) (vs i) := by
      simp [runA, List.range'_concat]
     rw [e2, hda, hx]
     simp only [Act.put]
     have hxn : x < a.tmps.size := by rw [hs.size]; simpa [dstOk, hx] using hdo
     have hsz1 : (runA ops vs 0 i a).tmps.size = a.tmps.size := by rw [<- foldF_runA ops vs i k a (by omega)]; exact szs _
     rw [Array.getElem?_setIfInBounds_self_of_lt (by rw [szs]; exact hxn), Array.getElem?_setIfInBounds_self_of_lt (by rw [hsz1]; exact hxn)]
    have e1 : (foldF ops vs (fun j => (listed.setIfInBounds i true).getD j true) k a).tmps[x]? = (foldF ops vs (fun j => listed.getD j true) k a).tmps[x]? := by
     refine foldF_agree ops vs _ _ k a x fun j hj hdj => ?_
     by_cases e : j = i
     ·subst e; rw [hda] at hdj; exact absurd hdj hx
     exact hgj j e
    rw [e1]
    cases hd : o.dst with
    | none => rfl
    | some y =>
     have : y ≠ x := fun e => hx (by rw [hd, e])
     simp [Act.put, Array.getElem?_setIfInBounds_ne this]
   have hagree : ∀ (listed : Array Bool) i o, (∀ j o, ops[j]? = some o -> listed.getD j true = true -> ∀ e ∈ o.after, Region.binds .any e = true -> listed.getD e.on true = true) -> i ∈ Region.ready .any ops listed -> ops[i]? = some o -> i < k ->
     ∀ x, x ∈ o.looksAt ops -> (runA ops vs 0 i a).tmps[x]? = (foldF ops vs (fun j => listed.getD j true) k a).tmps[x]? := by
    intro listed i o hcl hi ho hik x hx
    rw [<- foldF_runA ops vs i k a (by omega)]
    refine foldF_agree ops vs _ _ k a x fun j hj hdj => ?_
    by_cases e : j = i
    ·subst e
     have hun := (mem_ready.1 hi).1
     rw [hun]; simp
    exact horder listed i o hcl hi ho hik x (.inl hx) j hj e hdj
   have hclset : ∀ (listed : Array Bool) i o, listed.size = ops.size -> (∀ j o, ops[j]? = some o -> listed.getD j true = true -> ∀ e ∈ o.after, Region.binds .any e = true -> listed.getD e.on true = true) -> i ∈ Region.ready .any ops listed -> ops[i]? = some o ->
     (∀ j o, ops[j]? = some o -> (listed.setIfInBounds i true).getD j true = true -> ∀ e ∈ o.after, Region.binds .any e = true -> (listed.setIfInBounds i true).getD e.on true = true) := by
    intro listed i o hsz hcl hi ho j oj hoj hj e he hbd
    have hilt : i < ops.size := (Array.getElem?_eq_some_iff.1 ho).1
    obtain ⟨hun, o', ho', hpre⟩ := mem_ready.1 hi
    obtain rfl : o = o' := by rw [ho] at ho'; exact Option.some.inj ho'
    have hgj : ∀ j, j ≠ i -> (listed.setIfInBounds i true).getD j true = listed.getD j true := fun j hj => getD_set_ne true (Ne.symm hj)
    by_cases e1 : e.on = i
    ·rw [e1]; exact hgetset listed i hsz hilt
    rw [hgj _ e1]
    by_cases e2 : j = i
    ·subst e2
     obtain rfl : o = oj := by rw [ho] at hoj; exact Option.some.inj hoj
     have := hpre e he hbd
     cases hlt : listed[e.on]? with
     | none => simp [hlt] at this
     | some bb => simpa [hlt] using this
    rw [hgj _ e2] at hj
    exact hcl j oj hoj hj e he hbd
   have hcntset : ∀ (listed : Array Bool) i, listed.size = ops.size -> i ∈ Region.ready .any ops listed -> i < ops.size -> cnt (fun j => listed.getD j true) ops.size = cnt (fun j => (listed.setIfInBounds i true).getD j true) ops.size + 1 := by
    intro listed i hsz hi hilt
    have := cnt_set (f := fun j => listed.getD j true) (g := fun j => (listed.setIfInBounds i true).getD j true) (i := i) (mem_ready.1 hi).1 (hgetset listed i hsz hilt) (fun j hj => getD_set_ne true (Ne.symm hj)) ops.size
    simpa [hilt] using this
   refine wp_mono (Q := fun e a' w' => e = .normal /\ ∃ T' S', Sat n T' a' /\ Rep w0 S' w' /\ Q e T' S') ?_ (fun e a' w' h => h.2)
   refine wp_region_any hm ?_
   have key : ∀ (fuel : Nat) (listed : Array Bool) (b : Act) (w' : World), listed.size = ops.size ->
     (∀ j o, ops[j]? = some o -> listed.getD j true = true -> ∀ e ∈ o.after, Region.binds .any e = true -> listed.getD e.on true = true) -> (∀ i ∈ Hs, listed.getD i true = true) ->
     (∀ t, k <= t -> t < ops.size -> listed.getD t true = false) -> b = foldF ops vs (fun j => listed.getD j true) k a -> Rep w0 S w' -> cnt (fun j => listed.getD j true) ops.size = fuel ->
     wpAny P .any ops (fun e a' w' => e = .normal /\ ∃ T' S', Sat n T' a' /\ Rep w0 S' w' /\ Q e T' S') fuel listed b w' := by
    intro fuel
    induction fuel with
    | zero =>
     intro listed b w' hsz hcl hHl htl hb hr' hcnt
     have hall : ∀ j, j < ops.size -> listed.getD j true = true := by
      intro j hj
      cases hx : listed.getD j true with
      | true => rfl
      | false =>
       exfalso
       have : ∀ m, j < m -> 0 < cnt (fun j => listed.getD j true) m := by
        intro m
        induction m with
        | zero => intro h; omega
        | succ m ih =>
         intro h
         simp only [cnt]
         by_cases e : j = m
         ·subst e; simp [hx]
         have := ih (by omega); omega
       have := this ops.size hj
       omega
     have hkeq : k = ops.size := by
      rcases Nat.lt_or_ge k ops.size with h | h
      ·have h1 := htl k (Nat.le_refl _) h
       have h2 := hall k h
       rw [h1] at h2
       cases h2
      omega
     have hbt : b = runA ops vs 0 k a := by
      rw [hb, <- foldF_runA ops vs k k a (Nat.le_refl _)]
      unfold foldF
      refine foldl_ext' _ _ _ _ fun b j hj => ?_
      have hj' := List.mem_range.1 hj
      simp [hall j (by omega), hj']
     refine ⟨?_, ?_⟩
     ·unfold Region.ready
      rw [List.filter_eq_nil_iff]
      intro i hi
      rw [hall i (List.mem_range.1 hi)]
      simp
     have := h2 ops [] b w' (fun e a' w' => e = .normal /\ ∃ T' S', Sat n T' a' /\ Rep w0 S' w' /\ Q e T' S') (by
      rw [hkeq, Nat.sub_self] at hc2
      rw [hkeq]
      simpa using hc2) (hbt ▸ hsat') hr' (fun a' w' T' S' h3 h4 h5 => ⟨rfl, T', S', h3, h4, h5⟩)
     simpa [wpOps] using this
    | succ fuel ih =>
     intro listed b w' hsz hcl hHl htl hb hr' hcnt
     by_cases hall : ∀ j, j < k -> listed.getD j true = true
     ·-- the head is done
      have hexact : ∀ j, j < ops.size -> listed.getD j true = decide (j < k) := by
       intro j hj
       by_cases h : j < k
       ·rw [hall j h]; simp [h]
       rw [htl j (by omega) hj]; simp [h]
      have hbt : b = runA ops vs 0 k a := by
       rw [hb, <- foldF_runA ops vs k k a (Nat.le_refl _)]
       unfold foldF
       refine foldl_ext' _ _ _ _ fun b j hj => ?_
       have hj' := List.mem_range.1 hj
       simp [hall j hj', hj']
      have hfuel : fuel + 1 = ops.size - k := by
       rw [<- hcnt, cnt_congr ops.size hexact, cnt_below]
      rw [hfuel]
      have htl2 : ∀ listed' : Array Bool, ∀ t s', k <= s' -> s' < t -> t < ops.size -> (∀ j, j < ops.size -> listed'.getD j true = decide (j < s')) -> listed'.size = ops.size -> t ∉ Region.ready .any ops listed' := by
       intro l'' t s' h1 h2 h3 h4 h5 hmem
       have := hreadyX l'' t (fun j o ho hj e he hbd => by
        have hlt := backB_spec hback ho he hbd
        have hjs : j < ops.size := (Array.getElem?_eq_some_iff.1 ho).1
        rw [h4 j hjs] at hj
        rw [h4 e.on (by omega)]
        simp only [decide_eq_true_eq] at hj ⊢
        omega) hmem s' (by omega) (htail t s' (by omega) h3 h2 (fun hm' => by have := hHk s' hm'; omega)) (by omega)
       rw [h4 s' (by omega)] at this
       simp at this
      refine wpAny_tail hback (ops.size - k) k listed b w' (by omega) hsz hexact (fun t i h1 h2 h3 h4 h5 => htl2 listed t k (Nat.le_refl _) h1 h2 hexact hsz) htl2 ?_
      exact h2 ops _ b w' _ hc2 (hbt ▸ hsat') hr' (fun a' w' T' S' h3 h4 h5 => ⟨rfl, T', S', h3, h4, h5⟩)
     refine ⟨fun h0 => ?_, fun i hi => ?_⟩
     ·exfalso
      obtain ⟨i, hi1, hi2, hi3⟩ := cnt_pos ops.size (by rw [hcnt]; omega : 0 < cnt (fun j => listed.getD j true) ops.size)
      have : i ∈ Region.ready .any ops listed := by
       rw [mem_ready]
       refine ⟨hi2, ops[i], by simp [hi1], fun e he hbd => ?_⟩
       have hlt := backB_spec hback (show ops[i]? = some ops[i] by simp [hi1]) he hbd
       have h3 := hi3 e.on hlt
       have : e.on < listed.size := by omega
       simpa [this] using h3
      rw [h0] at this
      simp at this
     have hmem := mem_ready.1 hi
     obtain ⟨hun, o, ho, hpre⟩ := hmem
     have hilt : i < ops.size := (Array.getElem?_eq_some_iff.1 ho).1
     have hik : i < k := by
      rcases Nat.lt_or_ge i k with h | h
      ·exact h
      exfalso
      refine hall fun j hj => ?_
      by_cases hjH : j ∈ Hs
      ·exact hHl j hjH
      exact hreadyX listed i hcl hi j (by omega) (htail i j h hilt (by omega) hjH) (by omega)
     have hdo : dstOk n o.dst = true := hdst i o hik ho
     have hagree' := hagree listed i o hcl hi ho hik
     rw [<- hb] at hagree'
     have hev : execOp (runA ops vs 0 i a).eval o = execOp b.eval o :=
      execOp_congr o (fun cs bb hh => Region.noSelect_spec hsel i o cs bb ho hh) fun x hx => eval_agree fun t ht => hagree' t (looks_op (ht ▸ hx))
     have hwan := wanted_agree (ops := ops) (o := o) (a := runA ops vs 0 i a) (b := b) hagree'
     have hnext : ∀ w'', Rep w0 S w'' -> wpAny P .any ops (fun e a' w' => e = .normal /\ ∃ T' S', Sat n T' a' /\ Rep w0 S' w' /\ Q e T' S') fuel (listed.setIfInBounds i true) (b.put o.dst (vs i)) w'' := by
      intro w'' hr''
      have hgj : ∀ j, j ≠ i -> (listed.setIfInBounds i true).getD j true = listed.getD j true := fun j hj => getD_set_ne true (Ne.symm hj)
      refine ih _ _ w'' (by simpa using hsz) (hclset listed i o hsz hcl hi ho) ?_ ?_ ?_ hr'' ?_
      ·intro j hj
       by_cases e : j = i
       ·subst e; exact hgetset listed j hsz hilt
       rw [hgj j e]; exact hHl j hj
      ·intro t h3 h4
       rw [hgj t (by omega)]
       exact htl t h3 h4
      ·rw [hb]; exact hput listed i o hsz hcl hi ho hik
      have := hcntset listed i hsz hi hilt
      omega
     unfold wpOp
     simp only [ho]
     rcases hgives i hik o ho with ⟨hw1, hw2⟩ | ⟨hw1, hw2⟩
     ·rw [hwan] at hw1
      rw [if_pos hw1]
      left
      have hsz1 : (runA ops vs 0 i a).tmps.size = n := by rw [<- foldF_runA ops vs i k a (by omega), (foldF_size ops vs _ k a).1, hs.size]
      have hsz2 : b.tmps.size = n := by rw [hb, (foldF_size ops vs _ k a).1, hs.size]
      have hdf : (runA ops vs 0 i a).defers = [] := by rw [<- foldF_runA ops vs i k a (by omega), (foldF_size ops vs _ k a).2, hs.defers]
      refine Oper.wp_mono ?_ (wp_transfer hev (by rw [hsz1, hsz2]) (by rw [hsz1]; exact hdo) hdf (hw2 w' hr'))
      rintro b' w'' ⟨rfl, hr''⟩
      exact hnext w'' hr''
     rw [hwan] at hw1
     rw [hw1]
     simp only [Bool.false_eq_true, if_false]
     rw [<- hw2]
     exact hnext w' hr'
   -- the moves first
   have phase0 : ∀ (Hr : List Nat) (listed : Array Bool) (b : Act) (w' : World), hoistB ops Hr listed = true -> (∀ i ∈ Hr, i < k) -> listed.size = ops.size ->
     (∀ j o, ops[j]? = some o -> listed.getD j true = true -> ∀ e ∈ o.after, Region.binds .any e = true -> listed.getD e.on true = true) -> (∀ i ∈ Hs, listed.getD i true = true ∨ i ∈ Hr) ->
     (∀ t, k <= t -> t < ops.size -> listed.getD t true = false) -> b = foldF ops vs (fun j => listed.getD j true) k a -> Rep w0 S w' ->
     wpAny P .any ops (fun e a' w' => e = .normal /\ ∃ T' S', Sat n T' a' /\ Rep w0 S' w' /\ Q e T' S') (cnt (fun j => listed.getD j true) ops.size) listed b w' := by
    intro Hr
    induction Hr with
    | nil =>
     intro listed b w' _ _ hsz hcl hHl htl hb hr'
     exact key _ listed b w' hsz hcl (fun i hi => (hHl i hi).resolve_right (by simp)) htl hb hr' rfl
    | cons i Hr ih =>
     intro listed b w' hh hlt hsz hcl hHl htl hb hr'
     simp only [hoistB, Bool.and_eq_true] at hh
     obtain ⟨⟨⟨hho, hfree⟩, hready⟩, hrest⟩ := hh
     have hi : i ∈ Region.ready .any ops listed := by simpa using hready
     obtain ⟨hun, o, ho, hpre⟩ := mem_ready.1 hi
     have hilt : i < ops.size := (Array.getElem?_eq_some_iff.1 ho).1
     have hik : i < k := hlt i (by simp)
     have hgj : ∀ j, j ≠ i -> (listed.setIfInBounds i true).getD j true = listed.getD j true := fun j hj => getD_set_ne true (Ne.symm hj)
     rw [hcntset listed i hsz hi hilt]
     simp only [hoistable?, ho, hoistable, Bool.and_eq_true] at hho
     obtain ⟨hgn, hmv⟩ := hho
     have hgn' : o.guard = none := by simpa using hgn
     have hwant : ∀ t : Array Value, Region.wanted o (yielded ops t) = true := fun t => by simp [Region.wanted, hgn']
     have hagree' := hagree listed i o hcl hi ho hik
     rw [<- hb] at hagree'
     have hdo : dstOk n o.dst = true := hdst i o hik ho
     have hsz1 : (runA ops vs 0 i a).tmps.size = n := by rw [<- foldF_runA ops vs i k a (by omega), (foldF_size ops vs _ k a).1, hs.size]
     have hmove : ∃ x, (o.op = .move x ∨ o.op = .assign x) := by
      cases hop : o.op <;> rw [hop] at hmv <;> simp at hmv
      ·exact ⟨_, .inl rfl⟩
      exact ⟨_, .inr rfl⟩
     obtain ⟨x, hx⟩ := hmove
     have hexec : ∀ ρ, execOp ρ o = pure (.value (ρ x)) := by
      intro ρ
      rcases hx with hx | hx <;> simp [execOp, hx]
     have hval : b.eval x = vs i ∨ o.dst = none := by
      rcases hgives i hik o ho with ⟨_, hw2⟩ | ⟨hw1, _⟩
      ·have := hw2 w' hr'
       unfold Oper.wp at this
       rw [hexec] at this
       simp only [Sem.run_pure, Oper.upon] at this
       have hev : (runA ops vs 0 i a).eval x = b.eval x := eval_agree fun t ht => hagree' t (looks_op (by rcases hx with hx | hx <;> simp [hx, Op.operands, ht]))
       cases hd : o.dst with
       | none => exact .inr rfl
       | some d =>
        left
        rw [hd] at this hdo
        have h3 := congrArg (fun c : Act => c.tmps[d]?) this.1
        have hdn : d < n := by simpa [dstOk] using hdo
        simp [Act.put, hsz1, hdn] at h3
        rw [<- hev]; exact h3
      rw [hwant] at hw1; cases hw1
     refine wpAny_take (oi := o) (v := b.eval x) ho hsel hfree hready (fun c a w hq => by simp at hq) (.inl ⟨hwant _, fun w => by rw [hexec]; rfl⟩) ?_
     have hbput : b.put o.dst (b.eval x) = foldF ops vs (fun j => (listed.setIfInBounds i true).getD j true) k a := by
      rw [<- hput listed i o hsz hcl hi ho hik, <- hb]
      rcases hval with h | h
      ·rw [h]
      rw [h]; rfl
     rw [hbput]
     refine ih _ _ w' hrest (fun j hj => hlt j (by simp [hj])) (by simpa using hsz) (hclset listed i o hsz hcl hi ho) ?_ ?_ rfl hr'
     ·intro j hj
      by_cases e : j = i
      ·subst e; exact .inl (hgetset listed j hsz hilt)
      rw [hgj j e]
      rcases hHl j hj with h | h
      ·exact .inl h
      rcases List.mem_cons.1 h with h | h
      ·exact absurd h e
      exact .inr h
     intro t h3 h4
     rw [hgj t (by omega)]
     exact htl t h3 h4
   have hcnt0 : cnt (fun j => (Array.replicate ops.size false).getD j true) ops.size = ops.size := by
    rw [cnt_congr (g := fun j => decide (j < 0)) ops.size (fun j hj => by simp [hj]), cnt_below]
    omega
   have := phase0 Hs (Array.replicate ops.size false) a { w with drawn := w.drawn + 1 } hhoist hHk (by simp) ?_ (fun i hi => .inr hi) ?_ ?_ ?_
   ·rwa [hcnt0] at this
   ·intro j o ho hj
    exfalso
    have hlt : j < ops.size := (Array.getElem?_eq_some_iff.1 ho).1
    simp [hlt] at hj
   ·intro t _ ht
    simp [ht]
   ·have : ∀ j, j < k -> (Array.replicate ops.size false).getD j true = decide (j < 0) := by
     intro j hj
     have : j < ops.size := by omega
     simp [this]
    have h0 : foldF ops vs (fun j => (Array.replicate ops.size false).getD j true) k a = foldF ops vs (fun j => decide (j < 0)) k a := by
     unfold foldF
     refine foldl_ext' _ _ _ _ fun b j hj => ?_
     simp only [this j (List.mem_range.1 hj)]
    rw [h0, foldF_runA ops vs 0 k a (Nat.zero_le _)]
    rfl
   exact hr.same ((Below.refl _ w).drew) (fun _ _ => rfl)
 all_goals (first | (simp [cC] at hc; done) | (simp only [cC] at hc; split at hc <;> simp at hc; done))
theorem PW.quiet2QK {p k : Nat} {l : List PI} {Q : Exit -> TT -> SS -> Prop} (hm : P.follows .mixedOrders = true) (h : QK P w0 n S (l.take k) T (fun T' => OL P w0 n (l.drop k) T' S (Q .normal))) : PW P w0 n (.quiet2 p k l) T S Q :=
 let ⟨_, h1, h2⟩ := h; PW.quiet2Q hm h1 h2
end
end Go.SL



namespace Go.SL
open Go.RowKit
section
variable {P : Program} {w0 : World} {n : Nat} {T : TT} {S : SS}
theorem Rep.allocObj {w : World} (h : Rep w0 S w) (o : Obj) : Rep w0 ([(w.heap.size, .obj o)] :: S) (w.alloc o) := by
 refine h.push (below_alloc h _) (fun i hi => alloc_heap_lt w _ i hi) (by simp) ?_
 intro p hp
 simp only [List.mem_singleton] at hp
 subst hp
 exact ⟨World.alloc_heap_new w o, Nat.le_refl _⟩
end
end Go.SL

namespace Go.SL
open Go.ChangeShapes Go.WideShapes Go.ChangeAt Go.RowKit
section
variable {H : Type} {enc : TypeId × Value -> H} {P : Program} {W : World}
theorem weights_mem_all {P : Program} {e : TypeId} : ∀ {ds : List (DataW H)} {d : DataW H} {k : Nat}, d ∈ ds -> k ∈ d.weights P e -> k ∈ DataW.weightsAll P e ds
 | x :: r, d, k, hd, hk => by
  simp only [DataW.weightsAll, List.mem_append]
  rcases List.mem_cons.1 hd with rfl | h
  ·exact .inl hk
  exact .inr (weights_mem_all h hk)
theorem arg_listW {α : Type} {f : α -> List Value} {R : α -> Prop} {t e : TypeId} {A : Option Addr} {len cap j : Nat} {d : DataW H} {ps : List MemPlace} {ts : List TypeId} {ds : List (DataW H)} (hu : P.underlying t = some (.slice e))
  (hQ : ∀ n cs y, DataW.trod enc P W 0 (fun _ => true) true n e cs = some y -> cs.length = P.cellsOf e -> (∀ k ∈ y.1.weights P e, k <= reachBytes) -> ∃ x, cs = f x /\ R x)
  (h : DataW.Trod enc P W 0 (fun _ => true) true t (.slice A len cap) d ps) (hsz : (DataW.weightsEach P ts ds).all (· <= reachBytes) = true) (ht : ts[j]? = some t) (hd : ds[j]? = some d) :
  ∃ l : List α, l.length = len /\ Rd W [] A (l.flatMap f) /\ (∀ x ∈ l, R x) /\ len * P.bytesOf e <= reachBytes /\ len <= cap := by
 obtain ⟨fuel, h⟩ := h
 rcases DataW.trod_slice hu h with ⟨h0, _⟩ | ⟨a, len', cap', elems, rest, n, _, hcs, hx, hb, hl, hm, hlen, hel, _, _⟩
 ·simp [Value.cells] at h0
  obtain ⟨rfl, rfl, rfl⟩ := h0
  exact ⟨[], rfl, Rd.nil, by simp, by simp, by simp⟩
 simp [Value.cells] at hcs
 obtain ⟨rfl, rfl, rfl⟩ := hcs
 have hw := sized_slice (P := P) hsz ht (elems := elems.map (·.1)) (spare := rest.map (·.1)) (by rw [hd]; simpa using congrArg Prod.fst hx) hu
 have hwt : ∀ (i : Nat) (hi : i < elems.length), ∀ k ∈ (elems[i].1).weights P e, k <= reachBytes := by
  intro i hi k hk
  have hdd : ds[j]? = some (.slice (elems.map (·.1)) (rest.map (·.1))) := by rw [hd]; simpa using congrArg Prod.fst hx
  have := List.all_eq_true.1 hsz _ (DataW.weights_mem_each ht hdd k (by
   simp only [DataW.weights, hu, List.mem_cons, List.mem_append]
   exact .inr (.inl (weights_mem_all (List.mem_map.2 ⟨elems[i], List.getElem_mem hi, rfl⟩) hk))))
  simpa using this
 generalize hmm : P.cellsOf e = m at *
 have row : ∀ i, i < len -> ∃ cs', cs'.length = m /\ (∀ q, q < m -> W.cell? (a.add (i * m + q)) = cs'[q]?) /\ ∃ x, cs' = f x /\ R x := by
  intro i hi
  have := hel i hi
  have hs : elems[i]? = some (elems[i]'(by omega)) := List.getElem?_eq_getElem (by omega)
  rw [hs, Option.bind_eq_some_iff] at this
  obtain ⟨cs', hc, ht'⟩ := this
  obtain ⟨_, hlc, hcell⟩ := World.cells?_some hc
  refine ⟨cs', hlc, fun q hq => ?_, hQ _ _ _ ht' hlc (hwt i (by omega))⟩
  rw [<- addr_add_add]
  exact hcell q hq
 have cellAt : ∀ j, j < len * m -> ∃ v, W.cell? (a.add j) = some v := by
  intro j hj
  have hm0 : 0 < m := Nat.pos_of_ne_zero fun e => by subst e; omega
  have hi : j / m < len := Nat.div_lt_of_lt_mul (by rw [Nat.mul_comm]; exact hj)
  have hq := Nat.mod_lt j hm0
  obtain ⟨cs', h1, h2, _⟩ := row (j / m) hi
  have := h2 (j % m) hq
  rw [Nat.mul_comm, Nat.div_add_mod] at this
  exact ⟨_, by rw [this]; exact List.getElem?_eq_getElem (by omega)⟩
 let cs := (List.range (len * m)).map fun j => (W.cell? (a.add j)).getD undef
 have hcs : ∀ j, j < len * m -> cs[j]? = W.cell? (a.add j) := by
  intro j hj
  obtain ⟨v, hv⟩ := cellAt j hj
  simp [cs, hj, hv]
 have hcl : cs.length = len * m := by simp [cs]
 obtain ⟨l, h1, h2, h3⟩ := split_rows (f := f) (R := R) (m := m) len cs hcl (fun i hi => by
  obtain ⟨cs', g1, g2, x, g3, g4⟩ := row i hi
  refine ⟨x, ?_, g4⟩
  rw [<- g3]
  apply List.ext_getElem?
  intro q
  by_cases hq : q < m
  ·have : (i + 1) * m <= len * m := Nat.mul_le_mul_right _ hi
   rw [Nat.succ_mul] at this
   rw [List.getElem?_take_of_lt hq, List.getElem?_drop, hcs _ (by omega), g2 q hq]
  rw [List.getElem?_eq_none (by simp; omega), List.getElem?_eq_none (by omega)])
 refine ⟨l, h1, ?_, h3, ?_, hl⟩
 ·rw [<- h2]
  intro j v hj
  have hlt : j < len * m := by have := (List.getElem?_eq_some_iff.1 hj).1; omega
  rw [hcs j hlt] at hj
  exact ⟨a, rfl, .inl hj⟩
 refine Nat.le_trans (Nat.mul_le_mul_right _ ?_) hw
 simp; omega
theorem arg_stringW_list {t e : TypeId} {A : Option Addr} {len cap j : Nat} {d : DataW H} {ps : List MemPlace} {ts : List TypeId} {ds : List (DataW H)} (hu : P.underlying t = some (.slice e)) (he : P.underlying e = some .string)
  (h : DataW.Trod enc P W 0 (fun _ => true) true t (.slice A len cap) d ps) (hsz : (DataW.weightsEach P ts ds).all (· <= reachBytes) = true) (ht : ts[j]? = some t) (hd : ds[j]? = some d) :
  ∃ l : List ByteArray, l.length = len /\ Rd W [] A (l.map .string) /\ (∀ x ∈ l, x.size <= 140737488351232) /\ len * P.bytesOf e <= reachBytes /\ len <= cap := by
 obtain ⟨l, h1, h2, h3, h4⟩ := arg_listW (f := fun s : ByteArray => [Value.string s]) (R := fun s => s.size <= 140737488351232) hu (fun n cs y hh _ hwt => by
  obtain ⟨s, rfl, hy, hw⟩ := DataW.trod_string he hh
  refine ⟨s, rfl, ?_⟩
  have := hwt s.data.toList.length (by rw [hy]; simp [DataW.weights])
  have e : s.data.toList.length = s.size := by simp
  rw [e] at this
  exact this) h hsz ht hd
 exact ⟨l, h1, by rw [List.map_eq_flatMap]; exact h2, h3, h4⟩
end
end Go.SL

namespace Go.SL
open Go.RowKit
section
variable {P : Program} {w0 : World} {n : Nat} {T : TT} {S : SS}
theorem OW.xf {f : FuncId} {args : List PV} {vs : List Value} {v : Value} (hv : valsP T args = some vs) (h : ∀ w, Rep w0 S w -> (callFunc f vs.toArray).run P w = .ok (.value v) w) :
  OW P w0 n (.more (.other (.xf f args))) T S (fun u S' => u = v /\ S' = S) := by
 intro o a w Q hco hs hr
 obtain ⟨c, ho, hca, rfl⟩ := cOp_spec P hco
 have hargs : c.args.map a.eval = vs.toArray := by
  apply Array.toList_inj.1
  simpa using valsP_spec hs hv
 unfold Oper.wp
 have hrun : (execOp a.eval o).run P w = .ok (.value v) w := by
  simp only [execOp, ho]
  simp [resolve, hca, Act.eval, Deferred.ofValue, invoke, hargs, h w hr]
 rw [hrun]
 exact ⟨v, S, rfl, hr, rfl, rfl⟩
end
end Go.SL

namespace Go.SL
open Go.RowKit
section
variable {P : Program} {w0 : World} {n : Nat} {T : TT} {S : SS}
abbrev AlOp := Nat × TypeId × List Value
def alPI (x : AlOp) : PI := ⟨some x.1, none, .al x.2.1 x.2.2⟩
def alSeg (x : AlOp) (r : Nat) : Seg := [(r, .cells x.2.2 x.2.1 x.2.2.length)]
def bindA : List AlOp -> List Nat -> TT -> TT
 | x :: al, r :: rs, T => bindA al rs (put (some x.1) (.pointer (some ⟨r, 0, none⟩)) T)
 | _, _, T => T
def segA : List AlOp -> List Nat -> SS
 | x :: al, r :: rs => alSeg x r :: segA al rs
 | _, _ => []
def alD : AlOp := (0, 0, [])
theorem segA_eq (r : Nat -> Nat) : ∀ (al : List AlOp) (p : Nat), segA al ((List.range' p al.length).map r) = (List.range' p al.length).map fun j => alSeg (al.getD (j - p) alD) (r j)
 | [], p => rfl
 | x :: al, p => by
  have ih := segA_eq r al (p + 1)
  simp only [List.length_cons, List.range'_succ, List.map_cons, segA, ih]
  congr 1
  ·simp
  apply List.map_congr_left
  intro j hj
  have := List.mem_range'.1 hj
  obtain ⟨q, hq, rfl⟩ := this
  rw [show p + 1 + 1 * q - p = q + 1 by omega, show p + 1 + 1 * q - (p + 1) = q by omega, List.getD_cons_succ]
theorem cIs_at {ops : Array Oper} : ∀ (is : List Nat) (l : List PI) (j q : Nat) (x : PI), cIs P n ops is = some l -> is[j]? = some q -> l[j]? = some x -> cI P n ops q = some x := by
 intro is
 induction is with
 | nil => intro l j q x _ hq; simp at hq
 | cons i0 is ih =>
  intro l j q x hcs hq hx
  cases l with
  | nil => simp at hx
  | cons y l =>
   obtain ⟨i', r, he, h1, h2⟩ := cIs_cons hcs
   simp only [List.cons.injEq] at he
   obtain ⟨rfl, rfl⟩ := he
   cases j with
   | zero => simp at hq hx; subst hq; subst hx; exact h1
   | succ j => exact ih l j q x h2 (by simpa using hq) (by simpa using hx)
set_option maxHeartbeats 4000000 in
theorem PW.quietAl {k : Nat} {l A : List PI} {al : List AlOp} {Q : Exit -> TT -> SS -> Prop} {T1 : TT} {va : List Value} (hm : P.follows .mixedOrders = true) (hl : l.take k = A ++ al.map alPI)
  (hA : QLs P w0 n (Over S) A T T1 va) (h4 : ∀ rs : List Nat, rs.length = al.length -> OL P w0 n (l.drop k) (bindA al rs T1) (segA al rs ++ S) (Q .normal)) : PW P w0 n (.quiet k l) T S Q := by
 intro c hc a w hs hr
 cases c
 case region id ops dr =>
  cases dr with
  | false => simp [cC] at hc
  | true =>
   simp only [cC] at hc
   split at hc
   case isFalse => simp at hc
   rename_i hcond
   simp only [Bool.and_eq_true] at hcond
   obtain ⟨⟨⟨hap, hback⟩, hsel⟩, hhoist⟩ := hcond
   simp only [Option.map_eq_some_iff] at hc
   obtain ⟨l', hcis, hmk⟩ := hc
   obtain ⟨rfl, rfl⟩ := mkQ_quiet hmk
   obtain ⟨hhead, hkle⟩ := headOf_spec ops (hoists ops) ops.size (Nat.le_refl _)
   change headB ops ((hoists ops).filter (· < quietAt ops)) (quietAt ops) = true at hhead
   change quietAt ops <= ops.size at hkle
   generalize hk : quietAt ops = k at *
   generalize hH : (hoists ops).filter (· < k) = Hs at *
   have hHk : ∀ i ∈ Hs, i < k := fun i hi => by rw [<- hH] at hi; simpa using (List.mem_filter.1 hi).2
   have hsplit : List.range ops.size = List.range' 0 k ++ List.range' k (ops.size - k) := by
    rw [List.range_eq_range']
    have := List.range'_append (s := 0) (m := k) (n := ops.size - k) (step := 1)
    simp only [Nat.one_mul, Nat.zero_add] at this
    rw [this]
    congr 1
    omega
   rw [hsplit] at hcis
   obtain ⟨hc1, hc2⟩ := cIs_append hcis
   simp only [List.length_range'] at hc1 hc2
   have hlen : (l'.take k).length = k := by simpa using cIs_length hc1
   rw [hl] at hc1 hlen
   simp only [List.length_append, List.length_map] at hlen
   have hra : List.range' 0 k = List.range' 0 A.length ++ List.range' A.length al.length := by
    have h1 := List.range'_append (s := 0) (m := A.length) (n := al.length) (step := 1)
    simp only [Nat.one_mul, Nat.zero_add] at h1
    rw [h1]; congr 1; omega
   have hc1' := hc1
   rw [hra] at hc1'
   obtain ⟨hcA, hcR⟩ := cIs_append hc1'
   simp only [List.length_range', List.take_left', List.drop_left'] at hcA hcR
   obtain ⟨hla, hsA, hgA, hdA⟩ := hA.trace 0 a hcA hs
   simp only [Nat.zero_add, Nat.sub_zero] at hsA hgA hdA
   let vs : (Nat -> Nat) -> Nat -> Value := fun r i => if i < A.length then va.getD i undef else .pointer (some ⟨r i, 0, none⟩)
   have hvA : ∀ r i, i < A.length -> vs r i = va.getD i undef := fun r i hi => by simp only [vs]; rw [if_pos hi]
   have hvB : ∀ r i, ¬ i < A.length -> vs r i = .pointer (some ⟨r i, 0, none⟩) := fun r i hi => by simp only [vs]; rw [if_neg hi]
   have hrunA : ∀ r m, m <= A.length -> runA ops (vs r) 0 m a = runA ops (fun i => va.getD i undef) 0 m a := fun r m hm' =>
    foldl_ext' _ _ _ _ fun b j hj => by
     have := List.mem_range'.1 hj
     rw [hvA r j (by omega)]
   -- what stands at each place
   have hpi : ∀ i o, i < k -> ops[i]? = some o -> ∃ x, (A ++ al.map alPI)[i]? = some x /\ cOp P o = some x.o /\ dstOk n o.dst = true /\ o.dst = x.d /\ ((o.guard = none /\ x.g = none) ∨ ∃ j b s, o.guard = some (j, b) /\ (ops[j]?).bind (·.dst) = some s /\ x.g = some (s, b)) := by
    intro i o hi ho
    have hlt : i < (A ++ al.map alPI).length := by simp only [List.length_append, List.length_map]; omega
    have hx : (A ++ al.map alPI)[i]? = some (A ++ al.map alPI)[i] := List.getElem?_eq_getElem hlt
    have hci := cIs_at (List.range' 0 k) _ i i _ hc1 (by rw [List.getElem?_range' (by omega)]; simp) hx
    obtain ⟨o', ho', h1, h2, h3, h4⟩ := cI_spec hci
    obtain rfl : o = o' := by rw [ho] at ho'; exact Option.some.inj ho'
    exact ⟨_, hx, h1, h2, h3, h4⟩
   have hal : ∀ i o, i < k -> ¬ i < A.length -> ops[i]? = some o -> cOp P o = some (.al (al.getD (i - A.length) alD).2.1 (al.getD (i - A.length) alD).2.2) /\ dstOk n o.dst = true /\ o.dst = some (al.getD (i - A.length) alD).1 /\ o.guard = none := by
    intro i o hi hge ho
    obtain ⟨x, hx, h1, h2, h3, h4⟩ := hpi i o hi ho
    rw [List.getElem?_append_right (by omega), List.getElem?_map] at hx
    obtain ⟨y, hy, rfl⟩ := Option.map_eq_some_iff.1 hx
    have e : al.getD (i - A.length) alD = y := by simp [List.getD_eq_getElem?_getD, hy]
    rw [e]
    refine ⟨h1, h2, h3, ?_⟩
    rcases h4 with ⟨h4, _⟩ | ⟨_, _, _, _, _, h4⟩
    ·exact h4
    cases h4
   have hkA : k = A.length + al.length := by omega
   have hsat' : ∀ r, Sat n (bindA al ((List.range' A.length al.length).map r) T1) (runA ops (vs r) 0 k a) := by
    intro r
    have gen : ∀ (q : List AlOp) (p : Nat) (T' : TT), (∀ j, j < q.length -> p + j < k /\ ¬ p + j < A.length /\ al.getD (p + j - A.length) alD = q.getD j alD) -> Sat n T' (runA ops (vs r) 0 p a) -> Sat n (bindA q ((List.range' p q.length).map r) T') (runA ops (vs r) 0 (p + q.length) a) := by
     intro q
     induction q with
     | nil => intro p T' _ h; simpa [bindA] using h
     | cons x q ih =>
      intro p T' hq h
      obtain ⟨h1, h2, h3⟩ := hq 0 (by simp)
      rw [Nat.add_zero] at h1 h2 h3
      rw [List.getD_cons_zero] at h3
      have hpo : p < ops.size := by omega
      have ho : ops[p]? = some ops[p] := by simp [hpo]
      obtain ⟨_, hdk, hdd, _⟩ := hal p _ h1 h2 ho
      rw [h3] at hdd
      have e2 : runA ops (vs r) 0 (p + 1) a = (runA ops (vs r) 0 p a).put (some x.1) (.pointer (some ⟨r p, 0, none⟩)) := by
       have : dstAt ops p = some x.1 := by simp [dstAt, ho, hdd]
       rw [<- hvB r p h2, <- this]
       simp [runA, List.range'_concat]
      simp only [List.length_cons, List.range'_succ, List.map_cons, bindA]
      rw [show p + (q.length + 1) = p + 1 + q.length by omega]
      refine ih (p + 1) _ (fun j hj => ?_) ?_
      ·obtain ⟨g1, g2, g3⟩ := hq (j + 1) (by simp; omega)
       rw [show p + (j + 1) = p + 1 + j by omega, List.getD_cons_succ] at *
       exact ⟨g1, g2, g3⟩
      rw [e2]; exact h.put (by rw [<- hdd]; exact hdk) _
    rw [hkA]
    refine gen al A.length T1 (fun j hj => ⟨by omega, by omega, by rw [show A.length + j - A.length = j by omega]⟩) ?_
    rw [hrunA r _ (Nat.le_refl _)]; exact hsA
   have hgives : ∀ r S', Over S S' -> ∀ i, i < A.length -> GivesAt P w0 S' ops i (vs r i) (runA ops (vs r) 0 i a) := by
    intro r S' hS' i h
    have := hgA i h S' hS'
    rw [hvA r i h, hrunA r i (by omega)]
    exact this
   have hdst : ∀ i o, i < k -> ops[i]? = some o -> dstOk n o.dst = true := fun i o hi ho => by obtain ⟨x, _, _, h2, _⟩ := hpi i o hi ho; exact h2
   let ST : (Nat -> Nat) -> List Nat -> SS := fun r is => is.map (fun j => alSeg (al.getD (j - A.length) alD) (r j)) ++ S
   have hST : ∀ r is, Over S (ST r is) := fun r is q hq => by simp only [ST, List.flatten_append, List.mem_append]; exact .inr hq
   have hfin : ∀ r is w', is.Nodup -> (∀ j, j ∈ is ↔ A.length <= j /\ j < k) -> Rep w0 (ST r is) w' -> Rep w0 (segA al ((List.range' A.length al.length).map r) ++ S) w' := by
    intro r is w' hnd hmem hr'
    have hperm : (List.range' A.length al.length).Perm is := (List.perm_ext_iff_of_nodup List.nodup_range' hnd).2 fun j => by
     rw [hmem, List.mem_range'_1]; omega
    rw [segA_eq]
    have hp2 : ((List.range' A.length al.length).map (fun j => alSeg (al.getD (j - A.length) alD) (r j)) ++ S).Perm (ST r is) := (hperm.map _).append_right S
    refine hr'.sub (fun q hq => ?_) ?_
    ·exact (hp2.flatten.mem_iff).1 hq
    exact ((hp2.flatten.map Prod.fst).nodup_iff).2 hr'.nodup
   -- ordered pairs
   have hpair : ∀ i j, i < j -> j < ops.size -> ∀ oi oj, ops[i]? = some oi -> ops[j]? = some oj -> behind (reach ops) j i = true ∨ oi.apart ops oj = true := by
    intro i j hij hj oi oj hoi hoj
    have := List.all_eq_true.1 (List.all_eq_true.1 hap j (List.mem_range.2 hj)) i (List.mem_range.2 hij)
    simpa [hoi, hoj] using this
   have htail : ∀ t i, k <= t -> t < ops.size -> i < t -> i ∉ Hs -> behind (reach ops) t i = true := by
    intro t i hkt ht hi hnH
    have := List.all_eq_true.1 hhead t (List.mem_range.2 ht)
    simp only [Bool.or_eq_true, decide_eq_true_eq] at this
    rcases this with h | h
    ·omega
    have := List.all_eq_true.1 h i (List.mem_range.2 hi)
    simpa [hnH] using this
   have hreadyX : ∀ (listed : Array Bool) i, (∀ j o, ops[j]? = some o -> listed.getD j true = true -> ∀ e ∈ o.after, Region.binds .any e = true -> listed.getD e.on true = true) -> i ∈ Region.ready .any ops listed ->
     ∀ j, j < ops.size -> behind (reach ops) i j = true -> j ≠ i -> listed.getD j true = true := by
    intro listed i hcl hi j hj hb hne
    obtain ⟨hun, o, ho, hall⟩ := mem_ready.1 hi
    have hX : Closed ops (fun x => listed.getD x true = true ∨ x = i) := by
     rintro x ox hox (hx | rfl) e he hbd
     ·exact .inl (hcl x ox hox hx e he hbd)
     obtain rfl : o = ox := by rw [ho] at hox; exact Option.some.inj hox
     have := hall e he hbd
     left
     cases hlt : listed[e.on]? with
     | none => simp [hlt] at this
     | some b => simpa [hlt] using this
    rcases behind_spec hX (Array.getElem?_eq_some_iff.1 ho).1 hb (.inr rfl) with h | h
    ·exact h
    exact absurd h hne
   have horder : ∀ (listed : Array Bool) i o, (∀ j o, ops[j]? = some o -> listed.getD j true = true -> ∀ e ∈ o.after, Region.binds .any e = true -> listed.getD e.on true = true) -> i ∈ Region.ready .any ops listed -> ops[i]? = some o -> i < k ->
     ∀ x, (x ∈ o.looksAt ops ∨ o.dst = some x) -> ∀ j, j < k -> j ≠ i -> dstAt ops j = some x -> decide (j < i) = listed.getD j true := by
    intro listed i o hcl hi ho hik x hx j hj hne hdj
    obtain ⟨hun, o', ho', hpre⟩ := mem_ready.1 hi
    have hilt : i < ops.size := (Array.getElem?_eq_some_iff.1 ho).1
    have hjlt : j < ops.size := by omega
    have hoj : ops[j]? = some ops[j] := by simp [hjlt]
    have hdj' : ops[j].dst = some x := by simpa [dstAt, hoj] using hdj
    rcases Nat.lt_or_gt_of_ne hne with h | h
    ·rcases hpair j i h hilt _ _ hoj ho with hb' | hap'
     ·rw [hreadyX listed i hcl hi j hjlt hb' hne]
      simp [h]
     obtain ⟨e1, e2, e3⟩ := Oper.apart_spec hap'
     rcases hx with hx | hx
     ·exact absurd hx (e1 x hdj')
     exact absurd hx (e2 x hdj')
    rcases hpair i j h hjlt _ _ ho hoj with hb' | hap'
    ·have hnl : listed.getD j true = false := by
      cases hlj : listed.getD j true with
      | false => rfl
      | true =>
       exfalso
       have hX : Closed ops (fun x => listed.getD x true = true) := fun x ox hox hx e he hbd => hcl x ox hox hx e he hbd
       have := behind_spec hX hjlt hb' hlj
       rw [hun] at this
       cases this
     rw [hnl]
     simp; omega
    obtain ⟨e1, e2, e3⟩ := Oper.apart_spec hap'
    rcases hx with hx | hx
    ·exact absurd hx (e3 x hdj')
    exact absurd hdj' (e2 x hx)
   have hgetset : ∀ (listed : Array Bool) i, listed.size = ops.size -> i < ops.size -> (listed.setIfInBounds i true).getD i true = true := by
    intro listed i h1 h2
    have : i < listed.size := by omega
    simp [this]
   have hput : ∀ (u : Nat -> Nat) (listed : Array Bool) i o, listed.size = ops.size -> (∀ j o, ops[j]? = some o -> listed.getD j true = true -> ∀ e ∈ o.after, Region.binds .any e = true -> listed.getD e.on true = true) -> i ∈ Region.ready .any ops listed -> ops[i]? = some o -> i < k ->
     (foldF ops (vs u) (fun j => listed.getD j true) k a).put o.dst (vs u i) = foldF ops (vs u) (fun j => (listed.setIfInBounds i true).getD j true) k a := by
    intro u listed i o hsz hcl hi ho hik
    have hilt : i < ops.size := (Array.getElem?_eq_some_iff.1 ho).1
    have hdo : dstOk n o.dst = true := hdst i o hik ho
    have hda : dstAt ops i = o.dst := by simp [dstAt, ho]
    have hgi := hgetset listed i hsz hilt
    have hgj : ∀ j, j ≠ i -> (listed.setIfInBounds i true).getD j true = listed.getD j true := fun j hj => getD_set_ne true (Ne.symm hj)
    have szs : ∀ f, (foldF ops (vs u) f k a).tmps.size = a.tmps.size := fun f => (foldF_size ops (vs u) f k a).1
    have dfs : ∀ f, (foldF ops (vs u) f k a).defers = a.defers := fun f => (foldF_size ops (vs u) f k a).2
    refine act_ext ?_ ?_ fun x => ?_
    ·cases o.dst <;> simp [Act.put, szs]
    ·cases o.dst <;> simp [Act.put, dfs]
    by_cases hx : o.dst = some x
    ·have e1 : (foldF ops (vs u) (fun j => (listed.setIfInBounds i true).getD j true) k a).tmps[x]? = (foldF ops (vs u) (fun j => decide (j < i + 1)) k a).tmps[x]? := by
      refine foldF_agree ops (vs u) _ _ k a x fun j hj hdj => ?_
      by_cases e : j = i
      ·subst e; rw [hgi]; simp
      rw [hgj j e, <- horder listed i o hcl hi ho hik x (.inr hx) j hj e hdj]
      by_cases h : j < i
      ·have : j < i + 1 := by omega
       simp [h, this]
      have : ¬ j < i + 1 := by omega
      simp [h, this]
     rw [e1, foldF_runA ops (vs u) (i + 1) k a (by omega)]
     have e2 : runA ops (vs u) 0 (i + 1) a = (runA ops (vs u) 0 i a).put (dstAt ops i) (vs u i) := by
      simp [runA, List.range'_concat]
     rw [e2, hda, hx]
     simp only [Act.put]
     have hxn : x < a.tmps.size := by rw [hs.size]; simpa [dstOk, hx] using hdo
     have hsz1 : (runA ops (vs u) 0 i a).tmps.size = a.tmps.size := by rw [<- foldF_runA ops (vs u) i k a (by omega)]; exact szs _
     rw [Array.getElem?_setIfInBounds_self_of_lt (by rw [szs]; exact hxn), Array.getElem?_setIfInBounds_self_of_lt (by rw [hsz1]; exact hxn)]
    have e1 : (foldF ops (vs u) (fun j => (listed.setIfInBounds i true).getD j true) k a).tmps[x]? = (foldF ops (vs u) (fun j => listed.getD j true) k a).tmps[x]? := by
     refine foldF_agree ops (vs u) _ _ k a x fun j hj hdj => ?_
     by_cases e : j = i
     ·subst e; rw [hda] at hdj; exact absurd hdj hx
     exact hgj j e
    rw [e1]
    cases hd : o.dst with
    | none => rfl
    | some y =>
     have : y ≠ x := fun e => hx (by rw [hd, e])
     simp [Act.put, Array.getElem?_setIfInBounds_ne this]
   have hagree : ∀ (u : Nat -> Nat) (listed : Array Bool) i o, (∀ j o, ops[j]? = some o -> listed.getD j true = true -> ∀ e ∈ o.after, Region.binds .any e = true -> listed.getD e.on true = true) -> i ∈ Region.ready .any ops listed -> ops[i]? = some o -> i < k ->
     ∀ x, x ∈ o.looksAt ops -> (runA ops (vs u) 0 i a).tmps[x]? = (foldF ops (vs u) (fun j => listed.getD j true) k a).tmps[x]? := by
    intro u listed i o hcl hi ho hik x hx
    rw [<- foldF_runA ops (vs u) i k a (by omega)]
    refine foldF_agree ops (vs u) _ _ k a x fun j hj hdj => ?_
    by_cases e : j = i
    ·subst e
     have hun := (mem_ready.1 hi).1
     rw [hun]; simp
    exact horder listed i o hcl hi ho hik x (.inl hx) j hj e hdj
   have hclset : ∀ (listed : Array Bool) i o, listed.size = ops.size -> (∀ j o, ops[j]? = some o -> listed.getD j true = true -> ∀ e ∈ o.after, Region.binds .any e = true -> listed.getD e.on true = true) -> i ∈ Region.ready .any ops listed -> ops[i]? = some o ->
     (∀ j o, ops[j]? = some o -> (listed.setIfInBounds i true).getD j true = true -> ∀ e ∈ o.after, Region.binds .any e = true -> (listed.setIfInBounds i true).getD e.on true = true) := by
    intro listed i o hsz hcl hi ho j oj hoj hj e he hbd
    have hilt : i < ops.size := (Array.getElem?_eq_some_iff.1 ho).1
    obtain ⟨hun, o', ho', hpre⟩ := mem_ready.1 hi
    obtain rfl : o = o' := by rw [ho] at ho'; exact Option.some.inj ho'
    have hgj : ∀ j, j ≠ i -> (listed.setIfInBounds i true).getD j true = listed.getD j true := fun j hj => getD_set_ne true (Ne.symm hj)
    by_cases e1 : e.on = i
    ·rw [e1]; exact hgetset listed i hsz hilt
    rw [hgj _ e1]
    by_cases e2 : j = i
    ·subst e2
     obtain rfl : o = oj := by rw [ho] at hoj; exact Option.some.inj hoj
     have := hpre e he hbd
     cases hlt : listed[e.on]? with
     | none => simp [hlt] at this
     | some bb => simpa [hlt] using this
    rw [hgj _ e2] at hj
    exact hcl j oj hoj hj e he hbd
   have hcntset : ∀ (listed : Array Bool) i, listed.size = ops.size -> i ∈ Region.ready .any ops listed -> i < ops.size -> cnt (fun j => listed.getD j true) ops.size = cnt (fun j => (listed.setIfInBounds i true).getD j true) ops.size + 1 := by
    intro listed i hsz hi hilt
    have := cnt_set (f := fun j => listed.getD j true) (g := fun j => (listed.setIfInBounds i true).getD j true) (i := i) (mem_ready.1 hi).1 (hgetset listed i hsz hilt) (fun j hj => getD_set_ne true (Ne.symm hj)) ops.size
    simpa [hilt] using this
   refine wp_mono (Q := fun e a' w' => e = .normal /\ ∃ T' S', Sat n T' a' /\ Rep w0 S' w' /\ Q e T' S') ?_ (fun e a' w' h => h.2)
   refine wp_region_any hm ?_
   have key : ∀ (fuel : Nat) (listed : Array Bool) (b : Act) (w' : World), listed.size = ops.size ->
     (∀ j o, ops[j]? = some o -> listed.getD j true = true -> ∀ e ∈ o.after, Region.binds .any e = true -> listed.getD e.on true = true) -> (∀ i ∈ Hs, listed.getD i true = true) ->
     (∀ t, k <= t -> t < ops.size -> listed.getD t true = false) -> (∃ (u : Nat -> Nat) (is : List Nat), (is.Nodup /\ ∀ j, j ∈ is ↔ A.length <= j /\ j < k /\ listed.getD j true = true) /\ b = foldF ops (vs u) (fun j => listed.getD j true) k a /\ Rep w0 (ST u is) w') -> cnt (fun j => listed.getD j true) ops.size = fuel ->
     wpAny P .any ops (fun e a' w' => e = .normal /\ ∃ T' S', Sat n T' a' /\ Rep w0 S' w' /\ Q e T' S') fuel listed b w' := by
    intro fuel
    induction fuel with
    | zero =>
     intro listed b w' hsz hcl hHl htl ⟨u, is, hph, hb, hr'⟩ hcnt
     have hall : ∀ j, j < ops.size -> listed.getD j true = true := by
      intro j hj
      cases hx : listed.getD j true with
      | true => rfl
      | false =>
       exfalso
       have : ∀ m, j < m -> 0 < cnt (fun j => listed.getD j true) m := by
        intro m
        induction m with
        | zero => intro h; omega
        | succ m ih =>
         intro h
         simp only [cnt]
         by_cases e : j = m
         ·subst e; simp [hx]
         have := ih (by omega); omega
       have := this ops.size hj
       omega
     have hKx := hfin u is w' hph.1 (fun j => by rw [hph.2]; exact ⟨fun h => ⟨h.1, h.2.1⟩, fun h => ⟨h.1, h.2, hall j (by omega)⟩⟩) hr'
     have hkeq : k = ops.size := by
      rcases Nat.lt_or_ge k ops.size with h | h
      ·have h1 := htl k (Nat.le_refl _) h
       have h2 := hall k h
       rw [h1] at h2
       cases h2
      omega
     have hbt : b = runA ops (vs u) 0 k a := by
      rw [hb, <- foldF_runA ops (vs u) k k a (Nat.le_refl _)]
      unfold foldF
      refine foldl_ext' _ _ _ _ fun b j hj => ?_
      have hj' := List.mem_range.1 hj
      simp [hall j (by omega), hj']
     refine ⟨?_, ?_⟩
     ·unfold Region.ready
      rw [List.filter_eq_nil_iff]
      intro i hi
      rw [hall i (List.mem_range.1 hi)]
      simp
     have := h4 _ (by simp) ops [] b w' (fun e a' w' => e = .normal /\ ∃ T' S', Sat n T' a' /\ Rep w0 S' w' /\ Q e T' S') (by
      rw [hkeq, Nat.sub_self] at hc2
      rw [hkeq]
      simpa using hc2) (hbt ▸ hsat' u) hKx (fun a' w' T' S' h3 h4 h5 => ⟨rfl, T', S', h3, h4, h5⟩)
     simpa [wpOps] using this
    | succ fuel ih =>
     intro listed b w' hsz hcl hHl htl ⟨u, is, hph, hb, hr'⟩ hcnt
     by_cases hall : ∀ j, j < k -> listed.getD j true = true
     ·-- the head is done
      have hKx := hfin u is w' hph.1 (fun j => by rw [hph.2]; exact ⟨fun h => ⟨h.1, h.2.1⟩, fun h => ⟨h.1, h.2, hall j h.2⟩⟩) hr'
      have hexact : ∀ j, j < ops.size -> listed.getD j true = decide (j < k) := by
       intro j hj
       by_cases h : j < k
       ·rw [hall j h]; simp [h]
       rw [htl j (by omega) hj]; simp [h]
      have hbt : b = runA ops (vs u) 0 k a := by
       rw [hb, <- foldF_runA ops (vs u) k k a (Nat.le_refl _)]
       unfold foldF
       refine foldl_ext' _ _ _ _ fun b j hj => ?_
       have hj' := List.mem_range.1 hj
       simp [hall j hj', hj']
      have hfuel : fuel + 1 = ops.size - k := by
       rw [<- hcnt, cnt_congr ops.size hexact, cnt_below]
      rw [hfuel]
      have htl2 : ∀ listed' : Array Bool, ∀ t s', k <= s' -> s' < t -> t < ops.size -> (∀ j, j < ops.size -> listed'.getD j true = decide (j < s')) -> listed'.size = ops.size -> t ∉ Region.ready .any ops listed' := by
       intro l'' t s' h1 h2 h3 h4 h5 hmem
       have := hreadyX l'' t (fun j o ho hj e he hbd => by
        have hlt := backB_spec hback ho he hbd
        have hjs : j < ops.size := (Array.getElem?_eq_some_iff.1 ho).1
        rw [h4 j hjs] at hj
        rw [h4 e.on (by omega)]
        simp only [decide_eq_true_eq] at hj ⊢
        omega) hmem s' (by omega) (htail t s' (by omega) h3 h2 (fun hm' => by have := hHk s' hm'; omega)) (by omega)
       rw [h4 s' (by omega)] at this
       simp at this
      refine wpAny_tail hback (ops.size - k) k listed b w' (by omega) hsz hexact (fun t i h1 h2 h3 h4 h5 => htl2 listed t k (Nat.le_refl _) h1 h2 hexact hsz) htl2 ?_
      exact h4 _ (by simp) ops _ b w' _ hc2 (hbt ▸ hsat' u) hKx (fun a' w' T' S' h3 h4 h5 => ⟨rfl, T', S', h3, h4, h5⟩)
     refine ⟨fun h0 => ?_, fun i hi => ?_⟩
     ·exfalso
      obtain ⟨i, hi1, hi2, hi3⟩ := cnt_pos ops.size (by rw [hcnt]; omega : 0 < cnt (fun j => listed.getD j true) ops.size)
      have : i ∈ Region.ready .any ops listed := by
       rw [mem_ready]
       refine ⟨hi2, ops[i], by simp [hi1], fun e he hbd => ?_⟩
       have hlt := backB_spec hback (show ops[i]? = some ops[i] by simp [hi1]) he hbd
       have h3 := hi3 e.on hlt
       have : e.on < listed.size := by omega
       simpa [this] using h3
      rw [h0] at this
      simp at this
     have hmem := mem_ready.1 hi
     obtain ⟨hun, o, ho, hpre⟩ := hmem
     have hilt : i < ops.size := (Array.getElem?_eq_some_iff.1 ho).1
     have hik : i < k := by
      rcases Nat.lt_or_ge i k with h | h
      ·exact h
      exfalso
      refine hall fun j hj => ?_
      by_cases hjH : j ∈ Hs
      ·exact hHl j hjH
      exact hreadyX listed i hcl hi j (by omega) (htail i j h hilt (by omega) hjH) (by omega)
     have hdo : dstOk n o.dst = true := hdst i o hik ho
     have hagree' := hagree u listed i o hcl hi ho hik
     rw [<- hb] at hagree'
     have hev : execOp (runA ops (vs u) 0 i a).eval o = execOp b.eval o :=
      execOp_congr o (fun cs bb hh => Region.noSelect_spec hsel i o cs bb ho hh) fun x hx => eval_agree fun t ht => hagree' t (looks_op (ht ▸ hx))
     have hwan := wanted_agree (ops := ops) (o := o) (a := runA ops (vs u) 0 i a) (b := b) hagree'
     have hgj : ∀ j, j ≠ i -> (listed.setIfInBounds i true).getD j true = listed.getD j true := fun j hj => getD_set_ne true (Ne.symm hj)
     have hnext : ∀ (u2 : Nat -> Nat) (is2 : List Nat) w'' b2, (is2.Nodup /\ ∀ j, j ∈ is2 ↔ A.length <= j /\ j < k /\ (listed.setIfInBounds i true).getD j true = true) -> b2 = foldF ops (vs u2) (fun j => (listed.setIfInBounds i true).getD j true) k a -> Rep w0 (ST u2 is2) w'' -> wpAny P .any ops (fun e a' w' => e = .normal /\ ∃ T' S', Sat n T' a' /\ Rep w0 S' w' /\ Q e T' S') fuel (listed.setIfInBounds i true) b2 w'' := by
      intro u2 is2 w'' b2 hp2 hb2 hr''
      refine ih _ _ w'' (by simpa using hsz) (hclset listed i o hsz hcl hi ho) ?_ ?_ ⟨u2, is2, hp2, hb2, hr''⟩ ?_
      ·intro j hj
       by_cases e : j = i
       ·subst e; exact hgetset listed j hsz hilt
       rw [hgj j e]; exact hHl j hj
      ·intro t h3 h4'
       rw [hgj t (by omega)]
       exact htl t h3 h4'
      have := hcntset listed i hsz hi hilt
      omega
     have hsz1 : (runA ops (vs u) 0 i a).tmps.size = n := by rw [<- foldF_runA ops (vs u) i k a (by omega), (foldF_size ops (vs u) _ k a).1, hs.size]
     have hsz2 : b.tmps.size = n := by rw [hb, (foldF_size ops (vs u) _ k a).1, hs.size]
     have hdf : (runA ops (vs u) 0 i a).defers = [] := by rw [<- foldF_runA ops (vs u) i k a (by omega), (foldF_size ops (vs u) _ k a).2, hs.defers]
     have hputu := fun u2 => hput u2 listed i o hsz hcl hi ho hik
     unfold wpOp
     simp only [ho]
     by_cases hip : ¬ i < A.length
     ·-- a fresh cell
      obtain ⟨hco, hdk, hdd, hgn⟩ := hal i o hik hip ho
      have hwt : Region.wanted o (yielded ops b.tmps) = true := by simp [Region.wanted, hgn]
      rw [if_pos hwt]
      left
      have hsb : Sat n [] b := ⟨hsz2, by rw [hb, (foldF_size ops (vs u) _ k a).2, hs.defers], fun i v hv => by simp [look] at hv⟩
      refine Oper.wp_mono ?_ (OW.al (T := []) (S := ST u is) o b w' _ hco hsb hr')
      rintro b' w'' ⟨v2, S2, rfl, hr2, r0, rfl, rfl⟩
      have hni : i ∉ is := fun h => by have := ((hph.2 i).1 h).2.2; rw [hun] at this; cases this
      have hgi : (listed.setIfInBounds i true).getD i true = true := hgetset listed i hsz hilt
      refine hnext (fun j => if j = i then r0 else u j) (i :: is) w'' _ ⟨List.nodup_cons.2 ⟨hni, hph.1⟩, fun j => ?_⟩ ?_ ?_
      ·by_cases e : j = i
       ·subst e; simp only [List.mem_cons, true_or, hgi, and_true, true_iff]; omega
       rw [hgj j e, List.mem_cons, <- hph.2]; simp [e]
      ·have h7 := hputu (fun j => if j = i then r0 else u j)
       have h8 : vs (fun j => if j = i then r0 else u j) i = .pointer (some ⟨r0, 0, none⟩) := by
        have := hvB (fun j => if j = i then r0 else u j) i hip
        simpa using this
       have h9 : (foldF ops (vs fun j => if j = i then r0 else u j) (fun j => listed.getD j true) k a).put o.dst (.pointer (some ⟨r0, 0, none⟩)) = foldF ops (vs fun j => if j = i then r0 else u j) (fun j => (listed.setIfInBounds i true).getD j true) k a := by
        rw [<- h8]; exact h7
       rw [<- h9, hb]
       congr 1
       unfold foldF
       refine foldl_ext' _ _ _ _ fun b j hj => ?_
       by_cases hjl : listed.getD j true = true
       ·have hjp : j ≠ i := fun e => by rw [e, hun] at hjl; cases hjl
        have : vs u j = vs (fun j => if j = i then r0 else u j) j := by
         simp only [vs]; rw [if_neg hjp]
        rw [this]
       simp [hjl]
      have e : ST (fun j => if j = i then r0 else u j) (i :: is) = [(r0, .cells (al.getD (i - A.length) alD).2.2 (al.getD (i - A.length) alD).2.1 (al.getD (i - A.length) alD).2.2.length)] :: ST u is := by
       simp only [ST, List.map_cons, List.cons_append, if_true]
       congr 2
       apply List.map_congr_left
       intro j hj
       rw [if_neg (fun (e : j = i) => hni (e ▸ hj))]
      rw [e]; exact hr2
     have hip' : i < A.length := by omega
     have hph2 : is.Nodup /\ ∀ j, j ∈ is ↔ A.length <= j /\ j < k /\ (listed.setIfInBounds i true).getD j true = true := ⟨hph.1, fun j => by
      rw [hph.2]
      by_cases e : j = i
      ·subst e; constructor <;> (intro h; omega)
      rw [hgj j e]⟩
     rcases hgives u _ (hST u is) i hip' o ho with ⟨hw1, hw2⟩ | ⟨hw1, hw2⟩
     ·rw [hwan] at hw1
      rw [if_pos hw1]
      left
      refine Oper.wp_mono ?_ (wp_transfer hev (by rw [hsz1, hsz2]) (by rw [hsz1]; exact hdo) hdf (hw2 w' hr'))
      rintro b' w'' ⟨rfl, hr''⟩
      exact hnext u is w'' _ hph2 (by rw [hb]; exact hputu u) hr''
     rw [hwan] at hw1
     rw [hw1]
     simp only [Bool.false_eq_true, if_false]
     have h9 := hputu u
     rw [hw2] at h9
     exact hnext u is w' _ hph2 (by rw [hb]; exact h9) hr'
   -- the moves first
   let r0 : Nat -> Nat := fun _ => 0
   have phase0 : ∀ (Hr : List Nat) (listed : Array Bool) (b : Act) (w' : World), hoistB ops Hr listed = true -> (∀ i ∈ Hr, i < k) -> listed.size = ops.size ->
     (∀ j o, ops[j]? = some o -> listed.getD j true = true -> ∀ e ∈ o.after, Region.binds .any e = true -> listed.getD e.on true = true) -> (∀ i ∈ Hs, listed.getD i true = true ∨ i ∈ Hr) ->
     (∀ t, k <= t -> t < ops.size -> listed.getD t true = false) -> (∀ j, A.length <= j -> j < k -> listed.getD j true = false) -> b = foldF ops (vs r0) (fun j => listed.getD j true) k a -> Rep w0 (ST r0 []) w' ->
     wpAny P .any ops (fun e a' w' => e = .normal /\ ∃ T' S', Sat n T' a' /\ Rep w0 S' w' /\ Q e T' S') (cnt (fun j => listed.getD j true) ops.size) listed b w' := by
    intro Hr
    induction Hr with
    | nil =>
     intro listed b w' _ _ hsz hcl hHl htl hnp hb hr'
     exact key _ listed b w' hsz hcl (fun i hi => (hHl i hi).resolve_right (by simp)) htl ⟨r0, [], ⟨List.nodup_nil, fun j => by simp only [List.not_mem_nil, false_iff]; rintro ⟨h1, h2, h3⟩; rw [hnp j h1 h2] at h3; cases h3⟩, hb, hr'⟩ rfl
    | cons i Hr ih =>
     intro listed b w' hh hlt hsz hcl hHl htl hnp hb hr'
     simp only [hoistB, Bool.and_eq_true] at hh
     obtain ⟨⟨⟨hho, hfree⟩, hready⟩, hrest⟩ := hh
     have hi : i ∈ Region.ready .any ops listed := by simpa using hready
     obtain ⟨hun, o, ho, hpre⟩ := mem_ready.1 hi
     have hilt : i < ops.size := (Array.getElem?_eq_some_iff.1 ho).1
     have hik : i < k := hlt i (by simp)
     have hgj : ∀ j, j ≠ i -> (listed.setIfInBounds i true).getD j true = listed.getD j true := fun j hj => getD_set_ne true (Ne.symm hj)
     rw [hcntset listed i hsz hi hilt]
     simp only [hoistable?, ho, hoistable, Bool.and_eq_true] at hho
     obtain ⟨hgn, hmv⟩ := hho
     have hgn' : o.guard = none := by simpa using hgn
     have hwant : ∀ t : Array Value, Region.wanted o (yielded ops t) = true := fun t => by simp [Region.wanted, hgn']
     have hagree' := hagree r0 listed i o hcl hi ho hik
     rw [<- hb] at hagree'
     have hdo : dstOk n o.dst = true := hdst i o hik ho
     have hsz1 : (runA ops (vs r0) 0 i a).tmps.size = n := by rw [<- foldF_runA ops (vs r0) i k a (by omega), (foldF_size ops (vs r0) _ k a).1, hs.size]
     have hmove : ∃ x, (o.op = .move x ∨ o.op = .assign x) := by
      cases hop : o.op <;> rw [hop] at hmv <;> simp at hmv
      ·exact ⟨_, .inl rfl⟩
      exact ⟨_, .inr rfl⟩
     obtain ⟨x, hx⟩ := hmove
     have hip : i < A.length := by
      rcases Nat.lt_or_ge i A.length with h | h
      ·exact h
      exfalso
      have h6 := (hal i o hik (by omega) ho).1
      have h5 : cOp P o = some (.mov (cV x)) := by unfold cOp cOp0; rcases hx with hx | hx <;> simp [hx]
      rw [h5] at h6
      cases h6
     have hexec : ∀ ρ, execOp ρ o = pure (.value (ρ x)) := by
      intro ρ
      rcases hx with hx | hx <;> simp [execOp, hx]
     have hval : b.eval x = vs r0 i ∨ o.dst = none := by
      rcases hgives r0 _ (hST r0 []) i hip o ho with ⟨_, hw2⟩ | ⟨hw1, _⟩
      ·have := hw2 w' hr'
       unfold Oper.wp at this
       rw [hexec] at this
       simp only [Sem.run_pure, Oper.upon] at this
       have hev : (runA ops (vs r0) 0 i a).eval x = b.eval x := eval_agree fun t ht => hagree' t (looks_op (by rcases hx with hx | hx <;> simp [hx, Op.operands, ht]))
       cases hd : o.dst with
       | none => exact .inr rfl
       | some d =>
        left
        rw [hd] at this hdo
        have h3 := congrArg (fun c : Act => c.tmps[d]?) this.1
        have hdn : d < n := by simpa [dstOk] using hdo
        simp [Act.put, hsz1, hdn] at h3
        rw [<- hev]; exact h3
      rw [hwant] at hw1; cases hw1
     refine wpAny_take (oi := o) (v := b.eval x) ho hsel hfree hready (fun c a w hq => by simp at hq) (.inl ⟨hwant _, fun w => by rw [hexec]; rfl⟩) ?_
     have hbput : b.put o.dst (b.eval x) = foldF ops (vs r0) (fun j => (listed.setIfInBounds i true).getD j true) k a := by
      rw [<- hput r0 listed i o hsz hcl hi ho hik, <- hb]
      rcases hval with h | h
      ·rw [h]
      rw [h]; rfl
     rw [hbput]
     refine ih _ _ w' hrest (fun j hj => hlt j (by simp [hj])) (by simpa using hsz) (hclset listed i o hsz hcl hi ho) ?_ ?_ (fun j h1 h2 => by rw [hgj _ (by omega)]; exact hnp j h1 h2) rfl hr'
     ·intro j hj
      by_cases e : j = i
      ·subst e; exact .inl (hgetset listed j hsz hilt)
      rw [hgj j e]
      rcases hHl j hj with h | h
      ·exact .inl h
      rcases List.mem_cons.1 h with h | h
      ·exact absurd h e
      exact .inr h
     intro t h3 h4
     rw [hgj t (by omega)]
     exact htl t h3 h4
   have hcnt0 : cnt (fun j => (Array.replicate ops.size false).getD j true) ops.size = ops.size := by
    rw [cnt_congr (g := fun j => decide (j < 0)) ops.size (fun j hj => by simp [hj]), cnt_below]
    omega
   have := phase0 Hs (Array.replicate ops.size false) a { w with drawn := w.drawn + 1 } hhoist hHk (by simp) ?_ (fun i hi => .inr hi) ?_ (fun j h1 h2 => by have : j < ops.size := (by omega); simp [this]) ?_ ?_
   ·rwa [hcnt0] at this
   ·intro j o ho hj
    exfalso
    have hlt : j < ops.size := (Array.getElem?_eq_some_iff.1 ho).1
    simp [hlt] at hj
   ·intro t _ ht
    simp [ht]
   ·have : ∀ j, j < k -> (Array.replicate ops.size false).getD j true = decide (j < 0) := by
     intro j hj
     have : j < ops.size := by omega
     simp [this]
    have h0 : foldF ops (vs r0) (fun j => (Array.replicate ops.size false).getD j true) k a = foldF ops (vs r0) (fun j => decide (j < 0)) k a := by
     unfold foldF
     refine foldl_ext' _ _ _ _ fun b j hj => ?_
     simp only [this j (List.mem_range.1 hj)]
    rw [h0, foldF_runA ops (vs r0) 0 k a (Nat.zero_le _)]
    rfl
   exact hr.same ((Below.refl _ w).drew) (fun _ _ => rfl)
 all_goals (first | (simp [cC] at hc; done) | (simp only [cC] at hc; split at hc <;> simp at hc; done))
theorem PW.quietAlK {k p : Nat} {l : List PI} {al : List AlOp} {Q : Exit -> TT -> SS -> Prop} (hm : P.follows .mixedOrders = true) (hl : (l.take k).drop p = al.map alPI)
  (h : QKs P w0 n S ((l.take k).take p) T (fun T1 => ∀ rs : List Nat, rs.length = al.length -> OL P w0 n (l.drop k) (bindA al rs T1) (segA al rs ++ S) (Q .normal))) : PW P w0 n (.quiet k l) T S Q := by
 obtain ⟨T1, va, h1, h2⟩ := h
 exact PW.quietAl (A := (l.take k).take p) hm (by rw [<- hl, List.take_append_drop]) h1 h2
end
end Go.SL

namespace Go.SL
open Go.RowKit Go.ChangeShapes
theorem map_eraseIdx {γ δ : Type} (h : γ -> δ) : ∀ (l : List γ) (i : Nat), (l.eraseIdx i).map h = (l.map h).eraseIdx i
 | [], i => by simp
 | a :: l, 0 => by simp
 | a :: l, i + 1 => by simp [map_eraseIdx h l i]
section plain
variable {α β γ : Type} [DecidableEq α]
def mgt (l : List (α × β)) (a : α) : Option β := (l.find? fun p => decide (a = p.1)).map (·.2)
def mpt : List (α × β) -> α -> β -> List (α × β)
 | [], a, b => [(a, b)]
 | p :: r, a, b => if a = p.1 then (a, b) :: r else p :: mpt r a b
def mdl (l : List (α × β)) (a : α) : List (α × β) := l.filter fun p => !decide (a = p.1)
def mks (l : List (α × β)) : List α := l.map (·.1)
theorem mgt_cons (p : α × β) (l : List (α × β)) (a : α) : mgt (p :: l) a = if a = p.1 then some p.2 else mgt l a := by
 unfold mgt
 rw [List.find?_cons]
 by_cases h : a = p.1
 ·simp [h]
 simp [h]
theorem mgt_nil (a : α) : mgt ([] : List (α × β)) a = none := rfl
theorem mgt_mpt (l : List (α × β)) (a c : α) (b : β) : mgt (mpt l a b) c = if c = a then some b else mgt l c := by
 induction l with
 | nil => simp only [mpt, mgt_cons, mgt_nil]
 | cons p l ih =>
  simp only [mpt]
  split
  ·rename_i h
   simp only [mgt_cons]
   subst h
   split <;> rfl
  rename_i h
  simp only [mgt_cons, ih]
  by_cases h1 : c = p.1
  ·subst h1
   rw [if_pos rfl, if_neg (fun e => h e.symm)]
   simp
  simp [h1]
theorem mgt_none {l : List (α × β)} {a : α} : mgt l a = none ↔ a ∉ mks l := by
 induction l with
 | nil => simp [mgt_nil, mks]
 | cons p l ih =>
  rw [mgt_cons]
  unfold mks at ih ⊢
  by_cases h : a = p.1
  ·simp [h]
  simp [h, ih]
theorem mgt_mem {l : List (α × β)} (hn : (mks l).Nodup) {a : α} {b : β} : mgt l a = some b ↔ (a, b) ∈ l := by
 induction l with
 | nil => simp [mgt_nil]
 | cons p l ih =>
  obtain ⟨c, d⟩ := p
  unfold mks at hn ih
  simp only [List.map_cons, List.nodup_cons] at hn
  rw [mgt_cons]
  simp only [List.mem_cons, Prod.mk.injEq]
  by_cases h : a = c
  ·subst h
   rw [if_pos rfl]
   constructor
   ·intro e; exact .inl ⟨rfl, (Option.some.inj e).symm⟩
   rintro (⟨_, e⟩ | e)
   ·rw [e]
   exact absurd (List.mem_map.2 ⟨_, e, rfl⟩) hn.1
  rw [if_neg h, ih hn.2]
  simp [h]
theorem mgt_some_mem {l : List (α × β)} {a : α} {b : β} (h : mgt l a = some b) : (a, b) ∈ l := by
 unfold mgt at h
 obtain ⟨p, hp, rfl⟩ := Option.map_eq_some_iff.1 h
 have h1 := List.find?_some hp
 have h2 := List.mem_of_find?_eq_some hp
 simp only [decide_eq_true_eq] at h1
 rw [h1]; exact h2
theorem mks_mpt (l : List (α × β)) (a : α) (b : β) : mks (mpt l a b) = if a ∈ mks l then mks l else mks l ++ [a] := by
 induction l with
 | nil => simp [mpt, mks]
 | cons p l ih =>
  simp only [mpt]
  unfold mks at ih ⊢
  by_cases h : a = p.1
  ·simp [h]
  simp only [h, if_false, List.map_cons, ih, List.mem_cons, false_or]
  split <;> simp
theorem mpt_nodup {l : List (α × β)} (h : (mks l).Nodup) (a : α) (b : β) : (mks (mpt l a b)).Nodup := by
 rw [mks_mpt]
 split
 ·exact h
 rename_i hn
 rw [List.nodup_append]
 exact ⟨h, by simp, by simp; rintro c hc rfl; exact hn hc⟩
theorem mdl_nodup {l : List (α × β)} (h : (mks l).Nodup) (a : α) : (mks (mdl l a)).Nodup := by
 unfold mks mdl at *
 exact h.sublist (List.filter_sublist.map _)
theorem mks_mdl (l : List (α × β)) (a : α) : mks (mdl l a) = (mks l).filter fun c => !decide (a = c) := by
 unfold mks mdl
 rw [List.filter_map]
 rfl
theorem mpt_new {l : List (α × β)} {a : α} (h : ∀ b, (a, b) ∉ l) (b : β) : mpt l a b = l ++ [(a, b)] := by
 induction l with
 | nil => rfl
 | cons p l ih =>
  simp only [mpt]
  rw [if_neg (fun e => h p.2 (by rw [e]; simp)), ih (fun b hb => h b (by simp [hb]))]
  rfl
theorem mpt_set {l : List (α × β)} (hn : (mks l).Nodup) {a : α} {c : β} {j : Nat} (h : l[j]? = some (a, c)) (b : β) : mpt l a b = l.set j (a, b) := by
 induction l generalizing j with
 | nil => simp at h
 | cons p l ih =>
  unfold mks at hn ih
  simp only [List.map_cons, List.nodup_cons] at hn
  cases j with
  | zero => simp at h; simp [mpt, h]
  | succ j =>
   simp at h
   have hne : a ≠ p.1 := fun e => hn.1 (by rw [<- e]; exact List.mem_map.2 ⟨_, List.mem_of_getElem? h, rfl⟩)
   simp only [mpt, if_neg hne, List.set_cons_succ, ih hn.2 h]
theorem mdl_new {l : List (α × β)} {a : α} (h : ∀ b, (a, b) ∉ l) : mdl l a = l := by
 unfold mdl
 rw [List.filter_eq_self]
 intro p hp
 simp only [Bool.not_eq_true', decide_eq_false_iff_not]
 intro e
 exact h p.2 (by rw [e]; exact hp)
end plain
section
variable {P : Program} {w0 : World} {n : Nat} {T : TT} {S : SS}
variable {α β : Type} [DecidableEq α] {f : α -> Value} {g : β -> Value} {kt et t : TypeId} {ok : α -> Prop}
def gmL (f : α -> Value) (g : β -> Value) (l : List (α × β)) : List (Value × Value) := l.map fun p => (f p.1, g p.2)
structure Keys (P : Program) (kt : TypeId) (f : α -> Value) (ok : α -> Prop) : Prop where
 law : WideMaps.KeyLaw P kt
 key : ∀ a, ok a -> ∃ l, keyOf P kt (f a) = some l
 inj : ∀ a b, f a = f b -> a = b
theorem mem_at {S : SS} {j b : Nat} {o : AO} (hk : S[j]? = some [(b, o)]) : (b, o) ∈ S.flatten := List.mem_flatten.2 ⟨_, List.mem_of_getElem? hk, List.mem_singleton.2 rfl⟩
theorem Rep.gmAt {w : World} {b : Nat} {es : List (Value × Value)} (h : Rep w0 S w) (hm : (b, AO.gm es) ∈ S.flatten) :
  w0.heap.size <= b /\ ∃ en clk, w.heap[b]? = some (.map en clk) /\ en.toList.map (fun e => (e.key, e.val)) = es /\ (en.toList.map (·.born)).Nodup /\ (∀ e ∈ en.toList, e.born < clk) /\ (en.toList.map (·.key)).Nodup := h.own _ hm
theorem gmL_nodup {en : Array MapEntry} {l : List (α × β)} (he : en.toList.map (fun e => (e.key, e.val)) = gmL f g l) (hn : (en.toList.map (·.key)).Nodup) : (mks l).Nodup := by
 have : en.toList.map (·.key) = (mks l).map f := by
  have := congrArg (List.map Prod.fst) he
  unfold gmL at this
  unfold mks
  simpa [Function.comp_def] using this
 rw [this] at hn
 unfold List.Nodup at hn ⊢
 rw [List.pairwise_map] at hn
 exact hn.imp fun h e => h (by rw [e])
theorem gmL_get {en : Array MapEntry} {l : List (α × β)} (he : en.toList.map (fun e => (e.key, e.val)) = gmL f g l) {j : Nat} {e : MapEntry} (h : en.toList[j]? = some e) : ∃ a b, l[j]? = some (a, b) /\ e.key = f a /\ e.val = g b := by
 have h1 : (en.toList.map (fun e => (e.key, e.val)))[j]? = some (e.key, e.val) := by simp [h]
 rw [he] at h1
 unfold gmL at h1
 rw [List.getElem?_map, Option.map_eq_some_iff] at h1
 obtain ⟨p, h1, h2⟩ := h1
 exact ⟨p.1, p.2, h1, (congrArg Prod.fst h2).symm, (congrArg Prod.snd h2).symm⟩
theorem Keys.find (K : Keys P kt f ok) {en : Array MapEntry} {l : List (α × β)} (hl : ∀ p ∈ l, ok p.1) (he : en.toList.map (fun e => (e.key, e.val)) = gmL f g l) (a : α) (ha : ok a) (w : World) :
  ((Instr.findKey kt (f a) en.toList).run P w = .ok none w /\ ∀ b, (a, b) ∉ l) ∨
  ∃ j e b, (Instr.findKey kt (f a) en.toList).run P w = .ok (some (j, e.val)) w /\ en.toList[j]? = some e /\ e.key = f a /\ e.val = g b /\ l[j]? = some (a, b) := by
 obtain ⟨lx, hx⟩ := K.key a ha
 have hall : ∀ e ∈ en.toList, ∃ l, keyOf P kt e.key = some l := by
  intro e hm
  obtain ⟨j, hj⟩ := List.getElem?_of_mem hm
  obtain ⟨a', _, hq, hk, _⟩ := gmL_get he hj
  rw [hk]
  exact K.key a' (hl _ (List.mem_of_getElem? hq))
 rcases K.law.find w hx en.toList hall with ⟨h1, h2⟩ | ⟨j, e, h1, h2, h3⟩
 ·refine .inl ⟨h1, fun b hb => ?_⟩
  have : (f a, g b) ∈ en.toList.map (fun e => (e.key, e.val)) := by rw [he]; exact List.mem_map.2 ⟨(a, b), hb, rfl⟩
  obtain ⟨e, hm, hk⟩ := List.mem_map.1 this
  exact h2 e hm (congrArg Prod.fst hk)
 obtain ⟨a', b, h4, h5, h6⟩ := gmL_get he h2
 obtain rfl := K.inj a' a (by rw [<- h5, h3])
 exact .inr ⟨j, e, b, h1, h2, h3, h6, h4⟩
theorem Yields.lenG {x : PV} {b : Nat} {l : List (α × β)} (hx : x.val T = some (.map (some b))) (hk : (b, AO.gm (gmL f g l)) ∈ S.flatten) : Yields P w0 n (.lenM x) T S (.int .i64 l.length) := by
 intro o a w hco hs hr
 obtain ⟨t, kt, vt, c, cl, ho, hca, hat, har, rfl, hu⟩ := cOp_spec P hco
 obtain ⟨_, en, clk, hw, he, _⟩ := hr.gmAt hk
 have hlen : en.size = l.length := by have := congrArg List.length he; simpa [gmL] using this
 simp [execOp, ho, resolve, hca, invoke, builtin, Builtin.len_, hat, har, hs.eval hx, run_underlying hu, goInt, getObj, Sem.run, hw, hlen]
theorem Yields.lookG {m k : Operand} {okc : Bool} {i : TypeInfo} {b : Nat} {l : List (α × β)} {a : α} {z : β} (hu : P.underlying t = some (.map kt et)) (hi : P.info? et = some i) (hz : i.zero = some (g z)) (K : Keys P kt f ok) (hl : ∀ p ∈ l, ok p.1) (ha : ok a)
  (hm : (cV m).val T = some (.map (some b))) (hx : (cV k).val T = some (f a)) (hk : (b, AO.gm (gmL f g l)) ∈ S.flatten) :
  Yields P w0 n (.more (.other (.gen (.lookup t m k okc)))) T S (if okc then .tuple #[g ((mgt l a).getD z), .bool (mgt l a).isSome] else g ((mgt l a).getD z)) := by
 intro o ac w hco hs hr
 have ho : o.op = .lookup t m k okc := cOp_spec P hco
 obtain ⟨_, en, clk, hw, he, hb, hlt, hn⟩ := hr.gmAt hk
 obtain ⟨lx, hlx⟩ := K.key a ha
 have hck := fun bb => K.law.check w bb hlx
 have hg : (getObj b).run P w = .ok (.map en clk) w := by simp [getObj, Sem.run, hw]
 simp only [execOp, ho, hs.eval hm, hs.eval hx, Instr.lookup]
 simp only [Sem.run_bind, run_underlying hu, Result.andThen_ok, hg, Sem.run_pure, hck]
 rcases K.find hl he a ha w with ⟨h1, h2⟩ | ⟨j, e, b', h1, h2, h3, h4, h5⟩
 ·have hget : mgt l a = none := mgt_none.2 fun h => by
   unfold mks at h
   obtain ⟨p, hp, rfl⟩ := List.mem_map.1 h
   exact h2 p.2 hp
  simp only [h1, Result.andThen_ok, hget]
  cases okc <;> simp [zeroValue, typeInfo, program, hi, hz, Sem.run]
 have hget : mgt l a = some b' := (mgt_mem (gmL_nodup he hn)).2 (List.mem_of_getElem? h5)
 simp only [h1, Result.andThen_ok, hget, h4]
 cases okc <;> simp
theorem OW.mkG : OW P w0 n .mkM T S (fun v S' => ∃ r, v = .map (some r) /\ S' = [(r, .gm [])] :: S) := by
 intro op a w Q hco hs hr
 obtain ⟨t, ho⟩ := cOp_spec P hco
 have hrun : (execOp a.eval op).run P w = .ok (.value (.map (some w.heap.size))) (w.alloc (.map #[] 0)) := by
  simp [execOp, ho, Instr.makeMap, newObj, Sem.run]
 unfold Oper.wp
 rw [hrun]
 refine ⟨_, _, rfl, ?_, w.heap.size, rfl, rfl⟩
 refine hr.push (below_alloc hr _) (fun i hi => alloc_heap_lt w _ i hi) (by simp) ?_
 intro p hp
 simp only [List.mem_singleton] at hp
 subst hp
 exact ⟨⟨#[], 0, alloc_heap_new w _, by simp⟩, Nat.le_refl _⟩
theorem OW.mkGr {x : Operand} {j : Int} {q : IntKind} (hu : P.underlying t = some (.map kt et)) (hx : (cV x).val T = some (.int q j)) : OW P w0 n (.more (.other (.gen (.makeMap t (some x))))) T S (fun v S' => ∃ r, v = .map (some r) /\ S' = [(r, .gm [])] :: S) := by
 intro op a w Q hco hs hr
 have ho : op.op = .makeMap t (some x) := cOp_spec P hco
 have hrun : (execOp a.eval op).run P w = .ok (.value (.map (some w.heap.size))) (w.alloc (.map #[] 0)) := by
  simp [execOp, ho, Instr.makeMap, newObj, Sem.run, hs.eval hx, run_underlying hu, asInt, asIntOf]
 unfold Oper.wp
 rw [hrun]
 refine ⟨_, _, rfl, ?_, w.heap.size, rfl, rfl⟩
 refine hr.push (below_alloc hr _) (fun i hi => alloc_heap_lt w _ i hi) (by simp) ?_
 intro p hp
 simp only [List.mem_singleton] at hp
 subst hp
 exact ⟨⟨#[], 0, alloc_heap_new w _, by simp⟩, Nat.le_refl _⟩
theorem run_setMap {w : World} {b : Nat} {en : Array MapEntry} {clk : Nat} (hw : w.heap[b]? = some (.map en clk)) (o : Obj) : (setObj b o).run P w = .ok () { w with heap := w.heap.setIfInBounds b o } := by
 simp [setObj, Sem.run, hw]
theorem Rep.setAt {w : World} {k b : Nat} {o : AO} {ob : Obj} {o' : AO} (h : Rep w0 S w) (hk : S[k]? = some [(b, o)]) (ho : Owns { w with heap := w.heap.setIfInBounds b ob } b o') : Rep w0 (S.set k [(b, o')]) { w with heap := w.heap.setIfInBounds b ob } := by
 obtain ⟨hge, how⟩ := h.own (b, o) (mem_at hk)
 simp only at hge
 refine h.replace hk ⟨rfl, rfl, rfl, by simp, fun i hi => ?_⟩ (fun i hi hne => ?_) (by simp) ?_
 ·have : b ≠ i := by omega
  simp [Array.getElem?_setIfInBounds_ne this]
 ·have : b ≠ i := by simp at hne; omega
  simp [Array.getElem?_setIfInBounds_ne this]
 intro p hp
 simp only [List.mem_singleton] at hp
 subst hp
 exact ⟨hge, ho, .inl (by simp)⟩
theorem keys_set {l : List MapEntry} {j : Nat} {e : MapEntry} (h : l[j]? = some e) (e' : MapEntry) (hk : e'.key = e.key) : (l.set j e').map (·.key) = l.map (·.key) := by
 apply List.ext_getElem?
 intro i
 by_cases he : j = i
 ·subst he
  have hlt := (List.getElem?_eq_some_iff.1 h).1
  rw [List.getElem?_map, List.getElem?_map, List.getElem?_set_self hlt, h]; simp [hk]
 simp [List.getElem?_set_ne he]
theorem borns_set {l : List MapEntry} {j : Nat} {e : MapEntry} (h : l[j]? = some e) (e' : MapEntry) (hk : e'.born = e.born) : (l.set j e').map (·.born) = l.map (·.born) := by
 apply List.ext_getElem?
 intro i
 by_cases he : j = i
 ·subst he
  have hlt := (List.getElem?_eq_some_iff.1 h).1
  rw [List.getElem?_map, List.getElem?_map, List.getElem?_set_self hlt, h]; simp [hk]
 simp [List.getElem?_set_ne he]
theorem run_updG {w : World} {b : Nat} {l : List (α × β)} {a : α} {v : β} (hu : P.underlying t = some (.map kt et)) (K : Keys P kt f ok) (hl : ∀ p ∈ l, ok p.1) (ha : ok a) {en : Array MapEntry} {clk : Nat} (hw : w.heap[b]? = some (.map en clk)) (he : en.toList.map (fun e => (e.key, e.val)) = gmL f g l)
  (hb : (en.toList.map (·.born)).Nodup) (hlt : ∀ e ∈ en.toList, e.born < clk) (hn : (en.toList.map (·.key)).Nodup) :
  ∃ en' clk', (Instr.mapUpdate t (.map (some b)) (f a) (g v)).run P w = .ok () { w with heap := w.heap.setIfInBounds b (.map en' clk') } /\ en'.toList.map (fun e => (e.key, e.val)) = gmL f g (mpt l a v) /\
   (en'.toList.map (·.born)).Nodup /\ (∀ e ∈ en'.toList, e.born < clk') /\ (en'.toList.map (·.key)).Nodup := by
 obtain ⟨lx, hlx⟩ := K.key a ha
 have hck := K.law.check w false hlx
 have hst := K.law.stays w hlx
 have hg : (getObj b).run P w = .ok (.map en clk) w := by simp [getObj, Sem.run, hw]
 rcases K.find hl he a ha w with ⟨h1, h2⟩ | ⟨j, e, b', h1, h2, h3, h4, h5⟩
 ·refine ⟨en.push { key := f a, val := g v, born := clk }, clk + 1, ?_, ?_, ?_, ?_, ?_⟩
  ·unfold Instr.mapUpdate
   simp [run_underlying hu, hg, hck, h1, run_setMap hw]
  ·rw [mpt_new h2]; simp [he, gmL]
  ·simp only [Array.toList_push, List.map_append, List.map_cons, List.map_nil]
   rw [List.nodup_append]
   refine ⟨hb, by simp, ?_⟩
   simp only [List.mem_map, List.mem_singleton]
   rintro x ⟨e, he', rfl⟩ y rfl hxy
   have := hlt e he'
   omega
  ·simp only [Array.toList_push, List.mem_append, List.mem_singleton]
   rintro e (h | rfl)
   ·have := hlt e h; omega
   exact Nat.lt_succ_self _
  simp only [Array.toList_push, List.map_append, List.map_cons, List.map_nil]
  rw [List.nodup_append]
  refine ⟨hn, by simp, ?_⟩
  simp only [List.mem_map, List.mem_singleton]
  rintro x ⟨e, he', rfl⟩ y rfl hxy
  obtain ⟨i, hi⟩ := List.getElem?_of_mem he'
  obtain ⟨a', b', q1, q2, q3⟩ := gmL_get he hi
  obtain rfl := K.inj a' a (by rw [<- q2, hxy])
  exact h2 b' (List.mem_of_getElem? q1)
 have hlj : j < en.toList.length := (List.getElem?_eq_some_iff.1 h2).1
 have hmod : (en.modify j fun e => { e with key := f a, val := g v }).toList = en.toList.set j { e with key := f a, val := g v } := by
  apply List.ext_getElem?
  intro i
  by_cases hi : j = i
  ·subst hi
   have hlj' : j < en.size := by simpa using hlj
   have h2' : en[j] = e := by have := h2; simp [hlj'] at this; exact this
   simp [Array.getElem?_modify, List.getElem?_set_self hlj, hlj', h2']
  simp [Array.getElem?_modify, hi, List.getElem?_set_ne hi]
 refine ⟨en.modify j fun e => { e with key := f a, val := g v }, clk, ?_, ?_, ?_, ?_, ?_⟩
 ·have hkey : ((en[j]?).map (·.key)).getD (f a) = f a := by
   have : en[j]? = some e := by simpa using h2
   simp [this, h3]
  unfold Instr.mapUpdate
  simp [run_underlying hu, hg, hck, h1, hkey, hst, run_setMap hw]
 ·rw [hmod, mpt_set (gmL_nodup he hn) h5, List.map_set, he]
  unfold gmL
  rw [List.map_set]
 ·rw [hmod, borns_set h2 _ (by rfl)]; exact hb
 ·rw [hmod]
  intro x hx
  rcases List.mem_or_eq_of_mem_set hx with h | rfl
  ·exact hlt x h
  exact hlt e (List.mem_of_getElem? h2)
 rw [hmod, keys_set h2 _ (by simpa using h3.symm)]; exact hn
theorem OW.updG {m k x : Operand} {b j : Nat} {l : List (α × β)} {a : α} {v : β} (hu : P.underlying t = some (.map kt et)) (K : Keys P kt f ok) (hl : ∀ p ∈ l, ok p.1) (ha : ok a) (hm : (cV m).val T = some (.map (some b))) (hx : (cV k).val T = some (f a)) (hv : (cV x).val T = some (g v))
  (hk : S[j]? = some [(b, AO.gm (gmL f g l))]) : OW P w0 n (.more (.other (.gen (.mapUpdate t m k x)))) T S (fun _ S' => S' = S.set j [(b, .gm (gmL f g (mpt l a v)))]) := by
 intro op ac w Q hco hs hr
 have ho : op.op = .mapUpdate t m k x := cOp_spec P hco
 obtain ⟨hge, en, clk, hw, he, hb, hlt, hn⟩ := hr.gmAt (mem_at hk)
 obtain ⟨en', clk', hrun, h1, h2, h3, h4⟩ := run_updG (a := a) (v := v) hu K hl ha hw he hb hlt hn
 unfold Oper.wp
 have hrun2 : (execOp ac.eval op).run P w = .ok .skip { w with heap := w.heap.setIfInBounds b (.map en' clk') } := by
  simp [execOp, ho, hs.eval hm, hs.eval hx, hs.eval hv, hrun]
 rw [hrun2]
 refine ⟨undef, _, rfl, ?_, rfl⟩
 have hlb : b < w.heap.size := (Array.getElem?_eq_some_iff.1 hw).1
 exact hr.setAt hk ⟨en', clk', by simp [hlb], h1, h2, h3, h4⟩
theorem OW.insG {m k x : Operand} {b j : Nat} {l : List (α × β)} {a : α} {v : β} (hu : P.underlying t = some (.map kt et)) (K : Keys P kt f ok) (hl : ∀ p ∈ l, ok p.1) (ha : ok a) (hm : (cV m).val T = some (.map (some b))) (hx : (cV k).val T = some (f a)) (hv : (cV x).val T = some (g v))
  (hk : S[j]? = some [(b, AO.gm (gmL f g l))]) : OW P w0 n (.more (.other (.gen (.insert t m k x)))) T S (fun _ S' => S' = S.set j [(b, .gm (gmL f g (mpt l a v)))]) := by
 intro op ac w Q hco hs hr
 have ho : op.op = .insert t m k x := cOp_spec P hco
 obtain ⟨hge, en, clk, hw, he, hb, hlt, hn⟩ := hr.gmAt (mem_at hk)
 obtain ⟨en', clk', hrun, h1, h2, h3, h4⟩ := run_updG (a := a) (v := v) hu K hl ha hw he hb hlt hn
 unfold Oper.wp
 have hrun2 : (execOp ac.eval op).run P w = .ok .skip { w with heap := w.heap.setIfInBounds b (.map en' clk') } := by
  simp [execOp, ho, hs.eval hm, hs.eval hx, hs.eval hv, hrun]
 rw [hrun2]
 refine ⟨undef, _, rfl, ?_, rfl⟩
 have hlb : b < w.heap.size := (Array.getElem?_eq_some_iff.1 hw).1
 exact hr.setAt hk ⟨en', clk', by simp [hlb], h1, h2, h3, h4⟩
def It (f : α -> Value) (g : β -> Value) (en : Array MapEntry) (seen : Array Nat) (l done rest : List (α × β)) : Prop :=
 (done ++ rest).Perm l /\ ∃ D R : List MapEntry, seen.toList = D.map (·.born) /\ (D ++ R).Perm en.toList /\ D.map (fun e => (e.key, e.val)) = gmL f g done /\ R.map (fun e => (e.key, e.val)) = gmL f g rest
structure Opened (f : α -> Value) (g : β -> Value) (en : Array MapEntry) (clk : Nat) (l : List (α × β)) : Prop where
 es : en.toList.map (fun e => (e.key, e.val)) = gmL f g l
 born : (en.toList.map (·.born)).Nodup
 lt : ∀ e ∈ en.toList, e.born < clk
 keys : (en.toList.map (·.key)).Nodup
theorem OW.rngG {m : Operand} {b j : Nat} {l : List (α × β)} (hu : P.underlying t = some (.map kt et)) (hm : (cV m).val T = some (.map (some b))) (hk : S[j]? = some [(b, AO.gm (gmL f g l))]) :
  OW P w0 n (.more (.other (.gen (.range t m)))) T S (fun v S' => ∃ r en clk, v = .pointer (some ⟨r, 0, none⟩) /\ Opened f g en clk l /\ It f g en #[] l [] l /\ S' = [(r, .obj (.mapIter (some b) clk #[] clk))] :: S.set j [(b, .obj (.map en clk))]) := by
 intro op ac w Q hco hs hr
 have ho : op.op = .range t m := cOp_spec P hco
 obtain ⟨hge, en, clk, hw, he, hb, hlt, hn⟩ := hr.gmAt (mem_at hk)
 have hg : (getObj b).run P w = .ok (.map en clk) w := by simp [getObj, Sem.run, hw]
 unfold Oper.wp
 have hrun : (execOp ac.eval op).run P w = .ok (.value (.pointer (some ⟨w.heap.size, 0, none⟩))) (w.alloc (.mapIter (some b) clk #[] clk)) := by
  simp [execOp, ho, hs.eval hm, Instr.range, run_underlying hu, hg, newObj, Sem.run]
 rw [hrun]
 have hr2 : Rep w0 (S.set j [(b, .obj (.map en clk))]) w := hr.replace hk (Below.refl _ _) (fun _ _ _ => rfl) (by simp) (by
  intro p hp
  simp only [List.mem_singleton] at hp
  subst hp
  exact ⟨hge, hw, .inl (by simp)⟩)
 refine ⟨_, _, rfl, hr2.allocObj _, w.heap.size, en, clk, rfl, ⟨he, hb, hlt, hn⟩, ⟨by simp, [], en.toList, by simp, by simp, by simp [gmL], he⟩, rfl⟩
theorem perm_take {γ : Type} {D R L : List γ} {i : Nat} {x : γ} (h : R[i]? = some x) (hp : (D ++ R).Perm L) : ((D ++ [x]) ++ R.eraseIdx i).Perm L := by
 refine List.Perm.trans ?_ hp
 rw [List.append_assoc]
 refine List.Perm.append_left D ?_
 have hlt := (List.getElem?_eq_some_iff.1 h).1
 have hx : R[i] = x := by rw [List.getElem?_eq_getElem hlt] at h; exact Option.some.inj h
 have : R = R.take i ++ x :: R.drop (i + 1) := by rw [<- hx]; simp
 have e : R.eraseIdx i = R.take i ++ R.drop (i + 1) := List.eraseIdx_eq_take_drop_succ ..
 rw [e]
 calc [x] ++ (R.take i ++ R.drop (i + 1)) = x :: (R.take i ++ R.drop (i + 1)) := rfl
  List.Perm _ (R.take i ++ x :: R.drop (i + 1)) := (List.perm_middle).symm
  List.Perm _ R := by rw [<- this]
theorem OW.nxtG {it : Operand} {b r j clk : Nat} {en : Array MapEntry} {seen : Array Nat} {l done rest : List (α × β)} (ht : (cV it).val T = some (.pointer (some ⟨r, 0, none⟩))) (hk : S[j]? = some [(r, AO.obj (.mapIter (some b) clk seen clk))])
  (hm : (b, AO.obj (.map en clk)) ∈ S.flatten) (ho : Opened f g en clk l) (hi : It f g en seen l done rest) :
  OW P w0 n (.more (.other (.gen (.next it false)))) T S (fun v S' => (rest = [] /\ v = .tuple #[.bool false] /\ S' = S) ∨
   ∃ (i : Nat) (p : α × β) (q : Nat), rest[i]? = some p /\ v = .tuple #[.bool true, f p.1, g p.2] /\ It f g en (seen.push q) l (done ++ [p]) (rest.eraseIdx i) /\ S' = S.set j [(r, .obj (.mapIter (some b) clk (seen.push q) clk))]) := by
 intro op ac w Q hco hs hr
 have hop : op.op = .next it false := cOp_spec P hco
 obtain ⟨hge, hw⟩ := hr.own _ hm
 obtain ⟨hge2, hw2⟩ := hr.own (r, AO.obj (.mapIter (some b) clk seen clk)) (mem_at hk)
 simp only [Owns] at hw hw2
 obtain ⟨hperm, D, R, hseen, hDR, hD, hR⟩ := hi
 have hbn : ((D ++ R).map (·.born)).Nodup := (hDR.map _).nodup_iff.2 ho.born
 have hleft : ∀ e, e ∈ (leftOf en seen).toList ↔ e ∈ R := by
  intro e
  unfold leftOf
  simp only [Array.toList_filter, List.mem_filter, Bool.not_eq_true', Array.contains_eq_mem, decide_eq_false_iff_not, <- Array.mem_toList_iff, hseen]
  constructor
  ·rintro ⟨h1, h2⟩
   rcases List.mem_append.1 (hDR.mem_iff.2 h1) with h | h
   ·exact absurd (List.mem_map.2 ⟨e, h, rfl⟩) h2
   exact h
  intro h
  refine ⟨hDR.mem_iff.1 (by simp [h]), fun h2 => ?_⟩
  obtain ⟨e', h3, h4⟩ := List.mem_map.1 h2
  rw [List.map_append, List.nodup_append] at hbn
  exact hbn.2.2 _ (List.mem_map.2 ⟨e', h3, rfl⟩) _ (List.mem_map.2 ⟨e, h, rfl⟩) h4
 have hnx := run_next_at (P := P) w op.type r b clk clk seen en clk hw2 hw ho.lt (Nat.le_refl _)
 unfold Oper.wp
 rcases hnx with ⟨h0, hrun⟩ | ⟨e, he, w1, hw1, hrun⟩
 ·have hrun2 : (execOp ac.eval op).run P w = .ok (.value (.tuple #[.bool false])) w := by
   simp [execOp, hop, hs.eval ht, hrun]
  rw [hrun2]
  refine ⟨_, _, rfl, hr, .inl ⟨?_, rfl, rfl⟩⟩
  have hR0 : R = [] := by
   cases hRR : R with
   | nil => rfl
   | cons x R' =>
    exfalso
    have := (hleft x).2 (by rw [hRR]; simp)
    have h2 : (leftOf en seen) = #[] := Array.eq_empty_of_size_eq_zero h0
    rw [h2] at this
    simp at this
  rw [hR0] at hR
  cases rest with
  | nil => rfl
  | cons x r' => simp [gmL] at hR
 have heR := (hleft e).1 he
 obtain ⟨i, hRi⟩ := List.getElem?_of_mem heR
 have h1 : (R.map (fun e => (e.key, e.val)))[i]? = some (e.key, e.val) := by simp [hRi]
 rw [hR] at h1
 unfold gmL at h1
 rw [List.getElem?_map, Option.map_eq_some_iff] at h1
 obtain ⟨p, hp, hkv⟩ := h1
 have hke : e.key = f p.1 := (congrArg Prod.fst hkv).symm
 have hve : e.val = g p.2 := (congrArg Prod.snd hkv).symm
 have hrun2 : (execOp ac.eval op).run P w = .ok (.value (.tuple #[.bool true, f p.1, g p.2])) (ChangeMaps.setBlock w1 r (.mapIter (some b) clk (seen.push e.born) clk)) := by
  simp [execOp, hop, hs.eval ht, hrun, hke, hve]
 rw [hrun2]
 have hr1 : Rep w0 S w1 := by
  rcases hw1 with rfl | rfl
  ·exact hr
  exact hr.same ⟨rfl, rfl, rfl, Nat.le_refl _, fun _ _ => rfl⟩ (fun _ _ => rfl)
 have hlr : r < w1.heap.size := hr1.lt (p := (r, AO.obj (.mapIter (some b) clk seen clk))) (mem_at hk)
 refine ⟨_, _, rfl, hr1.setAt (ob := .mapIter (some b) clk (seen.push e.born) clk) (o' := .obj (.mapIter (some b) clk (seen.push e.born) clk)) hk (by simp [Owns, hlr]), .inr ⟨i, p, e.born, hp, rfl, ?_, rfl⟩⟩
 refine ⟨perm_take hp hperm, D ++ [e], R.eraseIdx i, by simp [hseen], perm_take hRi hDR, ?_, ?_⟩
 ·rw [List.map_append, hD]; simp [gmL, hke, hve]
 rw [map_eraseIdx, hR]; unfold gmL; rw [map_eraseIdx]
theorem Yields.entG {it : Operand} {b r clk q : Nat} {en : Array MapEntry} {seen : Array Nat} {l done rest : List (α × β)} {p : α × β} (ht : (cV it).val T = some (.pointer (some ⟨r, 0, none⟩))) (hk : (r, AO.obj (.mapIter (some b) clk (seen.push q) clk)) ∈ S.flatten)
  (hm : (b, AO.obj (.map en clk)) ∈ S.flatten) (ho : Opened f g en clk l) (hi : It f g en (seen.push q) l (done ++ [p]) rest) :
  Yields P w0 n (.more (.other (.gen (.entry it)))) T S (.tuple #[f p.1, g p.2]) := by
 intro o ac w hco hs hr
 have hop : o.op = .entry it := cOp_spec P hco
 obtain ⟨hge, hw⟩ := hr.own _ hm
 obtain ⟨hge2, hw2⟩ := hr.own _ hk
 simp only [Owns] at hw hw2
 obtain ⟨hperm, D, R, hseen, hDR, hD, hR⟩ := hi
 have hDne : D ≠ [] := by rintro rfl; simp [gmL] at hD
 obtain ⟨D', e, rfl⟩ : ∃ D' e, D = D' ++ [e] := ⟨D.dropLast, D.getLast hDne, (List.dropLast_concat_getLast hDne).symm⟩
 have hDl := hD
 rw [gmL, List.map_append, List.map_append] at hDl
 have hlast := (List.append_inj' hDl rfl).2
 simp only [List.map_cons, List.map_nil, List.cons.injEq, Prod.mk.injEq, and_true] at hlast
 have hq : q = e.born := by
  have := hseen
  simp only [Array.toList_push, List.map_append, List.map_cons, List.map_nil] at this
  have h2 := (List.append_inj' this rfl).2
  simpa using h2
 subst hq
 have hem : e ∈ en.toList := hDR.mem_iff.1 (by simp)
 have := run_entry_at (P := P) w r b clk seen en clk e hw2 hw hem ho.born
 simp [execOp, hop, hs.eval ht, this, hlast.1, hlast.2]
theorem It.perm {en : Array MapEntry} {seen : Array Nat} {l done rest : List (α × β)} (h : It f g en seen l done rest) : (done ++ rest).Perm l := h.1
theorem Rep.tell {w : World} {k b : Nat} {o o' : AO} (h : Rep w0 S w) (hk : S[k]? = some [(b, o)]) (ho : ∀ w, Owns w b o -> Owns w b o') : Rep w0 (S.set k [(b, o')]) w := by
 obtain ⟨hge, how⟩ := h.own (b, o) (mem_at hk)
 refine h.replace hk (Below.refl _ _) (fun _ _ _ => rfl) (by simp) (by
  intro p hp
  simp only [List.mem_singleton] at hp
  subst hp
  exact ⟨hge, ho _ how, .inl (by simp)⟩)
theorem Opened.close {en : Array MapEntry} {clk : Nat} {l : List (α × β)} (h : Opened f g en clk l) (b : Nat) (w : World) (hw : Owns w b (.obj (.map en clk))) : Owns w b (.gm (gmL f g l)) := ⟨en, clk, hw, h.es, h.born, h.lt, h.keys⟩
theorem OL.tell {l : List PI} {k b : Nat} {o o' : AO} {K : TT -> SS -> Prop} (hk : S[k]? = some [(b, o)]) (ho : ∀ w, Owns w b o -> Owns w b o') (h : OL P w0 n l T (S.set k [(b, o')]) K) : OL P w0 n l T S K :=
 fun ops is a w Q hc hs hr hq => h ops is a w Q hc hs (hr.tell hk ho) hq
def entL (l : List (α × β)) (a : α) (z : β) : List (α × β) := mpt l a ((mgt l a).getD z)
theorem mpt_idem {l : List (α × β)} {a : α} {b : β} (h : mgt l a = some b) : mpt l a b = l := by
 induction l with
 | nil => simp [mgt_nil] at h
 | cons p l ih =>
  rw [mgt_cons] at h
  unfold mpt
  split
  ·rename_i e
   rw [if_pos e] at h
   rw [e, <- Option.some.inj h]
  rename_i e
  rw [if_neg e] at h
  rw [ih h]
theorem OW.entry {m k : Operand} {i : TypeInfo} {b j : Nat} {l : List (α × β)} {a : α} {z : β} (hu : P.underlying t = some (.map kt et)) (hi : P.info? et = some i) (hz : i.zero = some (g z)) (K : Keys P kt f ok) (hl : ∀ p ∈ l, ok p.1) (ha : ok a)
  (hm : (cV m).val T = some (.map (some b))) (hx : (cV k).val T = some (f a)) (hk : S[j]? = some [(b, AO.gm (gmL f g l))]) :
  OW P w0 n (.more (.other (.gen (.mapEntry t m k)))) T S (fun v S' => ∃ (en : Array MapEntry) (clk q : Nat) (e : MapEntry), v = .tuple #[g ((mgt l a).getD z), .int .i64 (q : Int)] /\ Opened f g en clk (entL l a z) /\ e ∈ en.toList /\ e.born = q /\ e.key = f a /\ S' = S.set j [(b, .obj (.map en clk))]) := by
 intro op ac w Q hco hs hr
 have ho : op.op = .mapEntry t m k := cOp_spec P hco
 obtain ⟨hge, en, clk, hw, he, hb, hlt, hn⟩ := hr.gmAt (mem_at hk)
 obtain ⟨lx, hlx⟩ := K.key a ha
 have hck := K.law.check w false hlx
 have hst := K.law.stays w hlx
 have hg : (getObj b).run P w = .ok (.map en clk) w := by simp [getObj, Sem.run, hw]
 have hlb : b < w.heap.size := (Array.getElem?_eq_some_iff.1 hw).1
 unfold Oper.wp
 rcases K.find hl he a ha w with ⟨h1, h2⟩ | ⟨i', e, b', h1, h2, h3, h4, h5⟩
 ·have hget : mgt l a = none := mgt_none.2 fun h => by
   unfold mks at h
   obtain ⟨p, hp, rfl⟩ := List.mem_map.1 h
   exact h2 p.2 hp
  have hrun : (execOp ac.eval op).run P w = .ok (.value (.tuple #[g z, .int .i64 (clk : Int)])) { w with heap := w.heap.setIfInBounds b (.map (en.push { key := f a, val := g z, born := clk }) (clk + 1)) } := by
   simp [execOp, ho, hs.eval hm, hs.eval hx, Instr.mapEntry, run_underlying hu, hg, hck, h1, run_setMap hw, zeroValue, typeInfo, program, Sem.run, hi, hz, goInt]
  rw [hrun]
  refine ⟨_, _, rfl, hr.setAt hk (o' := .obj (.map (en.push { key := f a, val := g z, born := clk }) (clk + 1))) (by simp [Owns, hlb]), _, clk + 1, clk, { key := f a, val := g z, born := clk }, by rw [hget]; rfl, ⟨?_, ?_, ?_, ?_⟩, by simp, rfl, rfl, rfl⟩
  ·unfold entL
   rw [hget, mpt_new h2]; simp [he, gmL]
  ·simp only [Array.toList_push, List.map_append, List.map_cons, List.map_nil]
   rw [List.nodup_append]
   refine ⟨hb, by simp, ?_⟩
   simp only [List.mem_map, List.mem_singleton]
   rintro x ⟨e, he', rfl⟩ y rfl hxy
   have := hlt e he'
   omega
  ·simp only [Array.toList_push, List.mem_append, List.mem_singleton]
   rintro e (h | rfl)
   ·have := hlt e h; omega
   exact Nat.lt_succ_self _
  simp only [Array.toList_push, List.map_append, List.map_cons, List.map_nil]
  rw [List.nodup_append]
  refine ⟨hn, by simp, ?_⟩
  simp only [List.mem_map, List.mem_singleton]
  rintro x ⟨e, he', rfl⟩ y rfl hxy
  obtain ⟨i, hi⟩ := List.getElem?_of_mem he'
  obtain ⟨a', b', q1, q2, q3⟩ := gmL_get he hi
  obtain rfl := K.inj a' a (by rw [<- q2, hxy])
  exact h2 b' (List.mem_of_getElem? q1)
 have hget : mgt l a = some b' := (mgt_mem (gmL_nodup he hn)).2 (List.mem_of_getElem? h5)
 have h2' : en[i']? = some e := by simpa using h2
 have hsame : en.modify i' (fun e => { e with key := f a }) = en := by
  apply Array.ext'
  apply List.ext_getElem?
  intro x
  rw [Array.getElem?_toList, Array.getElem?_toList, Array.getElem?_modify]
  split
  ·rename_i hx; subst hx
   rw [h2']
   simp only [Option.map_some]
   rw [<- h3]
  rfl
 have hrun : (execOp ac.eval op).run P w = .ok (.value (.tuple #[e.val, .int .i64 (e.born : Int)])) { w with heap := w.heap.setIfInBounds b (.map en clk) } := by
  simp [execOp, ho, hs.eval hm, hs.eval hx, Instr.mapEntry, run_underlying hu, hg, hck, h1, h2', h3, hst, hsame, run_setMap hw, goInt]
 rw [hrun]
 refine ⟨_, _, rfl, hr.setAt hk (o' := .obj (.map en clk)) (by simp [Owns, hlb]), en, clk, e.born, e, by rw [hget, h4]; rfl, ?_, List.mem_of_getElem? h2, rfl, h3, rfl⟩
 unfold entL
 rw [hget, Option.getD_some, mpt_idem hget]
 exact ⟨he, hb, hlt, hn⟩
theorem OW.store {m k x : Operand} {b j q clk : Nat} {en : Array MapEntry} {e : MapEntry} {l : List (α × β)} {a : α} {v : β} (hinj : ∀ a b, f a = f b -> a = b) (hm : (cV m).val T = some (.map (some b))) (hx : (cV k).val T = some (.int .i64 (q : Int))) (hv : (cV x).val T = some (g v))
  (ho : Opened f g en clk l) (hee : e ∈ en.toList) (heb : e.born = q) (hek : e.key = f a) (hk : S[j]? = some [(b, AO.obj (.map en clk))]) :
  OW P w0 n (.more (.other (.gen (.entryStore t m k x)))) T S (fun _ S' => S' = S.set j [(b, .gm (gmL f g (mpt l a v)))]) := by
 intro op ac w Q hco hs hr
 have hop : op.op = .entryStore t m k x := cOp_spec P hco
 obtain ⟨hge, hw⟩ := hr.own _ (mem_at hk)
 simp only [Owns] at hw
 have hg : (getObj b).run P w = .ok (.map en clk) w := by simp [getObj, Sem.run, hw]
 have hlb : b < w.heap.size := (Array.getElem?_eq_some_iff.1 hw).1
 obtain ⟨i, hi⟩ := List.getElem?_of_mem hee
 have hil := (List.getElem?_eq_some_iff.1 hi).1
 obtain ⟨a', b', q1, q2, q3⟩ := gmL_get ho.es hi
 obtain rfl := hinj a' a (by rw [<- q2, hek])
 have hfi : en.findIdx? (fun e => (e.born : Int) == (q : Int)) = some i := by
  rw [Array.findIdx?_eq_some_iff_getElem]
  obtain ⟨h1, h2⟩ := List.getElem?_eq_some_iff.1 hi
  have h2' : en[i]'(by simpa using h1) = e := by simpa using h2
  refine ⟨by simpa using h1, by rw [h2', heb]; simp, fun x hx => ?_⟩
  have hxl : x < en.toList.length := by omega
  have hne : (en.toList.map (·.born))[x]'(by simpa using hxl) ≠ (en.toList.map (·.born))[i]'(by simpa using h1) := fun e => by
   have := (List.getElem_inj ho.born).1 e
   omega
  have hxe : en[x] = en.toList[x] := by simp
  simp only [List.getElem_map, h2, heb] at hne
  simp only [beq_iff_eq, Bool.not_eq_true, beq_eq_false_iff_ne, ne_eq]
  rw [hxe]
  omega
 have hmod : (en.modify i fun e => { e with val := g v }).toList = en.toList.set i { e with val := g v } := by
  apply List.ext_getElem?
  intro x
  by_cases hx : i = x
  ·subst hx
   have hlj' : i < en.size := by simpa using hil
   have h2' : en[i] = e := by have := hi; simp [hlj'] at this; exact this
   simp [Array.getElem?_modify, List.getElem?_set_self hil, hlj', h2']
  simp [Array.getElem?_modify, hx, List.getElem?_set_ne hx]
 unfold Oper.wp
 have hrun : (execOp ac.eval op).run P w = .ok .skip { w with heap := w.heap.setIfInBounds b (.map (en.modify i fun e => { e with val := g v }) clk) } := by
  simp [execOp, hop, hs.eval hm, hs.eval hx, hs.eval hv, Instr.entryStore, hg, asInt, asIntOf, hfi, run_setMap hw]
 rw [hrun]
 refine ⟨undef, _, rfl, ?_, rfl⟩
 refine hr.setAt hk ⟨_, clk, by simp [hlb]; rfl, ?_, ?_, ?_, ?_⟩
 ·rw [hmod, mpt_set (gmL_nodup ho.es ho.keys) q1, List.map_set, ho.es]
  unfold gmL
  rw [List.map_set, <- q2]
 ·rw [hmod, borns_set hi _ (by rfl)]; exact ho.born
 ·rw [hmod]
  intro x hx
  rcases List.mem_or_eq_of_mem_set hx with h | rfl
  ·exact ho.lt x h
  exact ho.lt e hee
 rw [hmod, keys_set hi _ (by rfl)]; exact ho.keys
theorem Yields.lookO {m k : Operand} {okc : Bool} {i : TypeInfo} {b clk : Nat} {en : Array MapEntry} {l : List (α × β)} {a : α} {z : β} (hu : P.underlying t = some (.map kt et)) (hi : P.info? et = some i) (hz : i.zero = some (g z)) (K : Keys P kt f ok) (hl : ∀ p ∈ l, ok p.1) (ha : ok a)
  (hm : (cV m).val T = some (.map (some b))) (hx : (cV k).val T = some (f a)) (ho : Opened f g en clk l) (hk : (b, AO.obj (.map en clk)) ∈ S.flatten) :
  Yields P w0 n (.more (.other (.gen (.lookup t m k okc)))) T S (if okc then .tuple #[g ((mgt l a).getD z), .bool (mgt l a).isSome] else g ((mgt l a).getD z)) := by
 intro o ac w hco hs hr
 have hop : o.op = .lookup t m k okc := cOp_spec P hco
 obtain ⟨hge, hw⟩ := hr.own _ hk
 simp only [Owns] at hw
 obtain ⟨lx, hlx⟩ := K.key a ha
 have hck := fun bb => K.law.check w bb hlx
 have hg : (getObj b).run P w = .ok (.map en clk) w := by simp [getObj, Sem.run, hw]
 simp only [execOp, hop, hs.eval hm, hs.eval hx, Instr.lookup]
 simp only [Sem.run_bind, run_underlying hu, Result.andThen_ok, hg, Sem.run_pure, hck]
 rcases K.find hl ho.es a ha w with ⟨h1, h2⟩ | ⟨j, e, b', h1, h2, h3, h4, h5⟩
 ·have hget : mgt l a = none := mgt_none.2 fun h => by
   unfold mks at h
   obtain ⟨p, hp, rfl⟩ := List.mem_map.1 h
   exact h2 p.2 hp
  simp only [h1, Result.andThen_ok, hget]
  cases okc <;> simp [zeroValue, typeInfo, program, hi, hz, Sem.run]
 have hget : mgt l a = some b' := (mgt_mem (gmL_nodup ho.es ho.keys)).2 (List.mem_of_getElem? h5)
 simp only [h1, Result.andThen_ok, hget, h4]
 cases okc <;> simp
theorem Yields.tas {x : Operand} {u : TypeId} {d : TypeDesc} {ok : Bool} {v : Value} (hx : (cV x).val T = some (.iface t v)) (hu : P.underlying t = some d) (hd : ∀ ms, d ≠ .interface ms) :
  Yields P w0 n (.more (.other (.gen (.typeAssert x u t ok)))) T S (if ok then .tuple #[v, .bool true] else v) := by
 intro o ac w hco hs hr
 have hop : o.op = .typeAssert x u t ok := cOp_spec P hco
 have : (Instr.typeAssert (.iface t v) u t ok).run P w = .ok (if ok then .tuple #[v, .bool true] else v) w := by
  unfold Instr.typeAssert
  simp only [Sem.run_bind, run_underlying hu, Result.andThen_ok]
  cases d <;> (first | (cases ok <;> simp; done) | exact absurd rfl (hd _))
 simp [execOp, hop, hs.eval hx, this]
theorem OW.inv {recv : Operand} {name : String} {args : Array Operand} {ts : Array TypeId} {k : FuncId} {v rv : Value} {vs : List Value} {post : Value -> SS -> Prop} (hx : (cV recv).val T = some (.iface t v)) (hv : valsP T (args.toList.map cV) = some vs)
  (hm : ∀ w, Rep w0 S w -> (method (P.types.size + Made.depth) t v name).run P w = .ok (k, rv) w) (hok : fnOk P k = true) (h : FC P w0 k (rv :: vs) S post) :
  OW P w0 n (.more (.other (.gen (.call { callee := .invoke recv name, args := args, argTypes := ts })))) T S post := by
 intro op ac w Q hco hs hr
 have hop : op.op = .call { callee := .invoke recv name, args := args, argTypes := ts } := cOp_spec P hco
 have hargs : args.map ac.eval = vs.toArray := by
  have := valsP_spec hs hv
  rw [<- this, <- Array.toArray_toList (xs := args.map ac.eval), Array.toList_map]
 have hrun : (execOp ac.eval op).run P w = .ok (.enter k (rv :: vs).toArray) w := by
  unfold fnOk at hok
  split at hok
  ·rename_i fn hfn
   simp only [Bool.and_eq_true, bne_iff_ne, ne_eq] at hok
   have hb : ¬ fn.body = none := by intro hh; simp [hh] at hok
   have hex : (#[(Value.iface t v)] ++ vs.toArray).extract 1 (#[(Value.iface t v)] ++ vs.toArray).size = vs.toArray := by
    apply Array.toList_inj.1
    simp
   simp only [execOp, hop, resolve, hs.eval hx, hargs]
   simp only [Sem.run_bind, Sem.run_pure, Result.andThen_ok, invoke]
   have h0 : (#[(Value.iface t v)] ++ vs.toArray)[0]? = some (.iface t v) := by simp
   simp only [h0, hex, callMethod, Sem.run_bind, program, Sem.run, Result.andThen_ok, hm w hr]
   simp [callFunc, program, Sem.run, hfn, hok.1, hb]
  simp at hok
 unfold Oper.wp
 rw [hrun]
 refine (h w hr).mono ?_
 rintro e w' ⟨v, S', rfl, hr', hp⟩
 exact ⟨v, S', rfl, hr', hp⟩
end
end Go.SL
