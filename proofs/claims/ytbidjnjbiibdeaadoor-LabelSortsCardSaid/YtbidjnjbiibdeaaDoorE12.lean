/- Regions that draw their order: what the evaluator tells is so. -/
import Derived.Test.YtbidjnjbiibdeaaDoorE11
set_option linter.unusedVariables false
set_option linter.unusedSimpArgs false
namespace Go.SL
open Go.RowKit
section
variable {P : Program} {w0 : World} {n : Nat} {S : SS}
def foldT (ds : Nat → Option Nat) (vs : Nat → Value) (T : TT) (f : Nat → Bool) : Nat → TT
  | 0 => T
  | m + 1 => if f m then put (ds m) (vs m) (foldT ds vs T f m) else foldT ds vs T f m
theorem look_put {d : Option Nat} {v : Value} {T : TT} {x : Nat} : look (put d v T) x = if d = some x then some v else look T x := by
  cases d with
  | none => simp [put]
  | some d =>
    simp only [put]
    by_cases e : d = x
    · subst e; rw [look_put_same]; simp
    · rw [look_cons_ne _ _ e]; simp [e]
theorem foldT_agree {ds : Nat → Option Nat} {vs : Nat → Value} {T : TT} {f g : Nat → Bool} {x : Nat} : ∀ m, (∀ j, j < m → ds j = some x → f j = g j) → look (foldT ds vs T f m) x = look (foldT ds vs T g m) x
  | 0, _ => rfl
  | m + 1, h => by
    have ih := foldT_agree (ds := ds) (vs := vs) (T := T) (f := f) (g := g) (x := x) m fun j hj => h j (by omega)
    simp only [foldT]
    by_cases hd : ds m = some x
    · rw [h m (by omega) hd]
      split
      · rw [look_put, look_put, if_pos hd, if_pos hd]
      · exact ih
    · split <;> split <;> (try rw [look_put, if_neg hd]) <;> (try rw [look_put, if_neg hd]) <;> exact ih
theorem foldT_all {ds : Nat → Option Nat} {vs : Nat → Value} {T : TT} {f g : Nat → Bool} : ∀ m, (∀ j, j < m → f j = g j) → foldT ds vs T f m = foldT ds vs T g m
  | 0, _ => rfl
  | m + 1, h => by simp only [foldT]; rw [h m (by omega), foldT_all m fun j hj => h j (by omega)]
theorem foldT_below {ds : Nat → Option Nat} {vs : Nat → Value} {T : TT} {Ts : Nat → TT} (h0 : Ts 0 = T) {i : Nat} : ∀ m, i ≤ m → (∀ j, j < m → Ts (j + 1) = put (ds j) (vs j) (Ts j)) → foldT ds vs T (fun j => decide (j < i)) m = Ts i
  | 0, hi, _ => by obtain rfl : i = 0 := by omega
                   exact h0.symm
  | m + 1, hi, h => by
    simp only [foldT]
    by_cases hm : m < i
    · obtain rfl : i = m + 1 := by omega
      simp only [hm, decide_true, if_true]
      rw [h m (by omega)]
      congr 1
      rw [foldT_all m (g := fun j => decide (j < m)) (fun j hj => by simp; omega)]
      exact foldT_below h0 m (Nat.le_refl _) fun j hj => h j (by omega)
    · simp only [hm, decide_false, Bool.false_eq_true, if_false]
      exact foldT_below h0 m (by omega) fun j hj => h j (by omega)
theorem lcl_congr {l : List PI} {f g : Nat → Bool} : ∀ m, (∀ j, j < m → loudN l j = true → f j = g j) → lcl l f m = lcl l g m
  | 0, _ => rfl
  | m + 1, h => by
    simp only [lcl]
    rw [lcl_congr m fun j hj => h j (by omega)]
    cases hl : loudN l m with
    | false => simp
    | true => rw [h m (by omega) hl]
theorem lcl_none {l : List PI} {f : Nat → Bool} {c : Nat} : ∀ m, c ≤ m → (∀ j, c ≤ j → j < m → loudN l j = true → f j = false) → lcl l f m = lcl l f c
  | 0, hc, _ => by obtain rfl : c = 0 := by omega
                   rfl
  | m + 1, hc, h => by
    by_cases e : c = m + 1
    · subst e; rfl
    · simp only [lcl]
      rw [lcl_none m (by omega) fun j h1 h2 => h j h1 (by omega)]
      cases hl : loudN l m with
      | false => simp
      | true => rw [h m (by omega) (by omega) hl]; simp
theorem lcl_mono {l : List PI} {f : Nat → Bool} {a b : Nat} (h : a ≤ b) : lcl l f a ≤ lcl l f b := by
  induction b with
  | zero => obtain rfl : a = 0 := by omega
            exact Nat.le_refl _
  | succ b ih =>
    by_cases e : a = b + 1
    · subst e; exact Nat.le_refl _
    · simp only [lcl]; have := ih (by omega); omega

theorem lcl_le {l : List PI} {f : Nat → Bool} : ∀ m, lcl l f m ≤ lcl l (fun _ => true) m
  | 0 => Nat.le_refl _
  | m + 1 => by
    simp only [lcl]
    have := lcl_le (l := l) (f := f) m
    cases loudN l m <;> cases f m <;> simp <;> omega
theorem loudN_take {l : List PI} {k i : Nat} (h : i < k) : loudN (l.take k) i = loudN l i := by unfold loudN; rw [List.getElem?_take_of_lt h]

set_option maxHeartbeats 2000000 in
theorem drawn_wp {call : CallE} (hm : P.follows .mixedOrders = true) (hcall : CallOk P w0 call) {ops : Array Oper} {id k : Nat} {l : List PI}
    (hcond : (apartB ops && backB ops && Region.noSelect ops && hoistB ops ((hoists ops).filter (· < quietAt ops)) (Array.replicate ops.size false)) = true)
    (hcis : cIs P n ops (List.range ops.size) = some l) (hk : quietAt ops = k) {T Tc : TT} {ρ : Rho} {H : EH} {L : LL} {T' : TT} {H' : EH} (hT : TR ρ T Tc) (hH : HR w0 ρ H L) (h : evD call (reach ops) k l T H = some (T', H')) :
    ∀ a w, Sat n Tc a → Rep w0 (cs L S) w → (Code.region id ops true).wp P (fun e a' w' => e = .normal ∧ ∃ T2 S2, Sat n T2 a' ∧ Rep w0 S2 w' ∧ StR w0 ρ S T' H' T2 S2) a w := by
  intro a w hs hr
  simp only [Bool.and_eq_true] at hcond
  obtain ⟨⟨⟨hap, hback⟩, hsel⟩, hhoist⟩ := hcond
  obtain ⟨hhead, hkle⟩ := headOf_spec ops (hoists ops) ops.size (Nat.le_refl _)
  change headB ops ((hoists ops).filter (· < quietAt ops)) (quietAt ops) = true at hhead
  change quietAt ops ≤ ops.size at hkle
  rw [hk] at hhead hkle hhoist
  generalize hH0 : (hoists ops).filter (· < k) = Hs0 at *
  have hHk : ∀ i ∈ Hs0, i < k := fun i hi => by rw [← hH0] at hi; simpa using (List.mem_filter.1 hi).2
  -- the parts of the telling
  unfold evD at h
  split at h
  case h_2 => cases h
  rename_i tr gs Tm Hm hev
  obtain ⟨hchk, htail'⟩ := bif_some h
  simp only [Bool.and_eq_true, Bool.or_eq_true] at hchk
  obtain ⟨hpairs, hreads⟩ := hchk
  have hsplit : List.range ops.size = List.range' 0 k ++ List.range' k (ops.size - k) := by
    rw [List.range_eq_range']
    have := List.range'_append (s := 0) (m := k) (n := ops.size - k) (step := 1)
    simp only [Nat.one_mul, Nat.zero_add] at this
    rw [this]
    congr 1
    omega
  have hcis0 := hcis
  rw [hsplit] at hcis
  obtain ⟨hc1, hc2⟩ := cIs_append hcis
  simp only [List.length_range'] at hc1 hc2
  have hlen : (l.take k).length = k := by simpa using cIs_length hc1
  obtain ⟨Ts, Hs, vs, hTs0, hHs0, hTsk, hHsk, hstep, hG⟩ := evH_spec hev
  rw [hlen] at hTsk hHsk hG
  have hlk : k ≤ l.length := by rw [List.length_take] at hlen; omega
  -- the small forms
  have hpi : ∀ i o, i < k → ops[i]? = some o → ∃ x, l[i]? = some x ∧ (l.take k)[i]? = some x ∧ cOp P o = some x.o ∧ dstOk n o.dst = true ∧ o.dst = x.d ∧ ((o.guard = none ∧ x.g = none) ∨ ∃ j b s, o.guard = some (j, b) ∧ (ops[j]?).bind (·.dst) = some s ∧ x.g = some (s, b)) := by
    intro i o hi ho
    have hx : l[i]? = some l[i] := List.getElem?_eq_getElem (by omega)
    have key : ∀ (is : List Nat) (l : List PI) (j q : Nat) (x : PI), cIs P n ops is = some l → is[j]? = some q → l[j]? = some x → cI P n ops q = some x := by
      intro is
      induction is with
      | nil => intro l j q x _ hq; simp at hq
      | cons i0 is ih =>
        intro l j q x hcs hq hx
        cases l with
        | nil => simp at hx
        | cons y l =>
          obtain ⟨i', r, he, h1, h2⟩ := cIs_cons hcs
          simp only [List.cons.injEq] at he
          obtain ⟨rfl, rfl⟩ := he
          cases j with
          | zero => simp at hq hx; subst hq; subst hx; exact h1
          | succ j => exact ih l j q x h2 (by simpa using hq) (by simpa using hx)
    have hci := key (List.range ops.size) l i i l[i] hcis0 (by rw [List.getElem?_range (by have := (Array.getElem?_eq_some_iff.1 ho).1; exact this)]) hx
    obtain ⟨o', ho', h1, h2, h3, h4⟩ := cI_spec hci
    obtain rfl : o = o' := by rw [ho] at ho'; exact Option.some.inj ho'
    exact ⟨l[i], hx, by rw [List.getElem?_take_of_lt hi]; exact hx, h1, h2, h3, h4⟩
  generalize hds : (fun i : Nat => dstAt ops i) = ds at *
  have hds' : ∀ i, ds i = dstAt ops i := fun i => by rw [← hds]
  have hTs : ∀ j, j < k → Ts (j + 1) = put (ds j) (vs j) (Ts j) := by
    intro j hj
    have hjo : j < ops.size := by omega
    obtain ⟨x, _, hx2, _, _, hd, _⟩ := hpi j ops[j] hj (by simp [hjo])
    rw [(hstep j x hx2).1, hds', dstAt]
    simp [hjo, hd]
  have hdst : ∀ (j : Nat) o, j < k → ops[j]? = some o → dstOk n o.dst = true := fun j o hj ho => by obtain ⟨x, _, _, _, h2, _⟩ := hpi j o hj ho; exact h2
  -- ordered pairs
  have hpair : ∀ i j, i < j → j < ops.size → ∀ oi oj, ops[i]? = some oi → ops[j]? = some oj → behind (reach ops) j i = true ∨ oi.apart ops oj = true := by
    intro i j hij hj oi oj hoi hoj
    have := List.all_eq_true.1 (List.all_eq_true.1 hap j (List.mem_range.2 hj)) i (List.mem_range.2 hij)
    simpa [hoi, hoj] using this
  have htail : ∀ t i, k ≤ t → t < ops.size → i < t → i ∉ Hs0 → behind (reach ops) t i = true := by
    intro t i hkt ht hi hnH
    have := List.all_eq_true.1 hhead t (List.mem_range.2 ht)
    simp only [Bool.or_eq_true, decide_eq_true_eq] at this
    rcases this with h | h
    · omega
    · have := List.all_eq_true.1 h i (List.mem_range.2 hi)
      simpa [hnH] using this
  have hreadyX : ∀ (listed : Array Bool) i, (∀ j o, ops[j]? = some o → listed.getD j true = true → ∀ e ∈ o.after, Region.binds .any e = true → listed.getD e.on true = true) → i ∈ Region.ready .any ops listed →
      ∀ j, j < ops.size → behind (reach ops) i j = true → j ≠ i → listed.getD j true = true := by
    intro listed i hcl hi j hj hb hne
    obtain ⟨hun, o, ho, hall⟩ := mem_ready.1 hi
    have hX : Closed ops (fun x => listed.getD x true = true ∨ x = i) := by
      rintro x ox hox (hx | rfl) e he hbd
      · exact .inl (hcl x ox hox hx e he hbd)
      · obtain rfl : o = ox := by rw [ho] at hox; exact Option.some.inj hox
        have := hall e he hbd
        left
        cases hlt : listed[e.on]? with
        | none => simp [hlt] at this
        | some b => simpa [hlt] using this
    rcases behind_spec hX (Array.getElem?_eq_some_iff.1 ho).1 hb (.inr rfl) with h | h
    · exact h
    · exact absurd h hne
  have hclX : ∀ (listed : Array Bool), (∀ j o, ops[j]? = some o → listed.getD j true = true → ∀ e ∈ o.after, Region.binds .any e = true → listed.getD e.on true = true) → ∀ i j, i < ops.size → behind (reach ops) i j = true → listed.getD i true = true → listed.getD j true = true := by
    intro listed hcl i j hi hb hl
    exact behind_spec (X := fun x => listed.getD x true = true) (fun x ox hox hx e he hbd => hcl x ox hox hx e he hbd) hi hb hl
  have horder : ∀ (listed : Array Bool) i o, (∀ j o, ops[j]? = some o → listed.getD j true = true → ∀ e ∈ o.after, Region.binds .any e = true → listed.getD e.on true = true) → i ∈ Region.ready .any ops listed → ops[i]? = some o → i < k →
      ∀ x, (x ∈ o.looksAt ops ∨ o.dst = some x) → ∀ j, j < k → j ≠ i → dstAt ops j = some x → decide (j < i) = listed.getD j true := by
    intro listed i o hcl hi ho hik x hx j hj hne hdj
    obtain ⟨hun, o', ho', hpre⟩ := mem_ready.1 hi
    have hilt : i < ops.size := (Array.getElem?_eq_some_iff.1 ho).1
    have hjlt : j < ops.size := by omega
    have hoj : ops[j]? = some ops[j] := by simp [hjlt]
    have hdj' : ops[j].dst = some x := by simpa [dstAt, hoj] using hdj
    rcases Nat.lt_or_gt_of_ne hne with h | h
    · rcases hpair j i h hilt _ _ hoj ho with hb' | hap'
      · rw [hreadyX listed i hcl hi j hjlt hb' hne]
        simp [h]
      · obtain ⟨e1, e2, e3⟩ := Oper.apart_spec hap'
        rcases hx with hx | hx
        · exact absurd hx (e1 x hdj')
        · exact absurd hx (e2 x hdj')
    · rcases hpair i j h hjlt _ _ ho hoj with hb' | hap'
      · have hnl : listed.getD j true = false := by
          cases hlj : listed.getD j true with
          | false => rfl
          | true =>
            exfalso
            have := hclX listed hcl j i hjlt hb' hlj
            rw [hun] at this
            cases this
        rw [hnl]
        simp; omega
      · obtain ⟨e1, e2, e3⟩ := Oper.apart_spec hap'
        rcases hx with hx | hx
        · exact absurd hx (e3 x hdj')
        · exact absurd hdj' (e2 x hx)
  have hgetset : ∀ (listed : Array Bool) i, listed.size = ops.size → i < ops.size → (listed.setIfInBounds i true).getD i true = true := by
    intro listed i h1 h2
    have : i < listed.size := by omega
    simp [this]
  have hclset : ∀ (listed : Array Bool) i o, listed.size = ops.size → (∀ j o, ops[j]? = some o → listed.getD j true = true → ∀ e ∈ o.after, Region.binds .any e = true → listed.getD e.on true = true) → i ∈ Region.ready .any ops listed → ops[i]? = some o →
      (∀ j o, ops[j]? = some o → (listed.setIfInBounds i true).getD j true = true → ∀ e ∈ o.after, Region.binds .any e = true → (listed.setIfInBounds i true).getD e.on true = true) := by
    intro listed i o hsz hcl hi ho j oj hoj hj e he hbd
    have hilt : i < ops.size := (Array.getElem?_eq_some_iff.1 ho).1
    obtain ⟨hun, o', ho', hpre⟩ := mem_ready.1 hi
    obtain rfl : o = o' := by rw [ho] at ho'; exact Option.some.inj ho'
    have hgj : ∀ j, j ≠ i → (listed.setIfInBounds i true).getD j true = listed.getD j true := fun j hj => getD_set_ne true (Ne.symm hj)
    by_cases e1 : e.on = i
    · rw [e1]; exact hgetset listed i hsz hilt
    · rw [hgj _ e1]
      by_cases e2 : j = i
      · subst e2
        obtain rfl : o = oj := by rw [ho] at hoj; exact Option.some.inj hoj
        have := hpre e he hbd
        cases hlt : listed[e.on]? with
        | none => simp [hlt] at this
        | some bb => simpa [hlt] using this
      · rw [hgj _ e2] at hj
        exact hcl j oj hoj hj e he hbd
  have hcntset : ∀ (listed : Array Bool) i, listed.size = ops.size → i ∈ Region.ready .any ops listed → i < ops.size → cnt (fun j => listed.getD j true) ops.size = cnt (fun j => (listed.setIfInBounds i true).getD j true) ops.size + 1 := by
    intro listed i hsz hi hilt
    have := cnt_set (f := fun j => listed.getD j true) (g := fun j => (listed.setIfInBounds i true).getD j true) (i := i) (mem_ready.1 hi).1 (hgetset listed i hsz hilt) (fun j hj => getD_set_ne true (Ne.symm hj)) ops.size
    simpa [hilt] using this
  -- the loud ones come one behind the other
  have hloudpair : ∀ i j, i < j → j < k → loudN l i = true → loudN l j = true → behind (reach ops) j i = true := by
    intro i j hij hj hi hlj
    have := List.all_eq_true.1 hpairs j (by rw [hlen]; exact List.mem_range.2 hj)
    rw [loudN_take hj, hlj] at this
    simp only [Bool.not_true, Bool.false_or] at this
    have := List.all_eq_true.1 this i (List.mem_range.2 hij)
    rw [loudN_take (by omega), hi] at this
    simpa using this
  have hnotloud : ∀ (listed : Array Bool) i, (∀ j o, ops[j]? = some o → listed.getD j true = true → ∀ e ∈ o.after, Region.binds .any e = true → listed.getD e.on true = true) → i < k → loudN l i = true → listed.getD i true = false → ∀ j, i ≤ j → j < k → loudN l j = true → listed.getD j true = false := by
    intro listed i hcl hik hli hni j hij hjk hlj
    by_cases e : i = j
    · subst e; exact hni
    · cases hlj2 : listed.getD j true with
      | false => rfl
      | true =>
        exfalso
        have := hclX listed hcl j i (by omega) (hloudpair i j (by omega) hjk hli hlj) hlj2
        rw [hni] at this
        cases this
  have hallloud : ∀ (listed : Array Bool) i, (∀ j o, ops[j]? = some o → listed.getD j true = true → ∀ e ∈ o.after, Region.binds .any e = true → listed.getD e.on true = true) → i < k → loudN l i = true → listed.getD i true = true → lcl (l.take k) (fun j => listed.getD j true) i = lcl (l.take k) (fun _ => true) i := by
    intro listed i hcl hik hli hi
    refine lcl_congr i fun j hj hlj => ?_
    rw [loudN_take (by omega)] at hlj
    exact hclX listed hcl i j (by omega) (hloudpair j i hj hik hlj hli) hi
  have hmay : ∀ (listed : Array Bool) i o, (∀ j o, ops[j]? = some o → listed.getD j true = true → ∀ e ∈ o.after, Region.binds .any e = true → listed.getD e.on true = true) → i ∈ Region.ready .any ops listed → ops[i]? = some o → i < k → loudN l i = false →
      mayAt (reach ops) (l.take k) i (lcl (l.take k) (fun j => listed.getD j true) k) = true := by
    intro listed i o hcl hi ho hik hli
    have hun := (mem_ready.1 hi).1
    simp only [mayAt, List.all_eq_true, List.mem_range, Bool.or_eq_true, Bool.and_eq_true, Bool.not_eq_true']
    intro c hc
    rw [hlen] at hc
    rw [loudN_take hc]
    cases hlc : loudN l c with
    | false => exact .inl rfl
    | true =>
      right
      have hci : c ≠ i := fun e => by subst e; rw [hlc] at hli; cases hli
      constructor
      · cases hb : behind (reach ops) i c with
        | false => exact .inl rfl
        | true =>
          right
          rw [Nat.blt_eq]
          have hcl2 := hreadyX listed i hcl hi c (by omega) hb hci
          have e1 := hallloud listed c hcl hc hlc hcl2
          have e2 : lcl (l.take k) (fun j => listed.getD j true) (c + 1) = lcl (l.take k) (fun j => listed.getD j true) c + 1 := by
            simp only [lcl, loudN_take hc, hlc, hcl2]; rfl
          have e3 := lcl_mono (l := l.take k) (f := fun j => listed.getD j true) (show c + 1 ≤ k by omega)
          omega
      · cases hb : behind (reach ops) c i with
        | false => exact .inl rfl
        | true =>
          right
          have hnc : listed.getD c true = false := by
            cases hx : listed.getD c true with
            | false => rfl
            | true =>
              exfalso
              have := hclX listed hcl c i (by omega) hb hx
              rw [hun] at this
              cases this
          have e1 : lcl (l.take k) (fun j => listed.getD j true) k = lcl (l.take k) (fun j => listed.getD j true) c := lcl_none k (by omega) fun j h1 h2 h3 => by
            rw [loudN_take h2] at h3
            exact hnotloud listed c hcl hc hlc hnc j h1 h2 h3
          rw [e1]
          exact Nat.ble_eq_true_of_le (lcl_le c)
  -- the state that goes with what is listed
  generalize hInv : (fun (listed : Array Bool) (b : Act) (w' : World) => ∃ (ρ' : Rho) (L' : LL) (Tc' : TT) (G : EH), (H :: gs)[lcl (l.take k) (fun j => listed.getD j true) k]? = some G ∧ ρ <+: ρ' ∧ HR w0 ρ' G L' ∧ Rep w0 (cs L' S) w' ∧ Sat n Tc' b ∧ TR ρ' (foldT ds vs T (fun j => listed.getD j true) k) Tc') = Inv at *
  have hInvE : ∀ listed b w', Inv listed b w' ↔ ∃ (ρ' : Rho) (L' : LL) (Tc' : TT) (G : EH), (H :: gs)[lcl (l.take k) (fun j => listed.getD j true) k]? = some G ∧ ρ <+: ρ' ∧ HR w0 ρ' G L' ∧ Rep w0 (cs L' S) w' ∧ Sat n Tc' b ∧ TR ρ' (foldT ds vs T (fun j => listed.getD j true) k) Tc' := fun listed b w' => by rw [← hInv]
  have hgo : ∀ (listed : Array Bool) i o (b : Act) (w' : World), listed.size = ops.size → (∀ j o, ops[j]? = some o → listed.getD j true = true → ∀ e ∈ o.after, Region.binds .any e = true → listed.getD e.on true = true) → i ∈ Region.ready .any ops listed → ops[i]? = some o → i < k → Inv listed b w' →
      (Region.wanted o (yielded ops b.tmps) = true ∧ ∀ Q, o.wp P b w' (fun a' w'' => ∃ u, a' = b.put o.dst u ∧ Inv (listed.setIfInBounds i true) a' w'') Q) ∨ (Region.wanted o (yielded ops b.tmps) = false ∧ Inv (listed.setIfInBounds i true) (b.put o.dst undef) w') := by
    intro listed i o b w' hsz hcl hi ho hik hinv
    rw [hInvE] at hinv
    obtain ⟨ρ', L', Tc', G, hGi, hpre, hHR, hrep, hsat, hTR⟩ := hinv
    have hun := (mem_ready.1 hi).1
    have hilt : i < ops.size := (Array.getElem?_eq_some_iff.1 ho).1
    obtain ⟨x, hx, hx2, hco, hdok, hdd, hgd⟩ := hpi i o hik ho
    obtain ⟨hst1, hst2, hst3, hst4⟩ := hstep i x hx2
    have hgi := hgetset listed i hsz hilt
    have hgj : ∀ j, j ≠ i → (listed.setIfInBounds i true).getD j true = listed.getD j true := fun j hj => getD_set_ne true (Ne.symm hj)
    have hloud : loudN l i = x.loud := by simp [loudN, hx]
    have hTi : foldT ds vs T (fun j => decide (j < i)) k = Ts i := foldT_below hTs0 k (by omega) hTs
    have hagree : ∀ y, y ∈ o.looksAt ops → look (foldT ds vs T (fun j => listed.getD j true) k) y = look (Ts i) y := by
      intro y hy
      rw [← hTi]
      refine foldT_agree k fun j hj hdj => ?_
      rw [hds'] at hdj
      by_cases e : j = i
      · subst e; rw [hun]; simp
      · exact (horder listed i o hcl hi ho hik y (.inl hy) j hj e hdj).symm
    have hag : Agree (foldT ds vs T (fun j => listed.getD j true) k) (Ts i) x.o.pvs := by
      intro y hy
      cases y with
      | v z => rfl
      | t t => exact hagree t (looks_op (pvs_op hco _ hy t rfl))
    have hwantE : wantE (foldT ds vs T (fun j => listed.getD j true) k) x.g = wantE (Ts i) x.g := wantE_congr fun s b hg => by
      rcases hgd with ⟨_, hg2⟩ | ⟨j, b', s', hg1, hj, hg2⟩
      · rw [hg2] at hg; cases hg
      · rw [hg2] at hg
        simp only [Option.some.injEq, Prod.mk.injEq] at hg
        obtain ⟨rfl, rfl⟩ := hg
        refine hagree s' ?_
        unfold Oper.looksAt
        rw [List.mem_append]
        right
        simp [hg1, hj]
    -- the new state's slots
    have hTRnew : ∀ (ρ2 : Rho) (u : Value), ρ' <+: ρ2 → VR ρ2 (vs i) u → TR ρ2 (foldT ds vs T (fun j => (listed.setIfInBounds i true).getD j true) k) (put o.dst u Tc') := by
      intro ρ2 u hp hv y z hz
      rw [look_put]
      by_cases hdy : o.dst = some y
      · rw [if_pos hdy]
        refine ⟨u, rfl, ?_⟩
        have e1 : look (foldT ds vs T (fun j => (listed.setIfInBounds i true).getD j true) k) y = look (foldT ds vs T (fun j => decide (j < i + 1)) k) y := by
          refine foldT_agree k fun j hj hdj => ?_
          rw [hds'] at hdj
          by_cases e : j = i
          · subst e; rw [hgi]; simp
          · rw [hgj j e, ← horder listed i o hcl hi ho hik y (.inr hdy) j hj e hdj]
            by_cases h : j < i
            · have : j < i + 1 := by omega
              simp [h, this]
            · have : ¬ j < i + 1 := by omega
              simp [h, this]
        rw [e1, foldT_below hTs0 k (by omega) hTs, hst1, look_put, ← hdd, if_pos hdy] at hz
        obtain rfl := Option.some.inj hz
        exact hv
      · rw [if_neg hdy]
        have e1 : look (foldT ds vs T (fun j => (listed.setIfInBounds i true).getD j true) k) y = look (foldT ds vs T (fun j => listed.getD j true) k) y := by
          refine foldT_agree k fun j hj hdj => ?_
          by_cases e : j = i
          · subst e; rw [hds', dstAt, ho] at hdj; exact absurd hdj hdy
          · exact hgj j e
        rw [e1] at hz
        exact (hTR.mono hp) y z hz
    -- the count
    have hcntQ : x.loud = false → lcl (l.take k) (fun j => (listed.setIfInBounds i true).getD j true) k = lcl (l.take k) (fun j => listed.getD j true) k := fun hq => lcl_congr k fun j hj hlj => by
      rw [loudN_take hj] at hlj
      have : j ≠ i := fun e => by subst e; rw [hloud, hq] at hlj; cases hlj
      exact hgj j this
    have hbefore : x.loud = true → ∀ j, j < i → loudN l j = true → listed.getD j true = true := fun hq j hj hlj => hreadyX listed i hcl hi j (by omega) (hloudpair j i hj hik hlj (by rw [hloud, hq])) (by omega)
    have hafter : x.loud = true → ∀ j, i ≤ j → j < k → loudN l j = true → listed.getD j true = false := fun hq => hnotloud listed i hcl hik (by rw [hloud, hq]) hun
    have hcntL : x.loud = true → lcl (l.take k) (fun j => listed.getD j true) k = lcl (l.take k) (fun _ => true) i := fun hq => by
      rw [lcl_none (c := i) k (by omega) fun j h1 h2 h3 => by rw [loudN_take h2] at h3; exact hafter hq j h1 h2 h3]
      exact lcl_congr i fun j hj hlj => by rw [loudN_take (by omega)] at hlj; exact hbefore hq j hj hlj
    have hcntL2 : x.loud = true → lcl (l.take k) (fun j => (listed.setIfInBounds i true).getD j true) k = lcl (l.take k) (fun _ => true) (i + 1) := fun hq => by
      rw [lcl_none (c := i + 1) k (by omega) fun j h1 h2 h3 => by rw [loudN_take h2] at h3; rw [hgj j (by omega)]; exact hafter hq j (by omega) h2 h3]
      exact lcl_congr (i + 1) fun j hj hlj => by
        rw [loudN_take (by omega)] at hlj
        by_cases e : j = i
        · subst e; exact hgi
        · rw [hgj j e]; exact hbefore hq j (by omega) hlj
    -- what the operation tells at this state, and which memory stands behind it
    have htell : ∃ G', OnOff call x (foldT ds vs T (fun j => listed.getD j true) k) G G' (vs i) ∧ (H :: gs)[lcl (l.take k) (fun j => (listed.setIfInBounds i true).getD j true) k]? = some G' := by
      rcases hst3 with ⟨hw, hev1⟩ | ⟨hw, hv, hHe⟩
      · cases hq : x.loud with
        | true =>
          have hGe : G = Hs i := by
            rw [hcntL hq, hG i (by omega)] at hGi
            exact (Option.some.inj hGi).symm
          refine ⟨Hs (i + 1), .inl ⟨by rw [hwantE]; exact hw, by rw [evO_congr hag, hGe]; exact hev1⟩, ?_⟩
          rw [hcntL2 hq]
          exact hG (i + 1) (by omega)
        | false =>
          have hs2 : x.o.sort ≠ 2 := fun e => by rw [PI.loud, e] at hq; cases hq
          rw [sort_call hs2] at hev1
          refine ⟨G, .inl ⟨by rw [hwantE]; exact hw, ?_⟩, by rw [hcntQ hq]; exact hGi⟩
          rw [evO_congr hag, sort_call hs2]
          by_cases h0 : x.o.sort = 0
          · exact (sort0 h0 hev1).2 G
          · have h1 : x.o.sort = 1 := by
              have := sort_le x.o
              omega
            rcases hreads with hemp | hreads
            · have hgs : gs = [] := by simpa using hemp
              subst hgs
              have e1 : G = H := by
                have hlt1 : lcl (l.take k) (fun j => listed.getD j true) k < 1 := (List.getElem?_eq_some_iff.1 hGi).1
                have h0 : lcl (l.take k) (fun j => listed.getD j true) k = 0 := by omega
                rw [h0] at hGi
                exact (Option.some.inj hGi).symm
              have e2 : Hs i = H := by
                have hgi2 := hG i (by omega)
                have hlt1 : lcl (l.take k) (fun _ => true) i < 1 := (List.getElem?_eq_some_iff.1 hgi2).1
                have h0 : lcl (l.take k) (fun _ => true) i = 0 := by omega
                rw [h0] at hgi2
                exact (Option.some.inj hgi2).symm
              have e3 := sort1 h1 hev1
              rw [e1]
              rw [e2] at hev1 e3
              rw [e3] at hev1
              exact hev1
            · have h2 := List.all_eq_true.1 hreads i (by rw [hlen]; exact List.mem_range.2 hik)
              rw [hx2, hst2] at h2
              simp only [h1, show Nat.beq 1 1 = true from rfl, Bool.not_true, Bool.false_or, hw] at h2
              have hgl := (List.getElem?_eq_some_iff.1 hGi).1
              have h3 := List.all_eq_true.1 h2 _ (List.mem_range.2 hgl)
              rw [hmay listed i o hcl hi ho hik (by rw [hloud, hq]), hGi] at h3
              simp only [Bool.not_true, Bool.false_or] at h3
              split at h3
              · rename_i v' H2 hev2
                rw [valEq_eq h3] at hev2
                rw [sort1 h1 hev2] at hev2
                exact hev2
              · cases h3
      · refine ⟨G, .inr ⟨by rw [hwantE]; exact hw, hv, rfl⟩, ?_⟩
        cases hq : x.loud with
        | true =>
          have hGe : G = Hs i := by
            rw [hcntL hq, hG i (by omega)] at hGi
            exact (Option.some.inj hGi).symm
          rw [hcntL2 hq, hG (i + 1) (by omega), hGe, hHe]
        | false => rw [hcntQ hq]; exact hGi
    obtain ⟨G', hon, hGn⟩ := htell
    rcases hon with ⟨hw, hev⟩ | ⟨hw, hv, hGe⟩
    · left
      have hgo := want_on hTR hw
      refine ⟨?_, fun Q => ?_⟩
      · rcases hgd with ⟨hg, _⟩ | ⟨j, bb, s', hg, hj, he⟩
        · simp [Region.wanted, hg]
        · rw [he] at hgo
          simp [Region.wanted, hg, hsat.yielded hj hgo]
      · refine Oper.wp_mono ?_ (evO_snd (S := S) (n := n) hcall hTR hHR hev o b w' Q hco hsat hrep)
        rintro a' w'' ⟨u, S', rfl, hrep', ρ2, L2, hp2, hv2, rfl, hHR2⟩
        refine ⟨u, rfl, ?_⟩
        rw [hInvE]
        exact ⟨ρ2, L2, put o.dst u Tc', G', hGn, hpre.trans hp2, hHR2, hrep', hsat.put hdok u, hTRnew ρ2 u hp2 hv2⟩
    · right
      obtain ⟨s', bb, u, hg2, hlk2, hb⟩ := want_off hTR hw
      refine ⟨?_, ?_⟩
      · rcases hgd with ⟨_, hg⟩ | ⟨j, b', s2, hg, hj, he⟩
        · rw [hg] at hg2; cases hg2
        · rw [hg2] at he
          simp only [Option.some.injEq, Prod.mk.injEq] at he
          obtain ⟨rfl, rfl⟩ := he
          simp only [Region.wanted, hg, hsat.yieldedV hj hlk2]
          exact hb
      · rw [hInvE]
        subst hGe
        exact ⟨ρ', L', put o.dst undef Tc', G', hGn, hpre, hHR, hrep, hsat.put hdok undef, hTRnew ρ' undef (List.prefix_refl _) (by rw [hv]; exact undef_VR)⟩
  refine wp_region_any hm ?_
  have key : ∀ (fuel : Nat) (listed : Array Bool) (b : Act) (w' : World), listed.size = ops.size →
      (∀ j o, ops[j]? = some o → listed.getD j true = true → ∀ e ∈ o.after, Region.binds .any e = true → listed.getD e.on true = true) → (∀ i ∈ Hs0, listed.getD i true = true) →
      (∀ t, k ≤ t → t < ops.size → listed.getD t true = false) → Inv listed b w' → cnt (fun j => listed.getD j true) ops.size = fuel →
      wpAny P .any ops (fun e a' w' => e = .normal ∧ ∃ T2 S2, Sat n T2 a' ∧ Rep w0 S2 w' ∧ StR w0 ρ S T' H' T2 S2) fuel listed b w' := by
    -- the head is done
    have done : ∀ (listed : Array Bool) (b : Act) (w' : World), (∀ j, j < k → listed.getD j true = true) → Inv listed b w' → ∃ (ρ' : Rho) (L' : LL) (Tc' : TT), ρ <+: ρ' ∧ HR w0 ρ' Hm L' ∧ Rep w0 (cs L' S) w' ∧ Sat n Tc' b ∧ TR ρ' Tm Tc' := by
      intro listed b w' hall hinv
      rw [hInvE] at hinv
      obtain ⟨ρ', L', Tc', G, hGi, hpre, hHR, hrep, hsat, hTR⟩ := hinv
      have e1 : lcl (l.take k) (fun j => listed.getD j true) k = lcl (l.take k) (fun _ => true) k := lcl_congr k fun j hj _ => hall j hj
      rw [e1, hG k (Nat.le_refl _), hHsk] at hGi
      obtain rfl := Option.some.inj hGi
      refine ⟨ρ', L', Tc', hpre, hHR, hrep, hsat, ?_⟩
      have e2 : foldT ds vs T (fun j => listed.getD j true) k = Tm := by
        rw [foldT_all k (g := fun j => decide (j < k)) (fun j hj => by rw [hall j hj]; simp [hj]), foldT_below hTs0 k (Nat.le_refl _) hTs, hTsk]
      rw [e2] at hTR
      exact hTR
    intro fuel
    induction fuel with
    | zero =>
      intro listed b w' hsz hcl hHl htl hinv hcnt
      have hall : ∀ j, j < ops.size → listed.getD j true = true := by
        intro j hj
        cases hx : listed.getD j true with
        | true => rfl
        | false =>
          exfalso
          have : ∀ m, j < m → 0 < cnt (fun j => listed.getD j true) m := by
            intro m
            induction m with
            | zero => intro h; omega
            | succ m ih =>
              intro h
              simp only [cnt]
              by_cases e : j = m
              · subst e; simp [hx]
              · have := ih (by omega); omega
          have := this ops.size hj
          omega
      have hkeq : k = ops.size := by
        rcases Nat.lt_or_ge k ops.size with h | h
        · have h1 := htl k (Nat.le_refl _) h
          have h2 := hall k h
          rw [h1] at h2
          cases h2
        · omega
      obtain ⟨ρ', L', Tc', hpre, hHR, hrep, hsat, hTR⟩ := done listed b w' (fun j hj => hall j (by omega)) hinv
      refine ⟨?_, ?_⟩
      · unfold Region.ready
        rw [List.filter_eq_nil_iff]
        intro i hi
        rw [hall i (List.mem_range.1 hi)]
        simp
      · have hc3 : cIs P n ops [] = some (l.drop k) := by
          rw [hkeq, Nat.sub_self] at hc2
          rw [hkeq]
          simpa using hc2
        have := evL_ol (S := S) (n := n) hcall hTR hHR htail' ops [] b w' (fun e a' w' => e = .normal ∧ ∃ T2 S2, Sat n T2 a' ∧ Rep w0 S2 w' ∧ StR w0 ρ S T' H' T2 S2) hc3 hsat hrep (fun a' w' T2 S2 h3 h4 ⟨ρ2, L2, p1, p2⟩ => ⟨rfl, T2, S2, h3, h4, ρ2, L2, hpre.trans p1, p2⟩)
        simpa [wpOps] using this
    | succ fuel ih =>
      intro listed b w' hsz hcl hHl htl hinv hcnt
      by_cases hall : ∀ j, j < k → listed.getD j true = true
      · have hexact : ∀ j, j < ops.size → listed.getD j true = decide (j < k) := by
          intro j hj
          by_cases h : j < k
          · rw [hall j h]; simp [h]
          · rw [htl j (by omega) hj]; simp [h]
        obtain ⟨ρ', L', Tc', hpre, hHR, hrep, hsat, hTR⟩ := done listed b w' hall hinv
        have hfuel : fuel + 1 = ops.size - k := by
          rw [← hcnt, cnt_congr ops.size hexact, cnt_below]
        rw [hfuel]
        have htl2 : ∀ listed' : Array Bool, ∀ t s', k ≤ s' → s' < t → t < ops.size → (∀ j, j < ops.size → listed'.getD j true = decide (j < s')) → listed'.size = ops.size → t ∉ Region.ready .any ops listed' := by
          intro l'' t s' h1 h2 h3 h4 h5 hmem
          have := hreadyX l'' t (fun j o ho hj e he hbd => by
            have hlt := backB_spec hback ho he hbd
            have hjs : j < ops.size := (Array.getElem?_eq_some_iff.1 ho).1
            rw [h4 j hjs] at hj
            rw [h4 e.on (by omega)]
            simp only [decide_eq_true_eq] at hj ⊢
            omega) hmem s' (by omega) (htail t s' (by omega) h3 h2 (fun hm' => by have := hHk s' hm'; omega)) (by omega)
          rw [h4 s' (by omega)] at this
          simp at this
        refine wpAny_tail hback (ops.size - k) k listed b w' (by omega) hsz hexact (fun t i h1 h2 h3 h4 h5 => htl2 listed t k (Nat.le_refl _) h1 h2 hexact hsz) htl2 ?_
        exact evL_ol (S := S) (n := n) hcall hTR hHR htail' ops _ b w' _ hc2 hsat hrep (fun a' w' T2 S2 h3 h4 ⟨ρ2, L2, p1, p2⟩ => ⟨rfl, T2, S2, h3, h4, ρ2, L2, hpre.trans p1, p2⟩)
      · refine ⟨fun h0 => ?_, fun i hi => ?_⟩
        · exfalso
          obtain ⟨i, hi1, hi2, hi3⟩ := cnt_pos ops.size (by rw [hcnt]; omega : 0 < cnt (fun j => listed.getD j true) ops.size)
          have : i ∈ Region.ready .any ops listed := by
            rw [mem_ready]
            refine ⟨hi2, ops[i], by simp [hi1], fun e he hbd => ?_⟩
            have hlt := backB_spec hback (show ops[i]? = some ops[i] by simp [hi1]) he hbd
            have h3 := hi3 e.on hlt
            have : e.on < listed.size := by omega
            simpa [this] using h3
          rw [h0] at this
          simp at this
        · have hmem := mem_ready.1 hi
          obtain ⟨hun, o, ho, hpre⟩ := hmem
          have hilt : i < ops.size := (Array.getElem?_eq_some_iff.1 ho).1
          have hik : i < k := by
            rcases Nat.lt_or_ge i k with h | h
            · exact h
            · exfalso
              refine hall fun j hj => ?_
              by_cases hjH : j ∈ Hs0
              · exact hHl j hjH
              · exact hreadyX listed i hcl hi j (by omega) (htail i j h hilt (by omega) hjH) (by omega)
          have hnext : ∀ (b' : Act) (w'' : World), Inv (listed.setIfInBounds i true) b' w'' → wpAny P .any ops (fun e a' w' => e = .normal ∧ ∃ T2 S2, Sat n T2 a' ∧ Rep w0 S2 w' ∧ StR w0 ρ S T' H' T2 S2) fuel (listed.setIfInBounds i true) b' w'' := by
            intro b' w'' hinv'
            have hgj : ∀ j, j ≠ i → (listed.setIfInBounds i true).getD j true = listed.getD j true := fun j hj => getD_set_ne true (Ne.symm hj)
            refine ih _ _ w'' (by simpa using hsz) (hclset listed i o hsz hcl hi ho) ?_ ?_ hinv' ?_
            · intro j hj
              by_cases e : j = i
              · subst e; exact hgetset listed j hsz hilt
              · rw [hgj j e]; exact hHl j hj
            · intro t h3 h4
              rw [hgj t (by omega)]
              exact htl t h3 h4
            · have := hcntset listed i hsz hi hilt
              omega
          unfold wpOp
          simp only [ho]
          rcases hgo listed i o b w' hsz hcl hi ho hik hinv with ⟨hw1, hw2⟩ | ⟨hw1, hw2⟩
          · rw [if_pos hw1]
            left
            refine Oper.wp_mono ?_ (hw2 _)
            rintro b' w'' ⟨u, rfl, hinv'⟩
            exact hnext _ w'' hinv'
          · rw [hw1]
            simp only [Bool.false_eq_true, if_false]
            exact hnext _ w' hw2
  -- the moves first
  have phase0 : ∀ (Hr : List Nat) (listed : Array Bool) (b : Act) (w' : World), hoistB ops Hr listed = true → (∀ i ∈ Hr, i < k) → listed.size = ops.size →
      (∀ j o, ops[j]? = some o → listed.getD j true = true → ∀ e ∈ o.after, Region.binds .any e = true → listed.getD e.on true = true) → (∀ i ∈ Hs0, listed.getD i true = true ∨ i ∈ Hr) →
      (∀ t, k ≤ t → t < ops.size → listed.getD t true = false) → Inv listed b w' →
      wpAny P .any ops (fun e a' w' => e = .normal ∧ ∃ T2 S2, Sat n T2 a' ∧ Rep w0 S2 w' ∧ StR w0 ρ S T' H' T2 S2) (cnt (fun j => listed.getD j true) ops.size) listed b w' := by
    intro Hr
    induction Hr with
    | nil =>
      intro listed b w' _ _ hsz hcl hHl htl hinv
      exact key _ listed b w' hsz hcl (fun i hi => (hHl i hi).resolve_right (by simp)) htl hinv rfl
    | cons i Hr ih =>
      intro listed b w' hh hlt hsz hcl hHl htl hinv
      simp only [hoistB, Bool.and_eq_true] at hh
      obtain ⟨⟨⟨hho, hfree⟩, hready⟩, hrest⟩ := hh
      have hi : i ∈ Region.ready .any ops listed := by simpa using hready
      obtain ⟨hun, o, ho, hpre⟩ := mem_ready.1 hi
      have hilt : i < ops.size := (Array.getElem?_eq_some_iff.1 ho).1
      have hik : i < k := hlt i (by simp)
      have hgj : ∀ j, j ≠ i → (listed.setIfInBounds i true).getD j true = listed.getD j true := fun j hj => getD_set_ne true (Ne.symm hj)
      rw [hcntset listed i hsz hi hilt]
      simp only [hoistable?, ho, hoistable, Bool.and_eq_true] at hho
      obtain ⟨hgn, hmv⟩ := hho
      have hgn' : o.guard = none := by simpa using hgn
      have hwant : ∀ t : Array Value, Region.wanted o (yielded ops t) = true := fun t => by simp [Region.wanted, hgn']
      have hmove : ∃ x, (o.op = .move x ∨ o.op = .assign x) := by
        cases hop : o.op <;> rw [hop] at hmv <;> simp at hmv
        · exact ⟨_, .inl rfl⟩
        · exact ⟨_, .inr rfl⟩
      obtain ⟨x, hx⟩ := hmove
      have hexec : ∀ ρ, execOp ρ o = pure (.value (ρ x)) := by
        intro ρ
        rcases hx with hx | hx <;> simp [execOp, hx]
      rcases hgo listed i o b w' hsz hcl hi ho hik hinv with ⟨_, hw2⟩ | ⟨hw1, _⟩
      · have h2 := hw2 (fun _ _ _ => False)
        unfold Oper.wp at h2
        rw [hexec] at h2
        simp only [Sem.run_pure, Oper.upon] at h2
        obtain ⟨u, hu, hinv'⟩ := h2
        refine wpAny_take (oi := o) (v := b.eval x) ho hsel hfree hready (fun c a w hq => by simp at hq) (.inl ⟨hwant _, fun w => by rw [hexec]; rfl⟩) ?_
        refine ih _ _ w' hrest (fun j hj => hlt j (by simp [hj])) (by simpa using hsz) (hclset listed i o hsz hcl hi ho) ?_ ?_ hinv'
        · intro j hj
          by_cases e : j = i
          · subst e; exact .inl (hgetset listed j hsz hilt)
          · rw [hgj j e]
            rcases hHl j hj with h | h
            · exact .inl h
            · rcases List.mem_cons.1 h with h | h
              · exact absurd h e
              · exact .inr h
        · intro t h3 h4
          rw [hgj t (by omega)]
          exact htl t h3 h4
      · rw [hwant] at hw1; cases hw1
  have hcnt0 : cnt (fun j => (Array.replicate ops.size false).getD j true) ops.size = ops.size := by
    rw [cnt_congr (g := fun j => decide (j < 0)) ops.size (fun j hj => by simp [hj]), cnt_below]
    omega
  have hr0 : Rep w0 (cs L S) { w with drawn := w.drawn + 1 } := hr.same ((Below.refl _ w).drew) (fun _ _ => rfl)
  have hrep0 : ∀ j, j < k → (Array.replicate ops.size false).getD j true = decide (j < 0) := by
    intro j hj
    have : j < ops.size := by omega
    simp [this]
  have := phase0 Hs0 (Array.replicate ops.size false) a { w with drawn := w.drawn + 1 } hhoist hHk (by simp) ?_ (fun i hi => .inr hi) ?_ ?_
  · rwa [hcnt0] at this
  · intro j o ho hj
    exfalso
    have hlt : j < ops.size := (Array.getElem?_eq_some_iff.1 ho).1
    simp [hlt] at hj
  · intro t _ ht
    simp [ht]
  · rw [hInvE]
    refine ⟨ρ, L, Tc, H, ?_, List.prefix_refl _, hH, hr0, hs, ?_⟩
    · rw [lcl_none (c := 0) k (Nat.zero_le _) (fun j _ hj _ => by rw [hrep0 j hj]; simp)]
      rfl
    · rw [foldT_all k (g := fun j => decide (j < 0)) (fun j hj => by rw [hrep0 j hj]), foldT_below hTs0 k (Nat.zero_le _) hTs, hTs0]
      exact hT
end
end Go.SL
