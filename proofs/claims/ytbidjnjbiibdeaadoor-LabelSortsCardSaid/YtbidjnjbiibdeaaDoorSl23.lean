/- Regions that draw their order, with fresh cells among operations that turn nothing. -/
import Derived.Test.YtbidjnjbiibdeaaDoorSl22
set_option linter.unusedVariables false
set_option linter.unusedSimpArgs false
namespace Go.SL
open Go.RowKit

section
variable {P : Program} {w0 : World} {n : Nat} {T : TT} {S : SS}
abbrev AlOp := Nat × TypeId × List Value
def alPI (x : AlOp) : PI := ⟨some x.1, none, .al x.2.1 x.2.2⟩
def alSeg (x : AlOp) (r : Nat) : Seg := [(r, .cells x.2.2 x.2.1 x.2.2.length)]
def bindA : List AlOp → List Nat → TT → TT
  | x :: al, r :: rs, T => bindA al rs (put (some x.1) (.pointer (some ⟨r, 0, none⟩)) T)
  | _, _, T => T
def segA : List AlOp → List Nat → SS
  | x :: al, r :: rs => alSeg x r :: segA al rs
  | _, _ => []
def alD : AlOp := (0, 0, [])
theorem segA_eq (r : Nat → Nat) : ∀ (al : List AlOp) (p : Nat), segA al ((List.range' p al.length).map r) = (List.range' p al.length).map fun j => alSeg (al.getD (j - p) alD) (r j)
  | [], p => rfl
  | x :: al, p => by
    have ih := segA_eq r al (p + 1)
    simp only [List.length_cons, List.range'_succ, List.map_cons, segA, ih]
    congr 1
    · simp
    · apply List.map_congr_left
      intro j hj
      have := List.mem_range'.1 hj
      obtain ⟨q, hq, rfl⟩ := this
      rw [show p + 1 + 1 * q - p = q + 1 by omega, show p + 1 + 1 * q - (p + 1) = q by omega, List.getD_cons_succ]
theorem cIs_at {ops : Array Oper} : ∀ (is : List Nat) (l : List PI) (j q : Nat) (x : PI), cIs P n ops is = some l → is[j]? = some q → l[j]? = some x → cI P n ops q = some x := by
  intro is
  induction is with
  | nil => intro l j q x _ hq; simp at hq
  | cons i0 is ih =>
    intro l j q x hcs hq hx
    cases l with
    | nil => simp at hx
    | cons y l =>
      obtain ⟨i', r, he, h1, h2⟩ := cIs_cons hcs
      simp only [List.cons.injEq] at he
      obtain ⟨rfl, rfl⟩ := he
      cases j with
      | zero => simp at hq hx; subst hq; subst hx; exact h1
      | succ j => exact ih l j q x h2 (by simpa using hq) (by simpa using hx)

set_option maxHeartbeats 4000000 in
theorem PW.quietAl {k : Nat} {l A : List PI} {al : List AlOp} {Q : Exit → TT → SS → Prop} {T1 : TT} {va : List Value} (hm : P.follows .mixedOrders = true) (hl : l.take k = A ++ al.map alPI)
    (hA : QLs P w0 n (Over S) A T T1 va) (h4 : ∀ rs : List Nat, rs.length = al.length → OL P w0 n (l.drop k) (bindA al rs T1) (segA al rs ++ S) (Q .normal)) : PW P w0 n (.quiet k l) T S Q := by
  intro c hc a w hs hr
  cases c
  case region id ops dr =>
    cases dr with
    | false => simp [cC] at hc
    | true =>
      simp only [cC] at hc
      split at hc
      case isFalse => simp at hc
      rename_i hcond
      simp only [Bool.and_eq_true] at hcond
      obtain ⟨⟨⟨hap, hback⟩, hsel⟩, hhoist⟩ := hcond
      simp only [Option.map_eq_some_iff] at hc
      obtain ⟨l', hcis, hmk⟩ := hc
      obtain ⟨rfl, rfl⟩ := mkQ_quiet hmk
      obtain ⟨hhead, hkle⟩ := headOf_spec ops (hoists ops) ops.size (Nat.le_refl _)
      change headB ops ((hoists ops).filter (· < quietAt ops)) (quietAt ops) = true at hhead
      change quietAt ops ≤ ops.size at hkle
      generalize hk : quietAt ops = k at *
      generalize hH : (hoists ops).filter (· < k) = Hs at *
      have hHk : ∀ i ∈ Hs, i < k := fun i hi => by rw [← hH] at hi; simpa using (List.mem_filter.1 hi).2
      have hsplit : List.range ops.size = List.range' 0 k ++ List.range' k (ops.size - k) := by
        rw [List.range_eq_range']
        have := List.range'_append (s := 0) (m := k) (n := ops.size - k) (step := 1)
        simp only [Nat.one_mul, Nat.zero_add] at this
        rw [this]
        congr 1
        omega
      rw [hsplit] at hcis
      obtain ⟨hc1, hc2⟩ := cIs_append hcis
      simp only [List.length_range'] at hc1 hc2
      have hlen : (l'.take k).length = k := by simpa using cIs_length hc1
      rw [hl] at hc1 hlen
      simp only [List.length_append, List.length_map] at hlen
      have hra : List.range' 0 k = List.range' 0 A.length ++ List.range' A.length al.length := by
        have h1 := List.range'_append (s := 0) (m := A.length) (n := al.length) (step := 1)
        simp only [Nat.one_mul, Nat.zero_add] at h1
        rw [h1]; congr 1; omega
      have hc1' := hc1
      rw [hra] at hc1'
      obtain ⟨hcA, hcR⟩ := cIs_append hc1'
      simp only [List.length_range', List.take_left', List.drop_left'] at hcA hcR
      obtain ⟨hla, hsA, hgA, hdA⟩ := hA.trace 0 a hcA hs
      simp only [Nat.zero_add, Nat.sub_zero] at hsA hgA hdA
      let vs : (Nat → Nat) → Nat → Value := fun r i => if i < A.length then va.getD i undef else .pointer (some ⟨r i, 0, none⟩)
      have hvA : ∀ r i, i < A.length → vs r i = va.getD i undef := fun r i hi => by simp only [vs]; rw [if_pos hi]
      have hvB : ∀ r i, ¬ i < A.length → vs r i = .pointer (some ⟨r i, 0, none⟩) := fun r i hi => by simp only [vs]; rw [if_neg hi]
      have hrunA : ∀ r m, m ≤ A.length → runA ops (vs r) 0 m a = runA ops (fun i => va.getD i undef) 0 m a := fun r m hm' =>
        foldl_ext' _ _ _ _ fun b j hj => by
          have := List.mem_range'.1 hj
          rw [hvA r j (by omega)]
      -- what stands at each place
      have hpi : ∀ i o, i < k → ops[i]? = some o → ∃ x, (A ++ al.map alPI)[i]? = some x ∧ cOp P o = some x.o ∧ dstOk n o.dst = true ∧ o.dst = x.d ∧ ((o.guard = none ∧ x.g = none) ∨ ∃ j b s, o.guard = some (j, b) ∧ (ops[j]?).bind (·.dst) = some s ∧ x.g = some (s, b)) := by
        intro i o hi ho
        have hlt : i < (A ++ al.map alPI).length := by simp only [List.length_append, List.length_map]; omega
        have hx : (A ++ al.map alPI)[i]? = some (A ++ al.map alPI)[i] := List.getElem?_eq_getElem hlt
        have hci := cIs_at (List.range' 0 k) _ i i _ hc1 (by rw [List.getElem?_range' (by omega)]; simp) hx
        obtain ⟨o', ho', h1, h2, h3, h4⟩ := cI_spec hci
        obtain rfl : o = o' := by rw [ho] at ho'; exact Option.some.inj ho'
        exact ⟨_, hx, h1, h2, h3, h4⟩
      have hal : ∀ i o, i < k → ¬ i < A.length → ops[i]? = some o → cOp P o = some (.al (al.getD (i - A.length) alD).2.1 (al.getD (i - A.length) alD).2.2) ∧ dstOk n o.dst = true ∧ o.dst = some (al.getD (i - A.length) alD).1 ∧ o.guard = none := by
        intro i o hi hge ho
        obtain ⟨x, hx, h1, h2, h3, h4⟩ := hpi i o hi ho
        rw [List.getElem?_append_right (by omega), List.getElem?_map] at hx
        obtain ⟨y, hy, rfl⟩ := Option.map_eq_some_iff.1 hx
        have e : al.getD (i - A.length) alD = y := by simp [List.getD_eq_getElem?_getD, hy]
        rw [e]
        refine ⟨h1, h2, h3, ?_⟩
        rcases h4 with ⟨h4, _⟩ | ⟨_, _, _, _, _, h4⟩
        · exact h4
        · cases h4
      have hkA : k = A.length + al.length := by omega
      have hsat' : ∀ r, Sat n (bindA al ((List.range' A.length al.length).map r) T1) (runA ops (vs r) 0 k a) := by
        intro r
        have gen : ∀ (q : List AlOp) (p : Nat) (T' : TT), (∀ j, j < q.length → p + j < k ∧ ¬ p + j < A.length ∧ al.getD (p + j - A.length) alD = q.getD j alD) → Sat n T' (runA ops (vs r) 0 p a) → Sat n (bindA q ((List.range' p q.length).map r) T') (runA ops (vs r) 0 (p + q.length) a) := by
          intro q
          induction q with
          | nil => intro p T' _ h; simpa [bindA] using h
          | cons x q ih =>
            intro p T' hq h
            obtain ⟨h1, h2, h3⟩ := hq 0 (by simp)
            rw [Nat.add_zero] at h1 h2 h3
            rw [List.getD_cons_zero] at h3
            have hpo : p < ops.size := by omega
            have ho : ops[p]? = some ops[p] := by simp [hpo]
            obtain ⟨_, hdk, hdd, _⟩ := hal p _ h1 h2 ho
            rw [h3] at hdd
            have e2 : runA ops (vs r) 0 (p + 1) a = (runA ops (vs r) 0 p a).put (some x.1) (.pointer (some ⟨r p, 0, none⟩)) := by
              have : dstAt ops p = some x.1 := by simp [dstAt, ho, hdd]
              rw [← hvB r p h2, ← this]
              simp [runA, List.range'_concat]
            simp only [List.length_cons, List.range'_succ, List.map_cons, bindA]
            rw [show p + (q.length + 1) = p + 1 + q.length by omega]
            refine ih (p + 1) _ (fun j hj => ?_) ?_
            · obtain ⟨g1, g2, g3⟩ := hq (j + 1) (by simp; omega)
              rw [show p + (j + 1) = p + 1 + j by omega, List.getD_cons_succ] at *
              exact ⟨g1, g2, g3⟩
            · rw [e2]; exact h.put (by rw [← hdd]; exact hdk) _
        rw [hkA]
        refine gen al A.length T1 (fun j hj => ⟨by omega, by omega, by rw [show A.length + j - A.length = j by omega]⟩) ?_
        rw [hrunA r _ (Nat.le_refl _)]; exact hsA
      have hgives : ∀ r S', Over S S' → ∀ i, i < A.length → GivesAt P w0 S' ops i (vs r i) (runA ops (vs r) 0 i a) := by
        intro r S' hS' i h
        have := hgA i h S' hS'
        rw [hvA r i h, hrunA r i (by omega)]
        exact this
      have hdst : ∀ i o, i < k → ops[i]? = some o → dstOk n o.dst = true := fun i o hi ho => by obtain ⟨x, _, _, h2, _⟩ := hpi i o hi ho; exact h2
      let ST : (Nat → Nat) → List Nat → SS := fun r is => is.map (fun j => alSeg (al.getD (j - A.length) alD) (r j)) ++ S
      have hST : ∀ r is, Over S (ST r is) := fun r is q hq => by simp only [ST, List.flatten_append, List.mem_append]; exact .inr hq
      have hfin : ∀ r is w', is.Nodup → (∀ j, j ∈ is ↔ A.length ≤ j ∧ j < k) → Rep w0 (ST r is) w' → Rep w0 (segA al ((List.range' A.length al.length).map r) ++ S) w' := by
        intro r is w' hnd hmem hr'
        have hperm : (List.range' A.length al.length).Perm is := (List.perm_ext_iff_of_nodup List.nodup_range' hnd).2 fun j => by
          rw [hmem, List.mem_range'_1]; omega
        rw [segA_eq]
        have hp2 : ((List.range' A.length al.length).map (fun j => alSeg (al.getD (j - A.length) alD) (r j)) ++ S).Perm (ST r is) := (hperm.map _).append_right S
        refine hr'.sub (fun q hq => ?_) ?_
        · exact (hp2.flatten.mem_iff).1 hq
        · exact ((hp2.flatten.map Prod.fst).nodup_iff).2 hr'.nodup
      -- ordered pairs
      have hpair : ∀ i j, i < j → j < ops.size → ∀ oi oj, ops[i]? = some oi → ops[j]? = some oj → behind (reach ops) j i = true ∨ oi.apart ops oj = true := by
        intro i j hij hj oi oj hoi hoj
        have := List.all_eq_true.1 (List.all_eq_true.1 hap j (List.mem_range.2 hj)) i (List.mem_range.2 hij)
        simpa [hoi, hoj] using this
      have htail : ∀ t i, k ≤ t → t < ops.size → i < t → i ∉ Hs → behind (reach ops) t i = true := by
        intro t i hkt ht hi hnH
        have := List.all_eq_true.1 hhead t (List.mem_range.2 ht)
        simp only [Bool.or_eq_true, decide_eq_true_eq] at this
        rcases this with h | h
        · omega
        · have := List.all_eq_true.1 h i (List.mem_range.2 hi)
          simpa [hnH] using this
      have hreadyX : ∀ (listed : Array Bool) i, (∀ j o, ops[j]? = some o → listed.getD j true = true → ∀ e ∈ o.after, Region.binds .any e = true → listed.getD e.on true = true) → i ∈ Region.ready .any ops listed →
          ∀ j, j < ops.size → behind (reach ops) i j = true → j ≠ i → listed.getD j true = true := by
        intro listed i hcl hi j hj hb hne
        obtain ⟨hun, o, ho, hall⟩ := mem_ready.1 hi
        have hX : Closed ops (fun x => listed.getD x true = true ∨ x = i) := by
          rintro x ox hox (hx | rfl) e he hbd
          · exact .inl (hcl x ox hox hx e he hbd)
          · obtain rfl : o = ox := by rw [ho] at hox; exact Option.some.inj hox
            have := hall e he hbd
            left
            cases hlt : listed[e.on]? with
            | none => simp [hlt] at this
            | some b => simpa [hlt] using this
        rcases behind_spec hX (Array.getElem?_eq_some_iff.1 ho).1 hb (.inr rfl) with h | h
        · exact h
        · exact absurd h hne
      have horder : ∀ (listed : Array Bool) i o, (∀ j o, ops[j]? = some o → listed.getD j true = true → ∀ e ∈ o.after, Region.binds .any e = true → listed.getD e.on true = true) → i ∈ Region.ready .any ops listed → ops[i]? = some o → i < k →
          ∀ x, (x ∈ o.looksAt ops ∨ o.dst = some x) → ∀ j, j < k → j ≠ i → dstAt ops j = some x → decide (j < i) = listed.getD j true := by
        intro listed i o hcl hi ho hik x hx j hj hne hdj
        obtain ⟨hun, o', ho', hpre⟩ := mem_ready.1 hi
        have hilt : i < ops.size := (Array.getElem?_eq_some_iff.1 ho).1
        have hjlt : j < ops.size := by omega
        have hoj : ops[j]? = some ops[j] := by simp [hjlt]
        have hdj' : ops[j].dst = some x := by simpa [dstAt, hoj] using hdj
        rcases Nat.lt_or_gt_of_ne hne with h | h
        · rcases hpair j i h hilt _ _ hoj ho with hb' | hap'
          · rw [hreadyX listed i hcl hi j hjlt hb' hne]
            simp [h]
          · obtain ⟨e1, e2, e3⟩ := Oper.apart_spec hap'
            rcases hx with hx | hx
            · exact absurd hx (e1 x hdj')
            · exact absurd hx (e2 x hdj')
        · rcases hpair i j h hjlt _ _ ho hoj with hb' | hap'
          · have hnl : listed.getD j true = false := by
              cases hlj : listed.getD j true with
              | false => rfl
              | true =>
                exfalso
                have hX : Closed ops (fun x => listed.getD x true = true) := fun x ox hox hx e he hbd => hcl x ox hox hx e he hbd
                have := behind_spec hX hjlt hb' hlj
                rw [hun] at this
                cases this
            rw [hnl]
            simp; omega
          · obtain ⟨e1, e2, e3⟩ := Oper.apart_spec hap'
            rcases hx with hx | hx
            · exact absurd hx (e3 x hdj')
            · exact absurd hdj' (e2 x hx)
      have hgetset : ∀ (listed : Array Bool) i, listed.size = ops.size → i < ops.size → (listed.setIfInBounds i true).getD i true = true := by
        intro listed i h1 h2
        have : i < listed.size := by omega
        simp [this]
      have hput : ∀ (u : Nat → Nat) (listed : Array Bool) i o, listed.size = ops.size → (∀ j o, ops[j]? = some o → listed.getD j true = true → ∀ e ∈ o.after, Region.binds .any e = true → listed.getD e.on true = true) → i ∈ Region.ready .any ops listed → ops[i]? = some o → i < k →
          (foldF ops (vs u) (fun j => listed.getD j true) k a).put o.dst (vs u i) = foldF ops (vs u) (fun j => (listed.setIfInBounds i true).getD j true) k a := by
        intro u listed i o hsz hcl hi ho hik
        have hilt : i < ops.size := (Array.getElem?_eq_some_iff.1 ho).1
        have hdo : dstOk n o.dst = true := hdst i o hik ho
        have hda : dstAt ops i = o.dst := by simp [dstAt, ho]
        have hgi := hgetset listed i hsz hilt
        have hgj : ∀ j, j ≠ i → (listed.setIfInBounds i true).getD j true = listed.getD j true := fun j hj => getD_set_ne true (Ne.symm hj)
        have szs : ∀ f, (foldF ops (vs u) f k a).tmps.size = a.tmps.size := fun f => (foldF_size ops (vs u) f k a).1
        have dfs : ∀ f, (foldF ops (vs u) f k a).defers = a.defers := fun f => (foldF_size ops (vs u) f k a).2
        refine act_ext ?_ ?_ fun x => ?_
        · cases o.dst <;> simp [Act.put, szs]
        · cases o.dst <;> simp [Act.put, dfs]
        · by_cases hx : o.dst = some x
          · have e1 : (foldF ops (vs u) (fun j => (listed.setIfInBounds i true).getD j true) k a).tmps[x]? = (foldF ops (vs u) (fun j => decide (j < i + 1)) k a).tmps[x]? := by
              refine foldF_agree ops (vs u) _ _ k a x fun j hj hdj => ?_
              by_cases e : j = i
              · subst e; rw [hgi]; simp
              · rw [hgj j e, ← horder listed i o hcl hi ho hik x (.inr hx) j hj e hdj]
                by_cases h : j < i
                · have : j < i + 1 := by omega
                  simp [h, this]
                · have : ¬ j < i + 1 := by omega
                  simp [h, this]
            rw [e1, foldF_runA ops (vs u) (i + 1) k a (by omega)]
            have e2 : runA ops (vs u) 0 (i + 1) a = (runA ops (vs u) 0 i a).put (dstAt ops i) (vs u i) := by
              simp [runA, List.range'_concat]
            rw [e2, hda, hx]
            simp only [Act.put]
            have hxn : x < a.tmps.size := by rw [hs.size]; simpa [dstOk, hx] using hdo
            have hsz1 : (runA ops (vs u) 0 i a).tmps.size = a.tmps.size := by rw [← foldF_runA ops (vs u) i k a (by omega)]; exact szs _
            rw [Array.getElem?_setIfInBounds_self_of_lt (by rw [szs]; exact hxn), Array.getElem?_setIfInBounds_self_of_lt (by rw [hsz1]; exact hxn)]
          · have e1 : (foldF ops (vs u) (fun j => (listed.setIfInBounds i true).getD j true) k a).tmps[x]? = (foldF ops (vs u) (fun j => listed.getD j true) k a).tmps[x]? := by
              refine foldF_agree ops (vs u) _ _ k a x fun j hj hdj => ?_
              by_cases e : j = i
              · subst e; rw [hda] at hdj; exact absurd hdj hx
              · exact hgj j e
            rw [e1]
            cases hd : o.dst with
            | none => rfl
            | some y =>
              have : y ≠ x := fun e => hx (by rw [hd, e])
              simp [Act.put, Array.getElem?_setIfInBounds_ne this]
      have hagree : ∀ (u : Nat → Nat) (listed : Array Bool) i o, (∀ j o, ops[j]? = some o → listed.getD j true = true → ∀ e ∈ o.after, Region.binds .any e = true → listed.getD e.on true = true) → i ∈ Region.ready .any ops listed → ops[i]? = some o → i < k →
          ∀ x, x ∈ o.looksAt ops → (runA ops (vs u) 0 i a).tmps[x]? = (foldF ops (vs u) (fun j => listed.getD j true) k a).tmps[x]? := by
        intro u listed i o hcl hi ho hik x hx
        rw [← foldF_runA ops (vs u) i k a (by omega)]
        refine foldF_agree ops (vs u) _ _ k a x fun j hj hdj => ?_
        by_cases e : j = i
        · subst e
          have hun := (mem_ready.1 hi).1
          rw [hun]; simp
        · exact horder listed i o hcl hi ho hik x (.inl hx) j hj e hdj
      have hclset : ∀ (listed : Array Bool) i o, listed.size = ops.size → (∀ j o, ops[j]? = some o → listed.getD j true = true → ∀ e ∈ o.after, Region.binds .any e = true → listed.getD e.on true = true) → i ∈ Region.ready .any ops listed → ops[i]? = some o →
          (∀ j o, ops[j]? = some o → (listed.setIfInBounds i true).getD j true = true → ∀ e ∈ o.after, Region.binds .any e = true → (listed.setIfInBounds i true).getD e.on true = true) := by
        intro listed i o hsz hcl hi ho j oj hoj hj e he hbd
        have hilt : i < ops.size := (Array.getElem?_eq_some_iff.1 ho).1
        obtain ⟨hun, o', ho', hpre⟩ := mem_ready.1 hi
        obtain rfl : o = o' := by rw [ho] at ho'; exact Option.some.inj ho'
        have hgj : ∀ j, j ≠ i → (listed.setIfInBounds i true).getD j true = listed.getD j true := fun j hj => getD_set_ne true (Ne.symm hj)
        by_cases e1 : e.on = i
        · rw [e1]; exact hgetset listed i hsz hilt
        · rw [hgj _ e1]
          by_cases e2 : j = i
          · subst e2
            obtain rfl : o = oj := by rw [ho] at hoj; exact Option.some.inj hoj
            have := hpre e he hbd
            cases hlt : listed[e.on]? with
            | none => simp [hlt] at this
            | some bb => simpa [hlt] using this
          · rw [hgj _ e2] at hj
            exact hcl j oj hoj hj e he hbd
      have hcntset : ∀ (listed : Array Bool) i, listed.size = ops.size → i ∈ Region.ready .any ops listed → i < ops.size → cnt (fun j => listed.getD j true) ops.size = cnt (fun j => (listed.setIfInBounds i true).getD j true) ops.size + 1 := by
        intro listed i hsz hi hilt
        have := cnt_set (f := fun j => listed.getD j true) (g := fun j => (listed.setIfInBounds i true).getD j true) (i := i) (mem_ready.1 hi).1 (hgetset listed i hsz hilt) (fun j hj => getD_set_ne true (Ne.symm hj)) ops.size
        simpa [hilt] using this
      refine wp_mono (Q := fun e a' w' => e = .normal ∧ ∃ T' S', Sat n T' a' ∧ Rep w0 S' w' ∧ Q e T' S') ?_ (fun e a' w' h => h.2)
      refine wp_region_any hm ?_
      have key : ∀ (fuel : Nat) (listed : Array Bool) (b : Act) (w' : World), listed.size = ops.size →
          (∀ j o, ops[j]? = some o → listed.getD j true = true → ∀ e ∈ o.after, Region.binds .any e = true → listed.getD e.on true = true) → (∀ i ∈ Hs, listed.getD i true = true) →
          (∀ t, k ≤ t → t < ops.size → listed.getD t true = false) → (∃ (u : Nat → Nat) (is : List Nat), (is.Nodup ∧ ∀ j, j ∈ is ↔ A.length ≤ j ∧ j < k ∧ listed.getD j true = true) ∧ b = foldF ops (vs u) (fun j => listed.getD j true) k a ∧ Rep w0 (ST u is) w') → cnt (fun j => listed.getD j true) ops.size = fuel →
          wpAny P .any ops (fun e a' w' => e = .normal ∧ ∃ T' S', Sat n T' a' ∧ Rep w0 S' w' ∧ Q e T' S') fuel listed b w' := by
        intro fuel
        induction fuel with
        | zero =>
          intro listed b w' hsz hcl hHl htl ⟨u, is, hph, hb, hr'⟩ hcnt
          have hall : ∀ j, j < ops.size → listed.getD j true = true := by
            intro j hj
            cases hx : listed.getD j true with
            | true => rfl
            | false =>
              exfalso
              have : ∀ m, j < m → 0 < cnt (fun j => listed.getD j true) m := by
                intro m
                induction m with
                | zero => intro h; omega
                | succ m ih =>
                  intro h
                  simp only [cnt]
                  by_cases e : j = m
                  · subst e; simp [hx]
                  · have := ih (by omega); omega
              have := this ops.size hj
              omega
          have hKx := hfin u is w' hph.1 (fun j => by rw [hph.2]; exact ⟨fun h => ⟨h.1, h.2.1⟩, fun h => ⟨h.1, h.2, hall j (by omega)⟩⟩) hr'
          have hkeq : k = ops.size := by
            rcases Nat.lt_or_ge k ops.size with h | h
            · have h1 := htl k (Nat.le_refl _) h
              have h2 := hall k h
              rw [h1] at h2
              cases h2
            · omega
          have hbt : b = runA ops (vs u) 0 k a := by
            rw [hb, ← foldF_runA ops (vs u) k k a (Nat.le_refl _)]
            unfold foldF
            refine foldl_ext' _ _ _ _ fun b j hj => ?_
            have hj' := List.mem_range.1 hj
            simp [hall j (by omega), hj']
          refine ⟨?_, ?_⟩
          · unfold Region.ready
            rw [List.filter_eq_nil_iff]
            intro i hi
            rw [hall i (List.mem_range.1 hi)]
            simp
          · have := h4 _ (by simp) ops [] b w' (fun e a' w' => e = .normal ∧ ∃ T' S', Sat n T' a' ∧ Rep w0 S' w' ∧ Q e T' S') (by
              rw [hkeq, Nat.sub_self] at hc2
              rw [hkeq]
              simpa using hc2) (hbt ▸ hsat' u) hKx (fun a' w' T' S' h3 h4 h5 => ⟨rfl, T', S', h3, h4, h5⟩)
            simpa [wpOps] using this
        | succ fuel ih =>
          intro listed b w' hsz hcl hHl htl ⟨u, is, hph, hb, hr'⟩ hcnt
          by_cases hall : ∀ j, j < k → listed.getD j true = true
          · -- the head is done
            have hKx := hfin u is w' hph.1 (fun j => by rw [hph.2]; exact ⟨fun h => ⟨h.1, h.2.1⟩, fun h => ⟨h.1, h.2, hall j h.2⟩⟩) hr'
            have hexact : ∀ j, j < ops.size → listed.getD j true = decide (j < k) := by
              intro j hj
              by_cases h : j < k
              · rw [hall j h]; simp [h]
              · rw [htl j (by omega) hj]; simp [h]
            have hbt : b = runA ops (vs u) 0 k a := by
              rw [hb, ← foldF_runA ops (vs u) k k a (Nat.le_refl _)]
              unfold foldF
              refine foldl_ext' _ _ _ _ fun b j hj => ?_
              have hj' := List.mem_range.1 hj
              simp [hall j hj', hj']
            have hfuel : fuel + 1 = ops.size - k := by
              rw [← hcnt, cnt_congr ops.size hexact, cnt_below]
            rw [hfuel]
            have htl2 : ∀ listed' : Array Bool, ∀ t s', k ≤ s' → s' < t → t < ops.size → (∀ j, j < ops.size → listed'.getD j true = decide (j < s')) → listed'.size = ops.size → t ∉ Region.ready .any ops listed' := by
              intro l'' t s' h1 h2 h3 h4 h5 hmem
              have := hreadyX l'' t (fun j o ho hj e he hbd => by
                have hlt := backB_spec hback ho he hbd
                have hjs : j < ops.size := (Array.getElem?_eq_some_iff.1 ho).1
                rw [h4 j hjs] at hj
                rw [h4 e.on (by omega)]
                simp only [decide_eq_true_eq] at hj ⊢
                omega) hmem s' (by omega) (htail t s' (by omega) h3 h2 (fun hm' => by have := hHk s' hm'; omega)) (by omega)
              rw [h4 s' (by omega)] at this
              simp at this
            refine wpAny_tail hback (ops.size - k) k listed b w' (by omega) hsz hexact (fun t i h1 h2 h3 h4 h5 => htl2 listed t k (Nat.le_refl _) h1 h2 hexact hsz) htl2 ?_
            exact h4 _ (by simp) ops _ b w' _ hc2 (hbt ▸ hsat' u) hKx (fun a' w' T' S' h3 h4 h5 => ⟨rfl, T', S', h3, h4, h5⟩)
          · refine ⟨fun h0 => ?_, fun i hi => ?_⟩
            · exfalso
              obtain ⟨i, hi1, hi2, hi3⟩ := cnt_pos ops.size (by rw [hcnt]; omega : 0 < cnt (fun j => listed.getD j true) ops.size)
              have : i ∈ Region.ready .any ops listed := by
                rw [mem_ready]
                refine ⟨hi2, ops[i], by simp [hi1], fun e he hbd => ?_⟩
                have hlt := backB_spec hback (show ops[i]? = some ops[i] by simp [hi1]) he hbd
                have h3 := hi3 e.on hlt
                have : e.on < listed.size := by omega
                simpa [this] using h3
              rw [h0] at this
              simp at this
            · have hmem := mem_ready.1 hi
              obtain ⟨hun, o, ho, hpre⟩ := hmem
              have hilt : i < ops.size := (Array.getElem?_eq_some_iff.1 ho).1
              have hik : i < k := by
                rcases Nat.lt_or_ge i k with h | h
                · exact h
                · exfalso
                  refine hall fun j hj => ?_
                  by_cases hjH : j ∈ Hs
                  · exact hHl j hjH
                  · exact hreadyX listed i hcl hi j (by omega) (htail i j h hilt (by omega) hjH) (by omega)
              have hdo : dstOk n o.dst = true := hdst i o hik ho
              have hagree' := hagree u listed i o hcl hi ho hik
              rw [← hb] at hagree'
              have hev : execOp (runA ops (vs u) 0 i a).eval o = execOp b.eval o :=
                execOp_congr o (fun cs bb hh => Region.noSelect_spec hsel i o cs bb ho hh) fun x hx => eval_agree fun t ht => hagree' t (looks_op (ht ▸ hx))
              have hwan := wanted_agree (ops := ops) (o := o) (a := runA ops (vs u) 0 i a) (b := b) hagree'
              have hgj : ∀ j, j ≠ i → (listed.setIfInBounds i true).getD j true = listed.getD j true := fun j hj => getD_set_ne true (Ne.symm hj)
              have hnext : ∀ (u2 : Nat → Nat) (is2 : List Nat) w'' b2, (is2.Nodup ∧ ∀ j, j ∈ is2 ↔ A.length ≤ j ∧ j < k ∧ (listed.setIfInBounds i true).getD j true = true) → b2 = foldF ops (vs u2) (fun j => (listed.setIfInBounds i true).getD j true) k a → Rep w0 (ST u2 is2) w'' → wpAny P .any ops (fun e a' w' => e = .normal ∧ ∃ T' S', Sat n T' a' ∧ Rep w0 S' w' ∧ Q e T' S') fuel (listed.setIfInBounds i true) b2 w'' := by
                intro u2 is2 w'' b2 hp2 hb2 hr''
                refine ih _ _ w'' (by simpa using hsz) (hclset listed i o hsz hcl hi ho) ?_ ?_ ⟨u2, is2, hp2, hb2, hr''⟩ ?_
                · intro j hj
                  by_cases e : j = i
                  · subst e; exact hgetset listed j hsz hilt
                  · rw [hgj j e]; exact hHl j hj
                · intro t h3 h4'
                  rw [hgj t (by omega)]
                  exact htl t h3 h4'
                · have := hcntset listed i hsz hi hilt
                  omega
              have hsz1 : (runA ops (vs u) 0 i a).tmps.size = n := by rw [← foldF_runA ops (vs u) i k a (by omega), (foldF_size ops (vs u) _ k a).1, hs.size]
              have hsz2 : b.tmps.size = n := by rw [hb, (foldF_size ops (vs u) _ k a).1, hs.size]
              have hdf : (runA ops (vs u) 0 i a).defers = [] := by rw [← foldF_runA ops (vs u) i k a (by omega), (foldF_size ops (vs u) _ k a).2, hs.defers]
              have hputu := fun u2 => hput u2 listed i o hsz hcl hi ho hik
              unfold wpOp
              simp only [ho]
              by_cases hip : ¬ i < A.length
              · -- a fresh cell
                obtain ⟨hco, hdk, hdd, hgn⟩ := hal i o hik hip ho
                have hwt : Region.wanted o (yielded ops b.tmps) = true := by simp [Region.wanted, hgn]
                rw [if_pos hwt]
                left
                have hsb : Sat n [] b := ⟨hsz2, by rw [hb, (foldF_size ops (vs u) _ k a).2, hs.defers], fun i v hv => by simp [look] at hv⟩
                refine Oper.wp_mono ?_ (OW.al (T := []) (S := ST u is) o b w' _ hco hsb hr')
                rintro b' w'' ⟨v2, S2, rfl, hr2, r0, rfl, rfl⟩
                have hni : i ∉ is := fun h => by have := ((hph.2 i).1 h).2.2; rw [hun] at this; cases this
                have hgi : (listed.setIfInBounds i true).getD i true = true := hgetset listed i hsz hilt
                refine hnext (fun j => if j = i then r0 else u j) (i :: is) w'' _ ⟨List.nodup_cons.2 ⟨hni, hph.1⟩, fun j => ?_⟩ ?_ ?_
                · by_cases e : j = i
                  · subst e; simp only [List.mem_cons, true_or, hgi, and_true, true_iff]; omega
                  · rw [hgj j e, List.mem_cons, ← hph.2]; simp [e]
                · have h7 := hputu (fun j => if j = i then r0 else u j)
                  have h8 : vs (fun j => if j = i then r0 else u j) i = .pointer (some ⟨r0, 0, none⟩) := by
                    have := hvB (fun j => if j = i then r0 else u j) i hip
                    simpa using this
                  have h9 : (foldF ops (vs fun j => if j = i then r0 else u j) (fun j => listed.getD j true) k a).put o.dst (.pointer (some ⟨r0, 0, none⟩)) = foldF ops (vs fun j => if j = i then r0 else u j) (fun j => (listed.setIfInBounds i true).getD j true) k a := by
                    rw [← h8]; exact h7
                  rw [← h9, hb]
                  congr 1
                  unfold foldF
                  refine foldl_ext' _ _ _ _ fun b j hj => ?_
                  by_cases hjl : listed.getD j true = true
                  · have hjp : j ≠ i := fun e => by rw [e, hun] at hjl; cases hjl
                    have : vs u j = vs (fun j => if j = i then r0 else u j) j := by
                      simp only [vs]; rw [if_neg hjp]
                    rw [this]
                  · simp [hjl]
                · have e : ST (fun j => if j = i then r0 else u j) (i :: is) = [(r0, .cells (al.getD (i - A.length) alD).2.2 (al.getD (i - A.length) alD).2.1 (al.getD (i - A.length) alD).2.2.length)] :: ST u is := by
                    simp only [ST, List.map_cons, List.cons_append, if_true]
                    congr 2
                    apply List.map_congr_left
                    intro j hj
                    rw [if_neg (fun (e : j = i) => hni (e ▸ hj))]
                  rw [e]; exact hr2
              · have hip' : i < A.length := by omega
                have hph2 : is.Nodup ∧ ∀ j, j ∈ is ↔ A.length ≤ j ∧ j < k ∧ (listed.setIfInBounds i true).getD j true = true := ⟨hph.1, fun j => by
                  rw [hph.2]
                  by_cases e : j = i
                  · subst e; constructor <;> (intro h; omega)
                  · rw [hgj j e]⟩
                rcases hgives u _ (hST u is) i hip' o ho with ⟨hw1, hw2⟩ | ⟨hw1, hw2⟩
                · rw [hwan] at hw1
                  rw [if_pos hw1]
                  left
                  refine Oper.wp_mono ?_ (wp_transfer hev (by rw [hsz1, hsz2]) (by rw [hsz1]; exact hdo) hdf (hw2 w' hr'))
                  rintro b' w'' ⟨rfl, hr''⟩
                  exact hnext u is w'' _ hph2 (by rw [hb]; exact hputu u) hr''
                · rw [hwan] at hw1
                  rw [hw1]
                  simp only [Bool.false_eq_true, if_false]
                  have h9 := hputu u
                  rw [hw2] at h9
                  exact hnext u is w' _ hph2 (by rw [hb]; exact h9) hr'
      -- the moves first
      let r0 : Nat → Nat := fun _ => 0
      have phase0 : ∀ (Hr : List Nat) (listed : Array Bool) (b : Act) (w' : World), hoistB ops Hr listed = true → (∀ i ∈ Hr, i < k) → listed.size = ops.size →
          (∀ j o, ops[j]? = some o → listed.getD j true = true → ∀ e ∈ o.after, Region.binds .any e = true → listed.getD e.on true = true) → (∀ i ∈ Hs, listed.getD i true = true ∨ i ∈ Hr) →
          (∀ t, k ≤ t → t < ops.size → listed.getD t true = false) → (∀ j, A.length ≤ j → j < k → listed.getD j true = false) → b = foldF ops (vs r0) (fun j => listed.getD j true) k a → Rep w0 (ST r0 []) w' →
          wpAny P .any ops (fun e a' w' => e = .normal ∧ ∃ T' S', Sat n T' a' ∧ Rep w0 S' w' ∧ Q e T' S') (cnt (fun j => listed.getD j true) ops.size) listed b w' := by
        intro Hr
        induction Hr with
        | nil =>
          intro listed b w' _ _ hsz hcl hHl htl hnp hb hr'
          exact key _ listed b w' hsz hcl (fun i hi => (hHl i hi).resolve_right (by simp)) htl ⟨r0, [], ⟨List.nodup_nil, fun j => by simp only [List.not_mem_nil, false_iff]; rintro ⟨h1, h2, h3⟩; rw [hnp j h1 h2] at h3; cases h3⟩, hb, hr'⟩ rfl
        | cons i Hr ih =>
          intro listed b w' hh hlt hsz hcl hHl htl hnp hb hr'
          simp only [hoistB, Bool.and_eq_true] at hh
          obtain ⟨⟨⟨hho, hfree⟩, hready⟩, hrest⟩ := hh
          have hi : i ∈ Region.ready .any ops listed := by simpa using hready
          obtain ⟨hun, o, ho, hpre⟩ := mem_ready.1 hi
          have hilt : i < ops.size := (Array.getElem?_eq_some_iff.1 ho).1
          have hik : i < k := hlt i (by simp)
          have hgj : ∀ j, j ≠ i → (listed.setIfInBounds i true).getD j true = listed.getD j true := fun j hj => getD_set_ne true (Ne.symm hj)
          rw [hcntset listed i hsz hi hilt]
          simp only [hoistable?, ho, hoistable, Bool.and_eq_true] at hho
          obtain ⟨hgn, hmv⟩ := hho
          have hgn' : o.guard = none := by simpa using hgn
          have hwant : ∀ t : Array Value, Region.wanted o (yielded ops t) = true := fun t => by simp [Region.wanted, hgn']
          have hagree' := hagree r0 listed i o hcl hi ho hik
          rw [← hb] at hagree'
          have hdo : dstOk n o.dst = true := hdst i o hik ho
          have hsz1 : (runA ops (vs r0) 0 i a).tmps.size = n := by rw [← foldF_runA ops (vs r0) i k a (by omega), (foldF_size ops (vs r0) _ k a).1, hs.size]
          have hmove : ∃ x, (o.op = .move x ∨ o.op = .assign x) := by
            cases hop : o.op <;> rw [hop] at hmv <;> simp at hmv
            · exact ⟨_, .inl rfl⟩
            · exact ⟨_, .inr rfl⟩
          obtain ⟨x, hx⟩ := hmove
          have hip : i < A.length := by
            rcases Nat.lt_or_ge i A.length with h | h
            · exact h
            · exfalso
              have h6 := (hal i o hik (by omega) ho).1
              have h5 : cOp P o = some (.mov (cV x)) := by unfold cOp cOp0; rcases hx with hx | hx <;> simp [hx]
              rw [h5] at h6
              cases h6
          have hexec : ∀ ρ, execOp ρ o = pure (.value (ρ x)) := by
            intro ρ
            rcases hx with hx | hx <;> simp [execOp, hx]
          have hval : b.eval x = vs r0 i ∨ o.dst = none := by
            rcases hgives r0 _ (hST r0 []) i hip o ho with ⟨_, hw2⟩ | ⟨hw1, _⟩
            · have := hw2 w' hr'
              unfold Oper.wp at this
              rw [hexec] at this
              simp only [Sem.run_pure, Oper.upon] at this
              have hev : (runA ops (vs r0) 0 i a).eval x = b.eval x := eval_agree fun t ht => hagree' t (looks_op (by rcases hx with hx | hx <;> simp [hx, Op.operands, ht]))
              cases hd : o.dst with
              | none => exact .inr rfl
              | some d =>
                left
                rw [hd] at this hdo
                have h3 := congrArg (fun c : Act => c.tmps[d]?) this.1
                have hdn : d < n := by simpa [dstOk] using hdo
                simp [Act.put, hsz1, hdn] at h3
                rw [← hev]; exact h3
            · rw [hwant] at hw1; cases hw1
          refine wpAny_take (oi := o) (v := b.eval x) ho hsel hfree hready (fun c a w hq => by simp at hq) (.inl ⟨hwant _, fun w => by rw [hexec]; rfl⟩) ?_
          have hbput : b.put o.dst (b.eval x) = foldF ops (vs r0) (fun j => (listed.setIfInBounds i true).getD j true) k a := by
            rw [← hput r0 listed i o hsz hcl hi ho hik, ← hb]
            rcases hval with h | h
            · rw [h]
            · rw [h]; rfl
          rw [hbput]
          refine ih _ _ w' hrest (fun j hj => hlt j (by simp [hj])) (by simpa using hsz) (hclset listed i o hsz hcl hi ho) ?_ ?_ (fun j h1 h2 => by rw [hgj _ (by omega)]; exact hnp j h1 h2) rfl hr'
          · intro j hj
            by_cases e : j = i
            · subst e; exact .inl (hgetset listed j hsz hilt)
            · rw [hgj j e]
              rcases hHl j hj with h | h
              · exact .inl h
              · rcases List.mem_cons.1 h with h | h
                · exact absurd h e
                · exact .inr h
          · intro t h3 h4
            rw [hgj t (by omega)]
            exact htl t h3 h4
      have hcnt0 : cnt (fun j => (Array.replicate ops.size false).getD j true) ops.size = ops.size := by
        rw [cnt_congr (g := fun j => decide (j < 0)) ops.size (fun j hj => by simp [hj]), cnt_below]
        omega
      have := phase0 Hs (Array.replicate ops.size false) a { w with drawn := w.drawn + 1 } hhoist hHk (by simp) ?_ (fun i hi => .inr hi) ?_ (fun j h1 h2 => by have : j < ops.size := (by omega); simp [this]) ?_ ?_
      · rwa [hcnt0] at this
      · intro j o ho hj
        exfalso
        have hlt : j < ops.size := (Array.getElem?_eq_some_iff.1 ho).1
        simp [hlt] at hj
      · intro t _ ht
        simp [ht]
      · have : ∀ j, j < k → (Array.replicate ops.size false).getD j true = decide (j < 0) := by
          intro j hj
          have : j < ops.size := by omega
          simp [this]
        have h0 : foldF ops (vs r0) (fun j => (Array.replicate ops.size false).getD j true) k a = foldF ops (vs r0) (fun j => decide (j < 0)) k a := by
          unfold foldF
          refine foldl_ext' _ _ _ _ fun b j hj => ?_
          simp only [this j (List.mem_range.1 hj)]
        rw [h0, foldF_runA ops (vs r0) 0 k a (Nat.zero_le _)]
        rfl
      · exact hr.same ((Below.refl _ w).drew) (fun _ _ => rfl)
  all_goals (first | (simp [cC] at hc; done) | (simp only [cC] at hc; split at hc <;> simp at hc; done))

theorem PW.quietAlK {k p : Nat} {l : List PI} {al : List AlOp} {Q : Exit → TT → SS → Prop} (hm : P.follows .mixedOrders = true) (hl : (l.take k).drop p = al.map alPI)
    (h : QKs P w0 n S ((l.take k).take p) T (fun T1 => ∀ rs : List Nat, rs.length = al.length → OL P w0 n (l.drop k) (bindA al rs T1) (segA al rs ++ S) (Q .normal))) : PW P w0 n (.quiet k l) T S Q := by
  obtain ⟨T1, va, h1, h2⟩ := h
  exact PW.quietAl (A := (l.take k).take p) hm (by rw [← hl, List.take_append_drop]) h1 h2
theorem QKs.call {base : SS} {f : FuncId} {args : List PV} {vs : List Value} {v : Value} {d : Option Nat} {g : Option (Nat × Bool)} {r : List PI} {K : TT → Prop} (hg : gOk T g) (hv : valsP T args = some vs) (h : ∀ S, Over base S → FC P w0 f vs S (fun v' S' => v' = v ∧ S' = S))
    (k : QKs P w0 n base r (put d v T) K) : QKs P w0 n base (⟨d, g, .call f args⟩ :: r) T K :=
  let ⟨T', vs', h1, h2⟩ := k; ⟨T', _, .step hg (fun S hS => OW.call hv (h S hS)) h1, h2⟩
end
end Go.SL
