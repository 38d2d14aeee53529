/- Walks and plain facts for the laws of this seat: what each function answers, for every input. -/
import Derived.Test.YtbejcoeajlhmcaaPart2
import Derived.Lib.AppendZerosOnto
import Derived.Lib.Overlaps
import Derived.Maps.RangeRun
import Derived.DeepKeys4
import Derived.SizedLaws

set_option linter.unusedVariables false
set_option linter.unusedSimpArgs false
namespace Go.SL
open Go.RowKit
section
variable {P : Program} {w0 : World} {n : Nat} {T : TT} {S : SS}
abbrev AlOp := Nat × TypeId × List Value
def alPI (x : AlOp) : PI := ⟨some x.1, none, .al x.2.1 x.2.2⟩
def alSeg (x : AlOp) (r : Nat) : Seg := [(r, .cells x.2.2 x.2.1 x.2.2.length)]
def bindA : List AlOp → List Nat → TT → TT
  | x :: al, r :: rs, T => bindA al rs (put (some x.1) (.pointer (some ⟨r, 0, none⟩)) T)
  | _, _, T => T
def segA : List AlOp → List Nat → SS
  | x :: al, r :: rs => alSeg x r :: segA al rs
  | _, _ => []
def alD : AlOp := (0, 0, [])
theorem segA_eq (r : Nat → Nat) : ∀ (al : List AlOp) (p : Nat), segA al ((List.range' p al.length).map r) = (List.range' p al.length).map fun j => alSeg (al.getD (j - p) alD) (r j)
  | [], p => rfl
  | x :: al, p => by
    have ih := segA_eq r al (p + 1)
    simp only [List.length_cons, List.range'_succ, List.map_cons, segA, ih]
    congr 1
    · simp
    · apply List.map_congr_left
      intro j hj
      have := List.mem_range'.1 hj
      obtain ⟨q, hq, rfl⟩ := this
      rw [show p + 1 + 1 * q - p = q + 1 by omega, show p + 1 + 1 * q - (p + 1) = q by omega, List.getD_cons_succ]
theorem cIs_at {ops : Array Oper} : ∀ (is : List Nat) (l : List PI) (j q : Nat) (x : PI), cIs P n ops is = some l → is[j]? = some q → l[j]? = some x → cI P n ops q = some x := by
  intro is
  induction is with
  | nil => intro l j q x _ hq; simp at hq
  | cons i0 is ih =>
    intro l j q x hcs hq hx
    cases l with
    | nil => simp at hx
    | cons y l =>
      obtain ⟨i', r, he, h1, h2⟩ := cIs_cons hcs
      simp only [List.cons.injEq] at he
      obtain ⟨rfl, rfl⟩ := he
      cases j with
      | zero => simp at hq hx; subst hq; subst hx; exact h1
      | succ j => exact ih l j q x h2 (by simpa using hq) (by simpa using hx)
set_option maxHeartbeats 4000000 in
theorem PW.quietAl {k : Nat} {l A : List PI} {al : List AlOp} {Q : Exit → TT → SS → Prop} {T1 : TT} {va : List Value} (hm : P.follows .mixedOrders = true) (hl : l.take k = A ++ al.map alPI)
    (hA : QLs P w0 n (Over S) A T T1 va) (h4 : ∀ rs : List Nat, rs.length = al.length → OL P w0 n (l.drop k) (bindA al rs T1) (segA al rs ++ S) (Q .normal)) : PW P w0 n (.quiet k l) T S Q := by
  intro c hc a w hs hr
  cases c
  case region id ops dr =>
    cases dr with
    | false => simp [cC] at hc
    | true =>
      simp only [cC] at hc
      split at hc
      case isFalse => simp at hc
      rename_i hcond
      simp only [Bool.and_eq_true] at hcond
      obtain ⟨⟨⟨hap, hback⟩, hsel⟩, hhoist⟩ := hcond
      simp only [Option.map_eq_some_iff] at hc
      obtain ⟨l', hcis, hmk⟩ := hc
      obtain ⟨rfl, rfl⟩ := mkQ_quiet hmk
      obtain ⟨hhead, hkle⟩ := headOf_spec ops (hoists ops) ops.size (Nat.le_refl _)
      change headB ops ((hoists ops).filter (· < quietAt ops)) (quietAt ops) = true at hhead
      change quietAt ops ≤ ops.size at hkle
      generalize hk : quietAt ops = k at *
      generalize hH : (hoists ops).filter (· < k) = Hs at *
      have hHk : ∀ i ∈ Hs, i < k := fun i hi => by rw [← hH] at hi; simpa using (List.mem_filter.1 hi).2
      have hsplit : List.range ops.size = List.range' 0 k ++ List.range' k (ops.size - k) := by
        rw [List.range_eq_range']
        have := List.range'_append (s := 0) (m := k) (n := ops.size - k) (step := 1)
        simp only [Nat.one_mul, Nat.zero_add] at this
        rw [this]
        congr 1
        omega
      rw [hsplit] at hcis
      obtain ⟨hc1, hc2⟩ := cIs_append hcis
      simp only [List.length_range'] at hc1 hc2
      have hlen : (l'.take k).length = k := by simpa using cIs_length hc1
      rw [hl] at hc1 hlen
      simp only [List.length_append, List.length_map] at hlen
      have hra : List.range' 0 k = List.range' 0 A.length ++ List.range' A.length al.length := by
        have h1 := List.range'_append (s := 0) (m := A.length) (n := al.length) (step := 1)
        simp only [Nat.one_mul, Nat.zero_add] at h1
        rw [h1]; congr 1; omega
      have hc1' := hc1
      rw [hra] at hc1'
      obtain ⟨hcA, hcR⟩ := cIs_append hc1'
      simp only [List.length_range', List.take_left', List.drop_left'] at hcA hcR
      obtain ⟨hla, hsA, hgA, hdA⟩ := hA.trace 0 a hcA hs
      simp only [Nat.zero_add, Nat.sub_zero] at hsA hgA hdA
      let vs : (Nat → Nat) → Nat → Value := fun r i => if i < A.length then va.getD i undef else .pointer (some ⟨r i, 0, none⟩)
      have hvA : ∀ r i, i < A.length → vs r i = va.getD i undef := fun r i hi => by simp only [vs]; rw [if_pos hi]
      have hvB : ∀ r i, ¬ i < A.length → vs r i = .pointer (some ⟨r i, 0, none⟩) := fun r i hi => by simp only [vs]; rw [if_neg hi]
      have hrunA : ∀ r m, m ≤ A.length → runA ops (vs r) 0 m a = runA ops (fun i => va.getD i undef) 0 m a := fun r m hm' =>
        foldl_ext' _ _ _ _ fun b j hj => by
          have := List.mem_range'.1 hj
          rw [hvA r j (by omega)]
      -- what stands at each place
      have hpi : ∀ i o, i < k → ops[i]? = some o → ∃ x, (A ++ al.map alPI)[i]? = some x ∧ cOp P o = some x.o ∧ dstOk n o.dst = true ∧ o.dst = x.d ∧ ((o.guard = none ∧ x.g = none) ∨ ∃ j b s, o.guard = some (j, b) ∧ (ops[j]?).bind (·.dst) = some s ∧ x.g = some (s, b)) := by
        intro i o hi ho
        have hlt : i < (A ++ al.map alPI).length := by simp only [List.length_append, List.length_map]; omega
        have hx : (A ++ al.map alPI)[i]? = some (A ++ al.map alPI)[i] := List.getElem?_eq_getElem hlt
        have hci := cIs_at (List.range' 0 k) _ i i _ hc1 (by rw [List.getElem?_range' (by omega)]; simp) hx
        obtain ⟨o', ho', h1, h2, h3, h4⟩ := cI_spec hci
        obtain rfl : o = o' := by rw [ho] at ho'; exact Option.some.inj ho'
        exact ⟨_, hx, h1, h2, h3, h4⟩
      have hal : ∀ i o, i < k → ¬ i < A.length → ops[i]? = some o → cOp P o = some (.al (al.getD (i - A.length) alD).2.1 (al.getD (i - A.length) alD).2.2) ∧ dstOk n o.dst = true ∧ o.dst = some (al.getD (i - A.length) alD).1 ∧ o.guard = none := by
        intro i o hi hge ho
        obtain ⟨x, hx, h1, h2, h3, h4⟩ := hpi i o hi ho
        rw [List.getElem?_append_right (by omega), List.getElem?_map] at hx
        obtain ⟨y, hy, rfl⟩ := Option.map_eq_some_iff.1 hx
        have e : al.getD (i - A.length) alD = y := by simp [List.getD_eq_getElem?_getD, hy]
        rw [e]
        refine ⟨h1, h2, h3, ?_⟩
        rcases h4 with ⟨h4, _⟩ | ⟨_, _, _, _, _, h4⟩
        · exact h4
        · cases h4
      have hkA : k = A.length + al.length := by omega
      have hsat' : ∀ r, Sat n (bindA al ((List.range' A.length al.length).map r) T1) (runA ops (vs r) 0 k a) := by
        intro r
        have gen : ∀ (q : List AlOp) (p : Nat) (T' : TT), (∀ j, j < q.length → p + j < k ∧ ¬ p + j < A.length ∧ al.getD (p + j - A.length) alD = q.getD j alD) → Sat n T' (runA ops (vs r) 0 p a) → Sat n (bindA q ((List.range' p q.length).map r) T') (runA ops (vs r) 0 (p + q.length) a) := by
          intro q
          induction q with
          | nil => intro p T' _ h; simpa [bindA] using h
          | cons x q ih =>
            intro p T' hq h
            obtain ⟨h1, h2, h3⟩ := hq 0 (by simp)
            rw [Nat.add_zero] at h1 h2 h3
            rw [List.getD_cons_zero] at h3
            have hpo : p < ops.size := by omega
            have ho : ops[p]? = some ops[p] := by simp [hpo]
            obtain ⟨_, hdk, hdd, _⟩ := hal p _ h1 h2 ho
            rw [h3] at hdd
            have e2 : runA ops (vs r) 0 (p + 1) a = (runA ops (vs r) 0 p a).put (some x.1) (.pointer (some ⟨r p, 0, none⟩)) := by
              have : dstAt ops p = some x.1 := by simp [dstAt, ho, hdd]
              rw [← hvB r p h2, ← this]
              simp [runA, List.range'_concat]
            simp only [List.length_cons, List.range'_succ, List.map_cons, bindA]
            rw [show p + (q.length + 1) = p + 1 + q.length by omega]
            refine ih (p + 1) _ (fun j hj => ?_) ?_
            · obtain ⟨g1, g2, g3⟩ := hq (j + 1) (by simp; omega)
              rw [show p + (j + 1) = p + 1 + j by omega, List.getD_cons_succ] at *
              exact ⟨g1, g2, g3⟩
            · rw [e2]; exact h.put (by rw [← hdd]; exact hdk) _
        rw [hkA]
        refine gen al A.length T1 (fun j hj => ⟨by omega, by omega, by rw [show A.length + j - A.length = j by omega]⟩) ?_
        rw [hrunA r _ (Nat.le_refl _)]; exact hsA
      have hgives : ∀ r S', Over S S' → ∀ i, i < A.length → GivesAt P w0 S' ops i (vs r i) (runA ops (vs r) 0 i a) := by
        intro r S' hS' i h
        have := hgA i h S' hS'
        rw [hvA r i h, hrunA r i (by omega)]
        exact this
      have hdst : ∀ i o, i < k → ops[i]? = some o → dstOk n o.dst = true := fun i o hi ho => by obtain ⟨x, _, _, h2, _⟩ := hpi i o hi ho; exact h2
      let ST : (Nat → Nat) → List Nat → SS := fun r is => is.map (fun j => alSeg (al.getD (j - A.length) alD) (r j)) ++ S
      have hST : ∀ r is, Over S (ST r is) := fun r is q hq => by simp only [ST, List.flatten_append, List.mem_append]; exact .inr hq
      have hfin : ∀ r is w', is.Nodup → (∀ j, j ∈ is ↔ A.length ≤ j ∧ j < k) → Rep w0 (ST r is) w' → Rep w0 (segA al ((List.range' A.length al.length).map r) ++ S) w' := by
        intro r is w' hnd hmem hr'
        have hperm : (List.range' A.length al.length).Perm is := (List.perm_ext_iff_of_nodup List.nodup_range' hnd).2 fun j => by
          rw [hmem, List.mem_range'_1]; omega
        rw [segA_eq]
        have hp2 : ((List.range' A.length al.length).map (fun j => alSeg (al.getD (j - A.length) alD) (r j)) ++ S).Perm (ST r is) := (hperm.map _).append_right S
        refine hr'.sub (fun q hq => ?_) ?_
        · exact (hp2.flatten.mem_iff).1 hq
        · exact ((hp2.flatten.map Prod.fst).nodup_iff).2 hr'.nodup
      -- ordered pairs
      have hpair : ∀ i j, i < j → j < ops.size → ∀ oi oj, ops[i]? = some oi → ops[j]? = some oj → behind (reach ops) j i = true ∨ oi.apart ops oj = true := by
        intro i j hij hj oi oj hoi hoj
        have := List.all_eq_true.1 (List.all_eq_true.1 hap j (List.mem_range.2 hj)) i (List.mem_range.2 hij)
        simpa [hoi, hoj] using this
      have htail : ∀ t i, k ≤ t → t < ops.size → i < t → i ∉ Hs → behind (reach ops) t i = true := by
        intro t i hkt ht hi hnH
        have := List.all_eq_true.1 hhead t (List.mem_range.2 ht)
        simp only [Bool.or_eq_true, decide_eq_true_eq] at this
        rcases this with h | h
        · omega
        · have := List.all_eq_true.1 h i (List.mem_range.2 hi)
          simpa [hnH] using this
      have hreadyX : ∀ (listed : Array Bool) i, (∀ j o, ops[j]? = some o → listed.getD j true = true → ∀ e ∈ o.after, Region.binds .any e = true → listed.getD e.on true = true) → i ∈ Region.ready .any ops listed →
          ∀ j, j < ops.size → behind (reach ops) i j = true → j ≠ i → listed.getD j true = true := by
        intro listed i hcl hi j hj hb hne
        obtain ⟨hun, o, ho, hall⟩ := mem_ready.1 hi
        have hX : Closed ops (fun x => listed.getD x true = true ∨ x = i) := by
          rintro x ox hox (hx | rfl) e he hbd
          · exact .inl (hcl x ox hox hx e he hbd)
          · obtain rfl : o = ox := by rw [ho] at hox; exact Option.some.inj hox
            have := hall e he hbd
            left
            cases hlt : listed[e.on]? with
            | none => simp [hlt] at this
            | some b => simpa [hlt] using this
        rcases behind_spec hX (Array.getElem?_eq_some_iff.1 ho).1 hb (.inr rfl) with h | h
        · exact h
        · exact absurd h hne
      have horder : ∀ (listed : Array Bool) i o, (∀ j o, ops[j]? = some o → listed.getD j true = true → ∀ e ∈ o.after, Region.binds .any e = true → listed.getD e.on true = true) → i ∈ Region.ready .any ops listed → ops[i]? = some o → i < k →
          ∀ x, (x ∈ o.looksAt ops ∨ o.dst = some x) → ∀ j, j < k → j ≠ i → dstAt ops j = some x → decide (j < i) = listed.getD j true := by
        intro listed i o hcl hi ho hik x hx j hj hne hdj
        obtain ⟨hun, o', ho', hpre⟩ := mem_ready.1 hi
        have hilt : i < ops.size := (Array.getElem?_eq_some_iff.1 ho).1
        have hjlt : j < ops.size := by omega
        have hoj : ops[j]? = some ops[j] := by simp [hjlt]
        have hdj' : ops[j].dst = some x := by simpa [dstAt, hoj] using hdj
        rcases Nat.lt_or_gt_of_ne hne with h | h
        · rcases hpair j i h hilt _ _ hoj ho with hb' | hap'
          · rw [hreadyX listed i hcl hi j hjlt hb' hne]
            simp [h]
          · obtain ⟨e1, e2, e3⟩ := Oper.apart_spec hap'
            rcases hx with hx | hx
            · exact absurd hx (e1 x hdj')
            · exact absurd hx (e2 x hdj')
        · rcases hpair i j h hjlt _ _ ho hoj with hb' | hap'
          · have hnl : listed.getD j true = false := by
              cases hlj : listed.getD j true with
              | false => rfl
              | true =>
                exfalso
                have hX : Closed ops (fun x => listed.getD x true = true) := fun x ox hox hx e he hbd => hcl x ox hox hx e he hbd
                have := behind_spec hX hjlt hb' hlj
                rw [hun] at this
                cases this
            rw [hnl]
            simp; omega
          · obtain ⟨e1, e2, e3⟩ := Oper.apart_spec hap'
            rcases hx with hx | hx
            · exact absurd hx (e3 x hdj')
            · exact absurd hdj' (e2 x hx)
      have hgetset : ∀ (listed : Array Bool) i, listed.size = ops.size → i < ops.size → (listed.setIfInBounds i true).getD i true = true := by
        intro listed i h1 h2
        have : i < listed.size := by omega
        simp [this]
      have hput : ∀ (u : Nat → Nat) (listed : Array Bool) i o, listed.size = ops.size → (∀ j o, ops[j]? = some o → listed.getD j true = true → ∀ e ∈ o.after, Region.binds .any e = true → listed.getD e.on true = true) → i ∈ Region.ready .any ops listed → ops[i]? = some o → i < k →
          (foldF ops (vs u) (fun j => listed.getD j true) k a).put o.dst (vs u i) = foldF ops (vs u) (fun j => (listed.setIfInBounds i true).getD j true) k a := by
        intro u listed i o hsz hcl hi ho hik
        have hilt : i < ops.size := (Array.getElem?_eq_some_iff.1 ho).1
        have hdo : dstOk n o.dst = true := hdst i o hik ho
        have hda : dstAt ops i = o.dst := by simp [dstAt, ho]
        have hgi := hgetset listed i hsz hilt
        have hgj : ∀ j, j ≠ i → (listed.setIfInBounds i true).getD j true = listed.getD j true := fun j hj => getD_set_ne true (Ne.symm hj)
        have szs : ∀ f, (foldF ops (vs u) f k a).tmps.size = a.tmps.size := fun f => (foldF_size ops (vs u) f k a).1
        have dfs : ∀ f, (foldF ops (vs u) f k a).defers = a.defers := fun f => (foldF_size ops (vs u) f k a).2
        refine act_ext ?_ ?_ fun x => ?_
        · cases o.dst <;> simp [Act.put, szs]
        · cases o.dst <;> simp [Act.put, dfs]
        · by_cases hx : o.dst = some x
          · have e1 : (foldF ops (vs u) (fun j => (listed.setIfInBounds i true).getD j true) k a).tmps[x]? = (foldF ops (vs u) (fun j => decide (j < i + 1)) k a).tmps[x]? := by
              refine foldF_agree ops (vs u) _ _ k a x fun j hj hdj => ?_
              by_cases e : j = i
              · subst e; rw [hgi]; simp
              · rw [hgj j e, ← horder listed i o hcl hi ho hik x (.inr hx) j hj e hdj]
                by_cases h : j < i
                · have : j < i + 1 := by omega
                  simp [h, this]
                · have : ¬ j < i + 1 := by omega
                  simp [h, this]
            rw [e1, foldF_runA ops (vs u) (i + 1) k a (by omega)]
            have e2 : runA ops (vs u) 0 (i + 1) a = (runA ops (vs u) 0 i a).put (dstAt ops i) (vs u i) := by
              simp [runA, List.range'_concat]
            rw [e2, hda, hx]
            simp only [Act.put]
            have hxn : x < a.tmps.size := by rw [hs.size]; simpa [dstOk, hx] using hdo
            have hsz1 : (runA ops (vs u) 0 i a).tmps.size = a.tmps.size := by rw [← foldF_runA ops (vs u) i k a (by omega)]; exact szs _
            rw [Array.getElem?_setIfInBounds_self_of_lt (by rw [szs]; exact hxn), Array.getElem?_setIfInBounds_self_of_lt (by rw [hsz1]; exact hxn)]
          · have e1 : (foldF ops (vs u) (fun j => (listed.setIfInBounds i true).getD j true) k a).tmps[x]? = (foldF ops (vs u) (fun j => listed.getD j true) k a).tmps[x]? := by
              refine foldF_agree ops (vs u) _ _ k a x fun j hj hdj => ?_
              by_cases e : j = i
              · subst e; rw [hda] at hdj; exact absurd hdj hx
              · exact hgj j e
            rw [e1]
            cases hd : o.dst with
            | none => rfl
            | some y =>
              have : y ≠ x := fun e => hx (by rw [hd, e])
              simp [Act.put, Array.getElem?_setIfInBounds_ne this]
      have hagree : ∀ (u : Nat → Nat) (listed : Array Bool) i o, (∀ j o, ops[j]? = some o → listed.getD j true = true → ∀ e ∈ o.after, Region.binds .any e = true → listed.getD e.on true = true) → i ∈ Region.ready .any ops listed → ops[i]? = some o → i < k →
          ∀ x, x ∈ o.looksAt ops → (runA ops (vs u) 0 i a).tmps[x]? = (foldF ops (vs u) (fun j => listed.getD j true) k a).tmps[x]? := by
        intro u listed i o hcl hi ho hik x hx
        rw [← foldF_runA ops (vs u) i k a (by omega)]
        refine foldF_agree ops (vs u) _ _ k a x fun j hj hdj => ?_
        by_cases e : j = i
        · subst e
          have hun := (mem_ready.1 hi).1
          rw [hun]; simp
        · exact horder listed i o hcl hi ho hik x (.inl hx) j hj e hdj
      have hclset : ∀ (listed : Array Bool) i o, listed.size = ops.size → (∀ j o, ops[j]? = some o → listed.getD j true = true → ∀ e ∈ o.after, Region.binds .any e = true → listed.getD e.on true = true) → i ∈ Region.ready .any ops listed → ops[i]? = some o →
          (∀ j o, ops[j]? = some o → (listed.setIfInBounds i true).getD j true = true → ∀ e ∈ o.after, Region.binds .any e = true → (listed.setIfInBounds i true).getD e.on true = true) := by
        intro listed i o hsz hcl hi ho j oj hoj hj e he hbd
        have hilt : i < ops.size := (Array.getElem?_eq_some_iff.1 ho).1
        obtain ⟨hun, o', ho', hpre⟩ := mem_ready.1 hi
        obtain rfl : o = o' := by rw [ho] at ho'; exact Option.some.inj ho'
        have hgj : ∀ j, j ≠ i → (listed.setIfInBounds i true).getD j true = listed.getD j true := fun j hj => getD_set_ne true (Ne.symm hj)
        by_cases e1 : e.on = i
        · rw [e1]; exact hgetset listed i hsz hilt
        · rw [hgj _ e1]
          by_cases e2 : j = i
          · subst e2
            obtain rfl : o = oj := by rw [ho] at hoj; exact Option.some.inj hoj
            have := hpre e he hbd
            cases hlt : listed[e.on]? with
            | none => simp [hlt] at this
            | some bb => simpa [hlt] using this
          · rw [hgj _ e2] at hj
            exact hcl j oj hoj hj e he hbd
      have hcntset : ∀ (listed : Array Bool) i, listed.size = ops.size → i ∈ Region.ready .any ops listed → i < ops.size → cnt (fun j => listed.getD j true) ops.size = cnt (fun j => (listed.setIfInBounds i true).getD j true) ops.size + 1 := by
        intro listed i hsz hi hilt
        have := cnt_set (f := fun j => listed.getD j true) (g := fun j => (listed.setIfInBounds i true).getD j true) (i := i) (mem_ready.1 hi).1 (hgetset listed i hsz hilt) (fun j hj => getD_set_ne true (Ne.symm hj)) ops.size
        simpa [hilt] using this
      refine wp_mono (Q := fun e a' w' => e = .normal ∧ ∃ T' S', Sat n T' a' ∧ Rep w0 S' w' ∧ Q e T' S') ?_ (fun e a' w' h => h.2)
      refine wp_region_any hm ?_
      have key : ∀ (fuel : Nat) (listed : Array Bool) (b : Act) (w' : World), listed.size = ops.size →
          (∀ j o, ops[j]? = some o → listed.getD j true = true → ∀ e ∈ o.after, Region.binds .any e = true → listed.getD e.on true = true) → (∀ i ∈ Hs, listed.getD i true = true) →
          (∀ t, k ≤ t → t < ops.size → listed.getD t true = false) → (∃ (u : Nat → Nat) (is : List Nat), (is.Nodup ∧ ∀ j, j ∈ is ↔ A.length ≤ j ∧ j < k ∧ listed.getD j true = true) ∧ b = foldF ops (vs u) (fun j => listed.getD j true) k a ∧ Rep w0 (ST u is) w') → cnt (fun j => listed.getD j true) ops.size = fuel →
          wpAny P .any ops (fun e a' w' => e = .normal ∧ ∃ T' S', Sat n T' a' ∧ Rep w0 S' w' ∧ Q e T' S') fuel listed b w' := by
        intro fuel
        induction fuel with
        | zero =>
          intro listed b w' hsz hcl hHl htl ⟨u, is, hph, hb, hr'⟩ hcnt
          have hall : ∀ j, j < ops.size → listed.getD j true = true := by
            intro j hj
            cases hx : listed.getD j true with
            | true => rfl
            | false =>
              exfalso
              have : ∀ m, j < m → 0 < cnt (fun j => listed.getD j true) m := by
                intro m
                induction m with
                | zero => intro h; omega
                | succ m ih =>
                  intro h
                  simp only [cnt]
                  by_cases e : j = m
                  · subst e; simp [hx]
                  · have := ih (by omega); omega
              have := this ops.size hj
              omega
          have hKx := hfin u is w' hph.1 (fun j => by rw [hph.2]; exact ⟨fun h => ⟨h.1, h.2.1⟩, fun h => ⟨h.1, h.2, hall j (by omega)⟩⟩) hr'
          have hkeq : k = ops.size := by
            rcases Nat.lt_or_ge k ops.size with h | h
            · have h1 := htl k (Nat.le_refl _) h
              have h2 := hall k h
              rw [h1] at h2
              cases h2
            · omega
          have hbt : b = runA ops (vs u) 0 k a := by
            rw [hb, ← foldF_runA ops (vs u) k k a (Nat.le_refl _)]
            unfold foldF
            refine foldl_ext' _ _ _ _ fun b j hj => ?_
            have hj' := List.mem_range.1 hj
            simp [hall j (by omega), hj']
          refine ⟨?_, ?_⟩
          · unfold Region.ready
            rw [List.filter_eq_nil_iff]
            intro i hi
            rw [hall i (List.mem_range.1 hi)]
            simp
          · have := h4 _ (by simp) ops [] b w' (fun e a' w' => e = .normal ∧ ∃ T' S', Sat n T' a' ∧ Rep w0 S' w' ∧ Q e T' S') (by
              rw [hkeq, Nat.sub_self] at hc2
              rw [hkeq]
              simpa using hc2) (hbt ▸ hsat' u) hKx (fun a' w' T' S' h3 h4 h5 => ⟨rfl, T', S', h3, h4, h5⟩)
            simpa [wpOps] using this
        | succ fuel ih =>
          intro listed b w' hsz hcl hHl htl ⟨u, is, hph, hb, hr'⟩ hcnt
          by_cases hall : ∀ j, j < k → listed.getD j true = true
          · -- the head is done
            have hKx := hfin u is w' hph.1 (fun j => by rw [hph.2]; exact ⟨fun h => ⟨h.1, h.2.1⟩, fun h => ⟨h.1, h.2, hall j h.2⟩⟩) hr'
            have hexact : ∀ j, j < ops.size → listed.getD j true = decide (j < k) := by
              intro j hj
              by_cases h : j < k
              · rw [hall j h]; simp [h]
              · rw [htl j (by omega) hj]; simp [h]
            have hbt : b = runA ops (vs u) 0 k a := by
              rw [hb, ← foldF_runA ops (vs u) k k a (Nat.le_refl _)]
              unfold foldF
              refine foldl_ext' _ _ _ _ fun b j hj => ?_
              have hj' := List.mem_range.1 hj
              simp [hall j hj', hj']
            have hfuel : fuel + 1 = ops.size - k := by
              rw [← hcnt, cnt_congr ops.size hexact, cnt_below]
            rw [hfuel]
            have htl2 : ∀ listed' : Array Bool, ∀ t s', k ≤ s' → s' < t → t < ops.size → (∀ j, j < ops.size → listed'.getD j true = decide (j < s')) → listed'.size = ops.size → t ∉ Region.ready .any ops listed' := by
              intro l'' t s' h1 h2 h3 h4 h5 hmem
              have := hreadyX l'' t (fun j o ho hj e he hbd => by
                have hlt := backB_spec hback ho he hbd
                have hjs : j < ops.size := (Array.getElem?_eq_some_iff.1 ho).1
                rw [h4 j hjs] at hj
                rw [h4 e.on (by omega)]
                simp only [decide_eq_true_eq] at hj ⊢
                omega) hmem s' (by omega) (htail t s' (by omega) h3 h2 (fun hm' => by have := hHk s' hm'; omega)) (by omega)
              rw [h4 s' (by omega)] at this
              simp at this
            refine wpAny_tail hback (ops.size - k) k listed b w' (by omega) hsz hexact (fun t i h1 h2 h3 h4 h5 => htl2 listed t k (Nat.le_refl _) h1 h2 hexact hsz) htl2 ?_
            exact h4 _ (by simp) ops _ b w' _ hc2 (hbt ▸ hsat' u) hKx (fun a' w' T' S' h3 h4 h5 => ⟨rfl, T', S', h3, h4, h5⟩)
          · refine ⟨fun h0 => ?_, fun i hi => ?_⟩
            · exfalso
              obtain ⟨i, hi1, hi2, hi3⟩ := cnt_pos ops.size (by rw [hcnt]; omega : 0 < cnt (fun j => listed.getD j true) ops.size)
              have : i ∈ Region.ready .any ops listed := by
                rw [mem_ready]
                refine ⟨hi2, ops[i], by simp [hi1], fun e he hbd => ?_⟩
                have hlt := backB_spec hback (show ops[i]? = some ops[i] by simp [hi1]) he hbd
                have h3 := hi3 e.on hlt
                have : e.on < listed.size := by omega
                simpa [this] using h3
              rw [h0] at this
              simp at this
            · have hmem := mem_ready.1 hi
              obtain ⟨hun, o, ho, hpre⟩ := hmem
              have hilt : i < ops.size := (Array.getElem?_eq_some_iff.1 ho).1
              have hik : i < k := by
                rcases Nat.lt_or_ge i k with h | h
                · exact h
                · exfalso
                  refine hall fun j hj => ?_
                  by_cases hjH : j ∈ Hs
                  · exact hHl j hjH
                  · exact hreadyX listed i hcl hi j (by omega) (htail i j h hilt (by omega) hjH) (by omega)
              have hdo : dstOk n o.dst = true := hdst i o hik ho
              have hagree' := hagree u listed i o hcl hi ho hik
              rw [← hb] at hagree'
              have hev : execOp (runA ops (vs u) 0 i a).eval o = execOp b.eval o :=
                execOp_congr o (fun cs bb hh => Region.noSelect_spec hsel i o cs bb ho hh) fun x hx => eval_agree fun t ht => hagree' t (looks_op (ht ▸ hx))
              have hwan := wanted_agree (ops := ops) (o := o) (a := runA ops (vs u) 0 i a) (b := b) hagree'
              have hgj : ∀ j, j ≠ i → (listed.setIfInBounds i true).getD j true = listed.getD j true := fun j hj => getD_set_ne true (Ne.symm hj)
              have hnext : ∀ (u2 : Nat → Nat) (is2 : List Nat) w'' b2, (is2.Nodup ∧ ∀ j, j ∈ is2 ↔ A.length ≤ j ∧ j < k ∧ (listed.setIfInBounds i true).getD j true = true) → b2 = foldF ops (vs u2) (fun j => (listed.setIfInBounds i true).getD j true) k a → Rep w0 (ST u2 is2) w'' → wpAny P .any ops (fun e a' w' => e = .normal ∧ ∃ T' S', Sat n T' a' ∧ Rep w0 S' w' ∧ Q e T' S') fuel (listed.setIfInBounds i true) b2 w'' := by
                intro u2 is2 w'' b2 hp2 hb2 hr''
                refine ih _ _ w'' (by simpa using hsz) (hclset listed i o hsz hcl hi ho) ?_ ?_ ⟨u2, is2, hp2, hb2, hr''⟩ ?_
                · intro j hj
                  by_cases e : j = i
                  · subst e; exact hgetset listed j hsz hilt
                  · rw [hgj j e]; exact hHl j hj
                · intro t h3 h4'
                  rw [hgj t (by omega)]
                  exact htl t h3 h4'
                · have := hcntset listed i hsz hi hilt
                  omega
              have hsz1 : (runA ops (vs u) 0 i a).tmps.size = n := by rw [← foldF_runA ops (vs u) i k a (by omega), (foldF_size ops (vs u) _ k a).1, hs.size]
              have hsz2 : b.tmps.size = n := by rw [hb, (foldF_size ops (vs u) _ k a).1, hs.size]
              have hdf : (runA ops (vs u) 0 i a).defers = [] := by rw [← foldF_runA ops (vs u) i k a (by omega), (foldF_size ops (vs u) _ k a).2, hs.defers]
              have hputu := fun u2 => hput u2 listed i o hsz hcl hi ho hik
              unfold wpOp
              simp only [ho]
              by_cases hip : ¬ i < A.length
              · -- a fresh cell
                obtain ⟨hco, hdk, hdd, hgn⟩ := hal i o hik hip ho
                have hwt : Region.wanted o (yielded ops b.tmps) = true := by simp [Region.wanted, hgn]
                rw [if_pos hwt]
                left
                have hsb : Sat n [] b := ⟨hsz2, by rw [hb, (foldF_size ops (vs u) _ k a).2, hs.defers], fun i v hv => by simp [look] at hv⟩
                refine Oper.wp_mono ?_ (OW.al (T := []) (S := ST u is) o b w' _ hco hsb hr')
                rintro b' w'' ⟨v2, S2, rfl, hr2, r0, rfl, rfl⟩
                have hni : i ∉ is := fun h => by have := ((hph.2 i).1 h).2.2; rw [hun] at this; cases this
                have hgi : (listed.setIfInBounds i true).getD i true = true := hgetset listed i hsz hilt
                refine hnext (fun j => if j = i then r0 else u j) (i :: is) w'' _ ⟨List.nodup_cons.2 ⟨hni, hph.1⟩, fun j => ?_⟩ ?_ ?_
                · by_cases e : j = i
                  · subst e; simp only [List.mem_cons, true_or, hgi, and_true, true_iff]; omega
                  · rw [hgj j e, List.mem_cons, ← hph.2]; simp [e]
                · have h7 := hputu (fun j => if j = i then r0 else u j)
                  have h8 : vs (fun j => if j = i then r0 else u j) i = .pointer (some ⟨r0, 0, none⟩) := by
                    have := hvB (fun j => if j = i then r0 else u j) i hip
                    simpa using this
                  have h9 : (foldF ops (vs fun j => if j = i then r0 else u j) (fun j => listed.getD j true) k a).put o.dst (.pointer (some ⟨r0, 0, none⟩)) = foldF ops (vs fun j => if j = i then r0 else u j) (fun j => (listed.setIfInBounds i true).getD j true) k a := by
                    rw [← h8]; exact h7
                  rw [← h9, hb]
                  congr 1
                  unfold foldF
                  refine foldl_ext' _ _ _ _ fun b j hj => ?_
                  by_cases hjl : listed.getD j true = true
                  · have hjp : j ≠ i := fun e => by rw [e, hun] at hjl; cases hjl
                    have : vs u j = vs (fun j => if j = i then r0 else u j) j := by
                      simp only [vs]; rw [if_neg hjp]
                    rw [this]
                  · simp [hjl]
                · have e : ST (fun j => if j = i then r0 else u j) (i :: is) = [(r0, .cells (al.getD (i - A.length) alD).2.2 (al.getD (i - A.length) alD).2.1 (al.getD (i - A.length) alD).2.2.length)] :: ST u is := by
                    simp only [ST, List.map_cons, List.cons_append, if_true]
                    congr 2
                    apply List.map_congr_left
                    intro j hj
                    rw [if_neg (fun (e : j = i) => hni (e ▸ hj))]
                  rw [e]; exact hr2
              · have hip' : i < A.length := by omega
                have hph2 : is.Nodup ∧ ∀ j, j ∈ is ↔ A.length ≤ j ∧ j < k ∧ (listed.setIfInBounds i true).getD j true = true := ⟨hph.1, fun j => by
                  rw [hph.2]
                  by_cases e : j = i
                  · subst e; constructor <;> (intro h; omega)
                  · rw [hgj j e]⟩
                rcases hgives u _ (hST u is) i hip' o ho with ⟨hw1, hw2⟩ | ⟨hw1, hw2⟩
                · rw [hwan] at hw1
                  rw [if_pos hw1]
                  left
                  refine Oper.wp_mono ?_ (wp_transfer hev (by rw [hsz1, hsz2]) (by rw [hsz1]; exact hdo) hdf (hw2 w' hr'))
                  rintro b' w'' ⟨rfl, hr''⟩
                  exact hnext u is w'' _ hph2 (by rw [hb]; exact hputu u) hr''
                · rw [hwan] at hw1
                  rw [hw1]
                  simp only [Bool.false_eq_true, if_false]
                  have h9 := hputu u
                  rw [hw2] at h9
                  exact hnext u is w' _ hph2 (by rw [hb]; exact h9) hr'
      -- the moves first
      let r0 : Nat → Nat := fun _ => 0
      have phase0 : ∀ (Hr : List Nat) (listed : Array Bool) (b : Act) (w' : World), hoistB ops Hr listed = true → (∀ i ∈ Hr, i < k) → listed.size = ops.size →
          (∀ j o, ops[j]? = some o → listed.getD j true = true → ∀ e ∈ o.after, Region.binds .any e = true → listed.getD e.on true = true) → (∀ i ∈ Hs, listed.getD i true = true ∨ i ∈ Hr) →
          (∀ t, k ≤ t → t < ops.size → listed.getD t true = false) → (∀ j, A.length ≤ j → j < k → listed.getD j true = false) → b = foldF ops (vs r0) (fun j => listed.getD j true) k a → Rep w0 (ST r0 []) w' →
          wpAny P .any ops (fun e a' w' => e = .normal ∧ ∃ T' S', Sat n T' a' ∧ Rep w0 S' w' ∧ Q e T' S') (cnt (fun j => listed.getD j true) ops.size) listed b w' := by
        intro Hr
        induction Hr with
        | nil =>
          intro listed b w' _ _ hsz hcl hHl htl hnp hb hr'
          exact key _ listed b w' hsz hcl (fun i hi => (hHl i hi).resolve_right (by simp)) htl ⟨r0, [], ⟨List.nodup_nil, fun j => by simp only [List.not_mem_nil, false_iff]; rintro ⟨h1, h2, h3⟩; rw [hnp j h1 h2] at h3; cases h3⟩, hb, hr'⟩ rfl
        | cons i Hr ih =>
          intro listed b w' hh hlt hsz hcl hHl htl hnp hb hr'
          simp only [hoistB, Bool.and_eq_true] at hh
          obtain ⟨⟨⟨hho, hfree⟩, hready⟩, hrest⟩ := hh
          have hi : i ∈ Region.ready .any ops listed := by simpa using hready
          obtain ⟨hun, o, ho, hpre⟩ := mem_ready.1 hi
          have hilt : i < ops.size := (Array.getElem?_eq_some_iff.1 ho).1
          have hik : i < k := hlt i (by simp)
          have hgj : ∀ j, j ≠ i → (listed.setIfInBounds i true).getD j true = listed.getD j true := fun j hj => getD_set_ne true (Ne.symm hj)
          rw [hcntset listed i hsz hi hilt]
          simp only [hoistable?, ho, hoistable, Bool.and_eq_true] at hho
          obtain ⟨hgn, hmv⟩ := hho
          have hgn' : o.guard = none := by simpa using hgn
          have hwant : ∀ t : Array Value, Region.wanted o (yielded ops t) = true := fun t => by simp [Region.wanted, hgn']
          have hagree' := hagree r0 listed i o hcl hi ho hik
          rw [← hb] at hagree'
          have hdo : dstOk n o.dst = true := hdst i o hik ho
          have hsz1 : (runA ops (vs r0) 0 i a).tmps.size = n := by rw [← foldF_runA ops (vs r0) i k a (by omega), (foldF_size ops (vs r0) _ k a).1, hs.size]
          have hmove : ∃ x, (o.op = .move x ∨ o.op = .assign x) := by
            cases hop : o.op <;> rw [hop] at hmv <;> simp at hmv
            · exact ⟨_, .inl rfl⟩
            · exact ⟨_, .inr rfl⟩
          obtain ⟨x, hx⟩ := hmove
          have hip : i < A.length := by
            rcases Nat.lt_or_ge i A.length with h | h
            · exact h
            · exfalso
              have h6 := (hal i o hik (by omega) ho).1
              have h5 : cOp P o = some (.mov (cV x)) := by unfold cOp cOp0; rcases hx with hx | hx <;> simp [hx]
              rw [h5] at h6
              cases h6
          have hexec : ∀ ρ, execOp ρ o = pure (.value (ρ x)) := by
            intro ρ
            rcases hx with hx | hx <;> simp [execOp, hx]
          have hval : b.eval x = vs r0 i ∨ o.dst = none := by
            rcases hgives r0 _ (hST r0 []) i hip o ho with ⟨_, hw2⟩ | ⟨hw1, _⟩
            · have := hw2 w' hr'
              unfold Oper.wp at this
              rw [hexec] at this
              simp only [Sem.run_pure, Oper.upon] at this
              have hev : (runA ops (vs r0) 0 i a).eval x = b.eval x := eval_agree fun t ht => hagree' t (looks_op (by rcases hx with hx | hx <;> simp [hx, Op.operands, ht]))
              cases hd : o.dst with
              | none => exact .inr rfl
              | some d =>
                left
                rw [hd] at this hdo
                have h3 := congrArg (fun c : Act => c.tmps[d]?) this.1
                have hdn : d < n := by simpa [dstOk] using hdo
                simp [Act.put, hsz1, hdn] at h3
                rw [← hev]; exact h3
            · rw [hwant] at hw1; cases hw1
          refine wpAny_take (oi := o) (v := b.eval x) ho hsel hfree hready (fun c a w hq => by simp at hq) (.inl ⟨hwant _, fun w => by rw [hexec]; rfl⟩) ?_
          have hbput : b.put o.dst (b.eval x) = foldF ops (vs r0) (fun j => (listed.setIfInBounds i true).getD j true) k a := by
            rw [← hput r0 listed i o hsz hcl hi ho hik, ← hb]
            rcases hval with h | h
            · rw [h]
            · rw [h]; rfl
          rw [hbput]
          refine ih _ _ w' hrest (fun j hj => hlt j (by simp [hj])) (by simpa using hsz) (hclset listed i o hsz hcl hi ho) ?_ ?_ (fun j h1 h2 => by rw [hgj _ (by omega)]; exact hnp j h1 h2) rfl hr'
          · intro j hj
            by_cases e : j = i
            · subst e; exact .inl (hgetset listed j hsz hilt)
            · rw [hgj j e]
              rcases hHl j hj with h | h
              · exact .inl h
              · rcases List.mem_cons.1 h with h | h
                · exact absurd h e
                · exact .inr h
          · intro t h3 h4
            rw [hgj t (by omega)]
            exact htl t h3 h4
      have hcnt0 : cnt (fun j => (Array.replicate ops.size false).getD j true) ops.size = ops.size := by
        rw [cnt_congr (g := fun j => decide (j < 0)) ops.size (fun j hj => by simp [hj]), cnt_below]
        omega
      have := phase0 Hs (Array.replicate ops.size false) a { w with drawn := w.drawn + 1 } hhoist hHk (by simp) ?_ (fun i hi => .inr hi) ?_ (fun j h1 h2 => by have : j < ops.size := (by omega); simp [this]) ?_ ?_
      · rwa [hcnt0] at this
      · intro j o ho hj
        exfalso
        have hlt : j < ops.size := (Array.getElem?_eq_some_iff.1 ho).1
        simp [hlt] at hj
      · intro t _ ht
        simp [ht]
      · have : ∀ j, j < k → (Array.replicate ops.size false).getD j true = decide (j < 0) := by
          intro j hj
          have : j < ops.size := by omega
          simp [this]
        have h0 : foldF ops (vs r0) (fun j => (Array.replicate ops.size false).getD j true) k a = foldF ops (vs r0) (fun j => decide (j < 0)) k a := by
          unfold foldF
          refine foldl_ext' _ _ _ _ fun b j hj => ?_
          simp only [this j (List.mem_range.1 hj)]
        rw [h0, foldF_runA ops (vs r0) 0 k a (Nat.zero_le _)]
        rfl
      · exact hr.same ((Below.refl _ w).drew) (fun _ _ => rfl)
  all_goals (first | (simp [cC] at hc; done) | (simp only [cC] at hc; split at hc <;> simp at hc; done))
theorem PW.quietAlK {k p : Nat} {l : List PI} {al : List AlOp} {Q : Exit → TT → SS → Prop} (hm : P.follows .mixedOrders = true) (hl : (l.take k).drop p = al.map alPI)
    (h : QKs P w0 n S ((l.take k).take p) T (fun T1 => ∀ rs : List Nat, rs.length = al.length → OL P w0 n (l.drop k) (bindA al rs T1) (segA al rs ++ S) (Q .normal))) : PW P w0 n (.quiet k l) T S Q := by
  obtain ⟨T1, va, h1, h2⟩ := h
  exact PW.quietAl (A := (l.take k).take p) hm (by rw [← hl, List.take_append_drop]) h1 h2
theorem QKs.call {base : SS} {f : FuncId} {args : List PV} {vs : List Value} {v : Value} {d : Option Nat} {g : Option (Nat × Bool)} {r : List PI} {K : TT → Prop} (hg : gOk T g) (hv : valsP T args = some vs) (h : ∀ S, Over base S → FC P w0 f vs S (fun v' S' => v' = v ∧ S' = S))
    (k : QKs P w0 n base r (put d v T) K) : QKs P w0 n base (⟨d, g, .call f args⟩ :: r) T K :=
  let ⟨T', vs', h1, h2⟩ := k; ⟨T', _, .step hg (fun S hS => OW.call hv (h S hS)) h1, h2⟩
end
end Go.SL

set_option linter.unusedVariables false
set_option linter.unusedSimpArgs false
namespace Go.SL
open Go.RowKit
section
variable {P : Program} {w0 : World} {n : Nat} {T : TT} {S : SS}
theorem Yields.cap {x : PV} {A : Option Addr} {l c : Nat} (hx : x.val T = some (.slice A l c)) : Yields P w0 n (.more (.other (.cap x))) T S (.int .i64 (c : Int)) := by
  intro o a w hco hs hr
  obtain ⟨cl, t, y, e, ho, hca, hat, har, rfl, hu⟩ := cOp_spec P hco
  simp only [execOp, ho, resolve, hca, invoke, builtin, hat, har]
  simp [Builtin.cap_, hs.eval hx, run_underlying hu, goInt]
/-- a call of a function whose run is known as an equation -/
theorem OW.xf {f : FuncId} {args : List PV} {vs : List Value} {v : Value} (hv : valsP T args = some vs) (h : ∀ w, Rep w0 S w → (callFunc f vs.toArray).run P w = .ok (.value v) w) :
    OW P w0 n (.more (.other (.xf f args))) T S (fun u S' => u = v ∧ S' = S) := by
  intro o a w Q hco hs hr
  obtain ⟨c, ho, hca, rfl⟩ := cOp_spec P hco
  have hargs : c.args.map a.eval = vs.toArray := by
    apply Array.toList_inj.1
    simpa using valsP_spec hs hv
  unfold Oper.wp
  have hrun : (execOp a.eval o).run P w = .ok (.value v) w := by
    simp only [execOp, ho]
    simp [resolve, hca, Act.eval, Deferred.ofValue, invoke, hargs, h w hr]
  rw [hrun]
  exact ⟨v, S, rfl, hr, rfl, rfl⟩
/-- append of make onto a slice that has no room -/
theorem OW.appM {t u E sz bytes m q cp : Nat} {z : Value} {s l : PV} {A : Option Addr} {olds : List Value} {kq : IntKind} (hs' : s.val T = some (.slice A m cp)) (hl : l.val T = some (.int kq (q : Int))) (hrd : Rd w0 S A olds) (ho : olds.length = m * sz)
    (hq : 0 < q) (hg : cp < m + q) (h63 : m + q ≤ maxLen) (hb : (m + q) * bytes ≤ 140737488355328) :
    OW P w0 n (.more (.other (.appM t u E sz bytes z s l))) T S (fun v S' => ∃ r c, v = .slice (some ⟨r, 0, none⟩) (m + q) c ∧ m + q ≤ c ∧ c ≤ maxLen ∧ S' = [(r, .cells (olds ++ (Builtin.zeroCells z.cells q).toList ++ (Builtin.zeroCells z.cells (c - (m + q))).toList) E (c * sz))] :: S) := by
  intro op a w Q hco hs hr
  obtain ⟨a1, b1, cl, i, kn, hop, hca, hat, har, rfl, rfl, hu, hun, hi, hiz, rfl, rfl, hzs, hs0⟩ := cOp_spec P hco
  have hold : (Builtin.firstCells i.size m (.slice A m cp)).run P w.drew = .ok olds.toArray w.drew := by
    cases A with
    | none =>
      have : olds = [] := by
        cases olds with
        | nil => rfl
        | cons x r => obtain ⟨_, e, _⟩ := hrd 0 _ rfl; cases e
      subst this
      simp [Builtin.firstCells]
    | some a' => exact run_firstCells_some (P := P) w.drew i.size m a' m cp olds ho (fun j v hj => hr.cell (hrd.at hj))
  have hfit : Builtin.nextslicecap (m + q) cp * i.bytes ≤ 281474976710656 := growslice_fits (by omega) hb
  have h48 : q * i.bytes ≤ 281474976710656 := by
    have : q * i.bytes ≤ (m + q) * i.bytes := Nat.mul_le_mul_right _ (by omega)
    omega
  have hm63 : ((m + q : Nat) : Int) ≤ 9223372036854775807 := by have : maxLen = 9223372036854775807 := rfl; omega
  have happ := Lib.run_append_grow_zeros (P := P) w t u op.type E i z kq kn hu hun hi hiz A m cp olds hold q hq hs0 hg hm63 h48 hfit
  unfold Oper.wp
  have hrun : (execOp a.eval op).run P w = .ok (.value (.slice (some ⟨w.heap.size, 0, none⟩) (m + q) (grownCap w (m + q) cp E)))
      (w.drew.alloc (.cells (olds.toArray ++ Builtin.zeroCells z.cells q ++ Builtin.zeroCells z.cells (grownCap w (m + q) cp E - (m + q))) E)) := by
    simp only [execOp, hop, resolve, hca, invoke, builtin, hat, har]
    simp [hs.eval hs', hs.eval hl, happ]
  rw [hrun]
  have hr' : Rep w0 S w.drew := hr.same ⟨rfl, rfl, rfl, Nat.le_refl _, fun _ _ => rfl⟩ (fun _ _ => rfl)
  have hge := grownCap_ge w (m + q) cp E
  have hle := grownCap_le_maxLen w (m + q) cp E h63
  have hal := hr'.alloc (olds.toArray ++ Builtin.zeroCells z.cells q ++ Builtin.zeroCells z.cells (grownCap w (m + q) cp E - (m + q))) E
  generalize hc : grownCap w (m + q) cp E = c at *
  refine ⟨_, _, rfl, hal, w.heap.size, c, rfl, hge, hle, ?_⟩
  have hz0 : 0 < z.cells.size := by omega
  have hsz : (olds.toArray ++ Builtin.zeroCells z.cells q ++ Builtin.zeroCells z.cells (c - (m + q))).size = c * i.size := by
    simp only [Array.size_append, Builtin.zeroCells, Array.size_map, Array.size_range, List.size_toArray, ho, hzs]
    rw [← Nat.add_mul, ← Nat.add_mul, show m + q + (c - (m + q)) = c from by omega]
  rw [hsz]
  simp
end
end Go.SL

set_option linter.unusedVariables false
set_option linter.unusedSimpArgs false
set_option linter.unusedSectionVars false
namespace Go.SL
open Go.RowKit Go.ChangeShapes
theorem map_eraseIdx {γ δ : Type} (h : γ → δ) : ∀ (l : List γ) (i : Nat), (l.eraseIdx i).map h = (l.map h).eraseIdx i
  | [], i => by simp
  | a :: l, 0 => by simp
  | a :: l, i + 1 => by simp [map_eraseIdx h l i]
section plain
variable {α β γ : Type} [DecidableEq α]
def mgt (l : List (α × β)) (a : α) : Option β := (l.find? fun p => decide (a = p.1)).map (·.2)
def mpt : List (α × β) → α → β → List (α × β)
  | [], a, b => [(a, b)]
  | p :: r, a, b => if a = p.1 then (a, b) :: r else p :: mpt r a b
def mdl (l : List (α × β)) (a : α) : List (α × β) := l.filter fun p => !decide (a = p.1)
def mks (l : List (α × β)) : List α := l.map (·.1)
theorem mgt_cons (p : α × β) (l : List (α × β)) (a : α) : mgt (p :: l) a = if a = p.1 then some p.2 else mgt l a := by
  unfold mgt
  rw [List.find?_cons]
  by_cases h : a = p.1
  · simp [h]
  · simp [h]
theorem mgt_nil (a : α) : mgt ([] : List (α × β)) a = none := rfl
theorem mgt_mpt (l : List (α × β)) (a c : α) (b : β) : mgt (mpt l a b) c = if c = a then some b else mgt l c := by
  induction l with
  | nil => simp only [mpt, mgt_cons, mgt_nil]
  | cons p l ih =>
    simp only [mpt]
    split
    · rename_i h
      simp only [mgt_cons]
      subst h
      split <;> rfl
    · rename_i h
      simp only [mgt_cons, ih]
      by_cases h1 : c = p.1
      · subst h1
        rw [if_pos rfl, if_neg (fun e => h e.symm)]
        simp
      · simp [h1]
theorem mgt_none {l : List (α × β)} {a : α} : mgt l a = none ↔ a ∉ mks l := by
  induction l with
  | nil => simp [mgt_nil, mks]
  | cons p l ih =>
    rw [mgt_cons]
    unfold mks at ih ⊢
    by_cases h : a = p.1
    · simp [h]
    · simp [h, ih]
theorem mgt_mem {l : List (α × β)} (hn : (mks l).Nodup) {a : α} {b : β} : mgt l a = some b ↔ (a, b) ∈ l := by
  induction l with
  | nil => simp [mgt_nil]
  | cons p l ih =>
    obtain ⟨c, d⟩ := p
    unfold mks at hn ih
    simp only [List.map_cons, List.nodup_cons] at hn
    rw [mgt_cons]
    simp only [List.mem_cons, Prod.mk.injEq]
    by_cases h : a = c
    · subst h
      rw [if_pos rfl]
      constructor
      · intro e; exact .inl ⟨rfl, (Option.some.inj e).symm⟩
      · rintro (⟨_, e⟩ | e)
        · rw [e]
        · exact absurd (List.mem_map.2 ⟨_, e, rfl⟩) hn.1
    · rw [if_neg h, ih hn.2]
      simp [h]
theorem mgt_some_mem {l : List (α × β)} {a : α} {b : β} (h : mgt l a = some b) : (a, b) ∈ l := by
  unfold mgt at h
  obtain ⟨p, hp, rfl⟩ := Option.map_eq_some_iff.1 h
  have h1 := List.find?_some hp
  have h2 := List.mem_of_find?_eq_some hp
  simp only [decide_eq_true_eq] at h1
  rw [h1]; exact h2
theorem mks_mpt (l : List (α × β)) (a : α) (b : β) : mks (mpt l a b) = if a ∈ mks l then mks l else mks l ++ [a] := by
  induction l with
  | nil => simp [mpt, mks]
  | cons p l ih =>
    simp only [mpt]
    unfold mks at ih ⊢
    by_cases h : a = p.1
    · simp [h]
    · simp only [h, if_false, List.map_cons, ih, List.mem_cons, false_or]
      split <;> simp
theorem mpt_nodup {l : List (α × β)} (h : (mks l).Nodup) (a : α) (b : β) : (mks (mpt l a b)).Nodup := by
  rw [mks_mpt]
  split
  · exact h
  · rename_i hn
    rw [List.nodup_append]
    exact ⟨h, by simp, by simp; rintro c hc rfl; exact hn hc⟩
theorem mgt_mdl (l : List (α × β)) (a c : α) : mgt (mdl l a) c = if c = a then none else mgt l c := by
  induction l with
  | nil => simp [mdl, mgt_nil]
  | cons p l ih =>
    unfold mdl at ih ⊢
    rw [List.filter_cons]
    by_cases h : a = p.1
    · simp only [h, decide_true, Bool.not_true, Bool.false_eq_true, if_false]
      rw [← h, ih, mgt_cons]
      by_cases h1 : c = a
      · simp [h1]
      · simp [h1, ← h]
    · simp only [h, decide_false, Bool.not_false, if_true, mgt_cons, ih]
      by_cases h1 : c = p.1
      · subst h1; rw [if_pos rfl, if_neg (fun e => h e.symm), if_pos rfl]
      · simp [h1]
theorem mdl_nodup {l : List (α × β)} (h : (mks l).Nodup) (a : α) : (mks (mdl l a)).Nodup := by
  unfold mks mdl at *
  exact h.sublist (List.filter_sublist.map _)
theorem mks_mdl (l : List (α × β)) (a : α) : mks (mdl l a) = (mks l).filter fun c => !decide (a = c) := by
  unfold mks mdl
  rw [List.filter_map]
  rfl
theorem mpt_new {l : List (α × β)} {a : α} (h : ∀ b, (a, b) ∉ l) (b : β) : mpt l a b = l ++ [(a, b)] := by
  induction l with
  | nil => rfl
  | cons p l ih =>
    simp only [mpt]
    rw [if_neg (fun e => h p.2 (by rw [e]; simp)), ih (fun b hb => h b (by simp [hb]))]
    rfl
theorem mpt_set {l : List (α × β)} (hn : (mks l).Nodup) {a : α} {c : β} {j : Nat} (h : l[j]? = some (a, c)) (b : β) : mpt l a b = l.set j (a, b) := by
  induction l generalizing j with
  | nil => simp at h
  | cons p l ih =>
    unfold mks at hn ih
    simp only [List.map_cons, List.nodup_cons] at hn
    cases j with
    | zero => simp at h; simp [mpt, h]
    | succ j =>
      simp at h
      have hne : a ≠ p.1 := fun e => hn.1 (by rw [← e]; exact List.mem_map.2 ⟨_, List.mem_of_getElem? h, rfl⟩)
      simp only [mpt, if_neg hne, List.set_cons_succ, ih hn.2 h]
theorem mdl_new {l : List (α × β)} {a : α} (h : ∀ b, (a, b) ∉ l) : mdl l a = l := by
  unfold mdl
  rw [List.filter_eq_self]
  intro p hp
  simp only [Bool.not_eq_true', decide_eq_false_iff_not]
  intro e
  exact h p.2 (by rw [e]; exact hp)
theorem mdl_erase {l : List (α × β)} (hn : (mks l).Nodup) {a : α} {c : β} {j : Nat} (h : l[j]? = some (a, c)) : mdl l a = l.eraseIdx j := by
  induction l generalizing j with
  | nil => simp at h
  | cons p l ih =>
    have hn0 := hn
    unfold mks at hn
    simp only [List.map_cons, List.nodup_cons] at hn
    cases j with
    | zero =>
      simp at h
      subst h
      have : mdl l a = l := mdl_new fun b hb => hn.1 (List.mem_map.2 ⟨_, hb, rfl⟩)
      unfold mdl at this ⊢
      simp [this]
    | succ j =>
      simp at h
      have hne : a ≠ p.1 := fun e => hn.1 (by rw [← e]; exact List.mem_map.2 ⟨_, List.mem_of_getElem? h, rfl⟩)
      have := ih hn.2 h
      unfold mdl at this ⊢
      rw [List.filter_cons]
      simp [hne, this]
end plain
section
variable {P : Program} {w0 : World} {n : Nat} {T : TT} {S : SS}
variable {α β : Type} [DecidableEq α] {f : α → Value} {g : β → Value} {kt et t : TypeId} {ok : α → Prop}
def gmL (f : α → Value) (g : β → Value) (l : List (α × β)) : List (Value × Value) := l.map fun p => (f p.1, g p.2)
/-- the values that a map's keys are -/
structure Keys (P : Program) (kt : TypeId) (f : α → Value) (ok : α → Prop) : Prop where
  law : WideMaps.KeyLaw P kt
  key : ∀ a, ok a → ∃ l, keyOf P kt (f a) = some l
  inj : ∀ a b, f a = f b → a = b
theorem mem_at {S : SS} {j b : Nat} {o : AO} (hk : S[j]? = some [(b, o)]) : (b, o) ∈ S.flatten := List.mem_flatten.2 ⟨_, List.mem_of_getElem? hk, List.mem_singleton.2 rfl⟩
theorem Rep.gmAt {w : World} {b : Nat} {es : List (Value × Value)} (h : Rep w0 S w) (hm : (b, AO.gm es) ∈ S.flatten) :
    w0.heap.size ≤ b ∧ ∃ en clk, w.heap[b]? = some (.map en clk) ∧ en.toList.map (fun e => (e.key, e.val)) = es ∧ (en.toList.map (·.born)).Nodup ∧ (∀ e ∈ en.toList, e.born < clk) ∧ (en.toList.map (·.key)).Nodup := h.own _ hm
theorem gmL_nodup {en : Array MapEntry} {l : List (α × β)} (he : en.toList.map (fun e => (e.key, e.val)) = gmL f g l) (hn : (en.toList.map (·.key)).Nodup) : (mks l).Nodup := by
  have : en.toList.map (·.key) = (mks l).map f := by
    have := congrArg (List.map Prod.fst) he
    unfold gmL at this
    unfold mks
    simpa [Function.comp_def] using this
  rw [this] at hn
  unfold List.Nodup at hn ⊢
  rw [List.pairwise_map] at hn
  exact hn.imp fun h e => h (by rw [e])
theorem gmL_get {en : Array MapEntry} {l : List (α × β)} (he : en.toList.map (fun e => (e.key, e.val)) = gmL f g l) {j : Nat} {e : MapEntry} (h : en.toList[j]? = some e) : ∃ a b, l[j]? = some (a, b) ∧ e.key = f a ∧ e.val = g b := by
  have h1 : (en.toList.map (fun e => (e.key, e.val)))[j]? = some (e.key, e.val) := by simp [h]
  rw [he] at h1
  unfold gmL at h1
  rw [List.getElem?_map, Option.map_eq_some_iff] at h1
  obtain ⟨p, h1, h2⟩ := h1
  exact ⟨p.1, p.2, h1, (congrArg Prod.fst h2).symm, (congrArg Prod.snd h2).symm⟩
theorem Keys.find (K : Keys P kt f ok) {en : Array MapEntry} {l : List (α × β)} (hl : ∀ p ∈ l, ok p.1) (he : en.toList.map (fun e => (e.key, e.val)) = gmL f g l) (a : α) (ha : ok a) (w : World) :
    ((Instr.findKey kt (f a) en.toList).run P w = .ok none w ∧ ∀ b, (a, b) ∉ l) ∨
    ∃ j e b, (Instr.findKey kt (f a) en.toList).run P w = .ok (some (j, e.val)) w ∧ en.toList[j]? = some e ∧ e.key = f a ∧ e.val = g b ∧ l[j]? = some (a, b) := by
  obtain ⟨lx, hx⟩ := K.key a ha
  have hall : ∀ e ∈ en.toList, ∃ l, keyOf P kt e.key = some l := by
    intro e hm
    obtain ⟨j, hj⟩ := List.getElem?_of_mem hm
    obtain ⟨a', _, hq, hk, _⟩ := gmL_get he hj
    rw [hk]
    exact K.key a' (hl _ (List.mem_of_getElem? hq))
  rcases K.law.find w hx en.toList hall with ⟨h1, h2⟩ | ⟨j, e, h1, h2, h3⟩
  · refine .inl ⟨h1, fun b hb => ?_⟩
    have : (f a, g b) ∈ en.toList.map (fun e => (e.key, e.val)) := by rw [he]; exact List.mem_map.2 ⟨(a, b), hb, rfl⟩
    obtain ⟨e, hm, hk⟩ := List.mem_map.1 this
    exact h2 e hm (congrArg Prod.fst hk)
  · obtain ⟨a', b, h4, h5, h6⟩ := gmL_get he h2
    obtain rfl := K.inj a' a (by rw [← h5, h3])
    exact .inr ⟨j, e, b, h1, h2, h3, h6, h4⟩
theorem Yields.lenG {x : PV} {b : Nat} {l : List (α × β)} (hx : x.val T = some (.map (some b))) (hk : (b, AO.gm (gmL f g l)) ∈ S.flatten) : Yields P w0 n (.lenM x) T S (.int .i64 l.length) := by
  intro o a w hco hs hr
  obtain ⟨t, kt, vt, c, cl, ho, hca, hat, har, rfl, hu⟩ := cOp_spec P hco
  obtain ⟨_, en, clk, hw, he, _⟩ := hr.gmAt hk
  have hlen : en.size = l.length := by have := congrArg List.length he; simpa [gmL] using this
  simp [execOp, ho, resolve, hca, invoke, builtin, Builtin.len_, hat, har, hs.eval hx, run_underlying hu, goInt, getObj, Sem.run, hw, hlen]
theorem Yields.lookG {m k : Operand} {okc : Bool} {i : TypeInfo} {b : Nat} {l : List (α × β)} {a : α} {z : β} (hu : P.underlying t = some (.map kt et)) (hi : P.info? et = some i) (hz : i.zero = some (g z)) (K : Keys P kt f ok) (hl : ∀ p ∈ l, ok p.1) (ha : ok a)
    (hm : (cV m).val T = some (.map (some b))) (hx : (cV k).val T = some (f a)) (hk : (b, AO.gm (gmL f g l)) ∈ S.flatten) :
    Yields P w0 n (.more (.other (.gen (.lookup t m k okc)))) T S (if okc then .tuple #[g ((mgt l a).getD z), .bool (mgt l a).isSome] else g ((mgt l a).getD z)) := by
  intro o ac w hco hs hr
  have ho : o.op = .lookup t m k okc := cOp_spec P hco
  obtain ⟨_, en, clk, hw, he, hb, hlt, hn⟩ := hr.gmAt hk
  obtain ⟨lx, hlx⟩ := K.key a ha
  have hck := fun bb => K.law.check w bb hlx
  have hg : (getObj b).run P w = .ok (.map en clk) w := by simp [getObj, Sem.run, hw]
  simp only [execOp, ho, hs.eval hm, hs.eval hx, Instr.lookup]
  simp only [Sem.run_bind, run_underlying hu, Result.andThen_ok, hg, Sem.run_pure, hck]
  rcases K.find hl he a ha w with ⟨h1, h2⟩ | ⟨j, e, b', h1, h2, h3, h4, h5⟩
  · have hget : mgt l a = none := mgt_none.2 fun h => by
      unfold mks at h
      obtain ⟨p, hp, rfl⟩ := List.mem_map.1 h
      exact h2 p.2 hp
    simp only [h1, Result.andThen_ok, hget]
    cases okc <;> simp [zeroValue, typeInfo, program, hi, hz, Sem.run]
  · have hget : mgt l a = some b' := (mgt_mem (gmL_nodup he hn)).2 (List.mem_of_getElem? h5)
    simp only [h1, Result.andThen_ok, hget, h4]
    cases okc <;> simp
theorem OW.mkG : OW P w0 n .mkM T S (fun v S' => ∃ r, v = .map (some r) ∧ S' = [(r, .gm [])] :: S) := by
  intro op a w Q hco hs hr
  obtain ⟨t, ho⟩ := cOp_spec P hco
  have hrun : (execOp a.eval op).run P w = .ok (.value (.map (some w.heap.size))) (w.alloc (.map #[] 0)) := by
    simp [execOp, ho, Instr.makeMap, newObj, Sem.run]
  unfold Oper.wp
  rw [hrun]
  refine ⟨_, _, rfl, ?_, w.heap.size, rfl, rfl⟩
  refine hr.push (below_alloc hr _) (fun i hi => alloc_heap_lt w _ i hi) (by simp) ?_
  intro p hp
  simp only [List.mem_singleton] at hp
  subst hp
  exact ⟨⟨#[], 0, alloc_heap_new w _, by simp⟩, Nat.le_refl _⟩
/-- a map made with a size -/
theorem OW.mkGr {x : Operand} {j : Int} {q : IntKind} (hu : P.underlying t = some (.map kt et)) (hx : (cV x).val T = some (.int q j)) : OW P w0 n (.more (.other (.gen (.makeMap t (some x))))) T S (fun v S' => ∃ r, v = .map (some r) ∧ S' = [(r, .gm [])] :: S) := by
  intro op a w Q hco hs hr
  have ho : op.op = .makeMap t (some x) := cOp_spec P hco
  have hrun : (execOp a.eval op).run P w = .ok (.value (.map (some w.heap.size))) (w.alloc (.map #[] 0)) := by
    simp [execOp, ho, Instr.makeMap, newObj, Sem.run, hs.eval hx, run_underlying hu, asInt, asIntOf]
  unfold Oper.wp
  rw [hrun]
  refine ⟨_, _, rfl, ?_, w.heap.size, rfl, rfl⟩
  refine hr.push (below_alloc hr _) (fun i hi => alloc_heap_lt w _ i hi) (by simp) ?_
  intro p hp
  simp only [List.mem_singleton] at hp
  subst hp
  exact ⟨⟨#[], 0, alloc_heap_new w _, by simp⟩, Nat.le_refl _⟩
theorem run_setMap {w : World} {b : Nat} {en : Array MapEntry} {clk : Nat} (hw : w.heap[b]? = some (.map en clk)) (o : Obj) : (setObj b o).run P w = .ok () { w with heap := w.heap.setIfInBounds b o } := by
  simp [setObj, Sem.run, hw]
/-- a block of the walk's own gets another object -/
theorem Rep.setAt {w : World} {k b : Nat} {o : AO} {ob : Obj} {o' : AO} (h : Rep w0 S w) (hk : S[k]? = some [(b, o)]) (ho : Owns { w with heap := w.heap.setIfInBounds b ob } b o') : Rep w0 (S.set k [(b, o')]) { w with heap := w.heap.setIfInBounds b ob } := by
  obtain ⟨hge, how⟩ := h.own (b, o) (mem_at hk)
  simp only at hge
  refine h.replace hk ⟨rfl, rfl, rfl, by simp, fun i hi => ?_⟩ (fun i hi hne => ?_) (by simp) ?_
  · have : b ≠ i := by omega
    simp [Array.getElem?_setIfInBounds_ne this]
  · have : b ≠ i := by simp at hne; omega
    simp [Array.getElem?_setIfInBounds_ne this]
  · intro p hp
    simp only [List.mem_singleton] at hp
    subst hp
    exact ⟨hge, ho, .inl (by simp)⟩
theorem keys_set {l : List MapEntry} {j : Nat} {e : MapEntry} (h : l[j]? = some e) (e' : MapEntry) (hk : e'.key = e.key) : (l.set j e').map (·.key) = l.map (·.key) := by
  apply List.ext_getElem?
  intro i
  by_cases he : j = i
  · subst he
    have hlt := (List.getElem?_eq_some_iff.1 h).1
    rw [List.getElem?_map, List.getElem?_map, List.getElem?_set_self hlt, h]; simp [hk]
  · simp [List.getElem?_set_ne he]
theorem borns_set {l : List MapEntry} {j : Nat} {e : MapEntry} (h : l[j]? = some e) (e' : MapEntry) (hk : e'.born = e.born) : (l.set j e').map (·.born) = l.map (·.born) := by
  apply List.ext_getElem?
  intro i
  by_cases he : j = i
  · subst he
    have hlt := (List.getElem?_eq_some_iff.1 h).1
    rw [List.getElem?_map, List.getElem?_map, List.getElem?_set_self hlt, h]; simp [hk]
  · simp [List.getElem?_set_ne he]
/-- what 'm[k] = v' does to the map's block -/
theorem run_updG {w : World} {b : Nat} {l : List (α × β)} {a : α} {v : β} (hu : P.underlying t = some (.map kt et)) (K : Keys P kt f ok) (hl : ∀ p ∈ l, ok p.1) (ha : ok a) {en : Array MapEntry} {clk : Nat} (hw : w.heap[b]? = some (.map en clk)) (he : en.toList.map (fun e => (e.key, e.val)) = gmL f g l)
    (hb : (en.toList.map (·.born)).Nodup) (hlt : ∀ e ∈ en.toList, e.born < clk) (hn : (en.toList.map (·.key)).Nodup) :
    ∃ en' clk', (Instr.mapUpdate t (.map (some b)) (f a) (g v)).run P w = .ok () { w with heap := w.heap.setIfInBounds b (.map en' clk') } ∧ en'.toList.map (fun e => (e.key, e.val)) = gmL f g (mpt l a v) ∧
      (en'.toList.map (·.born)).Nodup ∧ (∀ e ∈ en'.toList, e.born < clk') ∧ (en'.toList.map (·.key)).Nodup := by
  obtain ⟨lx, hlx⟩ := K.key a ha
  have hck := K.law.check w false hlx
  have hst := K.law.stays w hlx
  have hg : (getObj b).run P w = .ok (.map en clk) w := by simp [getObj, Sem.run, hw]
  rcases K.find hl he a ha w with ⟨h1, h2⟩ | ⟨j, e, b', h1, h2, h3, h4, h5⟩
  · refine ⟨en.push { key := f a, val := g v, born := clk }, clk + 1, ?_, ?_, ?_, ?_, ?_⟩
    · unfold Instr.mapUpdate
      simp [run_underlying hu, hg, hck, h1, run_setMap hw]
    · rw [mpt_new h2]; simp [he, gmL]
    · simp only [Array.toList_push, List.map_append, List.map_cons, List.map_nil]
      rw [List.nodup_append]
      refine ⟨hb, by simp, ?_⟩
      simp only [List.mem_map, List.mem_singleton]
      rintro x ⟨e, he', rfl⟩ y rfl hxy
      have := hlt e he'
      omega
    · simp only [Array.toList_push, List.mem_append, List.mem_singleton]
      rintro e (h | rfl)
      · have := hlt e h; omega
      · exact Nat.lt_succ_self _
    · simp only [Array.toList_push, List.map_append, List.map_cons, List.map_nil]
      rw [List.nodup_append]
      refine ⟨hn, by simp, ?_⟩
      simp only [List.mem_map, List.mem_singleton]
      rintro x ⟨e, he', rfl⟩ y rfl hxy
      obtain ⟨i, hi⟩ := List.getElem?_of_mem he'
      obtain ⟨a', b', q1, q2, q3⟩ := gmL_get he hi
      obtain rfl := K.inj a' a (by rw [← q2, hxy])
      exact h2 b' (List.mem_of_getElem? q1)
  · have hlj : j < en.toList.length := (List.getElem?_eq_some_iff.1 h2).1
    have hmod : (en.modify j fun e => { e with key := f a, val := g v }).toList = en.toList.set j { e with key := f a, val := g v } := by
      apply List.ext_getElem?
      intro i
      by_cases hi : j = i
      · subst hi
        have hlj' : j < en.size := by simpa using hlj
        have h2' : en[j] = e := by have := h2; simp [hlj'] at this; exact this
        simp [Array.getElem?_modify, List.getElem?_set_self hlj, hlj', h2']
      · simp [Array.getElem?_modify, hi, List.getElem?_set_ne hi]
    refine ⟨en.modify j fun e => { e with key := f a, val := g v }, clk, ?_, ?_, ?_, ?_, ?_⟩
    · have hkey : ((en[j]?).map (·.key)).getD (f a) = f a := by
        have : en[j]? = some e := by simpa using h2
        simp [this, h3]
      unfold Instr.mapUpdate
      simp [run_underlying hu, hg, hck, h1, hkey, hst, run_setMap hw]
    · rw [hmod, mpt_set (gmL_nodup he hn) h5, List.map_set, he]
      unfold gmL
      rw [List.map_set]
    · rw [hmod, borns_set h2 _ (by rfl)]; exact hb
    · rw [hmod]
      intro x hx
      rcases List.mem_or_eq_of_mem_set hx with h | rfl
      · exact hlt x h
      · exact hlt e (List.mem_of_getElem? h2)
    · rw [hmod, keys_set h2 _ (by simpa using h3.symm)]; exact hn
theorem OW.updG {m k x : Operand} {b j : Nat} {l : List (α × β)} {a : α} {v : β} (hu : P.underlying t = some (.map kt et)) (K : Keys P kt f ok) (hl : ∀ p ∈ l, ok p.1) (ha : ok a) (hm : (cV m).val T = some (.map (some b))) (hx : (cV k).val T = some (f a)) (hv : (cV x).val T = some (g v))
    (hk : S[j]? = some [(b, AO.gm (gmL f g l))]) : OW P w0 n (.more (.other (.gen (.mapUpdate t m k x)))) T S (fun _ S' => S' = S.set j [(b, .gm (gmL f g (mpt l a v)))]) := by
  intro op ac w Q hco hs hr
  have ho : op.op = .mapUpdate t m k x := cOp_spec P hco
  obtain ⟨hge, en, clk, hw, he, hb, hlt, hn⟩ := hr.gmAt (mem_at hk)
  obtain ⟨en', clk', hrun, h1, h2, h3, h4⟩ := run_updG (a := a) (v := v) hu K hl ha hw he hb hlt hn
  unfold Oper.wp
  have hrun2 : (execOp ac.eval op).run P w = .ok .skip { w with heap := w.heap.setIfInBounds b (.map en' clk') } := by
    simp [execOp, ho, hs.eval hm, hs.eval hx, hs.eval hv, hrun]
  rw [hrun2]
  refine ⟨undef, _, rfl, ?_, rfl⟩
  have hlb : b < w.heap.size := (Array.getElem?_eq_some_iff.1 hw).1
  exact hr.setAt hk ⟨en', clk', by simp [hlb], h1, h2, h3, h4⟩
theorem OW.insG {m k x : Operand} {b j : Nat} {l : List (α × β)} {a : α} {v : β} (hu : P.underlying t = some (.map kt et)) (K : Keys P kt f ok) (hl : ∀ p ∈ l, ok p.1) (ha : ok a) (hm : (cV m).val T = some (.map (some b))) (hx : (cV k).val T = some (f a)) (hv : (cV x).val T = some (g v))
    (hk : S[j]? = some [(b, AO.gm (gmL f g l))]) : OW P w0 n (.more (.other (.gen (.insert t m k x)))) T S (fun _ S' => S' = S.set j [(b, .gm (gmL f g (mpt l a v)))]) := by
  intro op ac w Q hco hs hr
  have ho : op.op = .insert t m k x := cOp_spec P hco
  obtain ⟨hge, en, clk, hw, he, hb, hlt, hn⟩ := hr.gmAt (mem_at hk)
  obtain ⟨en', clk', hrun, h1, h2, h3, h4⟩ := run_updG (a := a) (v := v) hu K hl ha hw he hb hlt hn
  unfold Oper.wp
  have hrun2 : (execOp ac.eval op).run P w = .ok .skip { w with heap := w.heap.setIfInBounds b (.map en' clk') } := by
    simp [execOp, ho, hs.eval hm, hs.eval hx, hs.eval hv, hrun]
  rw [hrun2]
  refine ⟨undef, _, rfl, ?_, rfl⟩
  have hlb : b < w.heap.size := (Array.getElem?_eq_some_iff.1 hw).1
  exact hr.setAt hk ⟨en', clk', by simp [hlb], h1, h2, h3, h4⟩
/-- delete(m, k) -/
theorem OW.delG {m k : Operand} {b j : Nat} {l : List (α × β)} {a : α} {u : TypeId} (hu : P.underlying t = some (.map kt et)) (K : Keys P kt f ok) (hl : ∀ p ∈ l, ok p.1) (ha : ok a) (hm : (cV m).val T = some (.map (some b))) (hx : (cV k).val T = some (f a))
    (hk : S[j]? = some [(b, AO.gm (gmL f g l))]) : OW P w0 n (.more (.other (.gen (.call { callee := .builtin .delete, args := #[m, k], argTypes := #[t, u] })))) T S (fun _ S' => S' = S.set j [(b, .gm (gmL f g (mdl l a)))]) := by
  intro op ac w Q hco hs hr
  have ho : op.op = .call { callee := .builtin .delete, args := #[m, k], argTypes := #[t, u] } := cOp_spec P hco
  obtain ⟨hge, en, clk, hw, he, hb, hlt, hn⟩ := hr.gmAt (mem_at hk)
  obtain ⟨lx, hlx⟩ := K.key a ha
  have hck := K.law.check w en.isEmpty hlx
  have hg : (getObj b).run P w = .ok (.map en clk) w := by simp [getObj, Sem.run, hw]
  have hlb : b < w.heap.size := (Array.getElem?_eq_some_iff.1 hw).1
  unfold Oper.wp
  rcases K.find hl he a ha w with ⟨h1, h2⟩ | ⟨i, e, b', h1, h2, h3, h4, h5⟩
  · have hrun2 : (execOp ac.eval op).run P w = .ok (.value (.tuple #[])) { w with heap := w.heap.setIfInBounds b (.map en clk) } := by
      simp [execOp, ho, resolve, invoke, builtin, Builtin.delete_, hs.eval hm, hs.eval hx, run_underlying hu, hg, hck, h1, run_setMap hw]
    rw [hrun2]
    refine ⟨_, _, rfl, ?_, rfl⟩
    rw [mdl_new h2]
    exact hr.setAt hk ⟨en, clk, by simp [hlb], he, hb, hlt, hn⟩
  · have hrun2 : (execOp ac.eval op).run P w = .ok (.value (.tuple #[])) { w with heap := w.heap.setIfInBounds b (.map (en.eraseIdxIfInBounds i) clk) } := by
      simp [execOp, ho, resolve, invoke, builtin, Builtin.delete_, hs.eval hm, hs.eval hx, run_underlying hu, hg, hck, h1, run_setMap hw]
    rw [hrun2]
    refine ⟨_, _, rfl, ?_, rfl⟩
    have hli : i < en.size := by have := (List.getElem?_eq_some_iff.1 h2).1; simpa using this
    have her : (en.eraseIdxIfInBounds i).toList = en.toList.eraseIdx i := by
      unfold Array.eraseIdxIfInBounds
      rw [dif_pos hli]
      simp
    refine hr.setAt hk ⟨_, clk, by simp [hlb]; rfl, ?_, ?_, ?_, ?_⟩
    · rw [her, mdl_erase (gmL_nodup he hn) h5, map_eraseIdx, he]
      unfold gmL
      rw [map_eraseIdx]
    · rw [her]; exact hb.sublist ((List.eraseIdx_sublist _ _).map _)
    · rw [her]; exact fun e h => hlt e ((List.eraseIdx_sublist _ _).subset h)
    · rw [her]; exact hn.sublist ((List.eraseIdx_sublist _ _).map _)
/-- the iterator has handed out 'done', 'rest' is still to come -/
def It (f : α → Value) (g : β → Value) (en : Array MapEntry) (seen : Array Nat) (l done rest : List (α × β)) : Prop :=
  (done ++ rest).Perm l ∧ ∃ D R : List MapEntry, seen.toList = D.map (·.born) ∧ (D ++ R).Perm en.toList ∧ D.map (fun e => (e.key, e.val)) = gmL f g done ∧ R.map (fun e => (e.key, e.val)) = gmL f g rest
structure Opened (f : α → Value) (g : β → Value) (en : Array MapEntry) (clk : Nat) (l : List (α × β)) : Prop where
  es : en.toList.map (fun e => (e.key, e.val)) = gmL f g l
  born : (en.toList.map (·.born)).Nodup
  lt : ∀ e ∈ en.toList, e.born < clk
  keys : (en.toList.map (·.key)).Nodup
theorem OW.rngG {m : Operand} {b j : Nat} {l : List (α × β)} (hu : P.underlying t = some (.map kt et)) (hm : (cV m).val T = some (.map (some b))) (hk : S[j]? = some [(b, AO.gm (gmL f g l))]) :
    OW P w0 n (.more (.other (.gen (.range t m)))) T S (fun v S' => ∃ r en clk, v = .pointer (some ⟨r, 0, none⟩) ∧ Opened f g en clk l ∧ It f g en #[] l [] l ∧ S' = [(r, .obj (.mapIter (some b) clk #[] clk))] :: S.set j [(b, .obj (.map en clk))]) := by
  intro op ac w Q hco hs hr
  have ho : op.op = .range t m := cOp_spec P hco
  obtain ⟨hge, en, clk, hw, he, hb, hlt, hn⟩ := hr.gmAt (mem_at hk)
  have hg : (getObj b).run P w = .ok (.map en clk) w := by simp [getObj, Sem.run, hw]
  unfold Oper.wp
  have hrun : (execOp ac.eval op).run P w = .ok (.value (.pointer (some ⟨w.heap.size, 0, none⟩))) (w.alloc (.mapIter (some b) clk #[] clk)) := by
    simp [execOp, ho, hs.eval hm, Instr.range, run_underlying hu, hg, newObj, Sem.run]
  rw [hrun]
  have hr2 : Rep w0 (S.set j [(b, .obj (.map en clk))]) w := hr.replace hk (Below.refl _ _) (fun _ _ _ => rfl) (by simp) (by
    intro p hp
    simp only [List.mem_singleton] at hp
    subst hp
    exact ⟨hge, hw, .inl (by simp)⟩)
  refine ⟨_, _, rfl, hr2.allocObj _, w.heap.size, en, clk, rfl, ⟨he, hb, hlt, hn⟩, ⟨by simp, [], en.toList, by simp, by simp, by simp [gmL], he⟩, rfl⟩
theorem perm_take {γ : Type} {D R L : List γ} {i : Nat} {x : γ} (h : R[i]? = some x) (hp : (D ++ R).Perm L) : ((D ++ [x]) ++ R.eraseIdx i).Perm L := by
  refine List.Perm.trans ?_ hp
  rw [List.append_assoc]
  refine List.Perm.append_left D ?_
  have hlt := (List.getElem?_eq_some_iff.1 h).1
  have hx : R[i] = x := by rw [List.getElem?_eq_getElem hlt] at h; exact Option.some.inj h
  have : R = R.take i ++ x :: R.drop (i + 1) := by rw [← hx]; simp
  have e : R.eraseIdx i = R.take i ++ R.drop (i + 1) := List.eraseIdx_eq_take_drop_succ ..
  rw [e]
  calc [x] ++ (R.take i ++ R.drop (i + 1)) = x :: (R.take i ++ R.drop (i + 1)) := rfl
    List.Perm _ (R.take i ++ x :: R.drop (i + 1)) := (List.perm_middle).symm
    List.Perm _ R := by rw [← this]
theorem OW.nxtG {it : Operand} {b r j clk : Nat} {en : Array MapEntry} {seen : Array Nat} {l done rest : List (α × β)} (ht : (cV it).val T = some (.pointer (some ⟨r, 0, none⟩))) (hk : S[j]? = some [(r, AO.obj (.mapIter (some b) clk seen clk))])
    (hm : (b, AO.obj (.map en clk)) ∈ S.flatten) (ho : Opened f g en clk l) (hi : It f g en seen l done rest) :
    OW P w0 n (.more (.other (.gen (.next it false)))) T S (fun v S' => (rest = [] ∧ v = .tuple #[.bool false] ∧ S' = S) ∨
      ∃ (i : Nat) (p : α × β) (q : Nat), rest[i]? = some p ∧ v = .tuple #[.bool true, f p.1, g p.2] ∧ It f g en (seen.push q) l (done ++ [p]) (rest.eraseIdx i) ∧ S' = S.set j [(r, .obj (.mapIter (some b) clk (seen.push q) clk))]) := by
  intro op ac w Q hco hs hr
  have hop : op.op = .next it false := cOp_spec P hco
  obtain ⟨hge, hw⟩ := hr.own _ hm
  obtain ⟨hge2, hw2⟩ := hr.own (r, AO.obj (.mapIter (some b) clk seen clk)) (mem_at hk)
  simp only [Owns] at hw hw2
  obtain ⟨hperm, D, R, hseen, hDR, hD, hR⟩ := hi
  have hbn : ((D ++ R).map (·.born)).Nodup := (hDR.map _).nodup_iff.2 ho.born
  have hleft : ∀ e, e ∈ (leftOf en seen).toList ↔ e ∈ R := by
    intro e
    unfold leftOf
    simp only [Array.toList_filter, List.mem_filter, Bool.not_eq_true', Array.contains_eq_mem, decide_eq_false_iff_not, ← Array.mem_toList_iff, hseen]
    constructor
    · rintro ⟨h1, h2⟩
      rcases List.mem_append.1 (hDR.mem_iff.2 h1) with h | h
      · exact absurd (List.mem_map.2 ⟨e, h, rfl⟩) h2
      · exact h
    · intro h
      refine ⟨hDR.mem_iff.1 (by simp [h]), fun h2 => ?_⟩
      obtain ⟨e', h3, h4⟩ := List.mem_map.1 h2
      rw [List.map_append, List.nodup_append] at hbn
      exact hbn.2.2 _ (List.mem_map.2 ⟨e', h3, rfl⟩) _ (List.mem_map.2 ⟨e, h, rfl⟩) h4
  have hnx := run_next_at (P := P) w op.type r b clk clk seen en clk hw2 hw ho.lt (Nat.le_refl _)
  unfold Oper.wp
  rcases hnx with ⟨h0, hrun⟩ | ⟨e, he, w1, hw1, hrun⟩
  · have hrun2 : (execOp ac.eval op).run P w = .ok (.value (.tuple #[.bool false])) w := by
      simp [execOp, hop, hs.eval ht, hrun]
    rw [hrun2]
    refine ⟨_, _, rfl, hr, .inl ⟨?_, rfl, rfl⟩⟩
    have hR0 : R = [] := by
      cases hRR : R with
      | nil => rfl
      | cons x R' =>
        exfalso
        have := (hleft x).2 (by rw [hRR]; simp)
        have h2 : (leftOf en seen) = #[] := Array.eq_empty_of_size_eq_zero h0
        rw [h2] at this
        simp at this
    rw [hR0] at hR
    cases rest with
    | nil => rfl
    | cons x r' => simp [gmL] at hR
  · have heR := (hleft e).1 he
    obtain ⟨i, hRi⟩ := List.getElem?_of_mem heR
    have h1 : (R.map (fun e => (e.key, e.val)))[i]? = some (e.key, e.val) := by simp [hRi]
    rw [hR] at h1
    unfold gmL at h1
    rw [List.getElem?_map, Option.map_eq_some_iff] at h1
    obtain ⟨p, hp, hkv⟩ := h1
    have hke : e.key = f p.1 := (congrArg Prod.fst hkv).symm
    have hve : e.val = g p.2 := (congrArg Prod.snd hkv).symm
    have hrun2 : (execOp ac.eval op).run P w = .ok (.value (.tuple #[.bool true, f p.1, g p.2])) (ChangeMaps.setBlock w1 r (.mapIter (some b) clk (seen.push e.born) clk)) := by
      simp [execOp, hop, hs.eval ht, hrun, hke, hve]
    rw [hrun2]
    have hr1 : Rep w0 S w1 := by
      rcases hw1 with rfl | rfl
      · exact hr
      · exact hr.same ⟨rfl, rfl, rfl, Nat.le_refl _, fun _ _ => rfl⟩ (fun _ _ => rfl)
    have hlr : r < w1.heap.size := hr1.lt (p := (r, AO.obj (.mapIter (some b) clk seen clk))) (mem_at hk)
    refine ⟨_, _, rfl, hr1.setAt (ob := .mapIter (some b) clk (seen.push e.born) clk) (o' := .obj (.mapIter (some b) clk (seen.push e.born) clk)) hk (by simp [Owns, hlr]), .inr ⟨i, p, e.born, hp, rfl, ?_, rfl⟩⟩
    refine ⟨perm_take hp hperm, D ++ [e], R.eraseIdx i, by simp [hseen], perm_take hRi hDR, ?_, ?_⟩
    · rw [List.map_append, hD]; simp [gmL, hke, hve]
    · rw [map_eraseIdx, hR]; unfold gmL; rw [map_eraseIdx]
/-- the round's key and value -/
theorem Yields.entG {it : Operand} {b r clk q : Nat} {en : Array MapEntry} {seen : Array Nat} {l done rest : List (α × β)} {p : α × β} (ht : (cV it).val T = some (.pointer (some ⟨r, 0, none⟩))) (hk : (r, AO.obj (.mapIter (some b) clk (seen.push q) clk)) ∈ S.flatten)
    (hm : (b, AO.obj (.map en clk)) ∈ S.flatten) (ho : Opened f g en clk l) (hi : It f g en (seen.push q) l (done ++ [p]) rest) :
    Yields P w0 n (.more (.other (.gen (.entry it)))) T S (.tuple #[f p.1, g p.2]) := by
  intro o ac w hco hs hr
  have hop : o.op = .entry it := cOp_spec P hco
  obtain ⟨hge, hw⟩ := hr.own _ hm
  obtain ⟨hge2, hw2⟩ := hr.own _ hk
  simp only [Owns] at hw hw2
  obtain ⟨hperm, D, R, hseen, hDR, hD, hR⟩ := hi
  have hDne : D ≠ [] := by rintro rfl; simp [gmL] at hD
  obtain ⟨D', e, rfl⟩ : ∃ D' e, D = D' ++ [e] := ⟨D.dropLast, D.getLast hDne, (List.dropLast_concat_getLast hDne).symm⟩
  have hDl := hD
  rw [gmL, List.map_append, List.map_append] at hDl
  have hlast := (List.append_inj' hDl rfl).2
  simp only [List.map_cons, List.map_nil, List.cons.injEq, Prod.mk.injEq, and_true] at hlast
  have hq : q = e.born := by
    have := hseen
    simp only [Array.toList_push, List.map_append, List.map_cons, List.map_nil] at this
    have h2 := (List.append_inj' this rfl).2
    simpa using h2
  subst hq
  have hem : e ∈ en.toList := hDR.mem_iff.1 (by simp)
  have := run_entry_at (P := P) w r b clk seen en clk e hw2 hw hem ho.born
  simp [execOp, hop, hs.eval ht, this, hlast.1, hlast.2]
theorem It.perm {en : Array MapEntry} {seen : Array Nat} {l done rest : List (α × β)} (h : It f g en seen l done rest) : (done ++ rest).Perm l := h.1
/-- what is known of a block of the walk's own may be told in other words -/
theorem Rep.tell {w : World} {k b : Nat} {o o' : AO} (h : Rep w0 S w) (hk : S[k]? = some [(b, o)]) (ho : ∀ w, Owns w b o → Owns w b o') : Rep w0 (S.set k [(b, o')]) w := by
  obtain ⟨hge, how⟩ := h.own (b, o) (mem_at hk)
  refine h.replace hk (Below.refl _ _) (fun _ _ _ => rfl) (by simp) (by
    intro p hp
    simp only [List.mem_singleton] at hp
    subst hp
    exact ⟨hge, ho _ how, .inl (by simp)⟩)
theorem Opened.close {en : Array MapEntry} {clk : Nat} {l : List (α × β)} (h : Opened f g en clk l) (b : Nat) (w : World) (hw : Owns w b (.obj (.map en clk))) : Owns w b (.gm (gmL f g l)) := ⟨en, clk, hw, h.es, h.born, h.lt, h.keys⟩
theorem PW.tell {pc : PC} {k b : Nat} {o o' : AO} {Q : Exit → TT → SS → Prop} (hk : S[k]? = some [(b, o)]) (ho : ∀ w, Owns w b o → Owns w b o') (h : PW P w0 n pc T (S.set k [(b, o')]) Q) : PW P w0 n pc T S Q :=
  fun c hc a w hs hr => h c hc a w hs (hr.tell hk ho)
theorem OL.tell {l : List PI} {k b : Nat} {o o' : AO} {K : TT → SS → Prop} (hk : S[k]? = some [(b, o)]) (ho : ∀ w, Owns w b o → Owns w b o') (h : OL P w0 n l T (S.set k [(b, o')]) K) : OL P w0 n l T S K :=
  fun ops is a w Q hc hs hr hq => h ops is a w Q hc hs (hr.tell hk ho) hq
theorem Opened.gm {en : Array MapEntry} {clk : Nat} {l : List (α × β)} (h : Opened f g en clk l) {b : Nat} {w : World} (hw : w.heap[b]? = some (.map en clk)) : Owns w b (.gm (gmL f g l)) := ⟨en, clk, hw, h.es, h.born, h.lt, h.keys⟩
/-- the map with an entry at a key, and that entry's place -/
def entL (l : List (α × β)) (a : α) (z : β) : List (α × β) := mpt l a ((mgt l a).getD z)
theorem mpt_idem {l : List (α × β)} {a : α} {b : β} (h : mgt l a = some b) : mpt l a b = l := by
  induction l with
  | nil => simp [mgt_nil] at h
  | cons p l ih =>
    rw [mgt_cons] at h
    unfold mpt
    split
    · rename_i e
      rw [if_pos e] at h
      rw [e, ← Option.some.inj h]
    · rename_i e
      rw [if_neg e] at h
      rw [ih h]
theorem OW.entry {m k : Operand} {i : TypeInfo} {b j : Nat} {l : List (α × β)} {a : α} {z : β} (hu : P.underlying t = some (.map kt et)) (hi : P.info? et = some i) (hz : i.zero = some (g z)) (K : Keys P kt f ok) (hl : ∀ p ∈ l, ok p.1) (ha : ok a)
    (hm : (cV m).val T = some (.map (some b))) (hx : (cV k).val T = some (f a)) (hk : S[j]? = some [(b, AO.gm (gmL f g l))]) :
    OW P w0 n (.more (.other (.gen (.mapEntry t m k)))) T S (fun v S' => ∃ (en : Array MapEntry) (clk q : Nat) (e : MapEntry), v = .tuple #[g ((mgt l a).getD z), .int .i64 (q : Int)] ∧ Opened f g en clk (entL l a z) ∧ e ∈ en.toList ∧ e.born = q ∧ e.key = f a ∧ S' = S.set j [(b, .obj (.map en clk))]) := by
  intro op ac w Q hco hs hr
  have ho : op.op = .mapEntry t m k := cOp_spec P hco
  obtain ⟨hge, en, clk, hw, he, hb, hlt, hn⟩ := hr.gmAt (mem_at hk)
  obtain ⟨lx, hlx⟩ := K.key a ha
  have hck := K.law.check w false hlx
  have hst := K.law.stays w hlx
  have hg : (getObj b).run P w = .ok (.map en clk) w := by simp [getObj, Sem.run, hw]
  have hlb : b < w.heap.size := (Array.getElem?_eq_some_iff.1 hw).1
  unfold Oper.wp
  rcases K.find hl he a ha w with ⟨h1, h2⟩ | ⟨i', e, b', h1, h2, h3, h4, h5⟩
  · have hget : mgt l a = none := mgt_none.2 fun h => by
      unfold mks at h
      obtain ⟨p, hp, rfl⟩ := List.mem_map.1 h
      exact h2 p.2 hp
    have hrun : (execOp ac.eval op).run P w = .ok (.value (.tuple #[g z, .int .i64 (clk : Int)])) { w with heap := w.heap.setIfInBounds b (.map (en.push { key := f a, val := g z, born := clk }) (clk + 1)) } := by
      simp [execOp, ho, hs.eval hm, hs.eval hx, Instr.mapEntry, run_underlying hu, hg, hck, h1, run_setMap hw, zeroValue, typeInfo, program, Sem.run, hi, hz, goInt]
    rw [hrun]
    refine ⟨_, _, rfl, hr.setAt hk (o' := .obj (.map (en.push { key := f a, val := g z, born := clk }) (clk + 1))) (by simp [Owns, hlb]), _, clk + 1, clk, { key := f a, val := g z, born := clk }, by rw [hget]; rfl, ⟨?_, ?_, ?_, ?_⟩, by simp, rfl, rfl, rfl⟩
    · unfold entL
      rw [hget, mpt_new h2]; simp [he, gmL]
    · simp only [Array.toList_push, List.map_append, List.map_cons, List.map_nil]
      rw [List.nodup_append]
      refine ⟨hb, by simp, ?_⟩
      simp only [List.mem_map, List.mem_singleton]
      rintro x ⟨e, he', rfl⟩ y rfl hxy
      have := hlt e he'
      omega
    · simp only [Array.toList_push, List.mem_append, List.mem_singleton]
      rintro e (h | rfl)
      · have := hlt e h; omega
      · exact Nat.lt_succ_self _
    · simp only [Array.toList_push, List.map_append, List.map_cons, List.map_nil]
      rw [List.nodup_append]
      refine ⟨hn, by simp, ?_⟩
      simp only [List.mem_map, List.mem_singleton]
      rintro x ⟨e, he', rfl⟩ y rfl hxy
      obtain ⟨i, hi⟩ := List.getElem?_of_mem he'
      obtain ⟨a', b', q1, q2, q3⟩ := gmL_get he hi
      obtain rfl := K.inj a' a (by rw [← q2, hxy])
      exact h2 b' (List.mem_of_getElem? q1)
  · have hget : mgt l a = some b' := (mgt_mem (gmL_nodup he hn)).2 (List.mem_of_getElem? h5)
    have h2' : en[i']? = some e := by simpa using h2
    have hsame : en.modify i' (fun e => { e with key := f a }) = en := by
      apply Array.ext'
      apply List.ext_getElem?
      intro x
      rw [Array.getElem?_toList, Array.getElem?_toList, Array.getElem?_modify]
      split
      · rename_i hx; subst hx
        rw [h2']
        simp only [Option.map_some]
        rw [← h3]
      · rfl
    have hrun : (execOp ac.eval op).run P w = .ok (.value (.tuple #[e.val, .int .i64 (e.born : Int)])) { w with heap := w.heap.setIfInBounds b (.map en clk) } := by
      simp [execOp, ho, hs.eval hm, hs.eval hx, Instr.mapEntry, run_underlying hu, hg, hck, h1, h2', h3, hst, hsame, run_setMap hw, goInt]
    rw [hrun]
    refine ⟨_, _, rfl, hr.setAt hk (o' := .obj (.map en clk)) (by simp [Owns, hlb]), en, clk, e.born, e, by rw [hget, h4]; rfl, ?_, List.mem_of_getElem? h2, rfl, h3, rfl⟩
    unfold entL
    rw [hget, Option.getD_some, mpt_idem hget]
    exact ⟨he, hb, hlt, hn⟩
theorem OW.store {m k x : Operand} {b j q clk : Nat} {en : Array MapEntry} {e : MapEntry} {l : List (α × β)} {a : α} {v : β} (hinj : ∀ a b, f a = f b → a = b) (hm : (cV m).val T = some (.map (some b))) (hx : (cV k).val T = some (.int .i64 (q : Int))) (hv : (cV x).val T = some (g v))
    (ho : Opened f g en clk l) (hee : e ∈ en.toList) (heb : e.born = q) (hek : e.key = f a) (hk : S[j]? = some [(b, AO.obj (.map en clk))]) :
    OW P w0 n (.more (.other (.gen (.entryStore t m k x)))) T S (fun _ S' => S' = S.set j [(b, .gm (gmL f g (mpt l a v)))]) := by
  intro op ac w Q hco hs hr
  have hop : op.op = .entryStore t m k x := cOp_spec P hco
  obtain ⟨hge, hw⟩ := hr.own _ (mem_at hk)
  simp only [Owns] at hw
  have hg : (getObj b).run P w = .ok (.map en clk) w := by simp [getObj, Sem.run, hw]
  have hlb : b < w.heap.size := (Array.getElem?_eq_some_iff.1 hw).1
  obtain ⟨i, hi⟩ := List.getElem?_of_mem hee
  have hil := (List.getElem?_eq_some_iff.1 hi).1
  obtain ⟨a', b', q1, q2, q3⟩ := gmL_get ho.es hi
  obtain rfl := hinj a' a (by rw [← q2, hek])
  have hfi : en.findIdx? (fun e => (e.born : Int) == (q : Int)) = some i := by
    rw [Array.findIdx?_eq_some_iff_getElem]
    obtain ⟨h1, h2⟩ := List.getElem?_eq_some_iff.1 hi
    have h2' : en[i]'(by simpa using h1) = e := by simpa using h2
    refine ⟨by simpa using h1, by rw [h2', heb]; simp, fun x hx => ?_⟩
    have hxl : x < en.toList.length := by omega
    have hne : (en.toList.map (·.born))[x]'(by simpa using hxl) ≠ (en.toList.map (·.born))[i]'(by simpa using h1) := fun e => by
      have := (List.getElem_inj ho.born).1 e
      omega
    have hxe : en[x] = en.toList[x] := by simp
    simp only [List.getElem_map, h2, heb] at hne
    simp only [beq_iff_eq, Bool.not_eq_true, beq_eq_false_iff_ne, ne_eq]
    rw [hxe]
    omega
  have hmod : (en.modify i fun e => { e with val := g v }).toList = en.toList.set i { e with val := g v } := by
    apply List.ext_getElem?
    intro x
    by_cases hx : i = x
    · subst hx
      have hlj' : i < en.size := by simpa using hil
      have h2' : en[i] = e := by have := hi; simp [hlj'] at this; exact this
      simp [Array.getElem?_modify, List.getElem?_set_self hil, hlj', h2']
    · simp [Array.getElem?_modify, hx, List.getElem?_set_ne hx]
  unfold Oper.wp
  have hrun : (execOp ac.eval op).run P w = .ok .skip { w with heap := w.heap.setIfInBounds b (.map (en.modify i fun e => { e with val := g v }) clk) } := by
    simp [execOp, hop, hs.eval hm, hs.eval hx, hs.eval hv, Instr.entryStore, hg, asInt, asIntOf, hfi, run_setMap hw]
  rw [hrun]
  refine ⟨undef, _, rfl, ?_, rfl⟩
  refine hr.setAt hk ⟨_, clk, by simp [hlb]; rfl, ?_, ?_, ?_, ?_⟩
  · rw [hmod, mpt_set (gmL_nodup ho.es ho.keys) q1, List.map_set, ho.es]
    unfold gmL
    rw [List.map_set, ← q2]
  · rw [hmod, borns_set hi _ (by rfl)]; exact ho.born
  · rw [hmod]
    intro x hx
    rcases List.mem_or_eq_of_mem_set hx with h | rfl
    · exact ho.lt x h
    · exact ho.lt e hee
  · rw [hmod, keys_set hi _ (by rfl)]; exact ho.keys
/-- a map looked up while it is told as it is -/
theorem Yields.lookO {m k : Operand} {okc : Bool} {i : TypeInfo} {b clk : Nat} {en : Array MapEntry} {l : List (α × β)} {a : α} {z : β} (hu : P.underlying t = some (.map kt et)) (hi : P.info? et = some i) (hz : i.zero = some (g z)) (K : Keys P kt f ok) (hl : ∀ p ∈ l, ok p.1) (ha : ok a)
    (hm : (cV m).val T = some (.map (some b))) (hx : (cV k).val T = some (f a)) (ho : Opened f g en clk l) (hk : (b, AO.obj (.map en clk)) ∈ S.flatten) :
    Yields P w0 n (.more (.other (.gen (.lookup t m k okc)))) T S (if okc then .tuple #[g ((mgt l a).getD z), .bool (mgt l a).isSome] else g ((mgt l a).getD z)) := by
  intro o ac w hco hs hr
  have hop : o.op = .lookup t m k okc := cOp_spec P hco
  obtain ⟨hge, hw⟩ := hr.own _ hk
  simp only [Owns] at hw
  obtain ⟨lx, hlx⟩ := K.key a ha
  have hck := fun bb => K.law.check w bb hlx
  have hg : (getObj b).run P w = .ok (.map en clk) w := by simp [getObj, Sem.run, hw]
  simp only [execOp, hop, hs.eval hm, hs.eval hx, Instr.lookup]
  simp only [Sem.run_bind, run_underlying hu, Result.andThen_ok, hg, Sem.run_pure, hck]
  rcases K.find hl ho.es a ha w with ⟨h1, h2⟩ | ⟨j, e, b', h1, h2, h3, h4, h5⟩
  · have hget : mgt l a = none := mgt_none.2 fun h => by
      unfold mks at h
      obtain ⟨p, hp, rfl⟩ := List.mem_map.1 h
      exact h2 p.2 hp
    simp only [h1, Result.andThen_ok, hget]
    cases okc <;> simp [zeroValue, typeInfo, program, hi, hz, Sem.run]
  · have hget : mgt l a = some b' := (mgt_mem (gmL_nodup ho.es ho.keys)).2 (List.mem_of_getElem? h5)
    simp only [h1, Result.andThen_ok, hget, h4]
    cases okc <;> simp
theorem Yields.tas {x : Operand} {u : TypeId} {d : TypeDesc} {ok : Bool} {v : Value} (hx : (cV x).val T = some (.iface t v)) (hu : P.underlying t = some d) (hd : ∀ ms, d ≠ .interface ms) :
    Yields P w0 n (.more (.other (.gen (.typeAssert x u t ok)))) T S (if ok then .tuple #[v, .bool true] else v) := by
  intro o ac w hco hs hr
  have hop : o.op = .typeAssert x u t ok := cOp_spec P hco
  have : (Instr.typeAssert (.iface t v) u t ok).run P w = .ok (if ok then .tuple #[v, .bool true] else v) w := by
    unfold Instr.typeAssert
    simp only [Sem.run_bind, run_underlying hu, Result.andThen_ok]
    cases d <;> (first | (cases ok <;> simp; done) | exact absurd rfl (hd _))
  simp [execOp, hop, hs.eval hx, this]
/-- a call of a method through an interface -/
theorem OW.inv {recv : Operand} {name : String} {args : Array Operand} {ts : Array TypeId} {k : FuncId} {v rv : Value} {vs : List Value} {post : Value → SS → Prop} (hx : (cV recv).val T = some (.iface t v)) (hv : valsP T (args.toList.map cV) = some vs)
    (hm : ∀ w, Rep w0 S w → (method (P.types.size + Made.depth) t v name).run P w = .ok (k, rv) w) (hok : fnOk P k = true) (h : FC P w0 k (rv :: vs) S post) :
    OW P w0 n (.more (.other (.gen (.call { callee := .invoke recv name, args := args, argTypes := ts })))) T S post := by
  intro op ac w Q hco hs hr
  have hop : op.op = .call { callee := .invoke recv name, args := args, argTypes := ts } := cOp_spec P hco
  have hargs : args.map ac.eval = vs.toArray := by
    have := valsP_spec hs hv
    rw [← this, ← Array.toArray_toList (xs := args.map ac.eval), Array.toList_map]
  have hrun : (execOp ac.eval op).run P w = .ok (.enter k (rv :: vs).toArray) w := by
    unfold fnOk at hok
    split at hok
    · rename_i fn hfn
      simp only [Bool.and_eq_true, bne_iff_ne, ne_eq] at hok
      have hb : ¬ fn.body = none := by intro hh; simp [hh] at hok
      have hex : (#[(Value.iface t v)] ++ vs.toArray).extract 1 (#[(Value.iface t v)] ++ vs.toArray).size = vs.toArray := by
        apply Array.toList_inj.1
        simp
      simp only [execOp, hop, resolve, hs.eval hx, hargs]
      simp only [Sem.run_bind, Sem.run_pure, Result.andThen_ok, invoke]
      have h0 : (#[(Value.iface t v)] ++ vs.toArray)[0]? = some (.iface t v) := by simp
      simp only [h0, hex, callMethod, Sem.run_bind, program, Sem.run, Result.andThen_ok, hm w hr]
      simp [callFunc, program, Sem.run, hfn, hok.1, hb]
    · simp at hok
  unfold Oper.wp
  rw [hrun]
  refine (h w hr).mono ?_
  rintro e w' ⟨v, S', rfl, hr', hp⟩
  exact ⟨v, S', rfl, hr', hp⟩
end
end Go.SL

set_option linter.unusedVariables false
set_option linter.unusedSimpArgs false
namespace Go.SL
open Go.RowKit
section
variable {P : Program} {w0 : World} {n : Nat} {T : TT} {S : SS}
abbrev HL := List (Nat × PI × TT)
/-- operations that turn nothing, in whichever of some states; the others are told with what is known ahead of them -/
inductive QM (P : Program) (w0 : World) (n : Nat) (Ss : SS → Prop) : Nat → List PI → TT → TT → List Value → HL → Prop
  | nil {i : Nat} {T : TT} : QM P w0 n Ss i [] T T [] []
  | step {i : Nat} {T T' : TT} {d : Option Nat} {g : Option (Nat × Bool)} {po : PO} {v : Value} {r : List PI} {vs : List Value} {hs : HL} (hg : gOk T g) (h : ∀ S, Ss S → OW P w0 n po T S (fun v' S' => v' = v ∧ S' = S)) (k : QM P w0 n Ss (i + 1) r (put d v T) T' vs hs) : QM P w0 n Ss i (⟨d, g, po⟩ :: r) T T' (v :: vs) hs
  | off {i : Nat} {T T' : TT} {d : Option Nat} {s : Nat} {b : Bool} {u : Value} {po : PO} {r : List PI} {vs : List Value} {hs : HL} (hl : look T s = some u) (hc : (boolOf u == some b) = false) (k : QM P w0 n Ss (i + 1) r (put d undef T) T' vs hs) : QM P w0 n Ss i (⟨d, some (s, b), po⟩ :: r) T T' (undef :: vs) hs
  | hole {i : Nat} {T T' : TT} {c : PI} {r : List PI} {vs : List Value} {hs : HL} (k : QM P w0 n Ss (i + 1) r (SL.del c.d T) T' vs hs) : QM P w0 n Ss i (c :: r) T T' (undef :: vs) ((i, c, T) :: hs)
theorem QM.lt {Ss : SS → Prop} {l : List PI} {T T' : TT} {vals : List Value} {hs : HL} {s : Nat} (h : QM P w0 n Ss s l T T' vals hs) : vals.length = l.length ∧ (∀ x ∈ hs, s ≤ x.1 ∧ x.1 < s + l.length ∧ l[x.1 - s]? = some x.2.1) ∧ (hs.map (·.1)).Pairwise (· < ·) := by
  induction h with
  | nil => simp
  | @step i T T' d g po v r vs hs hg h k ih =>
    obtain ⟨h1, h2, h3⟩ := ih
    refine ⟨by simp [h1], fun x hx => ?_, h3⟩
    obtain ⟨a, b, c⟩ := h2 x hx
    refine ⟨by omega, by simp only [List.length_cons]; omega, ?_⟩
    rw [show x.1 - i = (x.1 - (i + 1)) + 1 by omega, List.getElem?_cons_succ]; exact c
  | @off i T T' d s b u po r vs hs hl hc k ih =>
    obtain ⟨h1, h2, h3⟩ := ih
    refine ⟨by simp [h1], fun x hx => ?_, h3⟩
    obtain ⟨a, b, c⟩ := h2 x hx
    refine ⟨by omega, by simp only [List.length_cons]; omega, ?_⟩
    rw [show x.1 - i = (x.1 - (i + 1)) + 1 by omega, List.getElem?_cons_succ]; exact c
  | @hole i T T' c r vs hs k ih =>
    obtain ⟨h1, h2, h3⟩ := ih
    refine ⟨by simp [h1], fun x hx => ?_, ?_⟩
    · rcases List.mem_cons.1 hx with rfl | hx
      · exact ⟨Nat.le_refl _, by simp, by simp⟩
      · obtain ⟨a, b, c⟩ := h2 x hx
        refine ⟨by omega, by simp only [List.length_cons]; omega, ?_⟩
        rw [show x.1 - i = (x.1 - (i + 1)) + 1 by omega, List.getElem?_cons_succ]; exact c
    · rw [List.map_cons, List.pairwise_cons]
      refine ⟨fun y hy => ?_, h3⟩
      obtain ⟨x, hx, rfl⟩ := List.mem_map.1 hy
      have := (h2 x hx).1
      show i < x.1
      omega
/-- the operation at i is the j-th of those that turn something -/
def hIdx (hs : HL) (i : Nat) : Option Nat := hs.findIdx? fun x => x.1 == i
def vsH (hs : HL) (vals us : List Value) (s i : Nat) : Value := match hIdx hs i with | some j => us.getD j undef | none => vals.getD (i - s) undef
theorem QM.trace {ops : Array Oper} {Ss : SS → Prop} {l : List PI} {T T' : TT} {vals : List Value} {hs : HL} {s : Nat} (h : QM P w0 n Ss s l T T' vals hs) : ∀ (vs : Nat → Value), (∀ j, j < l.length → (∀ x ∈ hs, x.1 ≠ s + j) → vs (s + j) = vals.getD j undef) → ∀ a, cIs P n ops (List.range' s l.length) = some l → Sat n T a →
    Sat n T' (runA ops vs s l.length a) ∧ (∀ j, j < l.length → (∀ x ∈ hs, x.1 ≠ s + j) → ∀ S, Ss S → GivesAt P w0 S ops (s + j) (vals.getD j undef) (runA ops vs s j a)) ∧
      (∀ x ∈ hs, Sat n x.2.2 (runA ops vs s (x.1 - s) a)) ∧ (∀ j o, j < l.length → ops[s + j]? = some o → dstOk n o.dst = true) ∧ (∀ j, j < l.length → ∀ x, l[j]? = some x → x.d = dstAt ops (s + j)) := by
  have shift : ∀ (vs : Nat → Value) (s m : Nat) (a : Act) (o : Oper), ops[s]? = some o → runA ops vs s (m + 1) a = runA ops vs (s + 1) m (a.put o.dst (vs s)) := by
    intro vs s m a o ho
    have hda : dstAt ops s = o.dst := by simp [dstAt, ho]
    unfold runA
    rw [List.range'_succ, List.foldl_cons, hda]
  induction h with
  | nil => intro vs _ a _ hs; exact ⟨by simpa [runA] using hs, fun j hj => by simp at hj, fun x hx => (by cases hx), fun j o hj => by simp at hj, fun j hj => by simp at hj⟩
  | @step s T T' d g po v r vals hs hg h k ih =>
    intro vs hv a hc hsat
    simp only [List.length_cons, List.range'_succ] at hc
    obtain ⟨i, is, he, hi, hrest⟩ := cIs_cons hc
    simp only [List.cons.injEq] at he
    obtain ⟨rfl, rfl⟩ := he
    obtain ⟨o, ho, hpo, hd, hdst, hgd⟩ := cI_spec hi
    simp only at hpo hdst
    subst hdst
    have hlt := k.lt.2.1
    have hv0 : vs s = v := by
      have := hv 0 (by simp) (fun x hx => by have := (hlt x hx).1; omega)
      simpa using this
    obtain ⟨h1, h2, h5, h3, h4⟩ := ih vs (fun j hj hx => by
      have := hv (j + 1) (by simpa using hj) (fun x hm => by have := hx x hm; omega)
      rw [List.getD_cons_succ] at this
      rw [show s + 1 + j = s + (j + 1) by omega]
      exact this) (a.put o.dst v) hrest (hsat.put hd v)
    refine ⟨by rw [List.length_cons, shift vs s _ a o ho, hv0]; exact h1, ?_, ?_, ?_, ?_⟩
    · intro j hj hnx S hS
      cases j with
      | zero =>
        intro o' ho'
        obtain rfl : o = o' := by rw [Nat.add_zero, ho] at ho'; exact Option.some.inj ho'
        left
        simp only [runA, List.range'_zero, List.foldl_nil, List.getD_cons_zero]
        refine ⟨?_, fun w hr => ?_⟩
        · rcases hgd with ⟨hgd, _⟩ | ⟨j, b, s', hgd, hjj, he⟩
          · simp [Region.wanted, hgd]
          · simp only at he
            subst he
            simp [Region.wanted, hgd, hsat.yielded hjj hg]
        · refine Oper.wp_mono ?_ (h S hS o a w _ hpo hsat hr)
          rintro b w' ⟨v', S', rfl, hr', rfl, rfl⟩
          exact ⟨rfl, hr'⟩
      | succ j =>
        rw [shift vs s _ a o ho, hv0, List.getD_cons_succ]
        have := h2 j (by simpa using hj) (fun x hx => by have := hnx x hx; omega) S hS
        rwa [show s + 1 + j = s + (j + 1) by omega] at this
    · intro x hx
      have := (hlt x hx).1
      have h6 := h5 x hx
      rw [show x.1 - s = (x.1 - (s + 1)) + 1 by omega, shift vs s _ a o ho, hv0]
      exact h6
    · intro j o' hj ho'
      cases j with
      | zero => obtain rfl : o = o' := by rw [Nat.add_zero, ho] at ho'; exact Option.some.inj ho'
                exact hd
      | succ j => exact h3 j o' (by simpa using hj) (by rwa [show s + 1 + j = s + (j + 1) by omega])
    · intro j hj x hx
      cases j with
      | zero => simp at hx; subst hx; simp [dstAt, ho]
      | succ j => have := h4 j (by simpa using hj) x (by simpa using hx); rwa [show s + 1 + j = s + (j + 1) by omega] at this
  | @off s T T' d sl b u po r vals hs hl hcb k ih =>
    intro vs hv a hc hsat
    simp only [List.length_cons, List.range'_succ] at hc
    obtain ⟨i, is, he, hi, hrest⟩ := cIs_cons hc
    simp only [List.cons.injEq] at he
    obtain ⟨rfl, rfl⟩ := he
    obtain ⟨o, ho, hpo, hd, hdst, hgd⟩ := cI_spec hi
    simp only at hpo hdst
    subst hdst
    have hlt := k.lt.2.1
    have hv0 : vs s = undef := by
      have := hv 0 (by simp) (fun x hx => by have := (hlt x hx).1; omega)
      simpa using this
    obtain ⟨h1, h2, h5, h3, h4⟩ := ih vs (fun j hj hx => by
      have := hv (j + 1) (by simpa using hj) (fun x hm => by have := hx x hm; omega)
      rw [List.getD_cons_succ] at this
      rw [show s + 1 + j = s + (j + 1) by omega]
      exact this) (a.put o.dst undef) hrest (hsat.put hd undef)
    refine ⟨by rw [List.length_cons, shift vs s _ a o ho, hv0]; exact h1, ?_, ?_, ?_, ?_⟩
    · intro j hj hnx S hS
      cases j with
      | zero =>
        intro o' ho'
        obtain rfl : o = o' := by rw [Nat.add_zero, ho] at ho'; exact Option.some.inj ho'
        right
        refine ⟨?_, by simp⟩
        simp only [runA, List.range'_zero, List.foldl_nil]
        rcases hgd with ⟨_, hgd⟩ | ⟨j, b', s', hgd, hjj, he⟩
        · simp at hgd
        · simp only [Option.some.injEq, Prod.mk.injEq] at he
          obtain ⟨rfl, rfl⟩ := he
          simp only [Region.wanted, hgd, hsat.yieldedV hjj hl]; exact hcb
      | succ j =>
        rw [shift vs s _ a o ho, hv0, List.getD_cons_succ]
        have := h2 j (by simpa using hj) (fun x hx => by have := hnx x hx; omega) S hS
        rwa [show s + 1 + j = s + (j + 1) by omega] at this
    · intro x hx
      have := (hlt x hx).1
      have h6 := h5 x hx
      rw [show x.1 - s = (x.1 - (s + 1)) + 1 by omega, shift vs s _ a o ho, hv0]
      exact h6
    · intro j o' hj ho'
      cases j with
      | zero => obtain rfl : o = o' := by rw [Nat.add_zero, ho] at ho'; exact Option.some.inj ho'
                exact hd
      | succ j => exact h3 j o' (by simpa using hj) (by rwa [show s + 1 + j = s + (j + 1) by omega])
    · intro j hj x hx
      cases j with
      | zero => simp at hx; subst hx; simp [dstAt, ho]
      | succ j => have := h4 j (by simpa using hj) x (by simpa using hx); rwa [show s + 1 + j = s + (j + 1) by omega] at this
  | @hole s T T' c r vals hs k ih =>
    intro vs hv a hc hsat
    simp only [List.length_cons, List.range'_succ] at hc
    obtain ⟨i, is, he, hi, hrest⟩ := cIs_cons hc
    simp only [List.cons.injEq] at he
    obtain ⟨rfl, rfl⟩ := he
    obtain ⟨o, ho, hpo, hd, hdst, hgd⟩ := cI_spec hi
    have hlt := k.lt.2.1
    obtain ⟨h1, h2, h5, h3, h4⟩ := ih vs (fun j hj hx => by
      have := hv (j + 1) (by simpa using hj) (fun x hm => by
        rcases List.mem_cons.1 hm with rfl | hm
        · show s ≠ s + (j + 1); omega
        · have := hx x hm; omega)
      rw [List.getD_cons_succ] at this
      rw [show s + 1 + j = s + (j + 1) by omega]
      exact this) (a.put o.dst (vs s)) hrest (by rw [hdst]; exact hsat.del (vs s))
    refine ⟨by rw [List.length_cons, shift vs s _ a o ho]; exact h1, ?_, ?_, ?_, ?_⟩
    · intro j hj hnx S hS
      cases j with
      | zero => exact absurd (Nat.add_zero s).symm (hnx _ (List.mem_cons_self ..))
      | succ j =>
        rw [shift vs s _ a o ho, List.getD_cons_succ]
        have := h2 j (by simpa using hj) (fun x hx => by have := hnx x (List.mem_cons_of_mem _ hx); omega) S hS
        rwa [show s + 1 + j = s + (j + 1) by omega] at this
    · intro x hx
      rcases List.mem_cons.1 hx with rfl | hx
      · simp only [Nat.sub_self, runA, List.range'_zero, List.foldl_nil]; exact hsat
      · have := (hlt x hx).1
        have h6 := h5 x hx
        rw [show x.1 - s = (x.1 - (s + 1)) + 1 by omega, shift vs s _ a o ho]
        exact h6
    · intro j o' hj ho'
      cases j with
      | zero => obtain rfl : o = o' := by rw [Nat.add_zero, ho] at ho'; exact Option.some.inj ho'
                exact hd
      | succ j => exact h3 j o' (by simpa using hj) (by rwa [show s + 1 + j = s + (j + 1) by omega])
    · intro j hj x hx
      cases j with
      | zero => simp at hx; subst hx; rw [← hdst]; simp [dstAt, ho]
      | succ j => have := h4 j (by simpa using hj) x (by simpa using hx); rwa [show s + 1 + j = s + (j + 1) by omega] at this
/-- those that turn something, one behind the other -/
def LCh (P : Program) (w0 : World) (n : Nat) (Ss : SS → Prop) (post : TT → SS → Prop) : HL → TT → SS → Prop
  | [], Tl, S => post Tl S
  | x :: r, Tl, S => x.2.1.g = none ∧ OW P w0 n x.2.1.o (Tl ++ x.2.2) S (fun v S' => Ss S' ∧ LCh P w0 n Ss post r (put x.2.1.d v Tl) S')
/-- no other operation of the head writes where one that turns something writes -/
def distB (l : List PI) (hs : HL) : Bool := hs.all fun x => match x.2.1.d with
  | none => true
  | some d => (List.range l.length).all fun j => Nat.beq j x.1 || match l[j]? with | some y => !(y.d == some d) | none => true
def noMovB (hs : HL) : Bool := hs.all fun x => match x.2.1.o with | .mov _ => false | _ => true
def ordB (b : List Nat) : HL → Bool
  | [] => true
  | x :: r => (r.all fun y => Nat.beq (b.getD y.1 0 / 2 ^ x.1 % 2) 1) && ordB b r
theorem look_app (A B : TT) (i : Nat) : look (A ++ B) i = match look A i with | some v => some v | none => look B i := by
  induction A with
  | nil => rfl
  | cons p A ih =>
    obtain ⟨j, v⟩ := p
    by_cases h : j = i
    · subst h; rw [List.cons_append, look_put_same, look_put_same]
    · rw [List.cons_append, look_cons_ne _ _ h, look_cons_ne _ _ h]; exact ih
theorem cIs_pos {ops : Array Oper} {l : List PI} {k i : Nat} {x : PI} (h : cIs P n ops (List.range' 0 k) = some l) (hi : i < k) (hx : l[i]? = some x) : ∃ o, ops[i]? = some o ∧ cOp P o = some x.o ∧ o.dst = x.d ∧ ((o.guard = none ∧ x.g = none) ∨ ∃ j b s, o.guard = some (j, b) ∧ (ops[j]?).bind (·.dst) = some s ∧ x.g = some (s, b)) := by
  have hl := cIs_length h
  rw [List.length_range'] at hl
  have hsplit : List.range' 0 k = List.range' 0 i ++ List.range' i (k - i) := by
    have := List.range'_append (s := 0) (m := i) (n := k - i) (step := 1)
    simp only [Nat.one_mul, Nat.zero_add] at this
    rw [this]; congr 1; omega
  rw [hsplit] at h
  obtain ⟨h1, h2⟩ := cIs_append h
  simp only [List.length_range'] at h2
  have hd : l.drop i = x :: l.drop (i + 1) := by
    have hlt : i < l.length := (List.getElem?_eq_some_iff.1 hx).1
    rw [List.drop_eq_getElem_cons hlt]
    congr 1
    exact (List.getElem?_eq_some_iff.1 hx).2
  have hr : List.range' i (k - i) = i :: List.range' (i + 1) (k - i - 1) := by
    obtain ⟨m, hm⟩ : ∃ m, k - i = m + 1 := ⟨k - i - 1, by omega⟩
    rw [hm, List.range'_succ]; rfl
  rw [hd, hr] at h2
  obtain ⟨i', is, he, hi', _⟩ := cIs_cons h2
  simp only [List.cons.injEq] at he
  obtain ⟨rfl, rfl⟩ := he
  obtain ⟨o, ho, hpo, hdok, hdst, hgd⟩ := cI_spec hi'
  exact ⟨o, ho, hpo, hdst, hgd⟩
theorem hIdx_some {hs : HL} (hp : (hs.map (·.1)).Pairwise (· < ·)) {j : Nat} {x : Nat × PI × TT} (h : hs[j]? = some x) : hIdx hs x.1 = some j := by
  unfold hIdx
  rw [List.findIdx?_eq_some_iff_getElem]
  obtain ⟨hj, hx⟩ := List.getElem?_eq_some_iff.1 h
  refine ⟨hj, by simp [hx], fun i hi => ?_⟩
  have hil : i < hs.length := by omega
  have := List.pairwise_iff_getElem.1 hp i j (by simpa using hil) (by simpa using hj) hi
  simp only [List.getElem_map, hx] at this
  have : hs[i].1 ≠ x.1 := by omega
  simp [this]
theorem hIdx_none {hs : HL} {i : Nat} (h : ∀ x ∈ hs, x.1 ≠ i) : hIdx hs i = none := by
  unfold hIdx
  rw [List.findIdx?_eq_none_iff]
  intro x hx
  have := h x hx
  simp [this]
structure Phs (P : Program) (w0 : World) (n : Nat) (Ss : SS → Prop) (post : TT → SS → Prop) (hs0 : HL) (vals : List Value) (lst : Nat → Bool) (u : List Value) (Sx : SS) (Tl : TT) (c : Nat) : Prop where
  le : c ≤ hs0.length
  len : u.length = c
  lst : ∀ j x, hs0[j]? = some x → (lst x.1 = true ↔ j < c)
  ch : LCh P w0 n Ss post (hs0.drop c) Tl Sx
  ss : Ss Sx
  tl : ∀ d v, look Tl d = some v → ∃ j x, j < c ∧ hs0[j]? = some x ∧ x.2.1.d = some d ∧ v = vsH hs0 vals u 0 x.1
theorem runA_slot {ops : Array Oper} {vs : Nat → Value} {p d k : Nat} {a : Act} (hd : dstAt ops p = some d) (hdn : d < a.tmps.size) (hoth : ∀ j, j < k → j ≠ p → dstAt ops j ≠ some d) : ∀ m, p < m → m ≤ k → (runA ops vs 0 m a).tmps[d]? = some (vs p)
  | 0, h, _ => by omega
  | m + 1, h, hk => by
    have e2 : runA ops vs 0 (m + 1) a = (runA ops vs 0 m a).put (dstAt ops m) (vs m) := by simp [runA, List.range'_concat]
    have hsz : (runA ops vs 0 m a).tmps.size = a.tmps.size := by rw [← foldF_runA ops vs m m a (Nat.le_refl _)]; exact (foldF_size ops vs _ m a).1
    rw [e2]
    by_cases e : m = p
    · subst e
      rw [hd]
      simp [Act.put, hsz, hdn]
    · have ih := runA_slot (vs := vs) (a := a) hd hdn hoth m (by omega) (by omega)
      have hne := hoth m (by omega) e
      cases hx : dstAt ops m with
      | none => simpa [Act.put] using ih
      | some y =>
        have : y ≠ d := fun e => hne (by rw [hx, e])
        simp only [Act.put]
        rw [Array.getElem?_setIfInBounds_ne this]
        exact ih
theorem distB_spec {l : List PI} {hs : HL} (h : distB l hs = true) {x : Nat × PI × TT} (hx : x ∈ hs) {d : Nat} (hd : x.2.1.d = some d) {j : Nat} (hj : j < l.length) (hne : j ≠ x.1) {y : PI} (hy : l[j]? = some y) : y.d ≠ some d := by
  have h1 := List.all_eq_true.1 h x hx
  simp only [hd] at h1
  have h2 := List.all_eq_true.1 h1 j (List.mem_range.2 hj)
  simp only [Bool.or_eq_true, hy] at h2
  rcases h2 with h2 | h2
  · exact absurd (Nat.eq_of_beq_eq_true h2) hne
  · simpa using h2
theorem ordB_spec {b : List Nat} : ∀ {hs : HL}, ordB b hs = true → ∀ (i j : Nat) (x y : Nat × PI × TT), i < j → hs[i]? = some x → hs[j]? = some y → (b.getD y.1 0).testBit x.1 = true
  | [], _, i, j, x, y, _, hx, _ => by simp at hx
  | z :: r, h, i, j, x, y, hij, hx, hy => by
    simp only [ordB, Bool.and_eq_true] at h
    cases j with
    | zero => omega
    | succ j =>
      simp at hy
      cases i with
      | zero =>
        simp at hx
        subst hx
        have := Nat.eq_of_beq_eq_true (List.all_eq_true.1 h.1 y (List.mem_of_getElem? hy))
        rw [Nat.testBit_eq_decide_div_mod_eq, this]; rfl
      | succ i => simp at hx; exact ordB_spec h.2 i j x y (by omega) hx hy
set_option maxHeartbeats 8000000 in
/-- a region that draws its order: those of its first operations that turn something come one behind the other -/
theorem PW.quietRN {b0 : List Nat} {k : Nat} {l : List PI} {Q : Exit → TT → SS → Prop} {T2 : TT} {vals : List Value} {hs0 : HL} {Ss : SS → Prop} (hm : P.follows .mixedOrders = true) (hq : QM P w0 n Ss 0 (l.take k) T T2 vals hs0)
    (hdi : distB (l.take k) hs0 = true) (hno : noMovB hs0 = true) (hord : ordB b0 hs0 = true) (hSs : Ss S) (hch : LCh P w0 n Ss (fun Tl S' => OL P w0 n (l.drop k) (Tl ++ T2) S' (Q .normal)) hs0 [] S) : PW P w0 n (.quietR b0 k l) T S Q := by
  intro c hc a w hs hr
  cases c
  case region id ops dr =>
    cases dr with
    | false => simp [cC] at hc
    | true =>
      simp only [cC] at hc
      split at hc
      case isFalse => simp at hc
      rename_i hcond
      simp only [Bool.and_eq_true] at hcond
      obtain ⟨⟨⟨hap, hback⟩, hsel⟩, hhoist⟩ := hcond
      simp only [Option.map_eq_some_iff] at hc
      obtain ⟨l', hcis, hmk⟩ := hc
      obtain ⟨rfl, rfl, hb0⟩ := mkQ_quietR hmk
      obtain ⟨hhead, hkle⟩ := headOf_spec ops (hoists ops) ops.size (Nat.le_refl _)
      change headB ops ((hoists ops).filter (· < quietAt ops)) (quietAt ops) = true at hhead
      change quietAt ops ≤ ops.size at hkle
      generalize hk : quietAt ops = k at *
      generalize hH : (hoists ops).filter (· < k) = Hs at *
      have hHk : ∀ i ∈ Hs, i < k := fun i hi => by rw [← hH] at hi; simpa using (List.mem_filter.1 hi).2
      have hsplit : List.range ops.size = List.range' 0 k ++ List.range' k (ops.size - k) := by
        rw [List.range_eq_range']
        have := List.range'_append (s := 0) (m := k) (n := ops.size - k) (step := 1)
        simp only [Nat.one_mul, Nat.zero_add] at this
        rw [this]
        congr 1
        omega
      rw [hsplit] at hcis
      obtain ⟨hc1, hc2⟩ := cIs_append hcis
      simp only [List.length_range'] at hc1 hc2
      have hlen : (l'.take k).length = k := by simpa using cIs_length hc1
      obtain ⟨hql, hqi, hqp⟩ := hq.lt
      simp only [Nat.zero_add, Nat.sub_zero, hlen] at hqi
      rw [hlen] at hql
      let vs : List Value → Nat → Value := vsH hs0 vals
        |> fun f us i => f us 0 i
      have hvq : ∀ us j, (∀ x ∈ hs0, x.1 ≠ j) → vs us j = vals.getD j undef := fun us j h => by
        show vsH hs0 vals us 0 j = _
        unfold vsH
        rw [hIdx_none h]
        rfl
      have hvh : ∀ (us : List Value) (j : Nat) (x : Nat × PI × TT), hs0[j]? = some x → vs us x.1 = us.getD j undef := fun us j x h => by
        show vsH hs0 vals us 0 x.1 = _
        unfold vsH
        rw [hIdx_some hqp h]
      have htr := fun us => hq.trace (vs us) (fun j hj hx => by rw [Nat.zero_add] at hx ⊢; exact hvq us j hx) a (by rw [hlen]; exact hc1) hs
      simp only [hlen, Nat.zero_add, Nat.sub_zero] at htr
      have hgives : ∀ us S', Ss S' → ∀ i, i < k → (∀ x ∈ hs0, x.1 ≠ i) → GivesAt P w0 S' ops i (vs us i) (runA ops (vs us) 0 i a) := by
        intro us S' hS' i hi hne
        rw [hvq us i hne]
        exact (htr us).2.1 i hi hne S' hS'
      have hdst : ∀ i o, i < k → ops[i]? = some o → dstOk n o.dst = true := fun i o hi ho => (htr []).2.2.2.1 i o hi ho
      have hslot : ∀ (us : List Value) (x : Nat × PI × TT), x ∈ hs0 → ∀ d, x.2.1.d = some d → ∀ m, x.1 < m → m ≤ k → (runA ops (vs us) 0 m a).tmps[d]? = some (vs us x.1) := by
        intro us x hx d hd m h1 h2
        obtain ⟨_, hxk, hxl⟩ := hqi x hx
        have hda : dstAt ops x.1 = some d := by rw [← (htr us).2.2.2.2 x.1 hxk x.2.1 hxl, hd]
        have hdn : d < a.tmps.size := by
          rw [hs.size]
          have hxs : x.1 < ops.size := by omega
          have := hdst x.1 ops[x.1] hxk (by simp [hxs])
          have e : ops[x.1].dst = some d := by simpa [dstAt, hxs] using hda
          rw [e] at this
          simpa [dstOk] using this
        refine runA_slot hda hdn (fun j hj hne => ?_) m h1 h2
        have hjl : j < (l'.take k).length := by rw [hlen]; exact hj
        have e : (l'.take k)[j]? = some (l'.take k)[j] := List.getElem?_eq_getElem hjl
        rw [← (htr us).2.2.2.2 j hj _ e]
        exact distB_spec hdi hx hd hjl hne e
      have hposlt : ∀ (i j : Nat) (x y : Nat × PI × TT), i < j → hs0[i]? = some x → hs0[j]? = some y → x.1 < y.1 := by
        intro i j x y hij hx hy
        obtain ⟨h1, e1⟩ := List.getElem?_eq_some_iff.1 hx
        obtain ⟨h2, e2⟩ := List.getElem?_eq_some_iff.1 hy
        have := List.pairwise_iff_getElem.1 hqp i j (by simpa using h1) (by simpa using h2) hij
        simpa [e1, e2] using this
      have hholes : ∀ (i : Nat), (∃ (j : Nat) (x : Nat × PI × TT), hs0[j]? = some x ∧ x.1 = i) ∨ ∀ x ∈ hs0, x.1 ≠ i := by
        intro i
        by_cases h : ∃ x ∈ hs0, x.1 = i
        · obtain ⟨x, hx, rfl⟩ := h
          obtain ⟨j, hj⟩ := List.getElem?_of_mem hx
          exact .inl ⟨j, x, hj, rfl⟩
        · exact .inr fun x hx e => h ⟨x, hx, e⟩
      have hbeh : ∀ (i j : Nat) (x y : Nat × PI × TT), i < j → hs0[i]? = some x → hs0[j]? = some y → behind (reach ops) y.1 x.1 = true := by
        intro i j x y hij hx hy
        have h1 := ordB_spec hord i j x y hij hx hy
        have hyk := (hqi y (List.mem_of_getElem? hy)).2.1
        rw [hb0, List.getD_eq_getElem?_getD, List.getElem?_take_of_lt hyk, ← List.getD_eq_getElem?_getD] at h1
        exact h1
      have hsatL : ∀ us c Tl, (∀ d v, look Tl d = some v → ∃ (j : Nat) (x : Nat × PI × TT), j < c ∧ hs0[j]? = some x ∧ x.2.1.d = some d ∧ v = vs us x.1) → ∀ T0 m, m ≤ k → (∀ (j : Nat) (x : Nat × PI × TT), j < c → hs0[j]? = some x → x.1 < m) → Sat n T0 (runA ops (vs us) 0 m a) → Sat n (Tl ++ T0) (runA ops (vs us) 0 m a) := by
        intro us c Tl htl T0 m hmk hpos h0
        refine ⟨h0.size, h0.defers, fun i v hv => ?_⟩
        rw [look_app] at hv
        cases e : look Tl i with
        | none => rw [e] at hv; exact h0.get i v hv
        | some v' =>
          rw [e] at hv
          obtain rfl := Option.some.inj hv
          obtain ⟨j, x, hj, hx, hd, rfl⟩ := htl i _ e
          exact hslot us x (List.mem_of_getElem? hx) i hd m (hpos j x hj hx) hmk
      -- ordered pairs
      have hpair : ∀ i j, i < j → j < ops.size → ∀ oi oj, ops[i]? = some oi → ops[j]? = some oj → behind (reach ops) j i = true ∨ oi.apart ops oj = true := by
        intro i j hij hj oi oj hoi hoj
        have := List.all_eq_true.1 (List.all_eq_true.1 hap j (List.mem_range.2 hj)) i (List.mem_range.2 hij)
        simpa [hoi, hoj] using this
      have htail : ∀ t i, k ≤ t → t < ops.size → i < t → i ∉ Hs → behind (reach ops) t i = true := by
        intro t i hkt ht hi hnH
        have := List.all_eq_true.1 hhead t (List.mem_range.2 ht)
        simp only [Bool.or_eq_true, decide_eq_true_eq] at this
        rcases this with h | h
        · omega
        · have := List.all_eq_true.1 h i (List.mem_range.2 hi)
          simpa [hnH] using this
      have hreadyX : ∀ (listed : Array Bool) i, (∀ j o, ops[j]? = some o → listed.getD j true = true → ∀ e ∈ o.after, Region.binds .any e = true → listed.getD e.on true = true) → i ∈ Region.ready .any ops listed →
          ∀ j, j < ops.size → behind (reach ops) i j = true → j ≠ i → listed.getD j true = true := by
        intro listed i hcl hi j hj hb hne
        obtain ⟨hun, o, ho, hall⟩ := mem_ready.1 hi
        have hX : Closed ops (fun x => listed.getD x true = true ∨ x = i) := by
          rintro x ox hox (hx | rfl) e he hbd
          · exact .inl (hcl x ox hox hx e he hbd)
          · obtain rfl : o = ox := by rw [ho] at hox; exact Option.some.inj hox
            have := hall e he hbd
            left
            cases hlt : listed[e.on]? with
            | none => simp [hlt] at this
            | some b => simpa [hlt] using this
        rcases behind_spec hX (Array.getElem?_eq_some_iff.1 ho).1 hb (.inr rfl) with h | h
        · exact h
        · exact absurd h hne
      have horder : ∀ (listed : Array Bool) i o, (∀ j o, ops[j]? = some o → listed.getD j true = true → ∀ e ∈ o.after, Region.binds .any e = true → listed.getD e.on true = true) → i ∈ Region.ready .any ops listed → ops[i]? = some o → i < k →
          ∀ x, (x ∈ o.looksAt ops ∨ o.dst = some x) → ∀ j, j < k → j ≠ i → dstAt ops j = some x → decide (j < i) = listed.getD j true := by
        intro listed i o hcl hi ho hik x hx j hj hne hdj
        obtain ⟨hun, o', ho', hpre⟩ := mem_ready.1 hi
        have hilt : i < ops.size := (Array.getElem?_eq_some_iff.1 ho).1
        have hjlt : j < ops.size := by omega
        have hoj : ops[j]? = some ops[j] := by simp [hjlt]
        have hdj' : ops[j].dst = some x := by simpa [dstAt, hoj] using hdj
        rcases Nat.lt_or_gt_of_ne hne with h | h
        · rcases hpair j i h hilt _ _ hoj ho with hb' | hap'
          · rw [hreadyX listed i hcl hi j hjlt hb' hne]
            simp [h]
          · obtain ⟨e1, e2, e3⟩ := Oper.apart_spec hap'
            rcases hx with hx | hx
            · exact absurd hx (e1 x hdj')
            · exact absurd hx (e2 x hdj')
        · rcases hpair i j h hjlt _ _ ho hoj with hb' | hap'
          · have hnl : listed.getD j true = false := by
              cases hlj : listed.getD j true with
              | false => rfl
              | true =>
                exfalso
                have hX : Closed ops (fun x => listed.getD x true = true) := fun x ox hox hx e he hbd => hcl x ox hox hx e he hbd
                have := behind_spec hX hjlt hb' hlj
                rw [hun] at this
                cases this
            rw [hnl]
            simp; omega
          · obtain ⟨e1, e2, e3⟩ := Oper.apart_spec hap'
            rcases hx with hx | hx
            · exact absurd hx (e3 x hdj')
            · exact absurd hdj' (e2 x hx)
      have hgetset : ∀ (listed : Array Bool) i, listed.size = ops.size → i < ops.size → (listed.setIfInBounds i true).getD i true = true := by
        intro listed i h1 h2
        have : i < listed.size := by omega
        simp [this]
      have hput : ∀ u (listed : Array Bool) i o, listed.size = ops.size → (∀ j o, ops[j]? = some o → listed.getD j true = true → ∀ e ∈ o.after, Region.binds .any e = true → listed.getD e.on true = true) → i ∈ Region.ready .any ops listed → ops[i]? = some o → i < k →
          (foldF ops (vs u) (fun j => listed.getD j true) k a).put o.dst (vs u i) = foldF ops (vs u) (fun j => (listed.setIfInBounds i true).getD j true) k a := by
        intro u listed i o hsz hcl hi ho hik
        have hilt : i < ops.size := (Array.getElem?_eq_some_iff.1 ho).1
        have hdo : dstOk n o.dst = true := hdst i o hik ho
        have hda : dstAt ops i = o.dst := by simp [dstAt, ho]
        have hgi := hgetset listed i hsz hilt
        have hgj : ∀ j, j ≠ i → (listed.setIfInBounds i true).getD j true = listed.getD j true := fun j hj => getD_set_ne true (Ne.symm hj)
        have szs : ∀ f, (foldF ops (vs u) f k a).tmps.size = a.tmps.size := fun f => (foldF_size ops (vs u) f k a).1
        have dfs : ∀ f, (foldF ops (vs u) f k a).defers = a.defers := fun f => (foldF_size ops (vs u) f k a).2
        refine act_ext ?_ ?_ fun x => ?_
        · cases o.dst <;> simp [Act.put, szs]
        · cases o.dst <;> simp [Act.put, dfs]
        · by_cases hx : o.dst = some x
          · have e1 : (foldF ops (vs u) (fun j => (listed.setIfInBounds i true).getD j true) k a).tmps[x]? = (foldF ops (vs u) (fun j => decide (j < i + 1)) k a).tmps[x]? := by
              refine foldF_agree ops (vs u) _ _ k a x fun j hj hdj => ?_
              by_cases e : j = i
              · subst e; rw [hgi]; simp
              · rw [hgj j e, ← horder listed i o hcl hi ho hik x (.inr hx) j hj e hdj]
                by_cases h : j < i
                · have : j < i + 1 := by omega
                  simp [h, this]
                · have : ¬ j < i + 1 := by omega
                  simp [h, this]
            rw [e1, foldF_runA ops (vs u) (i + 1) k a (by omega)]
            have e2 : runA ops (vs u) 0 (i + 1) a = (runA ops (vs u) 0 i a).put (dstAt ops i) (vs u i) := by
              simp [runA, List.range'_concat]
            rw [e2, hda, hx]
            simp only [Act.put]
            have hxn : x < a.tmps.size := by rw [hs.size]; simpa [dstOk, hx] using hdo
            have hsz1 : (runA ops (vs u) 0 i a).tmps.size = a.tmps.size := by rw [← foldF_runA ops (vs u) i k a (by omega)]; exact szs _
            rw [Array.getElem?_setIfInBounds_self_of_lt (by rw [szs]; exact hxn), Array.getElem?_setIfInBounds_self_of_lt (by rw [hsz1]; exact hxn)]
          · have e1 : (foldF ops (vs u) (fun j => (listed.setIfInBounds i true).getD j true) k a).tmps[x]? = (foldF ops (vs u) (fun j => listed.getD j true) k a).tmps[x]? := by
              refine foldF_agree ops (vs u) _ _ k a x fun j hj hdj => ?_
              by_cases e : j = i
              · subst e; rw [hda] at hdj; exact absurd hdj hx
              · exact hgj j e
            rw [e1]
            cases hd : o.dst with
            | none => rfl
            | some y =>
              have : y ≠ x := fun e => hx (by rw [hd, e])
              simp [Act.put, Array.getElem?_setIfInBounds_ne this]
      have hagree : ∀ u (listed : Array Bool) i o, (∀ j o, ops[j]? = some o → listed.getD j true = true → ∀ e ∈ o.after, Region.binds .any e = true → listed.getD e.on true = true) → i ∈ Region.ready .any ops listed → ops[i]? = some o → i < k →
          ∀ x, x ∈ o.looksAt ops → (runA ops (vs u) 0 i a).tmps[x]? = (foldF ops (vs u) (fun j => listed.getD j true) k a).tmps[x]? := by
        intro u listed i o hcl hi ho hik x hx
        rw [← foldF_runA ops (vs u) i k a (by omega)]
        refine foldF_agree ops (vs u) _ _ k a x fun j hj hdj => ?_
        by_cases e : j = i
        · subst e
          have hun := (mem_ready.1 hi).1
          rw [hun]; simp
        · exact horder listed i o hcl hi ho hik x (.inl hx) j hj e hdj
      have hclset : ∀ (listed : Array Bool) i o, listed.size = ops.size → (∀ j o, ops[j]? = some o → listed.getD j true = true → ∀ e ∈ o.after, Region.binds .any e = true → listed.getD e.on true = true) → i ∈ Region.ready .any ops listed → ops[i]? = some o →
          (∀ j o, ops[j]? = some o → (listed.setIfInBounds i true).getD j true = true → ∀ e ∈ o.after, Region.binds .any e = true → (listed.setIfInBounds i true).getD e.on true = true) := by
        intro listed i o hsz hcl hi ho j oj hoj hj e he hbd
        have hilt : i < ops.size := (Array.getElem?_eq_some_iff.1 ho).1
        obtain ⟨hun, o', ho', hpre⟩ := mem_ready.1 hi
        obtain rfl : o = o' := by rw [ho] at ho'; exact Option.some.inj ho'
        have hgj : ∀ j, j ≠ i → (listed.setIfInBounds i true).getD j true = listed.getD j true := fun j hj => getD_set_ne true (Ne.symm hj)
        by_cases e1 : e.on = i
        · rw [e1]; exact hgetset listed i hsz hilt
        · rw [hgj _ e1]
          by_cases e2 : j = i
          · subst e2
            obtain rfl : o = oj := by rw [ho] at hoj; exact Option.some.inj hoj
            have := hpre e he hbd
            cases hlt : listed[e.on]? with
            | none => simp [hlt] at this
            | some bb => simpa [hlt] using this
          · rw [hgj _ e2] at hj
            exact hcl j oj hoj hj e he hbd
      have hcntset : ∀ (listed : Array Bool) i, listed.size = ops.size → i ∈ Region.ready .any ops listed → i < ops.size → cnt (fun j => listed.getD j true) ops.size = cnt (fun j => (listed.setIfInBounds i true).getD j true) ops.size + 1 := by
        intro listed i hsz hi hilt
        have := cnt_set (f := fun j => listed.getD j true) (g := fun j => (listed.setIfInBounds i true).getD j true) (i := i) (mem_ready.1 hi).1 (hgetset listed i hsz hilt) (fun j hj => getD_set_ne true (Ne.symm hj)) ops.size
        simpa [hilt] using this
      refine wp_mono (Q := fun e a' w' => e = .normal ∧ ∃ T' S', Sat n T' a' ∧ Rep w0 S' w' ∧ Q e T' S') ?_ (fun e a' w' h => h.2)
      refine wp_region_any hm ?_
      have key : ∀ (fuel : Nat) (listed : Array Bool) (b : Act) (w' : World), listed.size = ops.size →
          (∀ j o, ops[j]? = some o → listed.getD j true = true → ∀ e ∈ o.after, Region.binds .any e = true → listed.getD e.on true = true) → (∀ i ∈ Hs, listed.getD i true = true) →
          (∀ t, k ≤ t → t < ops.size → listed.getD t true = false) → (∃ u Sx Tl c, Phs P w0 n Ss (fun Tl S' => OL P w0 n (l'.drop k) (Tl ++ T2) S' (Q .normal)) hs0 vals (fun j => listed.getD j true) u Sx Tl c ∧ b = foldF ops (vs u) (fun j => listed.getD j true) k a ∧ Rep w0 Sx w') → cnt (fun j => listed.getD j true) ops.size = fuel →
          wpAny P .any ops (fun e a' w' => e = .normal ∧ ∃ T' S', Sat n T' a' ∧ Rep w0 S' w' ∧ Q e T' S') fuel listed b w' := by
        intro fuel
        induction fuel with
        | zero =>
          intro listed b w' hsz hcl hHl htl ⟨u, Sx, Tl, c, hph, hb, hr'⟩ hcnt
          have hall : ∀ j, j < ops.size → listed.getD j true = true := by
            intro j hj
            cases hx : listed.getD j true with
            | true => rfl
            | false =>
              exfalso
              have : ∀ m, j < m → 0 < cnt (fun j => listed.getD j true) m := by
                intro m
                induction m with
                | zero => intro h; omega
                | succ m ih =>
                  intro h
                  simp only [cnt]
                  by_cases e : j = m
                  · subst e; simp [hx]
                  · have := ih (by omega); omega
              have := this ops.size hj
              omega
          have hcl2 : c = hs0.length := by
            have := hph.le
            rcases Nat.lt_or_ge c hs0.length with h | h
            · have := (hph.lst c hs0[c] (List.getElem?_eq_getElem h)).1 (hall _ (by have := (hqi hs0[c] (List.getElem_mem _)).2.1; omega))
              omega
            · omega
          have hfin : OL P w0 n (l'.drop k) (Tl ++ T2) Sx (Q .normal) := by
            have := hph.ch
            rw [hcl2, List.drop_length] at this
            exact this
          have hsat' : Sat n (Tl ++ T2) (runA ops (vs u) 0 k a) := hsatL u c Tl hph.tl T2 k (Nat.le_refl _) (fun j x _ hx => (hqi x (List.mem_of_getElem? hx)).2.1) (htr u).1
          have hkeq : k = ops.size := by
            rcases Nat.lt_or_ge k ops.size with h | h
            · have h1 := htl k (Nat.le_refl _) h
              have h2 := hall k h
              rw [h1] at h2
              cases h2
            · omega
          have hbt : b = runA ops (vs u) 0 k a := by
            rw [hb, ← foldF_runA ops (vs u) k k a (Nat.le_refl _)]
            unfold foldF
            refine foldl_ext' _ _ _ _ fun b j hj => ?_
            have hj' := List.mem_range.1 hj
            simp [hall j (by omega), hj']
          refine ⟨?_, ?_⟩
          · unfold Region.ready
            rw [List.filter_eq_nil_iff]
            intro i hi
            rw [hall i (List.mem_range.1 hi)]
            simp
          · have := hfin ops [] b w' (fun e a' w' => e = .normal ∧ ∃ T' S', Sat n T' a' ∧ Rep w0 S' w' ∧ Q e T' S') (by
              rw [hkeq, Nat.sub_self] at hc2
              rw [hkeq]
              simpa using hc2) (hbt ▸ hsat') hr' (fun a' w' T' S' h3 h4 h5 => ⟨rfl, T', S', h3, h4, h5⟩)
            simpa [wpOps] using this
        | succ fuel ih =>
          intro listed b w' hsz hcl hHl htl ⟨u, Sx, Tl, c, hph, hb, hr'⟩ hcnt
          by_cases hall : ∀ j, j < k → listed.getD j true = true
          · -- the head is done
            have hcl2 : c = hs0.length := by
              have := hph.le
              rcases Nat.lt_or_ge c hs0.length with h | h
              · have := (hph.lst c hs0[c] (List.getElem?_eq_getElem h)).1 (hall _ ((hqi hs0[c] (List.getElem_mem _)).2.1))
                omega
              · omega
            have hfin : OL P w0 n (l'.drop k) (Tl ++ T2) Sx (Q .normal) := by
              have := hph.ch
              rw [hcl2, List.drop_length] at this
              exact this
            have hsat' : Sat n (Tl ++ T2) (runA ops (vs u) 0 k a) := hsatL u c Tl hph.tl T2 k (Nat.le_refl _) (fun j x _ hx => (hqi x (List.mem_of_getElem? hx)).2.1) (htr u).1
            have hexact : ∀ j, j < ops.size → listed.getD j true = decide (j < k) := by
              intro j hj
              by_cases h : j < k
              · rw [hall j h]; simp [h]
              · rw [htl j (by omega) hj]; simp [h]
            have hbt : b = runA ops (vs u) 0 k a := by
              rw [hb, ← foldF_runA ops (vs u) k k a (Nat.le_refl _)]
              unfold foldF
              refine foldl_ext' _ _ _ _ fun b j hj => ?_
              have hj' := List.mem_range.1 hj
              simp [hall j hj', hj']
            have hfuel : fuel + 1 = ops.size - k := by
              rw [← hcnt, cnt_congr ops.size hexact, cnt_below]
            rw [hfuel]
            have htl2 : ∀ listed' : Array Bool, ∀ t s', k ≤ s' → s' < t → t < ops.size → (∀ j, j < ops.size → listed'.getD j true = decide (j < s')) → listed'.size = ops.size → t ∉ Region.ready .any ops listed' := by
              intro l'' t s' h1 h2 h3 h4 h5 hmem
              have := hreadyX l'' t (fun j o ho hj e he hbd => by
                have hlt := backB_spec hback ho he hbd
                have hjs : j < ops.size := (Array.getElem?_eq_some_iff.1 ho).1
                rw [h4 j hjs] at hj
                rw [h4 e.on (by omega)]
                simp only [decide_eq_true_eq] at hj ⊢
                omega) hmem s' (by omega) (htail t s' (by omega) h3 h2 (fun hm' => by have := hHk s' hm'; omega)) (by omega)
              rw [h4 s' (by omega)] at this
              simp at this
            refine wpAny_tail hback (ops.size - k) k listed b w' (by omega) hsz hexact (fun t i h1 h2 h3 h4 h5 => htl2 listed t k (Nat.le_refl _) h1 h2 hexact hsz) htl2 ?_
            exact hfin ops _ b w' _ hc2 (hbt ▸ hsat') hr' (fun a' w' T' S' h3 h4 h5 => ⟨rfl, T', S', h3, h4, h5⟩)
          · refine ⟨fun h0 => ?_, fun i hi => ?_⟩
            · exfalso
              obtain ⟨i, hi1, hi2, hi3⟩ := cnt_pos ops.size (by rw [hcnt]; omega : 0 < cnt (fun j => listed.getD j true) ops.size)
              have : i ∈ Region.ready .any ops listed := by
                rw [mem_ready]
                refine ⟨hi2, ops[i], by simp [hi1], fun e he hbd => ?_⟩
                have hlt := backB_spec hback (show ops[i]? = some ops[i] by simp [hi1]) he hbd
                have h3 := hi3 e.on hlt
                have : e.on < listed.size := by omega
                simpa [this] using h3
              rw [h0] at this
              simp at this
            · have hmem := mem_ready.1 hi
              obtain ⟨hun, o, ho, hpre⟩ := hmem
              have hilt : i < ops.size := (Array.getElem?_eq_some_iff.1 ho).1
              have hik : i < k := by
                rcases Nat.lt_or_ge i k with h | h
                · exact h
                · exfalso
                  refine hall fun j hj => ?_
                  by_cases hjH : j ∈ Hs
                  · exact hHl j hjH
                  · exact hreadyX listed i hcl hi j (by omega) (htail i j h hilt (by omega) hjH) (by omega)
              have hdo : dstOk n o.dst = true := hdst i o hik ho
              have hagree' := hagree u listed i o hcl hi ho hik
              rw [← hb] at hagree'
              have hev : execOp (runA ops (vs u) 0 i a).eval o = execOp b.eval o :=
                execOp_congr o (fun cs bb hh => Region.noSelect_spec hsel i o cs bb ho hh) fun x hx => eval_agree fun t ht => hagree' t (looks_op (ht ▸ hx))
              have hwan := wanted_agree (ops := ops) (o := o) (a := runA ops (vs u) 0 i a) (b := b) hagree'
              have hgj : ∀ j, j ≠ i → (listed.setIfInBounds i true).getD j true = listed.getD j true := fun j hj => getD_set_ne true (Ne.symm hj)
              have hnext : ∀ u2 S2 Tl2 c2 w'' b2, Phs P w0 n Ss (fun Tl S' => OL P w0 n (l'.drop k) (Tl ++ T2) S' (Q .normal)) hs0 vals (fun j => (listed.setIfInBounds i true).getD j true) u2 S2 Tl2 c2 → b2 = foldF ops (vs u2) (fun j => (listed.setIfInBounds i true).getD j true) k a → Rep w0 S2 w'' → wpAny P .any ops (fun e a' w' => e = .normal ∧ ∃ T' S', Sat n T' a' ∧ Rep w0 S' w' ∧ Q e T' S') fuel (listed.setIfInBounds i true) b2 w'' := by
                intro u2 S2 Tl2 c2 w'' b2 hp2 hb2 hr''
                refine ih _ _ w'' (by simpa using hsz) (hclset listed i o hsz hcl hi ho) ?_ ?_ ⟨u2, S2, Tl2, c2, hp2, hb2, hr''⟩ ?_
                · intro j hj
                  by_cases e : j = i
                  · subst e; exact hgetset listed j hsz hilt
                  · rw [hgj j e]; exact hHl j hj
                · intro t h3 h4'
                  rw [hgj t (by omega)]
                  exact htl t h3 h4'
                · have := hcntset listed i hsz hi hilt
                  omega
              have hsz1 : (runA ops (vs u) 0 i a).tmps.size = n := by rw [← foldF_runA ops (vs u) i k a (by omega), (foldF_size ops (vs u) _ k a).1, hs.size]
              have hsz2 : b.tmps.size = n := by rw [hb, (foldF_size ops (vs u) _ k a).1, hs.size]
              have hdf : (runA ops (vs u) 0 i a).defers = [] := by rw [← foldF_runA ops (vs u) i k a (by omega), (foldF_size ops (vs u) _ k a).2, hs.defers]
              have hputu := fun u2 => hput u2 listed i o hsz hcl hi ho hik
              unfold wpOp
              simp only [ho]
              rcases hholes i with ⟨jx, x, hjx, hxi⟩ | hip
              · -- one that turns something
                subst hxi
                have hxm := List.mem_of_getElem? hjx
                have hjc : jx = c := by
                  rcases Nat.lt_trichotomy jx c with h | h | h
                  · have := (hph.lst jx x hjx).2 h
                    rw [hun] at this
                    cases this
                  · exact h
                  · exfalso
                    have hclt : c < hs0.length := Nat.lt_trans h (List.getElem?_eq_some_iff.1 hjx).1
                    have hcx : hs0[c]? = some hs0[c] := List.getElem?_eq_getElem hclt
                    have h1 := hbeh c jx _ x h hcx hjx
                    have h2 := hreadyX listed x.1 hcl hi hs0[c].1 (by have := (hqi hs0[c] (List.getElem_mem _)).2.1; omega) h1 (by have := hposlt c jx _ x h hcx hjx; omega)
                    have := (hph.lst c _ hcx).1 h2
                    omega
                subst hjc
                have hdrop : hs0.drop jx = x :: hs0.drop (jx + 1) := by
                  have hl1 := (List.getElem?_eq_some_iff.1 hjx).1
                  rw [List.drop_eq_getElem_cons hl1]
                  congr 1
                  exact (List.getElem?_eq_some_iff.1 hjx).2
                have hLC := hph.ch
                rw [hdrop] at hLC
                obtain ⟨hcg, hOW, hnx⟩ : x.2.1.g = none ∧ _ ∧ True := ⟨hLC.1, hLC.2, trivial⟩
                obtain ⟨_, hxk, hxl⟩ := hqi x hxm
                obtain ⟨oc, hoc, hpoc, hdstc, hgdc⟩ := cIs_pos hc1 hxk hxl
                obtain rfl : oc = o := by rw [hoc] at ho; exact Option.some.inj ho
                have hwt : Region.wanted oc (yielded ops b.tmps) = true := by
                  rcases hgdc with ⟨hgn, _⟩ | ⟨j, b', s', hgn, hj, he⟩
                  · simp [Region.wanted, hgn]
                  · rw [hcg] at he; cases he
                rw [if_pos hwt]
                left
                have hsC := hsatL u jx Tl hph.tl x.2.2 x.1 (by omega) (fun j y hj hy => hposlt j jx y x hj hy hjx) ((htr u).2.2.1 x hxm)
                have hl2 := hOW oc _ w' (fun _ _ _ => False) hpoc hsC hr'
                refine Oper.wp_mono ?_ (wp_transfer_any hev (by rw [hsz1, hsz2]) (by rw [hsz1]; exact hdo) hdf hl2)
                rintro b' w'' ⟨v2, S2, rfl, hr2, hss2, hk2⟩
                have hvnew : ∀ (j : Nat) (y : Nat × PI × TT), j < jx → hs0[j]? = some y → vs (u ++ [v2]) y.1 = vs u y.1 := by
                  intro j y hj hy
                  rw [hvh _ j y hy, hvh _ j y hy]
                  simp only [List.getD_eq_getElem?_getD]
                  rw [List.getElem?_append_left (by rw [hph.len]; exact hj)]
                refine hnext (u ++ [v2]) S2 (put x.2.1.d v2 Tl) (jx + 1) w'' _ ⟨(List.getElem?_eq_some_iff.1 hjx).1, by simp [hph.len], ?_, hk2, hss2, ?_⟩ ?_ hr2
                · intro j y hy
                  by_cases e : j = jx
                  · subst e
                    obtain rfl : x = y := by rw [hjx] at hy; exact Option.some.inj hy
                    simp [hgetset listed _ hsz hilt]
                  · have hne : y.1 ≠ x.1 := by
                      rcases Nat.lt_or_gt_of_ne e with h | h
                      · have := hposlt j jx y x h hy hjx; omega
                      · have := hposlt jx j x y h hjx hy; omega
                    have h3 := hph.lst j y hy
                    show (listed.setIfInBounds x.1 true).getD y.1 true = true ↔ _
                    rw [hgj _ hne]
                    exact h3.trans (by omega)
                · intro d v hv
                  have hold : look Tl d = some v → ∃ j y, j < jx + 1 ∧ hs0[j]? = some y ∧ y.2.1.d = some d ∧ v = vsH hs0 vals (u ++ [v2]) 0 y.1 := by
                    intro hv
                    obtain ⟨j, y, h1, h2, h3, h4⟩ := hph.tl d v hv
                    exact ⟨j, y, by omega, h2, h3, by rw [h4]; exact (hvnew j y h1 h2).symm⟩
                  cases hxd : x.2.1.d with
                  | none => rw [hxd] at hv; exact hold hv
                  | some dd =>
                    rw [hxd] at hv
                    by_cases e : dd = d
                    · subst e
                      simp only [SL.put, look_put_same] at hv
                      obtain rfl := Option.some.inj hv
                      refine ⟨jx, x, by omega, hjx, hxd, ?_⟩
                      have := hvh (u ++ [v2]) jx x hjx
                      have e2 : (u ++ [v2]).getD jx undef = v2 := by
                        rw [List.getD_eq_getElem?_getD, List.getElem?_append_right (by rw [hph.len]; exact Nat.le_refl _), hph.len]
                        simp
                      rw [e2] at this
                      exact this.symm
                    · simp only [SL.put] at hv
                      rw [look_cons_ne _ _ e] at hv
                      exact hold hv
                · have h7 := hputu (u ++ [v2])
                  have h8 : vs (u ++ [v2]) x.1 = v2 := by
                    rw [hvh _ jx x hjx, List.getD_eq_getElem?_getD, List.getElem?_append_right (by rw [hph.len]; exact Nat.le_refl _), hph.len]
                    simp
                  rw [h8] at h7
                  rw [← h7, hb]
                  congr 1
                  unfold foldF
                  refine foldl_ext' _ _ _ _ fun b j hj => ?_
                  by_cases hjl : listed.getD j true = true
                  · have : vs u j = vs (u ++ [v2]) j := by
                      rcases hholes j with ⟨jy, y, hjy, rfl⟩ | hq0
                      · exact (hvnew jy y ((hph.lst jy y hjy).1 hjl) hjy).symm
                      · rw [hvq _ _ hq0, hvq _ _ hq0]
                    rw [this]
                  · simp [hjl]
              · have hph2 : Phs P w0 n Ss (fun Tl S' => OL P w0 n (l'.drop k) (Tl ++ T2) S' (Q .normal)) hs0 vals (fun j => (listed.setIfInBounds i true).getD j true) u Sx Tl c := by
                  refine ⟨hph.le, hph.len, fun j x hx => ?_, hph.ch, hph.ss, hph.tl⟩
                  show (listed.setIfInBounds i true).getD x.1 true = true ↔ _
                  rw [hgj x.1 (hip x (List.mem_of_getElem? hx))]
                  exact hph.lst j x hx
                rcases hgives u Sx hph.ss i hik hip o ho with ⟨hw1, hw2⟩ | ⟨hw1, hw2⟩
                · rw [hwan] at hw1
                  rw [if_pos hw1]
                  left
                  refine Oper.wp_mono ?_ (wp_transfer hev (by rw [hsz1, hsz2]) (by rw [hsz1]; exact hdo) hdf (hw2 w' hr'))
                  rintro b' w'' ⟨rfl, hr''⟩
                  exact hnext u Sx Tl c w'' _ hph2 (by rw [hb]; exact hputu u) hr''
                · rw [hwan] at hw1
                  rw [hw1]
                  simp only [Bool.false_eq_true, if_false]
                  have h9 := hputu u
                  rw [hw2] at h9
                  exact hnext u Sx Tl c w' _ hph2 (by rw [hb]; exact h9) hr'
      -- the moves first
      have phase0 : ∀ (Hr : List Nat) (listed : Array Bool) (b : Act) (w' : World), hoistB ops Hr listed = true → (∀ i ∈ Hr, i < k) → listed.size = ops.size →
          (∀ j o, ops[j]? = some o → listed.getD j true = true → ∀ e ∈ o.after, Region.binds .any e = true → listed.getD e.on true = true) → (∀ i ∈ Hs, listed.getD i true = true ∨ i ∈ Hr) →
          (∀ t, k ≤ t → t < ops.size → listed.getD t true = false) → (∀ x ∈ hs0, listed.getD x.1 true = false) → b = foldF ops (vs []) (fun j => listed.getD j true) k a → Rep w0 S w' →
          wpAny P .any ops (fun e a' w' => e = .normal ∧ ∃ T' S', Sat n T' a' ∧ Rep w0 S' w' ∧ Q e T' S') (cnt (fun j => listed.getD j true) ops.size) listed b w' := by
        intro Hr
        induction Hr with
        | nil =>
          intro listed b w' _ _ hsz hcl hHl htl hnp hb hr'
          exact key _ listed b w' hsz hcl (fun i hi => (hHl i hi).resolve_right (by simp)) htl ⟨[], S, [], 0, ⟨Nat.zero_le _, rfl, fun j x hx => by simp [hnp x (List.mem_of_getElem? hx)], hch, hSs, fun d v h => by simp [look] at h⟩, hb, hr'⟩ rfl
        | cons i Hr ih =>
          intro listed b w' hh hlt hsz hcl hHl htl hnp hb hr'
          simp only [hoistB, Bool.and_eq_true] at hh
          obtain ⟨⟨⟨hho, hfree⟩, hready⟩, hrest⟩ := hh
          have hi : i ∈ Region.ready .any ops listed := by simpa using hready
          obtain ⟨hun, o, ho, hpre⟩ := mem_ready.1 hi
          have hilt : i < ops.size := (Array.getElem?_eq_some_iff.1 ho).1
          have hik : i < k := hlt i (by simp)
          have hgj : ∀ j, j ≠ i → (listed.setIfInBounds i true).getD j true = listed.getD j true := fun j hj => getD_set_ne true (Ne.symm hj)
          rw [hcntset listed i hsz hi hilt]
          simp only [hoistable?, ho, hoistable, Bool.and_eq_true] at hho
          obtain ⟨hgn, hmv⟩ := hho
          have hgn' : o.guard = none := by simpa using hgn
          have hwant : ∀ t : Array Value, Region.wanted o (yielded ops t) = true := fun t => by simp [Region.wanted, hgn']
          have hagree' := hagree [] listed i o hcl hi ho hik
          rw [← hb] at hagree'
          have hdo : dstOk n o.dst = true := hdst i o hik ho
          have hsz1 : (runA ops (vs []) 0 i a).tmps.size = n := by rw [← foldF_runA ops (vs []) i k a (by omega), (foldF_size ops (vs []) _ k a).1, hs.size]
          have hmove : ∃ x, (o.op = .move x ∨ o.op = .assign x) := by
            cases hop : o.op <;> rw [hop] at hmv <;> simp at hmv
            · exact ⟨_, .inl rfl⟩
            · exact ⟨_, .inr rfl⟩
          obtain ⟨x, hx⟩ := hmove
          have hip : ∀ x ∈ hs0, x.1 ≠ i := by
            intro y hy e; subst e
            obtain ⟨_, hyk, hyl⟩ := hqi y hy
            obtain ⟨oc, hoc, hpoc, hdstc, hgdc⟩ := cIs_pos hc1 hyk hyl
            obtain rfl : oc = o := by rw [hoc] at ho; exact Option.some.inj ho
            have : y.2.1.o = .mov (cV x) := by
              have h5 : cOp P oc = some (.mov (cV x)) := by unfold cOp cOp0; rcases hx with hx | hx <;> simp [hx]
              rw [h5] at hpoc
              exact (Option.some.inj hpoc).symm
            have h6 := List.all_eq_true.1 hno y hy
            rw [this] at h6
            simp at h6
          have hexec : ∀ ρ, execOp ρ o = pure (.value (ρ x)) := by
            intro ρ
            rcases hx with hx | hx <;> simp [execOp, hx]
          have hval : b.eval x = vs [] i ∨ o.dst = none := by
            rcases hgives [] S hSs i hik hip o ho with ⟨_, hw2⟩ | ⟨hw1, _⟩
            · have := hw2 w' hr'
              unfold Oper.wp at this
              rw [hexec] at this
              simp only [Sem.run_pure, Oper.upon] at this
              have hev : (runA ops (vs []) 0 i a).eval x = b.eval x := eval_agree fun t ht => hagree' t (looks_op (by rcases hx with hx | hx <;> simp [hx, Op.operands, ht]))
              cases hd : o.dst with
              | none => exact .inr rfl
              | some d =>
                left
                rw [hd] at this hdo
                have h3 := congrArg (fun c : Act => c.tmps[d]?) this.1
                have hdn : d < n := by simpa [dstOk] using hdo
                simp [Act.put, hsz1, hdn] at h3
                rw [← hev]; exact h3
            · rw [hwant] at hw1; cases hw1
          refine wpAny_take (oi := o) (v := b.eval x) ho hsel hfree hready (fun c a w hq => by simp at hq) (.inl ⟨hwant _, fun w => by rw [hexec]; rfl⟩) ?_
          have hbput : b.put o.dst (b.eval x) = foldF ops (vs []) (fun j => (listed.setIfInBounds i true).getD j true) k a := by
            rw [← hput [] listed i o hsz hcl hi ho hik, ← hb]
            rcases hval with h | h
            · rw [h]
            · rw [h]; rfl
          rw [hbput]
          refine ih _ _ w' hrest (fun j hj => hlt j (by simp [hj])) (by simpa using hsz) (hclset listed i o hsz hcl hi ho) ?_ ?_ (fun x hx => by rw [hgj _ (hip x hx)]; exact hnp x hx) rfl hr'
          · intro j hj
            by_cases e : j = i
            · subst e; exact .inl (hgetset listed j hsz hilt)
            · rw [hgj j e]
              rcases hHl j hj with h | h
              · exact .inl h
              · rcases List.mem_cons.1 h with h | h
                · exact absurd h e
                · exact .inr h
          · intro t h3 h4
            rw [hgj t (by omega)]
            exact htl t h3 h4
      have hcnt0 : cnt (fun j => (Array.replicate ops.size false).getD j true) ops.size = ops.size := by
        rw [cnt_congr (g := fun j => decide (j < 0)) ops.size (fun j hj => by simp [hj]), cnt_below]
        omega
      have := phase0 Hs (Array.replicate ops.size false) a { w with drawn := w.drawn + 1 } hhoist hHk (by simp) ?_ (fun i hi => .inr hi) ?_ (fun x hx => by have := (hqi x hx).2.1; have : x.1 < ops.size := (by omega); simp [this]) ?_ ?_
      · rwa [hcnt0] at this
      · intro j o ho hj
        exfalso
        have hlt : j < ops.size := (Array.getElem?_eq_some_iff.1 ho).1
        simp [hlt] at hj
      · intro t _ ht
        simp [ht]
      · have : ∀ j, j < k → (Array.replicate ops.size false).getD j true = decide (j < 0) := by
          intro j hj
          have : j < ops.size := by omega
          simp [this]
        have h0 : foldF ops (vs []) (fun j => (Array.replicate ops.size false).getD j true) k a = foldF ops (vs []) (fun j => decide (j < 0)) k a := by
          unfold foldF
          refine foldl_ext' _ _ _ _ fun b j hj => ?_
          simp only [this j (List.mem_range.1 hj)]
        rw [h0, foldF_runA ops (vs []) 0 k a (Nat.zero_le _)]
        rfl
      · exact hr.same ((Below.refl _ w).drew) (fun _ _ => rfl)
  all_goals (first | (simp [cC] at hc; done) | (simp only [cC] at hc; split at hc <;> simp at hc; done))
end
end Go.SL

set_option linter.unusedVariables false
set_option linter.unusedSimpArgs false
namespace Go.SL
open Go.RowKit
section
variable {P : Program} {w0 : World} {n : Nat} {T : TT} {S : SS}
def QN (P : Program) (w0 : World) (n : Nat) (base : SS) (i : Nat) (l : List PI) (T : TT) (K : TT → HL → Prop) : Prop := ∃ T' vals hs, QM P w0 n (Over base) i l T T' vals hs ∧ K T' hs
theorem QN.nil {base : SS} {i : Nat} {K : TT → HL → Prop} (h : K T []) : QN P w0 n base i [] T K := ⟨T, [], [], .nil, h⟩
theorem QN.det {base : SS} {i : Nat} {po : PO} {d : Option Nat} {g : Option (Nat × Bool)} {v : Value} {r : List PI} {K : TT → HL → Prop} (hg : gOk T g) (h : ∀ S, Over base S → Yields P w0 n po T S v) (k : QN P w0 n base (i + 1) r (put d v T) K) : QN P w0 n base i (⟨d, g, po⟩ :: r) T K :=
  let ⟨T', vs, hs, h1, h2⟩ := k; ⟨T', _, hs, .step hg (fun S hS => OW.of_yields (h S hS)) h1, h2⟩
theorem QN.call {base : SS} {i : Nat} {f : FuncId} {args : List PV} {vs : List Value} {v : Value} {d : Option Nat} {g : Option (Nat × Bool)} {r : List PI} {K : TT → HL → Prop} (hg : gOk T g) (hv : valsP T args = some vs) (h : ∀ S, Over base S → FC P w0 f vs S (fun v' S' => v' = v ∧ S' = S))
    (k : QN P w0 n base (i + 1) r (put d v T) K) : QN P w0 n base i (⟨d, g, .call f args⟩ :: r) T K :=
  let ⟨T', vs', hs, h1, h2⟩ := k; ⟨T', _, hs, .step hg (fun S hS => OW.call hv (h S hS)) h1, h2⟩
theorem QN.off {base : SS} {i : Nat} {po : PO} {d : Option Nat} {s : Nat} {b : Bool} {u : Value} {r : List PI} {K : TT → HL → Prop} (hl : look T s = some u) (hc : (boolOf u == some b) = false) (k : QN P w0 n base (i + 1) r (put d undef T) K) : QN P w0 n base i (⟨d, some (s, b), po⟩ :: r) T K :=
  let ⟨T', vs, hs, h1, h2⟩ := k; ⟨T', _, hs, .off hl hc h1, h2⟩
theorem QN.hole {base : SS} {i : Nat} {c : PI} {r : List PI} {K : TT → HL → Prop} (k : QN P w0 n base (i + 1) r (SL.del c.d T) (fun T' hs => K T' ((i, c, T) :: hs))) : QN P w0 n base i (c :: r) T K :=
  let ⟨T', vs, hs, h1, h2⟩ := k; ⟨T', _, _, .hole h1, h2⟩
theorem QN.bool {base : SS} {i : Nat} {po : PO} {d : Nat} {g : Option (Nat × Bool)} {r : List PI} {K : TT → HL → Prop} {b : Bool} (hg : gOk T g) (h : ∀ S, Over base S → Yields P w0 n po T S (.bool b)) (ht : b = true → QN P w0 n base (i + 1) r ((d, .bool true) :: T) K) (hf : b = false → QN P w0 n base (i + 1) r ((d, .bool false) :: T) K) : QN P w0 n base i (⟨some d, g, po⟩ :: r) T K := by
  cases b with
  | true => exact QN.det hg h (ht rfl)
  | false => exact QN.det hg h (hf rfl)
def ordP (b : List Nat) : List Nat → Bool
  | [] => true
  | x :: r => (r.all fun y => Nat.beq (b.getD y 0 / 2 ^ x % 2) 1) && ordP b r
theorem ordB_of {b hp : List Nat} : ∀ {hs : HL}, hs.map (·.1) = hp → ordP b hp = true → ordB b hs = true := by
  intro hs h h2
  subst h
  induction hs with
  | nil => rfl
  | cons x r ih =>
    simp only [List.map_cons, ordP, Bool.and_eq_true] at h2
    simp only [ordB, Bool.and_eq_true]
    refine ⟨?_, ih h2.2⟩
    rw [List.all_eq_true] at h2 ⊢
    exact fun y hy => h2.1 y.1 (List.mem_map.2 ⟨y, hy, rfl⟩)
theorem PW.quietRNK {b : List Nat} {k : Nat} {l : List PI} {base : SS} {Q : Exit → TT → SS → Prop} (hm : P.follows .mixedOrders = true) (hS : Over base S)
    (h : QN P w0 n base 0 (l.take k) T (fun T2 hs => distB (l.take k) hs = true ∧ noMovB hs = true ∧ ordB b hs = true ∧ LCh P w0 n (Over base) (fun Tl S' => OL P w0 n (l.drop k) (Tl ++ T2) S' (Q .normal)) hs [] S)) : PW P w0 n (.quietR b k l) T S Q :=
  let ⟨_, _, _, h1, h2, h3, h4, h5⟩ := h; PW.quietRN hm h1 h2 h3 h4 hS h5
theorem QM.app {Ss : SS → Prop} {A B : List PI} {T T1 T2 : TT} {va vb : List Value} {hs : HL} (h : QLs P w0 n Ss A T T1 va) : ∀ i, QM P w0 n Ss (i + A.length) B T1 T2 vb hs → QM P w0 n Ss i (A ++ B) T T2 (va ++ vb) hs := by
  induction h with
  | nil => intro i k; simpa using k
  | step hg h k ih => intro i k2; exact .step hg h (ih (i + 1) (by rw [List.length_cons, Nat.add_comm _ 1, ← Nat.add_assoc] at k2; exact k2))
  | off hl hc k ih => intro i k2; exact .off hl hc (ih (i + 1) (by rw [List.length_cons, Nat.add_comm _ 1, ← Nat.add_assoc] at k2; exact k2))
end
end Go.SL

set_option linter.unusedVariables false
set_option linter.unusedSimpArgs false
namespace Go.SL
open Go.RowKit
section
variable {P : Program} {w0 : World} {n : Nat} {T : TT} {S : SS}
theorem Rep.permS {w : World} {S' : SS} (h : Rep w0 S w) (hp : S.Perm S') : Rep w0 S' w :=
  h.sub (fun p hx => hp.flatten.mem_iff.2 hx) ((hp.flatten.map _).nodup_iff.1 h.nodup)
end
end Go.SL

set_option linter.unusedVariables false
set_option linter.unusedSimpArgs false
namespace Go.SL
open Go.RowKit
section
variable {P : Program} {w0 : World} {n : Nat} {T : TT} {S : SS}
end
end Go.SL

set_option linter.unusedVariables false
namespace Go.SL
open Go.RowKit Go.ChangeShapes Go.WideShapes Go.ChangeAt
section
variable {H : Type} {enc : TypeId × Value → H} {P : Program} {W : World}
theorem trod_slice1 {t e : TypeId} {n : Nat} {cs : List Value} {y : DataW H × List MemPlace} (hu : P.underlying t = some (.slice e)) (h : DataW.trod enc P W 0 (fun _ => true) true n t cs = some y) :
    ∃ A len cap, cs = [.slice A len cap] ∧ DataW.Trod enc P W 0 (fun _ => true) true t (.slice A len cap) y.1 y.2 := by
  rcases DataW.trod_slice hu h with ⟨h0, _⟩ | ⟨a, len', cap', elems, rest, n', _, hcs, _⟩
  · exact ⟨none, 0, 0, h0, n, by rw [show (Value.slice none 0 0).cells.toList = cs from h0.symm]; exact h⟩
  · exact ⟨_, _, _, hcs, n, by rw [show (Value.slice (some a) len' cap').cells.toList = cs from hcs.symm]; exact h⟩
end
end Go.SL
