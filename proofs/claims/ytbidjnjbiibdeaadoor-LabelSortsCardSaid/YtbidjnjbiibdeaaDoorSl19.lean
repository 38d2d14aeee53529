/- Walks and plain facts for the laws of this seat: what each function answers, for every input. -/
import Derived.Test.YtbidjnjbiibdeaaDoorSl18
/- Regions that draw their order: a head, one operation that turns something, what follows it. -/
set_option linter.unusedVariables false
set_option linter.unusedSimpArgs false
namespace Go.SL
open Go.RowKit

section
variable {P : Program} {w0 : World} {n : Nat} {T : TT} {S : SS}

set_option maxHeartbeats 1000000 in
theorem PW.quiet2Q {p k : Nat} {l : List PI} {Q : Exit → TT → SS → Prop} {T' : TT} (hm : P.follows .mixedOrders = true) (h1 : QL P w0 n S (l.take k) T T') (h2 : OL P w0 n (l.drop k) T' S (Q .normal)) : PW P w0 n (.quiet2 p k l) T S Q := by
  intro c hc a w hs hr
  cases c
  case region id ops dr =>
    cases dr with
    | false => simp [cC] at hc
    | true =>
      simp only [cC] at hc
      split at hc
      case isFalse => simp at hc
      rename_i hcond
      simp only [Bool.and_eq_true] at hcond
      obtain ⟨⟨⟨hap, hback⟩, hsel⟩, hhoist⟩ := hcond
      simp only [Option.map_eq_some_iff] at hc
      obtain ⟨l', hcis, hmk⟩ := hc
      obtain ⟨rfl, rfl, _, _⟩ := mkQ_quiet2 hmk
      obtain ⟨hhead, hkle⟩ := headOf_spec ops (hoists ops) ops.size (Nat.le_refl _)
      change headB ops ((hoists ops).filter (· < quietAt ops)) (quietAt ops) = true at hhead
      change quietAt ops ≤ ops.size at hkle
      generalize hk : quietAt ops = k at *
      generalize hH : (hoists ops).filter (· < k) = Hs at *
      have hHk : ∀ i ∈ Hs, i < k := fun i hi => by rw [← hH] at hi; simpa using (List.mem_filter.1 hi).2
      have hsplit : List.range ops.size = List.range' 0 k ++ List.range' k (ops.size - k) := by
        rw [List.range_eq_range']
        have := List.range'_append (s := 0) (m := k) (n := ops.size - k) (step := 1)
        simp only [Nat.one_mul, Nat.zero_add] at this
        rw [this]
        congr 1
        omega
      rw [hsplit] at hcis
      obtain ⟨hc1, hc2⟩ := cIs_append hcis
      simp only [List.length_range'] at hc1 hc2
      have hlen : (l'.take k).length = k := by simpa using cIs_length hc1
      obtain ⟨vs, hsat', hgives, hdst⟩ := h1.trace (ops := ops) 0 a (by rw [hlen]; exact hc1) hs
      rw [hlen] at hsat' hgives hdst
      simp only [Nat.zero_add] at hgives hdst
      -- ordered pairs
      have hpair : ∀ i j, i < j → j < ops.size → ∀ oi oj, ops[i]? = some oi → ops[j]? = some oj → behind (reach ops) j i = true ∨ oi.apart ops oj = true := by
        intro i j hij hj oi oj hoi hoj
        have := List.all_eq_true.1 (List.all_eq_true.1 hap j (List.mem_range.2 hj)) i (List.mem_range.2 hij)
        simpa [hoi, hoj] using this
      have htail : ∀ t i, k ≤ t → t < ops.size → i < t → i ∉ Hs → behind (reach ops) t i = true := by
        intro t i hkt ht hi hnH
        have := List.all_eq_true.1 hhead t (List.mem_range.2 ht)
        simp only [Bool.or_eq_true, decide_eq_true_eq] at this
        rcases this with h | h
        · omega
        · have := List.all_eq_true.1 h i (List.mem_range.2 hi)
          simpa [hnH] using this
      have hreadyX : ∀ (listed : Array Bool) i, (∀ j o, ops[j]? = some o → listed.getD j true = true → ∀ e ∈ o.after, Region.binds .any e = true → listed.getD e.on true = true) → i ∈ Region.ready .any ops listed →
          ∀ j, j < ops.size → behind (reach ops) i j = true → j ≠ i → listed.getD j true = true := by
        intro listed i hcl hi j hj hb hne
        obtain ⟨hun, o, ho, hall⟩ := mem_ready.1 hi
        have hX : Closed ops (fun x => listed.getD x true = true ∨ x = i) := by
          rintro x ox hox (hx | rfl) e he hbd
          · exact .inl (hcl x ox hox hx e he hbd)
          · obtain rfl : o = ox := by rw [ho] at hox; exact Option.some.inj hox
            have := hall e he hbd
            left
            cases hlt : listed[e.on]? with
            | none => simp [hlt] at this
            | some b => simpa [hlt] using this
        rcases behind_spec hX (Array.getElem?_eq_some_iff.1 ho).1 hb (.inr rfl) with h | h
        · exact h
        · exact absurd h hne
      have horder : ∀ (listed : Array Bool) i o, (∀ j o, ops[j]? = some o → listed.getD j true = true → ∀ e ∈ o.after, Region.binds .any e = true → listed.getD e.on true = true) → i ∈ Region.ready .any ops listed → ops[i]? = some o → i < k →
          ∀ x, (x ∈ o.looksAt ops ∨ o.dst = some x) → ∀ j, j < k → j ≠ i → dstAt ops j = some x → decide (j < i) = listed.getD j true := by
        intro listed i o hcl hi ho hik x hx j hj hne hdj
        obtain ⟨hun, o', ho', hpre⟩ := mem_ready.1 hi
        have hilt : i < ops.size := (Array.getElem?_eq_some_iff.1 ho).1
        have hjlt : j < ops.size := by omega
        have hoj : ops[j]? = some ops[j] := by simp [hjlt]
        have hdj' : ops[j].dst = some x := by simpa [dstAt, hoj] using hdj
        rcases Nat.lt_or_gt_of_ne hne with h | h
        · rcases hpair j i h hilt _ _ hoj ho with hb' | hap'
          · rw [hreadyX listed i hcl hi j hjlt hb' hne]
            simp [h]
          · obtain ⟨e1, e2, e3⟩ := Oper.apart_spec hap'
            rcases hx with hx | hx
            · exact absurd hx (e1 x hdj')
            · exact absurd hx (e2 x hdj')
        · rcases hpair i j h hjlt _ _ ho hoj with hb' | hap'
          · have hnl : listed.getD j true = false := by
              cases hlj : listed.getD j true with
              | false => rfl
              | true =>
                exfalso
                have hX : Closed ops (fun x => listed.getD x true = true) := fun x ox hox hx e he hbd => hcl x ox hox hx e he hbd
                have := behind_spec hX hjlt hb' hlj
                rw [hun] at this
                cases this
            rw [hnl]
            simp; omega
          · obtain ⟨e1, e2, e3⟩ := Oper.apart_spec hap'
            rcases hx with hx | hx
            · exact absurd hx (e3 x hdj')
            · exact absurd hdj' (e2 x hx)
      have hgetset : ∀ (listed : Array Bool) i, listed.size = ops.size → i < ops.size → (listed.setIfInBounds i true).getD i true = true := by
        intro listed i h1 h2
        have : i < listed.size := by omega
        simp [this]
      have hput : ∀ (listed : Array Bool) i o, listed.size = ops.size → (∀ j o, ops[j]? = some o → listed.getD j true = true → ∀ e ∈ o.after, Region.binds .any e = true → listed.getD e.on true = true) → i ∈ Region.ready .any ops listed → ops[i]? = some o → i < k →
          (foldF ops vs (fun j => listed.getD j true) k a).put o.dst (vs i) = foldF ops vs (fun j => (listed.setIfInBounds i true).getD j true) k a := by
        intro listed i o hsz hcl hi ho hik
        have hilt : i < ops.size := (Array.getElem?_eq_some_iff.1 ho).1
        have hdo : dstOk n o.dst = true := hdst i o hik ho
        have hda : dstAt ops i = o.dst := by simp [dstAt, ho]
        have hgi := hgetset listed i hsz hilt
        have hgj : ∀ j, j ≠ i → (listed.setIfInBounds i true).getD j true = listed.getD j true := fun j hj => getD_set_ne true (Ne.symm hj)
        have szs : ∀ f, (foldF ops vs f k a).tmps.size = a.tmps.size := fun f => (foldF_size ops vs f k a).1
        have dfs : ∀ f, (foldF ops vs f k a).defers = a.defers := fun f => (foldF_size ops vs f k a).2
        refine act_ext ?_ ?_ fun x => ?_
        · cases o.dst <;> simp [Act.put, szs]
        · cases o.dst <;> simp [Act.put, dfs]
        · by_cases hx : o.dst = some x
          · have e1 : (foldF ops vs (fun j => (listed.setIfInBounds i true).getD j true) k a).tmps[x]? = (foldF ops vs (fun j => decide (j < i + 1)) k a).tmps[x]? := by
              refine foldF_agree ops vs _ _ k a x fun j hj hdj => ?_
              by_cases e : j = i
              · subst e; rw [hgi]; simp
              · rw [hgj j e, ← horder listed i o hcl hi ho hik x (.inr hx) j hj e hdj]
                by_cases h : j < i
                · have : j < i + 1 := by omega
                  simp [h, this]
                · have : ¬ j < i + 1 := by omega
                  simp [h, this]
            rw [e1, foldF_runA ops vs (i + 1) k a (by omega)]
            have e2 : runA ops vs 0 (i + 1) a = (runA ops vs 0 i a).put (dstAt ops i) (vs i) := by
              simp [runA, List.range'_concat]
            rw [e2, hda, hx]
            simp only [Act.put]
            have hxn : x < a.tmps.size := by rw [hs.size]; simpa [dstOk, hx] using hdo
            have hsz1 : (runA ops vs 0 i a).tmps.size = a.tmps.size := by rw [← foldF_runA ops vs i k a (by omega)]; exact szs _
            rw [Array.getElem?_setIfInBounds_self_of_lt (by rw [szs]; exact hxn), Array.getElem?_setIfInBounds_self_of_lt (by rw [hsz1]; exact hxn)]
          · have e1 : (foldF ops vs (fun j => (listed.setIfInBounds i true).getD j true) k a).tmps[x]? = (foldF ops vs (fun j => listed.getD j true) k a).tmps[x]? := by
              refine foldF_agree ops vs _ _ k a x fun j hj hdj => ?_
              by_cases e : j = i
              · subst e; rw [hda] at hdj; exact absurd hdj hx
              · exact hgj j e
            rw [e1]
            cases hd : o.dst with
            | none => rfl
            | some y =>
              have : y ≠ x := fun e => hx (by rw [hd, e])
              simp [Act.put, Array.getElem?_setIfInBounds_ne this]
      have hagree : ∀ (listed : Array Bool) i o, (∀ j o, ops[j]? = some o → listed.getD j true = true → ∀ e ∈ o.after, Region.binds .any e = true → listed.getD e.on true = true) → i ∈ Region.ready .any ops listed → ops[i]? = some o → i < k →
          ∀ x, x ∈ o.looksAt ops → (runA ops vs 0 i a).tmps[x]? = (foldF ops vs (fun j => listed.getD j true) k a).tmps[x]? := by
        intro listed i o hcl hi ho hik x hx
        rw [← foldF_runA ops vs i k a (by omega)]
        refine foldF_agree ops vs _ _ k a x fun j hj hdj => ?_
        by_cases e : j = i
        · subst e
          have hun := (mem_ready.1 hi).1
          rw [hun]; simp
        · exact horder listed i o hcl hi ho hik x (.inl hx) j hj e hdj
      have hclset : ∀ (listed : Array Bool) i o, listed.size = ops.size → (∀ j o, ops[j]? = some o → listed.getD j true = true → ∀ e ∈ o.after, Region.binds .any e = true → listed.getD e.on true = true) → i ∈ Region.ready .any ops listed → ops[i]? = some o →
          (∀ j o, ops[j]? = some o → (listed.setIfInBounds i true).getD j true = true → ∀ e ∈ o.after, Region.binds .any e = true → (listed.setIfInBounds i true).getD e.on true = true) := by
        intro listed i o hsz hcl hi ho j oj hoj hj e he hbd
        have hilt : i < ops.size := (Array.getElem?_eq_some_iff.1 ho).1
        obtain ⟨hun, o', ho', hpre⟩ := mem_ready.1 hi
        obtain rfl : o = o' := by rw [ho] at ho'; exact Option.some.inj ho'
        have hgj : ∀ j, j ≠ i → (listed.setIfInBounds i true).getD j true = listed.getD j true := fun j hj => getD_set_ne true (Ne.symm hj)
        by_cases e1 : e.on = i
        · rw [e1]; exact hgetset listed i hsz hilt
        · rw [hgj _ e1]
          by_cases e2 : j = i
          · subst e2
            obtain rfl : o = oj := by rw [ho] at hoj; exact Option.some.inj hoj
            have := hpre e he hbd
            cases hlt : listed[e.on]? with
            | none => simp [hlt] at this
            | some bb => simpa [hlt] using this
          · rw [hgj _ e2] at hj
            exact hcl j oj hoj hj e he hbd
      have hcntset : ∀ (listed : Array Bool) i, listed.size = ops.size → i ∈ Region.ready .any ops listed → i < ops.size → cnt (fun j => listed.getD j true) ops.size = cnt (fun j => (listed.setIfInBounds i true).getD j true) ops.size + 1 := by
        intro listed i hsz hi hilt
        have := cnt_set (f := fun j => listed.getD j true) (g := fun j => (listed.setIfInBounds i true).getD j true) (i := i) (mem_ready.1 hi).1 (hgetset listed i hsz hilt) (fun j hj => getD_set_ne true (Ne.symm hj)) ops.size
        simpa [hilt] using this
      refine wp_mono (Q := fun e a' w' => e = .normal ∧ ∃ T' S', Sat n T' a' ∧ Rep w0 S' w' ∧ Q e T' S') ?_ (fun e a' w' h => h.2)
      refine wp_region_any hm ?_
      have key : ∀ (fuel : Nat) (listed : Array Bool) (b : Act) (w' : World), listed.size = ops.size →
          (∀ j o, ops[j]? = some o → listed.getD j true = true → ∀ e ∈ o.after, Region.binds .any e = true → listed.getD e.on true = true) → (∀ i ∈ Hs, listed.getD i true = true) →
          (∀ t, k ≤ t → t < ops.size → listed.getD t true = false) → b = foldF ops vs (fun j => listed.getD j true) k a → Rep w0 S w' → cnt (fun j => listed.getD j true) ops.size = fuel →
          wpAny P .any ops (fun e a' w' => e = .normal ∧ ∃ T' S', Sat n T' a' ∧ Rep w0 S' w' ∧ Q e T' S') fuel listed b w' := by
        intro fuel
        induction fuel with
        | zero =>
          intro listed b w' hsz hcl hHl htl hb hr' hcnt
          have hall : ∀ j, j < ops.size → listed.getD j true = true := by
            intro j hj
            cases hx : listed.getD j true with
            | true => rfl
            | false =>
              exfalso
              have : ∀ m, j < m → 0 < cnt (fun j => listed.getD j true) m := by
                intro m
                induction m with
                | zero => intro h; omega
                | succ m ih =>
                  intro h
                  simp only [cnt]
                  by_cases e : j = m
                  · subst e; simp [hx]
                  · have := ih (by omega); omega
              have := this ops.size hj
              omega
          have hkeq : k = ops.size := by
            rcases Nat.lt_or_ge k ops.size with h | h
            · have h1 := htl k (Nat.le_refl _) h
              have h2 := hall k h
              rw [h1] at h2
              cases h2
            · omega
          have hbt : b = runA ops vs 0 k a := by
            rw [hb, ← foldF_runA ops vs k k a (Nat.le_refl _)]
            unfold foldF
            refine foldl_ext' _ _ _ _ fun b j hj => ?_
            have hj' := List.mem_range.1 hj
            simp [hall j (by omega), hj']
          refine ⟨?_, ?_⟩
          · unfold Region.ready
            rw [List.filter_eq_nil_iff]
            intro i hi
            rw [hall i (List.mem_range.1 hi)]
            simp
          · have := h2 ops [] b w' (fun e a' w' => e = .normal ∧ ∃ T' S', Sat n T' a' ∧ Rep w0 S' w' ∧ Q e T' S') (by
              rw [hkeq, Nat.sub_self] at hc2
              rw [hkeq]
              simpa using hc2) (hbt ▸ hsat') hr' (fun a' w' T' S' h3 h4 h5 => ⟨rfl, T', S', h3, h4, h5⟩)
            simpa [wpOps] using this
        | succ fuel ih =>
          intro listed b w' hsz hcl hHl htl hb hr' hcnt
          by_cases hall : ∀ j, j < k → listed.getD j true = true
          · -- the head is done
            have hexact : ∀ j, j < ops.size → listed.getD j true = decide (j < k) := by
              intro j hj
              by_cases h : j < k
              · rw [hall j h]; simp [h]
              · rw [htl j (by omega) hj]; simp [h]
            have hbt : b = runA ops vs 0 k a := by
              rw [hb, ← foldF_runA ops vs k k a (Nat.le_refl _)]
              unfold foldF
              refine foldl_ext' _ _ _ _ fun b j hj => ?_
              have hj' := List.mem_range.1 hj
              simp [hall j hj', hj']
            have hfuel : fuel + 1 = ops.size - k := by
              rw [← hcnt, cnt_congr ops.size hexact, cnt_below]
            rw [hfuel]
            have htl2 : ∀ listed' : Array Bool, ∀ t s', k ≤ s' → s' < t → t < ops.size → (∀ j, j < ops.size → listed'.getD j true = decide (j < s')) → listed'.size = ops.size → t ∉ Region.ready .any ops listed' := by
              intro l'' t s' h1 h2 h3 h4 h5 hmem
              have := hreadyX l'' t (fun j o ho hj e he hbd => by
                have hlt := backB_spec hback ho he hbd
                have hjs : j < ops.size := (Array.getElem?_eq_some_iff.1 ho).1
                rw [h4 j hjs] at hj
                rw [h4 e.on (by omega)]
                simp only [decide_eq_true_eq] at hj ⊢
                omega) hmem s' (by omega) (htail t s' (by omega) h3 h2 (fun hm' => by have := hHk s' hm'; omega)) (by omega)
              rw [h4 s' (by omega)] at this
              simp at this
            refine wpAny_tail hback (ops.size - k) k listed b w' (by omega) hsz hexact (fun t i h1 h2 h3 h4 h5 => htl2 listed t k (Nat.le_refl _) h1 h2 hexact hsz) htl2 ?_
            exact h2 ops _ b w' _ hc2 (hbt ▸ hsat') hr' (fun a' w' T' S' h3 h4 h5 => ⟨rfl, T', S', h3, h4, h5⟩)
          · refine ⟨fun h0 => ?_, fun i hi => ?_⟩
            · exfalso
              obtain ⟨i, hi1, hi2, hi3⟩ := cnt_pos ops.size (by rw [hcnt]; omega : 0 < cnt (fun j => listed.getD j true) ops.size)
              have : i ∈ Region.ready .any ops listed := by
                rw [mem_ready]
                refine ⟨hi2, ops[i], by simp [hi1], fun e he hbd => ?_⟩
                have hlt := backB_spec hback (show ops[i]? = some ops[i] by simp [hi1]) he hbd
                have h3 := hi3 e.on hlt
                have : e.on < listed.size := by omega
                simpa [this] using h3
              rw [h0] at this
              simp at this
            · have hmem := mem_ready.1 hi
              obtain ⟨hun, o, ho, hpre⟩ := hmem
              have hilt : i < ops.size := (Array.getElem?_eq_some_iff.1 ho).1
              have hik : i < k := by
                rcases Nat.lt_or_ge i k with h | h
                · exact h
                · exfalso
                  refine hall fun j hj => ?_
                  by_cases hjH : j ∈ Hs
                  · exact hHl j hjH
                  · exact hreadyX listed i hcl hi j (by omega) (htail i j h hilt (by omega) hjH) (by omega)
              have hdo : dstOk n o.dst = true := hdst i o hik ho
              have hagree' := hagree listed i o hcl hi ho hik
              rw [← hb] at hagree'
              have hev : execOp (runA ops vs 0 i a).eval o = execOp b.eval o :=
                execOp_congr o (fun cs bb hh => Region.noSelect_spec hsel i o cs bb ho hh) fun x hx => eval_agree fun t ht => hagree' t (looks_op (ht ▸ hx))
              have hwan := wanted_agree (ops := ops) (o := o) (a := runA ops vs 0 i a) (b := b) hagree'
              have hnext : ∀ w'', Rep w0 S w'' → wpAny P .any ops (fun e a' w' => e = .normal ∧ ∃ T' S', Sat n T' a' ∧ Rep w0 S' w' ∧ Q e T' S') fuel (listed.setIfInBounds i true) (b.put o.dst (vs i)) w'' := by
                intro w'' hr''
                have hgj : ∀ j, j ≠ i → (listed.setIfInBounds i true).getD j true = listed.getD j true := fun j hj => getD_set_ne true (Ne.symm hj)
                refine ih _ _ w'' (by simpa using hsz) (hclset listed i o hsz hcl hi ho) ?_ ?_ ?_ hr'' ?_
                · intro j hj
                  by_cases e : j = i
                  · subst e; exact hgetset listed j hsz hilt
                  · rw [hgj j e]; exact hHl j hj
                · intro t h3 h4
                  rw [hgj t (by omega)]
                  exact htl t h3 h4
                · rw [hb]; exact hput listed i o hsz hcl hi ho hik
                · have := hcntset listed i hsz hi hilt
                  omega
              unfold wpOp
              simp only [ho]
              rcases hgives i hik o ho with ⟨hw1, hw2⟩ | ⟨hw1, hw2⟩
              · rw [hwan] at hw1
                rw [if_pos hw1]
                left
                have hsz1 : (runA ops vs 0 i a).tmps.size = n := by rw [← foldF_runA ops vs i k a (by omega), (foldF_size ops vs _ k a).1, hs.size]
                have hsz2 : b.tmps.size = n := by rw [hb, (foldF_size ops vs _ k a).1, hs.size]
                have hdf : (runA ops vs 0 i a).defers = [] := by rw [← foldF_runA ops vs i k a (by omega), (foldF_size ops vs _ k a).2, hs.defers]
                refine Oper.wp_mono ?_ (wp_transfer hev (by rw [hsz1, hsz2]) (by rw [hsz1]; exact hdo) hdf (hw2 w' hr'))
                rintro b' w'' ⟨rfl, hr''⟩
                exact hnext w'' hr''
              · rw [hwan] at hw1
                rw [hw1]
                simp only [Bool.false_eq_true, if_false]
                rw [← hw2]
                exact hnext w' hr'
      -- the moves first
      have phase0 : ∀ (Hr : List Nat) (listed : Array Bool) (b : Act) (w' : World), hoistB ops Hr listed = true → (∀ i ∈ Hr, i < k) → listed.size = ops.size →
          (∀ j o, ops[j]? = some o → listed.getD j true = true → ∀ e ∈ o.after, Region.binds .any e = true → listed.getD e.on true = true) → (∀ i ∈ Hs, listed.getD i true = true ∨ i ∈ Hr) →
          (∀ t, k ≤ t → t < ops.size → listed.getD t true = false) → b = foldF ops vs (fun j => listed.getD j true) k a → Rep w0 S w' →
          wpAny P .any ops (fun e a' w' => e = .normal ∧ ∃ T' S', Sat n T' a' ∧ Rep w0 S' w' ∧ Q e T' S') (cnt (fun j => listed.getD j true) ops.size) listed b w' := by
        intro Hr
        induction Hr with
        | nil =>
          intro listed b w' _ _ hsz hcl hHl htl hb hr'
          exact key _ listed b w' hsz hcl (fun i hi => (hHl i hi).resolve_right (by simp)) htl hb hr' rfl
        | cons i Hr ih =>
          intro listed b w' hh hlt hsz hcl hHl htl hb hr'
          simp only [hoistB, Bool.and_eq_true] at hh
          obtain ⟨⟨⟨hho, hfree⟩, hready⟩, hrest⟩ := hh
          have hi : i ∈ Region.ready .any ops listed := by simpa using hready
          obtain ⟨hun, o, ho, hpre⟩ := mem_ready.1 hi
          have hilt : i < ops.size := (Array.getElem?_eq_some_iff.1 ho).1
          have hik : i < k := hlt i (by simp)
          have hgj : ∀ j, j ≠ i → (listed.setIfInBounds i true).getD j true = listed.getD j true := fun j hj => getD_set_ne true (Ne.symm hj)
          rw [hcntset listed i hsz hi hilt]
          simp only [hoistable?, ho, hoistable, Bool.and_eq_true] at hho
          obtain ⟨hgn, hmv⟩ := hho
          have hgn' : o.guard = none := by simpa using hgn
          have hwant : ∀ t : Array Value, Region.wanted o (yielded ops t) = true := fun t => by simp [Region.wanted, hgn']
          have hagree' := hagree listed i o hcl hi ho hik
          rw [← hb] at hagree'
          have hdo : dstOk n o.dst = true := hdst i o hik ho
          have hsz1 : (runA ops vs 0 i a).tmps.size = n := by rw [← foldF_runA ops vs i k a (by omega), (foldF_size ops vs _ k a).1, hs.size]
          have hmove : ∃ x, (o.op = .move x ∨ o.op = .assign x) := by
            cases hop : o.op <;> rw [hop] at hmv <;> simp at hmv
            · exact ⟨_, .inl rfl⟩
            · exact ⟨_, .inr rfl⟩
          obtain ⟨x, hx⟩ := hmove
          have hexec : ∀ ρ, execOp ρ o = pure (.value (ρ x)) := by
            intro ρ
            rcases hx with hx | hx <;> simp [execOp, hx]
          have hval : b.eval x = vs i ∨ o.dst = none := by
            rcases hgives i hik o ho with ⟨_, hw2⟩ | ⟨hw1, _⟩
            · have := hw2 w' hr'
              unfold Oper.wp at this
              rw [hexec] at this
              simp only [Sem.run_pure, Oper.upon] at this
              have hev : (runA ops vs 0 i a).eval x = b.eval x := eval_agree fun t ht => hagree' t (looks_op (by rcases hx with hx | hx <;> simp [hx, Op.operands, ht]))
              cases hd : o.dst with
              | none => exact .inr rfl
              | some d =>
                left
                rw [hd] at this hdo
                have h3 := congrArg (fun c : Act => c.tmps[d]?) this.1
                have hdn : d < n := by simpa [dstOk] using hdo
                simp [Act.put, hsz1, hdn] at h3
                rw [← hev]; exact h3
            · rw [hwant] at hw1; cases hw1
          refine wpAny_take (oi := o) (v := b.eval x) ho hsel hfree hready (fun c a w hq => by simp at hq) (.inl ⟨hwant _, fun w => by rw [hexec]; rfl⟩) ?_
          have hbput : b.put o.dst (b.eval x) = foldF ops vs (fun j => (listed.setIfInBounds i true).getD j true) k a := by
            rw [← hput listed i o hsz hcl hi ho hik, ← hb]
            rcases hval with h | h
            · rw [h]
            · rw [h]; rfl
          rw [hbput]
          refine ih _ _ w' hrest (fun j hj => hlt j (by simp [hj])) (by simpa using hsz) (hclset listed i o hsz hcl hi ho) ?_ ?_ rfl hr'
          · intro j hj
            by_cases e : j = i
            · subst e; exact .inl (hgetset listed j hsz hilt)
            · rw [hgj j e]
              rcases hHl j hj with h | h
              · exact .inl h
              · rcases List.mem_cons.1 h with h | h
                · exact absurd h e
                · exact .inr h
          · intro t h3 h4
            rw [hgj t (by omega)]
            exact htl t h3 h4
      have hcnt0 : cnt (fun j => (Array.replicate ops.size false).getD j true) ops.size = ops.size := by
        rw [cnt_congr (g := fun j => decide (j < 0)) ops.size (fun j hj => by simp [hj]), cnt_below]
        omega
      have := phase0 Hs (Array.replicate ops.size false) a { w with drawn := w.drawn + 1 } hhoist hHk (by simp) ?_ (fun i hi => .inr hi) ?_ ?_ ?_
      · rwa [hcnt0] at this
      · intro j o ho hj
        exfalso
        have hlt : j < ops.size := (Array.getElem?_eq_some_iff.1 ho).1
        simp [hlt] at hj
      · intro t _ ht
        simp [ht]
      · have : ∀ j, j < k → (Array.replicate ops.size false).getD j true = decide (j < 0) := by
          intro j hj
          have : j < ops.size := by omega
          simp [this]
        have h0 : foldF ops vs (fun j => (Array.replicate ops.size false).getD j true) k a = foldF ops vs (fun j => decide (j < 0)) k a := by
          unfold foldF
          refine foldl_ext' _ _ _ _ fun b j hj => ?_
          simp only [this j (List.mem_range.1 hj)]
        rw [h0, foldF_runA ops vs 0 k a (Nat.zero_le _)]
        rfl
      · exact hr.same ((Below.refl _ w).drew) (fun _ _ => rfl)
  all_goals (first | (simp [cC] at hc; done) | (simp only [cC] at hc; split at hc <;> simp at hc; done))

theorem PW.quiet2QK {p k : Nat} {l : List PI} {Q : Exit → TT → SS → Prop} (hm : P.follows .mixedOrders = true) (h : QK P w0 n S (l.take k) T (fun T' => OL P w0 n (l.drop k) T' S (Q .normal))) : PW P w0 n (.quiet2 p k l) T S Q :=
  let ⟨_, h1, h2⟩ := h; PW.quiet2Q hm h1 h2
end
end Go.SL
