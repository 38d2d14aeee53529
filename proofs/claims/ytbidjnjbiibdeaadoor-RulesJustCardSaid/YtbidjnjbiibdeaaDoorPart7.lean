/- Walks and plain facts for the laws of this seat: what each function answers, for every input. -/
import Derived.Test.YtbidjnjbiibdeaaDoorPart6

set_option linter.unusedVariables false
set_option linter.unusedSimpArgs false
namespace Go.Proofs.Rl
open Go.SL Go.RowKit Go.Proofs Go.Proofs.Lb
set_option maxHeartbeats 1000000
theorem srt_pw {l : List RuleB} : Srt l ↔ l.Pairwise (fun x y => ltB x.1 y.1 = true) := by
  rw [List.pairwise_iff_getElem]
  exact ⟨fun h i j hi hj hij => h i j hij hj hi, fun h i j hij hj hi => h i j hi hj hij⟩
theorem srt_inj {l : List RuleB} (h : Srt l) {x y : RuleB} (hx : x ∈ l) (hy : y ∈ l) (e : x.1 = y.1) : x = y := by
  obtain ⟨i, hi, rfl⟩ := List.mem_iff_getElem.1 hx
  obtain ⟨j, hj, rfl⟩ := List.mem_iff_getElem.1 hy
  rcases Nat.lt_trichotomy i j with h1 | h1 | h1
  · have := h i j h1 hj hi; rw [e, lt_irrefl] at this; cases this
  · subst h1; rfl
  · have := h j i h1 hi hj; rw [e, lt_irrefl] at this; cases this
theorem prefB_or {a : ByteArray} (h : prefB a = true) : a = ⟨#[]⟩ ∨ isP a = true := by unfold prefB at h; simpa using h
theorem over_same {a b s : ByteArray} (ha : overP a s = true) (hb : overP b s = true) (hp : prefB a = true) (hs : a.size = b.size) : a = b := by
  by_cases e : a = b
  · exact e
  · rcases over_tot ha hb (prefB_or hp) with h | h
    · have := over_lt h e; omega
    · have := over_lt h (fun h => e h.symm); omega
theorem find_char {l : List RuleB} {s : ByteArray} (hs : Srt l) (hp : ∀ r ∈ l, prefB r.1 = true) {r : RuleB} (hr : r ∈ l) (ho : overP r.1 s = true) (hm : ∀ q ∈ l, overP q.1 s = true → q.1.size ≤ r.1.size) : findP l s = r.2 := by
  obtain ⟨f1, _, f3⟩ := find_spec s l (-1, lab0) (by decide)
  have h1 := f3 r hr ho
  unfold findP findS
  rcases f1 with f1 | ⟨q, hq, h2, f1⟩
  · rw [f1] at h1; exact absurd h1 (by show ¬ ((r.1.size : Int) ≤ -1); omega)
  · rw [f1] at h1 ⊢
    have h1 : (r.1.size : Int) ≤ (q.1.size : Int) := h1
    have h4 := hm q hq h2
    have e := over_same h2 ho (hp q hq) (by omega)
    rw [srt_inj hs hq hr e]
theorem find_none {l : List RuleB} {s : ByteArray} (h : ∀ q ∈ l, ¬ overP q.1 s = true) : findP l s = lab0 := by
  obtain ⟨f1, _, _⟩ := find_spec s l (-1, lab0) (by decide)
  unfold findP findS
  rcases f1 with f1 | ⟨q, hq, h2, _⟩
  · rw [f1]
  · exact absurd h2 (h q hq)
theorem find_max {l : List RuleB} {s : ByteArray} : (∀ q ∈ l, ¬ overP q.1 s = true) ∨ ∃ r ∈ l, overP r.1 s = true ∧ ∀ q ∈ l, overP q.1 s = true → q.1.size ≤ r.1.size := by
  obtain ⟨f1, _, f3⟩ := find_spec s l (-1, lab0) (by decide)
  rcases f1 with f1 | ⟨r, hr, h2, f1⟩
  · left
    intro q hq ho
    have := f3 q hq ho
    rw [f1] at this
    exact absurd this (by show ¬ ((q.1.size : Int) ≤ -1); omega)
  · right
    refine ⟨r, hr, h2, fun q hq ho => ?_⟩
    have := f3 q hq ho
    rw [f1] at this
    have : (q.1.size : Int) ≤ (r.1.size : Int) := this
    omega
structure Just (l : List RuleB) (tv : Int) (a : ByteArray) (x : LabB) (R : Int × Int × List RuleB) : Prop where
  ver : R.2.1 = tv + 1
  chk : chkT R.2.2 R.2.1 = 0
  srt : Srt l
  pref : ∀ r ∈ l, prefB r.1 = true
  srtN : Srt R.2.2
  prefN : ∀ r ∈ R.2.2, prefB r.1 = true
  mem : ∀ r, r ∈ R.2.2 ↔ r = (a, x) ∨ (r ∈ l ∧ r.1 ≠ a)
theorem chkT_mk {l : List RuleB} {tv : Int} (h1 : l.length ≤ 32) (h2 : (l.length : Int) ≤ tv) (h3 : Srt l) (h4 : ∀ r ∈ l, prefB r.1 = true ∧ okL r.2 = true) : chkT l tv = 0 := by
  unfold chkT
  rw [if_neg (by omega), if_pos]
  exact okAt_iff.2 ⟨h3, fun i h => h4 _ (List.getElem_mem h)⟩
theorem with_bad {l : List RuleB} {tv : Int} {a : ByteArray} {x : LabB} (h : (withT l tv a x).1 ≠ 0) : (withT l tv a x).2 = (0, []) := by
  unfold withT at h ⊢
  split
  · rfl
  · rename_i h1
    rw [if_neg h1] at h
    split
    · rfl
    · rename_i h2
      rw [if_neg h2] at h
      split at h
      · split at h
        · exact absurd rfl h
        · rename_i k hk hne
          rw [if_neg hne]
          split
          · rfl
          · rename_i h32
            rw [if_neg h32] at h
            exact absurd rfl h
      · rename_i hk
        split
        · rfl
        · rename_i h32
          rw [if_neg h32] at h
          exact absurd rfl h
theorem with_just {l : List RuleB} {tv : Int} {a : ByteArray} {x : LabB} (h : (withT l tv a x).1 = 0) : Just l tv a x (withT l tv a x) := by
  by_cases hp : prefB a = true
  case neg => rw [withT_bad (by simpa using hp)] at h; cases h
  by_cases ha : okL x = false ∨ chkT l tv ≠ 0
  case pos => rw [withT_arg hp ha] at h; cases h
  have ho : okL x = true := by cases h : okL x <;> simp_all
  have hc : chkT l tv = 0 := by
    rcases Classical.em (chkT l tv = 0) with h | h
    · exact h
    · exact absurd (.inr h) ha
  obtain ⟨k, hkl, hkt, hkq, hkz⟩ := idx_at (geL a) l
  obtain ⟨h32, htv, hs, hall⟩ := chkT_ok hc
  have hpref : ∀ r ∈ l, prefB r.1 = true ∧ okL r.2 = true := fun r hr => by
    obtain ⟨i, hi, rfl⟩ := List.mem_iff_getElem.1 hr
    exact hall i hi
  have hlow : ∀ r ∈ l.take k, ltB r.1 a = true := fun r hr => by have := hkt r hr; simpa [geL] using this
  rw [withT_at hp ho hc hkz] at h ⊢
  by_cases hk : k < l.length ∧ l[k]!.1 = a
  · rw [dif_pos hk]
    have hke : l[k].1 = a := by rw [← getElem!_pos l k hk.1]; exact hk.2
    have hmem : ∀ r, r ∈ l.set k (a, x) ↔ r = (a, x) ∨ (r ∈ l ∧ r.1 ≠ a) := by
      intro r
      constructor
      · intro hr
        obtain ⟨i, hi, rfl⟩ := List.mem_iff_getElem.1 hr
        simp only [List.length_set] at hi
        rw [List.getElem_set]
        split
        · exact .inl rfl
        · rename_i hne
          refine .inr ⟨List.getElem_mem _, fun e => hne ?_⟩
          rcases Nat.lt_trichotomy k i with h1 | h1 | h1
          · have := hs k i h1 hi hk.1; rw [hke, e, lt_irrefl] at this; cases this
          · exact h1
          · have := hs i k h1 hk.1 hi; rw [hke, e, lt_irrefl] at this; cases this
      · rintro (rfl | ⟨hr, hne⟩)
        · exact List.mem_iff_getElem.2 ⟨k, by simpa using hk.1, by simp⟩
        · obtain ⟨i, hi, rfl⟩ := List.mem_iff_getElem.1 hr
          refine List.mem_iff_getElem.2 ⟨i, by simpa using hi, ?_⟩
          rw [List.getElem_set, if_neg]
          rintro rfl
          exact hne hke
    have hsrt : Srt (l.set k (a, x)) := by
      intro i j hij hj hi
      simp only [List.length_set] at hi hj
      rw [List.getElem_set, List.getElem_set]
      by_cases e1 : k = i
      · subst e1
        rw [if_pos rfl, if_neg (by omega)]
        show ltB a l[j].1 = true
        rw [← hke]
        exact hs k j hij hj hi
      · rw [if_neg e1]
        by_cases e2 : k = j
        · subst e2
          rw [if_pos rfl]
          show ltB l[i].1 a = true
          rw [← hke]
          exact hs i k hij hj hi
        · rw [if_neg e2]; exact hs i j hij hj hi
    have hpN : ∀ r ∈ l.set k (a, x), prefB r.1 = true ∧ okL r.2 = true := fun r hr => by
      rcases (hmem r).1 hr with rfl | ⟨h1, _⟩
      · exact ⟨hp, ho⟩
      · exact hpref r h1
    exact ⟨rfl, chkT_mk (by simpa using h32) (by simp; omega) hsrt hpN, hs, fun r hr => (hpref r hr).1, hsrt, fun r hr => (hpN r hr).1, hmem⟩
  · rw [dif_neg hk] at h ⊢
    by_cases e32 : l.length = 32
    · rw [if_pos e32] at h; cases h
    rw [if_neg e32]
    have hhi : ∀ r ∈ l.drop k, ltB a r.1 = true := by
      intro r hr
      obtain ⟨i, hi, rfl⟩ := List.mem_iff_getElem.1 hr
      simp only [List.length_drop] at hi
      rw [List.getElem_drop]
      have hkk : k < l.length := by omega
      have hge : ltB l[k].1 a = false := by have := hkq hkk; simpa [geL] using this
      have hk1 : ltB a l[k].1 = true := by
        rcases lt_total hge with e | e
        · exact absurd ⟨hkk, by rw [getElem!_pos l k hkk]; exact e⟩ hk
        · exact e
      by_cases e : i = 0
      · subst e; exact hk1
      · exact lt_trans hk1 (hs k (k + i) (by omega) (by omega) hkk)
    have hmem : ∀ r, r ∈ insL l k (a, x) ↔ r = (a, x) ∨ (r ∈ l ∧ r.1 ≠ a) := by
      intro r
      unfold insL
      rw [List.mem_append, List.mem_cons]
      have hl : r ∈ l ↔ r ∈ l.take k ∨ r ∈ l.drop k := by rw [← List.mem_append, List.take_append_drop]
      constructor
      · rintro (h1 | h1 | h1)
        · refine .inr ⟨hl.2 (.inl h1), fun e => ?_⟩
          have := hlow r h1; rw [e, lt_irrefl] at this; cases this
        · exact .inl h1
        · refine .inr ⟨hl.2 (.inr h1), fun e => ?_⟩
          have := hhi r h1; rw [e, lt_irrefl] at this; cases this
      · rintro (h1 | ⟨h1, _⟩)
        · exact .inr (.inl h1)
        · rcases hl.1 h1 with h1 | h1
          · exact .inl h1
          · exact .inr (.inr h1)
    have hsrt : Srt (insL l k (a, x)) := by
      rw [srt_pw] at hs ⊢
      unfold insL
      rw [List.pairwise_append, List.pairwise_cons]
      refine ⟨hs.sublist (List.take_sublist _ _), ⟨fun r hr => hhi r hr, hs.sublist (List.drop_sublist _ _)⟩, fun r hr q hq => ?_⟩
      rcases List.mem_cons.1 hq with rfl | hq
      · exact hlow r hr
      · exact lt_trans (hlow r hr) (hhi q hq)
    have hpN : ∀ r ∈ insL l k (a, x), prefB r.1 = true ∧ okL r.2 = true := fun r hr => by
      rcases (hmem r).1 hr with rfl | ⟨h1, _⟩
      · exact ⟨hp, ho⟩
      · exact hpref r h1
    exact ⟨rfl, chkT_mk (by rw [insL_len hkl]; omega) (by rw [insL_len hkl]; simp; omega) hsrt hpN, hs, fun r hr => (hpref r hr).1, hsrt, fun r hr => (hpN r hr).1, hmem⟩
def longF (l : List RuleB) (a s : ByteArray) (k : Nat) : Bool := (l.take k).any fun r => decide (a.size < r.1.size) && overP r.1 s
theorem long_succ {l : List RuleB} {a s : ByteArray} {k : Nat} (hk : k < l.length) : longF l a s (k + 1) = (longF l a s k || (decide (a.size < l[k].1.size) && overP l[k].1 s)) := by
  unfold longF; rw [rtake_snoc hk, List.any_append]; simp
theorem just_mine {l : List RuleB} {tv : Int} {a s : ByteArray} {x : LabB} {R : Int × Int × List RuleB} (J : Just l tv a x R) (ho : overP a s = true) (hl : longF l a s l.length = false) : findP R.2.2 s = x := by
  refine find_char J.srtN J.prefN (r := (a, x)) ((J.mem _).2 (.inl rfl)) ho fun q hq hqo => ?_
  rcases (J.mem q).1 hq with rfl | ⟨h1, _⟩
  · exact Nat.le_refl _
  · unfold longF at hl
    rw [List.take_length] at hl
    have := List.any_eq_false.1 hl q h1
    simp only [hqo, Bool.and_true, decide_eq_true_eq] at this
    show q.1.size ≤ a.size
    omega
theorem just_keep {l : List RuleB} {tv : Int} {a s : ByteArray} {x : LabB} {R : Int × Int × List RuleB} (J : Just l tv a x R) (h : ¬ (overP a s = true ∧ longF l a s l.length = false)) : findP R.2.2 s = findP l s := by
  rcases find_max (l := l) (s := s) with hn | ⟨r, hr, hro, hrm⟩
  · have hna : ¬ overP a s = true := fun ha => h ⟨ha, by
      unfold longF
      rw [List.take_length, List.any_eq_false]
      intro q hq
      have := hn q hq
      simp [this]⟩
    rw [find_none hn, find_none]
    intro q hq
    rcases (J.mem q).1 hq with rfl | ⟨h1, _⟩
    · exact hna
    · exact hn q h1
  · rw [find_char J.srt J.pref hr hro hrm]
    by_cases ha : overP a s = true
    · have hlg : longF l a s l.length = true := by
        cases e : longF l a s l.length with
        | true => rfl
        | false => exact absurd ⟨ha, e⟩ h
      unfold longF at hlg
      rw [List.take_length] at hlg
      obtain ⟨q, hq, hq2⟩ := List.any_eq_true.1 hlg
      simp only [Bool.and_eq_true, decide_eq_true_eq] at hq2
      have hqr := hrm q hq hq2.2
      refine find_char J.srtN J.prefN ((J.mem r).2 (.inr ⟨hr, fun e => ?_⟩)) hro fun p hp hpo => ?_
      · rw [e] at hqr; omega
      · rcases (J.mem p).1 hp with rfl | ⟨h1, _⟩
        · show a.size ≤ _; omega
        · exact hrm p h1 hpo
    · refine find_char J.srtN J.prefN ((J.mem r).2 (.inr ⟨hr, fun e => ha (e ▸ hro)⟩)) hro fun p hp hpo => ?_
      rcases (J.mem p).1 hp with rfl | ⟨h1, _⟩
      · exact absurd hpo ha
      · exact hrm p h1 hpo
theorem just_size {l : List RuleB} {tv : Int} {a : ByteArray} {x : LabB} {R : Int × Int × List RuleB} (J : Just l tv a x R) {n : Nat} (hw : ∀ r ∈ l, r.1.size ≤ n) (ha : a.size ≤ n) : ∀ r ∈ R.2.2, r.1.size ≤ n := fun r hr => by
  rcases (J.mem r).1 hr with rfl | ⟨h1, _⟩
  · exact ha
  · exact hw r h1
theorem rl4_at {w0 : World} {S : SS} {r : Nat} {x : RuleB} (hm : (r, AO.cells (ruleC x) 56 3) ∈ S.flatten) : ∀ (j : Nat) (v : Value), [Value.int .i64 x.2.1, .int .u64 (x.2.2.toNat : Int)][j]? = some v → Cell w0 S ((⟨r, 1, none⟩ : Addr).add j) v := by
  intro j v hj
  have : (⟨r, 1, none⟩ : Addr).add j = (⟨r, 0, none⟩ : Addr).add (1 + j) := by rw [Addr.add_lit, Addr.add_lit]; congr 1; omega
  rw [this]
  refine (Rd.own hm).at ?_
  rw [Nat.add_comm]
  exact hj
theorem slice_eq {A B : Option Addr} {n m c d : Nat} (h : Value.slice A n c = .slice B m d) : A = B ∧ n = m ∧ c = d := by cases h; exact ⟨rfl, rfl, rfl⟩
theorem rulesJust_fc {w0 : World} {A : Option Addr} {c : Nat} {tv : Int} {l : List RuleB} {s : ByteArray} {y : RuleB} (hx : Rd w0 [] A (ruls l)) (hw : ∀ x ∈ l, x.1.size ≤ maxLen) (hs : s.size ≤ maxLen) (hl : l.length ≤ maxLen) :
    FC Tryd.prog w0 11 [tabV tv A l.length c, .agg #[.string y.1, .int .i64 y.2.1, .int .u64 (y.2.2.toNat : Int)], .string s] [] (fun v _ => v = .bool true) := by
  refine FC.of Tryd.known11 (by simp) ?_
  unfold Tryd.pc11
  simp only [argT]
  refine PW.seqOps ?_
  refine OL.cons trivial (OW.bx rfl) ?_
  rintro _ _ ⟨r3, rfl, rfl⟩
  change OL _ _ _ _ _ (tseg r3 tv A l.length c :: []) _
  refine OL.cons trivial (OW.bx rfl) ?_
  rintro _ _ ⟨r4, rfl, rfl⟩
  change OL _ _ _ _ _ (rseg r4 y :: tseg r3 tv A l.length c :: []) _
  refine OL.det trivial (Yields.pure rfl) ?_
  refine OL.nil ?_
  refine PW.keep (T' := [(2, _), (3, _), (4, _)]) ⟨rfl, rfl, rfl, trivial⟩ ?_
  refine PW.seq fun K1 hK1 => ?_
  refine PW.seqOps ?_
  refine OL.det trivial (Yields.ldA rfl (cs := [.int .i64 tv, .slice A l.length c]) rfl (tab_at (tv := tv) (A := A) (n := l.length) (c := c) (r := r3) (List.mem_flatten.2 ⟨_, .tail _ (.head _), List.mem_singleton.2 rfl⟩))) ?_
  refine OL.det trivial (Yields.pure rfl) ?_
  refine OL.call trivial rfl (large_fc hx.cons.cons hw hs hl) ?_
  rintro _ Sx ⟨b13, rfl, hSx, hb13⟩
  rw [hSx]
  clear hSx
  refine OL.bool trivial (Yields.pure rfl) (fun g14 => ?_) (fun g14 => ?_)
  · try simp only [decide_eq_true_eq, decide_eq_false_iff_not, beq_iff_eq, bne_iff_ne, beq_eq_false_iff_ne, bne_eq_false_iff_eq, Bool.not_eq_true', Bool.not_eq_false', Bool.not_eq_true, ne_eq, Decidable.not_not] at g14
    refine OL.off rfl rfl ?_
    refine OL.off rfl rfl ?_
    refine OL.off rfl rfl ?_
    refine OL.off rfl rfl ?_
    refine OL.det trivial (Yields.pure rfl) ?_
    refine OL.nil ?_
    refine PW.keep (T' := [(2, _), (3, _), (4, _), (19, _)]) ⟨rfl, rfl, rfl, rfl, trivial⟩ ?_
    refine PW.ite (b := true) rfl ?_
    rw [if_pos rfl]
    refine PW.seqOps ?_
    refine OL.call trivial rfl (rawake_fc) ?_
    rintro _ _ ⟨rfl, _⟩
    refine OL.det trivial (Yields.pure rfl) ?_
    refine OL.nil ?_
    refine PW.keep (T' := [(6, _)]) ⟨rfl, trivial⟩ ?_
    refine PW.ret ?_
    change (Exit.ret = Exit.normal ∨ Exit.ret = Exit.ret) ∧ ∃ v, resV _ _ = some v ∧ _
    exact ⟨.inr rfl, _, rfl, rfl⟩
  · try simp only [decide_eq_true_eq, decide_eq_false_iff_not, beq_iff_eq, bne_iff_ne, beq_eq_false_iff_ne, bne_eq_false_iff_eq, Bool.not_eq_true', Bool.not_eq_false', Bool.not_eq_true, ne_eq, Decidable.not_not] at g14
    obtain ⟨hl60, hs200, hw200, htv1, htv2⟩ := hb13 g14
    have hw9 : ∀ x ∈ l, x.1.size ≤ 1000000000 := fun x h => by have := hw200 x h; omega
    have hs9 : s.size ≤ 1000000000 := by omega
    have hl9 : l.length ≤ 1000000000 := by omega
    refine OL.det rfl (Yields.pure rfl) ?_
    refine OL.det rfl (Yields.ld rfl (own_at (j := 0) (c := ruleC y) (E := 56) (tot := 3) (List.mem_flatten.2 ⟨_, .head _, List.mem_singleton.2 rfl⟩) rfl)) ?_
    refine OL.det rfl (Yields.pure rfl) ?_
    refine OL.det rfl (Yields.pure rfl) ?_
    refine OL.det trivial (Yields.pure rfl) ?_
    refine OL.nil ?_
    refine PW.keep (T' := [(2, _), (3, _), (4, _), (19, _)]) ⟨rfl, rfl, rfl, rfl, trivial⟩ ?_
    refine PW.cond rfl (fun c19 => ?_) (fun c19 => ?_)
    · try simp only [decide_eq_true_eq, decide_eq_false_iff_not, beq_iff_eq, bne_iff_ne, beq_eq_false_iff_ne, bne_eq_false_iff_eq, Bool.not_eq_true', Bool.not_eq_false', Bool.not_eq_true, ne_eq, Decidable.not_not] at c19
      refine PW.seqOps ?_
      refine OL.call trivial rfl (rawake_fc) ?_
      rintro _ _ ⟨rfl, _⟩
      refine OL.det trivial (Yields.pure rfl) ?_
      refine OL.nil ?_
      refine PW.keep (T' := [(6, _)]) ⟨rfl, trivial⟩ ?_
      refine PW.ret ?_
      change (Exit.ret = Exit.normal ∨ Exit.ret = Exit.ret) ∧ ∃ v, resV _ _ = some v ∧ _
      exact ⟨.inr rfl, _, rfl, rfl⟩
    · try simp only [decide_eq_true_eq, decide_eq_false_iff_not, beq_iff_eq, bne_iff_ne, beq_eq_false_iff_ne, bne_eq_false_iff_eq, Bool.not_eq_true', Bool.not_eq_false', Bool.not_eq_true, ne_eq, Decidable.not_not] at c19
      have hy9 : y.1.size ≤ 1000000000 := by omega
      refine PW.skip ?_
      refine hK1 _ _ ?_
      refine PW.keep (T' := [(2, _), (3, _), (4, _)]) ⟨rfl, rfl, rfl, trivial⟩ ?_
      refine PW.seqOps ?_
      refine OL.det trivial (Yields.ldA rfl (cs := [.int .i64 tv, .slice A l.length c]) rfl (tab_at (tv := tv) (A := A) (n := l.length) (c := c) (r := r3) (List.mem_flatten.2 ⟨_, .tail _ (.head _), List.mem_singleton.2 rfl⟩))) ?_
      refine OL.det trivial (Yields.pure rfl) ?_
      refine OL.det trivial (Yields.ld rfl (own_at (j := 0) (c := ruleC y) (E := 56) (tot := 3) (List.mem_flatten.2 ⟨_, .head _, List.mem_singleton.2 rfl⟩) rfl)) ?_
      refine OL.det trivial (Yields.pure rfl) ?_
      refine OL.det trivial (Yields.ldA rfl rfl (rl4_at (List.mem_flatten.2 ⟨_, .head _, List.mem_singleton.2 rfl⟩))) ?_
      refine OL.call trivial rfl (with_fc hx.cons.cons hw9 hy9 hl9 (by omega) (by omega)) ?_
      rintro _ _ ⟨AA, cA, segA, rfl, rfl, hslA⟩
      have hRl := with_len l tv y.1 y.2
      generalize hR : withT l tv y.1 y.2 = R at *
      obtain ⟨_, _, eA, _, _, hrdA⟩ := slv_rdL (w0 := w0) hslA
      obtain ⟨rfl, _, rfl⟩ := slice_eq eA
      refine OL.det trivial (Yields.pure rfl) ?_
      refine OL.det trivial (Yields.pure rfl) ?_
      refine OL.det trivial (Yields.pure rfl) ?_
      refine OL.cons trivial OW.al ?_
      rintro _ _ ⟨r7, rfl, rfl⟩
      refine OL.cons trivial (OW.st (k := 0) (u := tabV R.2.1 AA R.2.2.length cA) rfl rfl rfl rfl (Nat.le_refl 2) rfl) ?_
      rintro _ _ rfl
      change OL _ _ _ _ _ (tseg r7 R.2.1 AA R.2.2.length cA :: segA :: rseg r4 y :: tseg r3 tv A l.length c :: []) _
      refine OL.det trivial (Yields.pure rfl) ?_
      refine OL.nil ?_
      refine PW.keep (T' := [(2, _), (3, _), (4, _), (7, _), (8, _)]) ⟨rfl, rfl, rfl, rfl, rfl, trivial⟩ ?_
      refine PW.seq fun K2 hK2 => ?_
      refine PW.seqOps ?_
      refine OL.det trivial (Yields.pure rfl) ?_
      refine OL.det trivial (Yields.pure rfl) ?_
      refine OL.nil ?_
      refine PW.keep (T' := [(2, _), (3, _), (4, _), (7, _), (31, _)]) ⟨rfl, rfl, rfl, rfl, rfl, trivial⟩ ?_
      refine PW.cond rfl (fun c31 => ?_) (fun c31 => ?_)
      · try simp only [decide_eq_true_eq, decide_eq_false_iff_not, beq_iff_eq, bne_iff_ne, beq_eq_false_iff_ne, bne_eq_false_iff_eq, Bool.not_eq_true', Bool.not_eq_false', Bool.not_eq_true, ne_eq, Decidable.not_not] at c31
        have hbad : R.2.1 = 0 ∧ R.2.2 = [] := by
          have := with_bad (l := l) (tv := tv) (a := y.1) (x := y.2) (by rw [hR]; exact c31)
          rw [hR] at this
          rw [this]; exact ⟨rfl, rfl⟩
        refine PW.seqOps ?_
        refine OL.det trivial (Yields.pure rfl) ?_
        refine OL.det trivial (Yields.ld rfl (own_at (j := 0) (c := [.int .i64 R.2.1, .slice AA R.2.2.length cA]) (E := 45) (tot := 2) (List.mem_flatten.2 ⟨_, .head _, List.mem_singleton.2 rfl⟩) rfl)) ?_
        refine OL.det trivial (Yields.pure rfl) ?_
        refine OL.bool trivial (Yields.pure rfl) (fun g35 => ?_) (fun g35 => ?_)
        · try simp only [decide_eq_true_eq, decide_eq_false_iff_not, beq_iff_eq, bne_iff_ne, beq_eq_false_iff_ne, bne_eq_false_iff_eq, Bool.not_eq_true', Bool.not_eq_false', Bool.not_eq_true, ne_eq, Decidable.not_not] at g35
          refine OL.det rfl (Yields.pure rfl) ?_
          refine OL.det rfl (Yields.ld rfl (own_at (j := 1) (c := [.int .i64 R.2.1, .slice AA R.2.2.length cA]) (E := 45) (tot := 2) (List.mem_flatten.2 ⟨_, .head _, List.mem_singleton.2 rfl⟩) rfl)) ?_
          refine OL.det rfl (Yields.pure rfl) ?_
          refine OL.det rfl (Yields.pure rfl) ?_
          refine OL.det trivial (Yields.pure rfl) ?_
          refine OL.bool trivial (Yields.pure rfl) (fun g41 => ?_) (fun g41 => ?_)
          · try simp only [decide_eq_true_eq, decide_eq_false_iff_not, beq_iff_eq, bne_iff_ne, beq_eq_false_iff_ne, bne_eq_false_iff_eq, Bool.not_eq_true', Bool.not_eq_false', Bool.not_eq_true, ne_eq, Decidable.not_not] at g41
            refine OL.call rfl rfl (rawake_fc) ?_
            rintro _ _ ⟨rfl, _⟩
            refine OL.det trivial (Yields.pure rfl) ?_
            refine OL.det trivial (Yields.pure rfl) ?_
            refine OL.nil ?_
            refine PW.keep (T' := [(6, _)]) ⟨rfl, trivial⟩ ?_
            refine PW.ret ?_
            change (Exit.ret = Exit.normal ∨ Exit.ret = Exit.ret) ∧ ∃ v, resV _ _ = some v ∧ _
            exact ⟨.inr rfl, _, rfl, rfl⟩
          · try simp only [decide_eq_true_eq, decide_eq_false_iff_not, beq_iff_eq, bne_iff_ne, beq_eq_false_iff_ne, bne_eq_false_iff_eq, Bool.not_eq_true', Bool.not_eq_false', Bool.not_eq_true, ne_eq, Decidable.not_not] at g41
            exfalso; apply g41; rw [hbad.2]; rfl
            -- done
        · try simp only [decide_eq_true_eq, decide_eq_false_iff_not, beq_iff_eq, bne_iff_ne, beq_eq_false_iff_ne, bne_eq_false_iff_eq, Bool.not_eq_true', Bool.not_eq_false', Bool.not_eq_true, ne_eq, Decidable.not_not] at g35
          exact absurd hbad.1 g35
          -- done
      · try simp only [decide_eq_true_eq, decide_eq_false_iff_not, beq_iff_eq, bne_iff_ne, beq_eq_false_iff_ne, bne_eq_false_iff_eq, Bool.not_eq_true', Bool.not_eq_false', Bool.not_eq_true, ne_eq, Decidable.not_not] at c31
        have J : Just l tv y.1 y.2 R := by
          have := with_just (l := l) (tv := tv) (a := y.1) (x := y.2) (by rw [hR]; simpa using c31)
          rwa [hR] at this
        refine PW.skip ?_
        refine hK2 _ _ ?_
        refine PW.keep (T' := [(2, _), (3, _), (4, _), (7, _)]) ⟨rfl, rfl, rfl, rfl, trivial⟩ ?_
        refine PW.seq fun K3 hK3 => ?_
        refine PW.seqOps ?_
        refine OL.det trivial (Yields.ldA rfl (cs := [.int .i64 R.2.1, .slice AA R.2.2.length cA]) rfl (tab_at (tv := R.2.1) (A := AA) (n := R.2.2.length) (c := cA) (r := r7) (List.mem_flatten.2 ⟨_, .head _, List.mem_singleton.2 rfl⟩))) ?_
        refine OL.call trivial rfl (chkT_fc (hrdA _).cons (just_size J hw9 hy9) (by omega)) ?_
        rintro _ Sx ⟨rfl, hSx⟩
        rw [hSx]
        clear hSx
        refine OL.det trivial (Yields.pure rfl) ?_
        refine OL.bool trivial (Yields.pure rfl) (fun g47 => ?_) (fun g47 => ?_)
        · try simp only [decide_eq_true_eq, decide_eq_false_iff_not, beq_iff_eq, bne_iff_ne, beq_eq_false_iff_ne, bne_eq_false_iff_eq, Bool.not_eq_true', Bool.not_eq_false', Bool.not_eq_true, ne_eq, Decidable.not_not] at g47
          exact absurd J.chk g47
          -- done
        · try simp only [decide_eq_true_eq, decide_eq_false_iff_not, beq_iff_eq, bne_iff_ne, beq_eq_false_iff_ne, bne_eq_false_iff_eq, Bool.not_eq_true', Bool.not_eq_false', Bool.not_eq_true, ne_eq, Decidable.not_not] at g47
          refine OL.det rfl (Yields.pure rfl) ?_
          refine OL.det rfl (Yields.ld rfl (own_at (j := 0) (c := [.int .i64 R.2.1, .slice AA R.2.2.length cA]) (E := 45) (tot := 2) (List.mem_flatten.2 ⟨_, .head _, List.mem_singleton.2 rfl⟩) rfl)) ?_
          refine OL.det rfl (Yields.pure rfl) ?_
          refine OL.det rfl (Yields.ld rfl (own_at (j := 0) (c := [.int .i64 tv, .slice A l.length c]) (E := 45) (tot := 2) (List.mem_flatten.2 ⟨_, .tail _ (.tail _ (.tail _ (.head _))), List.mem_singleton.2 rfl⟩) rfl)) ?_
          refine OL.det rfl (Yields.add64 rfl rfl (by omega) (by omega)) ?_
          refine OL.det rfl (Yields.pure rfl) ?_
          refine OL.det trivial (Yields.pure rfl) ?_
          refine OL.nil ?_
          refine PW.keep (T' := [(2, _), (3, _), (4, _), (7, _), (54, _)]) ⟨rfl, rfl, rfl, rfl, rfl, trivial⟩ ?_
          refine PW.cond rfl (fun c54 => ?_) (fun c54 => ?_)
          · try simp only [decide_eq_true_eq, decide_eq_false_iff_not, beq_iff_eq, bne_iff_ne, beq_eq_false_iff_ne, bne_eq_false_iff_eq, Bool.not_eq_true', Bool.not_eq_false', Bool.not_eq_true, ne_eq, Decidable.not_not] at c54
            exact absurd J.ver c54
            -- done
          · try simp only [decide_eq_true_eq, decide_eq_false_iff_not, beq_iff_eq, bne_iff_ne, beq_eq_false_iff_ne, bne_eq_false_iff_eq, Bool.not_eq_true', Bool.not_eq_false', Bool.not_eq_true, ne_eq, Decidable.not_not] at c54
            refine PW.skip ?_
            refine hK3 _ _ ?_
            refine PW.keep (T' := [(2, _), (3, _), (4, _), (7, _)]) ⟨rfl, rfl, rfl, rfl, trivial⟩ ?_
            refine PW.seqOps ?_
            refine OL.det trivial (Yields.pure rfl) ?_
            refine OL.nil ?_
            refine PW.keep (T' := [(2, _), (3, _), (4, _), (7, _), (9, _)]) ⟨rfl, rfl, rfl, rfl, rfl, trivial⟩ ?_
            refine PW.seq fun K4 hK4 => ?_
            refine PW.seqOps ?_
            refine OL.det trivial (Yields.pure rfl) ?_
            refine OL.nil ?_
            refine PW.keep (T' := [(2, _), (3, _), (4, _), (7, _), (9, _), (10, _)]) ⟨rfl, rfl, rfl, rfl, rfl, rfl, trivial⟩ ?_
            refine PW.block ?_
            refine PW.keep (T' := [(2, _), (3, _), (4, _), (7, _), (9, _), (10, _)]) ⟨rfl, rfl, rfl, rfl, rfl, rfl, trivial⟩ ?_
            refine PW.loopK (I := fun m T S' => ∃ (k : Nat) (b : Bool), (k ≤ l.length ∧ m = l.length - k ∧ b = longF l y.1 s k) ∧ T = ([(2, .string s), (3, .pointer (some ⟨r3, 0, none⟩)), (4, .pointer (some ⟨r4, 0, none⟩)), (7, .pointer (some ⟨r7, 0, none⟩)), (9, .bool b), (10, .int .i64 k)] : TT) ∧ S' = tseg r7 R.2.1 AA R.2.2.length cA :: segA :: rseg r4 y :: tseg r3 tv A l.length c :: []) (m := l.length) ⟨0, _, ⟨by omega, by omega, by unfold longF; simp⟩, rfl, rfl⟩ ?_
            rintro m _ _ ⟨k, b, ⟨hk, hm, hbl⟩, rfl, rfl⟩
            refine PW.seq fun K5 hK5 => ?_
            refine PW.seqOps ?_
            refine OL.det trivial (Yields.pure rfl) ?_
            refine OL.det trivial (Yields.pure rfl) ?_
            refine OL.det trivial (Yields.ld rfl (own_at (j := 1) (c := [.int .i64 tv, .slice A l.length c]) (E := 45) (tot := 2) (List.mem_flatten.2 ⟨_, .tail _ (.tail _ (.tail _ (.head _))), List.mem_singleton.2 rfl⟩) rfl)) ?_
            refine OL.det trivial (Yields.pure rfl) ?_
            refine OL.det trivial (Yields.pure rfl) ?_
            refine OL.nil ?_
            refine PW.keep (T' := [(2, _), (3, _), (4, _), (7, _), (9, _), (10, _), (59, _)]) ⟨rfl, rfl, rfl, rfl, rfl, rfl, rfl, trivial⟩ ?_
            refine PW.cond rfl (fun c59 => ?_) (fun c59 => ?_)
            · try simp only [decide_eq_true_eq, decide_eq_false_iff_not, beq_iff_eq, bne_iff_ne, beq_eq_false_iff_ne, bne_eq_false_iff_eq, Bool.not_eq_true', Bool.not_eq_false', Bool.not_eq_true, ne_eq, Decidable.not_not] at c59
              have hkl : k < l.length := by omega
              obtain ⟨a0, rfl⟩ := ruls_some hx (by omega)
              have hwk := hw9 _ (List.getElem_mem hkl)
              refine PW.skip ?_
              refine hK5 _ _ ?_
              refine PW.keep (T' := [(2, _), (3, _), (4, _), (7, _), (9, _), (10, _)]) ⟨rfl, rfl, rfl, rfl, rfl, rfl, trivial⟩ ?_
              refine PW.seq fun K6 hK6 => ?_
              refine PW.block ?_
              refine PW.quietK Tryd.mixed ?_
              refine QK.det trivial (Yields.pure rfl) ?_
              refine QK.bool trivial (Yields.pure rfl) (fun g63 => ?_) (fun g63 => ?_)
              · try simp only [decide_eq_true_eq, decide_eq_false_iff_not, beq_iff_eq, bne_iff_ne, beq_eq_false_iff_ne, bne_eq_false_iff_eq, Bool.not_eq_true', Bool.not_eq_false', Bool.not_eq_true, ne_eq, Decidable.not_not] at g63
                refine QK.off rfl rfl ?_
                refine QK.off rfl rfl ?_
                refine QK.off rfl rfl ?_
                refine QK.off rfl rfl ?_
                refine QK.off rfl rfl ?_
                refine QK.off rfl rfl ?_
                refine QK.off rfl rfl ?_
                refine QK.off rfl rfl ?_
                refine QK.off rfl rfl ?_
                refine QK.off rfl rfl ?_
                refine QK.off rfl rfl ?_
                refine QK.off rfl rfl ?_
                refine QK.off rfl rfl ?_
                refine QK.off rfl rfl ?_
                refine QK.off rfl rfl ?_
                refine QK.off rfl rfl ?_
                refine QK.off rfl rfl ?_
                refine QK.off rfl rfl ?_
                refine QK.off rfl rfl ?_
                refine QK.nil ?_
                change OL _ _ _ [_, _, _, _] _ _ _
                refine OL.off rfl rfl ?_
                refine OL.off rfl rfl ?_
                refine OL.det trivial (Yields.pure rfl) ?_
                refine OL.det trivial (Yields.pure rfl) ?_
                refine OL.nil ?_
                refine hK6 _ _ ?_
                refine PW.keep (T' := [(2, _), (3, _), (4, _), (7, _), (9, _), (10, _)]) ⟨rfl, rfl, rfl, rfl, rfl, rfl, trivial⟩ ?_
                refine PW.ops ?_
                refine OL.det trivial (Yields.pure rfl) ?_
                refine OL.det trivial (Yields.add64 rfl rfl (by omega) (by omega)) ?_
                refine OL.det trivial (Yields.pure rfl) ?_
                refine OL.nil ?_
                repeat rw [inBlk_n]
                rw [thenK_n]
                refine LoopEnd.mk (T'' := [(2, _), (3, _), (4, _), (7, _), (9, _), (10, _)]) ⟨rfl, rfl, rfl, rfl, rfl, rfl, trivial⟩ ?_
                refine ⟨l.length - (k + 1), by omega, k + 1, _, ⟨by omega, rfl, ?_⟩, rfl, rfl⟩
                rw [long_succ hkl, ← hbl, g63]; rfl
              · try simp only [decide_eq_true_eq, decide_eq_false_iff_not, beq_iff_eq, bne_iff_ne, beq_eq_false_iff_ne, bne_eq_false_iff_eq, Bool.not_eq_true', Bool.not_eq_false', Bool.not_eq_true, ne_eq, Decidable.not_not] at g63
                refine QK.det rfl (Yields.pure rfl) ?_
                refine QK.det rfl (Yields.ld rfl (own_at (j := 1) (c := [.int .i64 tv, .slice (some a0) l.length c]) (E := 45) (tot := 2) (List.mem_flatten.2 ⟨_, .tail _ (.tail _ (.tail _ (.head _))), List.mem_singleton.2 rfl⟩) rfl)) ?_
                refine QK.det rfl (Yields.pure rfl) ?_
                refine QK.det rfl (Yields.ixN rfl rfl rfl (by omega)) ?_
                refine QK.det rfl (Yields.pure rfl) ?_
                refine QK.det rfl (Yields.ld rfl (rule_at (hx.mono (fun p hp => absurd hp (by simp))) hkl 0 _ rfl)) ?_
                refine QK.det rfl (Yields.pure rfl) ?_
                refine QK.det rfl (Yields.pure rfl) ?_
                refine QK.det rfl (Yields.ld rfl (own_at (j := 0) (c := ruleC y) (E := 56) (tot := 3) (List.mem_flatten.2 ⟨_, .tail _ (.tail _ (.head _)), List.mem_singleton.2 rfl⟩) rfl)) ?_
                refine QK.det rfl (Yields.pure rfl) ?_
                refine QK.det rfl (Yields.pure rfl) ?_
                refine QK.bool rfl (Yields.pure rfl) (fun g75 => ?_) (fun g75 => ?_)
                · try simp only [decide_eq_true_eq, decide_eq_false_iff_not, beq_iff_eq, bne_iff_ne, beq_eq_false_iff_ne, bne_eq_false_iff_eq, Bool.not_eq_true', Bool.not_eq_false', Bool.not_eq_true, ne_eq, Decidable.not_not] at g75
                  refine QK.det rfl (Yields.pure rfl) ?_
                  refine QK.det rfl (Yields.ld rfl (own_at (j := 1) (c := [.int .i64 tv, .slice (some a0) l.length c]) (E := 45) (tot := 2) (List.mem_flatten.2 ⟨_, .tail _ (.tail _ (.tail _ (.head _))), List.mem_singleton.2 rfl⟩) rfl)) ?_
                  refine QK.det rfl (Yields.pure rfl) ?_
                  refine QK.det rfl (Yields.ixN rfl rfl rfl (by omega)) ?_
                  refine QK.det rfl (Yields.pure rfl) ?_
                  refine QK.det rfl (Yields.ld rfl (rule_at (hx.mono (fun p hp => absurd hp (by simp))) hkl 0 _ rfl)) ?_
                  refine QK.det rfl (Yields.pure rfl) ?_
                  refine QK.nil ?_
                  change OL _ _ _ [_, _, _, _] _ _ _
                  refine OL.call rfl rfl (over_fc hwk hs9) ?_
                  rintro _ Sx ⟨rfl, hSx⟩
                  rw [hSx]
                  clear hSx
                  refine OL.det rfl (Yields.pure rfl) ?_
                  refine OL.det trivial (Yields.pure rfl) ?_
                  refine OL.det trivial (Yields.pure rfl) ?_
                  refine OL.nil ?_
                  refine hK6 _ _ ?_
                  refine PW.keep (T' := [(2, _), (3, _), (4, _), (7, _), (9, _), (10, _)]) ⟨rfl, rfl, rfl, rfl, rfl, rfl, trivial⟩ ?_
                  refine PW.ops ?_
                  refine OL.det trivial (Yields.pure rfl) ?_
                  refine OL.det trivial (Yields.add64 rfl rfl (by omega) (by omega)) ?_
                  refine OL.det trivial (Yields.pure rfl) ?_
                  refine OL.nil ?_
                  repeat rw [inBlk_n]
                  rw [thenK_n]
                  refine LoopEnd.mk (T'' := [(2, _), (3, _), (4, _), (7, _), (9, _), (10, _)]) ⟨rfl, rfl, rfl, rfl, rfl, rfl, trivial⟩ ?_
                  refine ⟨l.length - (k + 1), by omega, k + 1, _, ⟨by omega, rfl, ?_⟩, rfl, rfl⟩
                  rw [long_succ hkl, ← hbl, g63, decide_eq_true (by omega)]; rfl
                · try simp only [decide_eq_true_eq, decide_eq_false_iff_not, beq_iff_eq, bne_iff_ne, beq_eq_false_iff_ne, bne_eq_false_iff_eq, Bool.not_eq_true', Bool.not_eq_false', Bool.not_eq_true, ne_eq, Decidable.not_not] at g75
                  refine QK.off rfl rfl ?_
                  refine QK.off rfl rfl ?_
                  refine QK.off rfl rfl ?_
                  refine QK.off rfl rfl ?_
                  refine QK.off rfl rfl ?_
                  refine QK.off rfl rfl ?_
                  refine QK.off rfl rfl ?_
                  refine QK.nil ?_
                  change OL _ _ _ [_, _, _, _] _ _ _
                  refine OL.off rfl rfl ?_
                  refine OL.det rfl (Yields.pure rfl) ?_
                  refine OL.det trivial (Yields.pure rfl) ?_
                  refine OL.det trivial (Yields.pure rfl) ?_
                  refine OL.nil ?_
                  refine hK6 _ _ ?_
                  refine PW.keep (T' := [(2, _), (3, _), (4, _), (7, _), (9, _), (10, _)]) ⟨rfl, rfl, rfl, rfl, rfl, rfl, trivial⟩ ?_
                  refine PW.ops ?_
                  refine OL.det trivial (Yields.pure rfl) ?_
                  refine OL.det trivial (Yields.add64 rfl rfl (by omega) (by omega)) ?_
                  refine OL.det trivial (Yields.pure rfl) ?_
                  refine OL.nil ?_
                  repeat rw [inBlk_n]
                  rw [thenK_n]
                  refine LoopEnd.mk (T'' := [(2, _), (3, _), (4, _), (7, _), (9, _), (10, _)]) ⟨rfl, rfl, rfl, rfl, rfl, rfl, trivial⟩ ?_
                  refine ⟨l.length - (k + 1), by omega, k + 1, _, ⟨by omega, rfl, ?_⟩, rfl, rfl⟩
                  rw [long_succ hkl, ← hbl, g63, decide_eq_false (by omega)]; rfl
            · try simp only [decide_eq_true_eq, decide_eq_false_iff_not, beq_iff_eq, bne_iff_ne, beq_eq_false_iff_ne, bne_eq_false_iff_eq, Bool.not_eq_true', Bool.not_eq_false', Bool.not_eq_true, ne_eq, Decidable.not_not] at c59
              obtain rfl : k = l.length := by omega
              refine PW.exit ?_
              refine hK4 _ _ ?_
              refine PW.keep (T' := [(2, _), (3, _), (4, _), (7, _), (9, _)]) ⟨rfl, rfl, rfl, rfl, rfl, trivial⟩ ?_
              refine PW.seq fun K7 hK7 => ?_
              refine PW.seqOps ?_
              refine OL.det trivial (Yields.pure rfl) ?_
              refine OL.det trivial (Yields.ld rfl (own_at (j := 0) (c := ruleC y) (E := 56) (tot := 3) (List.mem_flatten.2 ⟨_, .tail _ (.tail _ (.head _)), List.mem_singleton.2 rfl⟩) rfl)) ?_
              refine OL.det trivial (Yields.pure rfl) ?_
              refine OL.call trivial rfl (over_fc hy9 hs9) ?_
              rintro _ Sx ⟨rfl, hSx⟩
              rw [hSx]
              clear hSx
              refine OL.bool trivial (Yields.pure rfl) (fun g90 => ?_) (fun g90 => ?_)
              · try simp only [decide_eq_true_eq, decide_eq_false_iff_not, beq_iff_eq, bne_iff_ne, beq_eq_false_iff_ne, bne_eq_false_iff_eq, Bool.not_eq_true', Bool.not_eq_false', Bool.not_eq_true, ne_eq, Decidable.not_not] at g90
                refine OL.det rfl (Yields.pure rfl) ?_
                refine OL.det rfl (Yields.pure rfl) ?_
                refine OL.det trivial (Yields.pure rfl) ?_
                refine OL.nil ?_
                refine PW.keep (T' := [(2, _), (3, _), (4, _), (7, _), (93, _)]) ⟨rfl, rfl, rfl, rfl, rfl, trivial⟩ ?_
                refine PW.cond rfl (fun c93 => ?_) (fun c93 => ?_)
                · try simp only [decide_eq_true_eq, decide_eq_false_iff_not, beq_iff_eq, bne_iff_ne, beq_eq_false_iff_ne, bne_eq_false_iff_eq, Bool.not_eq_true', Bool.not_eq_false', Bool.not_eq_true, ne_eq, Decidable.not_not] at c93
                  have hfin : findP R.2.2 s = y.2 := just_mine J g90 (by rw [← hbl]; simpa using c93)
                  refine PW.seq fun K8 hK8 => ?_
                  refine PW.quietK Tryd.mixed ?_
                  refine QK.det trivial (Yields.ldA rfl (cs := [.int .i64 R.2.1, .slice AA R.2.2.length cA]) rfl (tab_at (tv := R.2.1) (A := AA) (n := R.2.2.length) (c := cA) (r := r7) (List.mem_flatten.2 ⟨_, .head _, List.mem_singleton.2 rfl⟩))) ?_
                  refine QK.det trivial (Yields.pure rfl) ?_
                  refine QK.call trivial rfl (find_fc (hrdA _).cons (just_size J hw9 hy9) hs9 (by omega)) ?_
                  refine QK.det trivial (Yields.pure rfl) ?_
                  refine QK.det trivial (Yields.ldA rfl rfl (rl4_at (List.mem_flatten.2 ⟨_, .tail _ (.tail _ (.head _)), List.mem_singleton.2 rfl⟩))) ?_
                  refine QK.nil ?_
                  change OL _ _ _ [_, _, _, _, _] _ _ _
                  refine OL.det trivial (Yields.eqA rfl rfl (eq_lab (findP R.2.2 s) y.2)) ?_
                  refine OL.bool trivial (Yields.pure rfl) (fun g100 => ?_) (fun g100 => ?_)
                  · try simp only [decide_eq_true_eq, decide_eq_false_iff_not, beq_iff_eq, bne_iff_ne, beq_eq_false_iff_ne, bne_eq_false_iff_eq, Bool.not_eq_true', Bool.not_eq_false', Bool.not_eq_true, ne_eq, Decidable.not_not] at g100
                    refine OL.call rfl rfl (rawake_fc) ?_
                    rintro _ _ ⟨rfl, _⟩
                    refine OL.det trivial (Yields.pure rfl) ?_
                    refine OL.det trivial (Yields.pure rfl) ?_
                    refine OL.nil ?_
                    refine hK8 _ _ ?_
                    refine PW.keep (T' := [(6, _)]) ⟨rfl, trivial⟩ ?_
                    refine PW.ret ?_
                    change (Exit.ret = Exit.normal ∨ Exit.ret = Exit.ret) ∧ ∃ v, resV _ _ = some v ∧ _
                    exact ⟨.inr rfl, _, rfl, rfl⟩
                  · try simp only [decide_eq_true_eq, decide_eq_false_iff_not, beq_iff_eq, bne_iff_ne, beq_eq_false_iff_ne, bne_eq_false_iff_eq, Bool.not_eq_true', Bool.not_eq_false', Bool.not_eq_true, ne_eq, Decidable.not_not] at g100
                    simp [hfin] at g100
                    -- done
                · try simp only [decide_eq_true_eq, decide_eq_false_iff_not, beq_iff_eq, bne_iff_ne, beq_eq_false_iff_ne, bne_eq_false_iff_eq, Bool.not_eq_true', Bool.not_eq_false', Bool.not_eq_true, ne_eq, Decidable.not_not] at c93
                  have hfin : findP R.2.2 s = findP l s := just_keep J (fun h => by rw [← hbl] at h; rw [h.2] at c93; simp at c93)
                  refine PW.skip ?_
                  refine hK7 _ _ ?_
                  refine PW.keep (T' := [(2, _), (3, _), (7, _)]) ⟨rfl, rfl, rfl, trivial⟩ ?_
                  refine PW.seq fun K9 hK9 => ?_
                  refine PW.quietK Tryd.mixed ?_
                  refine QK.det trivial (Yields.ldA rfl (cs := [.int .i64 R.2.1, .slice AA R.2.2.length cA]) rfl (tab_at (tv := R.2.1) (A := AA) (n := R.2.2.length) (c := cA) (r := r7) (List.mem_flatten.2 ⟨_, .head _, List.mem_singleton.2 rfl⟩))) ?_
                  refine QK.det trivial (Yields.pure rfl) ?_
                  refine QK.call trivial rfl (find_fc (hrdA _).cons (just_size J hw9 hy9) hs9 (by omega)) ?_
                  refine QK.det trivial (Yields.ldA rfl (cs := [.int .i64 tv, .slice A l.length c]) rfl (tab_at (tv := tv) (A := A) (n := l.length) (c := c) (r := r3) (List.mem_flatten.2 ⟨_, .tail _ (.tail _ (.tail _ (.head _))), List.mem_singleton.2 rfl⟩))) ?_
                  refine QK.det trivial (Yields.pure rfl) ?_
                  refine QK.nil ?_
                  change OL _ _ _ [_, _, _, _, _, _] _ _ _
                  refine OL.call trivial rfl (find_fc (hx.mono (fun p hp => absurd hp (by simp))) hw9 hs9 hl9) ?_
                  rintro _ Sx ⟨rfl, hSx⟩
                  rw [hSx]
                  clear hSx
                  refine OL.det trivial (Yields.eqA rfl rfl (eq_lab (findP R.2.2 s) (findP l s))) ?_
                  refine OL.bool trivial (Yields.pure rfl) (fun g110 => ?_) (fun g110 => ?_)
                  · try simp only [decide_eq_true_eq, decide_eq_false_iff_not, beq_iff_eq, bne_iff_ne, beq_eq_false_iff_ne, bne_eq_false_iff_eq, Bool.not_eq_true', Bool.not_eq_false', Bool.not_eq_true, ne_eq, Decidable.not_not] at g110
                    refine OL.call rfl rfl (rawake_fc) ?_
                    rintro _ _ ⟨rfl, _⟩
                    refine OL.det trivial (Yields.pure rfl) ?_
                    refine OL.det trivial (Yields.pure rfl) ?_
                    refine OL.nil ?_
                    refine hK9 _ _ ?_
                    refine PW.keep (T' := [(6, _)]) ⟨rfl, trivial⟩ ?_
                    refine PW.ret ?_
                    change (Exit.ret = Exit.normal ∨ Exit.ret = Exit.ret) ∧ ∃ v, resV _ _ = some v ∧ _
                    exact ⟨.inr rfl, _, rfl, rfl⟩
                  · try simp only [decide_eq_true_eq, decide_eq_false_iff_not, beq_iff_eq, bne_iff_ne, beq_eq_false_iff_ne, bne_eq_false_iff_eq, Bool.not_eq_true', Bool.not_eq_false', Bool.not_eq_true, ne_eq, Decidable.not_not] at g110
                    simp [hfin] at g110
                    -- done
              · try simp only [decide_eq_true_eq, decide_eq_false_iff_not, beq_iff_eq, bne_iff_ne, beq_eq_false_iff_ne, bne_eq_false_iff_eq, Bool.not_eq_true', Bool.not_eq_false', Bool.not_eq_true, ne_eq, Decidable.not_not] at g90
                have hfin : findP R.2.2 s = findP l s := just_keep J (fun h => by rw [h.1] at g90; cases g90)
                refine OL.off rfl rfl ?_
                refine OL.off rfl rfl ?_
                refine OL.det trivial (Yields.pure rfl) ?_
                refine OL.nil ?_
                refine PW.keep (T' := [(2, _), (3, _), (4, _), (7, _), (93, _)]) ⟨rfl, rfl, rfl, rfl, rfl, trivial⟩ ?_
                refine PW.ite (b := false) rfl ?_
                rw [if_neg Bool.false_ne_true]
                refine PW.skip ?_
                refine hK7 _ _ ?_
                refine PW.keep (T' := [(2, _), (3, _), (7, _)]) ⟨rfl, rfl, rfl, trivial⟩ ?_
                refine PW.seq fun K10 hK10 => ?_
                refine PW.quietK Tryd.mixed ?_
                refine QK.det trivial (Yields.ldA rfl (cs := [.int .i64 R.2.1, .slice AA R.2.2.length cA]) rfl (tab_at (tv := R.2.1) (A := AA) (n := R.2.2.length) (c := cA) (r := r7) (List.mem_flatten.2 ⟨_, .head _, List.mem_singleton.2 rfl⟩))) ?_
                refine QK.det trivial (Yields.pure rfl) ?_
                refine QK.call trivial rfl (find_fc (hrdA _).cons (just_size J hw9 hy9) hs9 (by omega)) ?_
                refine QK.det trivial (Yields.ldA rfl (cs := [.int .i64 tv, .slice A l.length c]) rfl (tab_at (tv := tv) (A := A) (n := l.length) (c := c) (r := r3) (List.mem_flatten.2 ⟨_, .tail _ (.tail _ (.tail _ (.head _))), List.mem_singleton.2 rfl⟩))) ?_
                refine QK.det trivial (Yields.pure rfl) ?_
                refine QK.nil ?_
                change OL _ _ _ [_, _, _, _, _, _] _ _ _
                refine OL.call trivial rfl (find_fc (hx.mono (fun p hp => absurd hp (by simp))) hw9 hs9 hl9) ?_
                rintro _ Sx ⟨rfl, hSx⟩
                rw [hSx]
                clear hSx
                refine OL.det trivial (Yields.eqA rfl rfl (eq_lab (findP R.2.2 s) (findP l s))) ?_
                refine OL.bool trivial (Yields.pure rfl) (fun g110 => ?_) (fun g110 => ?_)
                · try simp only [decide_eq_true_eq, decide_eq_false_iff_not, beq_iff_eq, bne_iff_ne, beq_eq_false_iff_ne, bne_eq_false_iff_eq, Bool.not_eq_true', Bool.not_eq_false', Bool.not_eq_true, ne_eq, Decidable.not_not] at g110
                  refine OL.call rfl rfl (rawake_fc) ?_
                  rintro _ _ ⟨rfl, _⟩
                  refine OL.det trivial (Yields.pure rfl) ?_
                  refine OL.det trivial (Yields.pure rfl) ?_
                  refine OL.nil ?_
                  refine hK10 _ _ ?_
                  refine PW.keep (T' := [(6, _)]) ⟨rfl, trivial⟩ ?_
                  refine PW.ret ?_
                  change (Exit.ret = Exit.normal ∨ Exit.ret = Exit.ret) ∧ ∃ v, resV _ _ = some v ∧ _
                  exact ⟨.inr rfl, _, rfl, rfl⟩
                · try simp only [decide_eq_true_eq, decide_eq_false_iff_not, beq_iff_eq, bne_iff_ne, beq_eq_false_iff_ne, bne_eq_false_iff_eq, Bool.not_eq_true', Bool.not_eq_false', Bool.not_eq_true, ne_eq, Decidable.not_not] at g110
                  simp [hfin] at g110
                  -- done
end Go.Proofs.Rl
