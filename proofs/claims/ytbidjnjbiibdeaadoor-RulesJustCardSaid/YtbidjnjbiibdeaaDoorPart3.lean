/- Walks and plain facts for the laws of this seat: what each function answers, for every input. -/
import Derived.Test.YtbidjnjbiibdeaaDoorPart2
import Derived.Test.YtbidjnjbiibdeaaDoorProg
import Derived.Laws.Externs
import Derived.Laws.Strings
import Derived.Laws.RangeAny
import Derived.Laws.RangeString
import Derived.Lib.Bytealg
import Derived.Lib.IndexLaws

set_option linter.unusedVariables false
set_option linter.unusedSimpArgs false
namespace Go.SL
open Go.RowKit
section
variable {P : Program} {w0 : World} {n : Nat} {T : TT} {S : SS}
abbrev HL := List (Nat × PI × TT)
/-- operations that turn nothing, in whichever of some states; the others are told with what is known ahead of them -/
inductive QM (P : Program) (w0 : World) (n : Nat) (Ss : SS → Prop) : Nat → List PI → TT → TT → List Value → HL → Prop
  | nil {i : Nat} {T : TT} : QM P w0 n Ss i [] T T [] []
  | step {i : Nat} {T T' : TT} {d : Option Nat} {g : Option (Nat × Bool)} {po : PO} {v : Value} {r : List PI} {vs : List Value} {hs : HL} (hg : gOk T g) (h : ∀ S, Ss S → OW P w0 n po T S (fun v' S' => v' = v ∧ S' = S)) (k : QM P w0 n Ss (i + 1) r (put d v T) T' vs hs) : QM P w0 n Ss i (⟨d, g, po⟩ :: r) T T' (v :: vs) hs
  | off {i : Nat} {T T' : TT} {d : Option Nat} {s : Nat} {b : Bool} {u : Value} {po : PO} {r : List PI} {vs : List Value} {hs : HL} (hl : look T s = some u) (hc : (boolOf u == some b) = false) (k : QM P w0 n Ss (i + 1) r (put d undef T) T' vs hs) : QM P w0 n Ss i (⟨d, some (s, b), po⟩ :: r) T T' (undef :: vs) hs
  | hole {i : Nat} {T T' : TT} {c : PI} {r : List PI} {vs : List Value} {hs : HL} (k : QM P w0 n Ss (i + 1) r (SL.del c.d T) T' vs hs) : QM P w0 n Ss i (c :: r) T T' (undef :: vs) ((i, c, T) :: hs)
theorem QM.lt {Ss : SS → Prop} {l : List PI} {T T' : TT} {vals : List Value} {hs : HL} {s : Nat} (h : QM P w0 n Ss s l T T' vals hs) : vals.length = l.length ∧ (∀ x ∈ hs, s ≤ x.1 ∧ x.1 < s + l.length ∧ l[x.1 - s]? = some x.2.1) ∧ (hs.map (·.1)).Pairwise (· < ·) := by
  induction h with
  | nil => simp
  | @step i T T' d g po v r vs hs hg h k ih =>
    obtain ⟨h1, h2, h3⟩ := ih
    refine ⟨by simp [h1], fun x hx => ?_, h3⟩
    obtain ⟨a, b, c⟩ := h2 x hx
    refine ⟨by omega, by simp only [List.length_cons]; omega, ?_⟩
    rw [show x.1 - i = (x.1 - (i + 1)) + 1 by omega, List.getElem?_cons_succ]; exact c
  | @off i T T' d s b u po r vs hs hl hc k ih =>
    obtain ⟨h1, h2, h3⟩ := ih
    refine ⟨by simp [h1], fun x hx => ?_, h3⟩
    obtain ⟨a, b, c⟩ := h2 x hx
    refine ⟨by omega, by simp only [List.length_cons]; omega, ?_⟩
    rw [show x.1 - i = (x.1 - (i + 1)) + 1 by omega, List.getElem?_cons_succ]; exact c
  | @hole i T T' c r vs hs k ih =>
    obtain ⟨h1, h2, h3⟩ := ih
    refine ⟨by simp [h1], fun x hx => ?_, ?_⟩
    · rcases List.mem_cons.1 hx with rfl | hx
      · exact ⟨Nat.le_refl _, by simp, by simp⟩
      · obtain ⟨a, b, c⟩ := h2 x hx
        refine ⟨by omega, by simp only [List.length_cons]; omega, ?_⟩
        rw [show x.1 - i = (x.1 - (i + 1)) + 1 by omega, List.getElem?_cons_succ]; exact c
    · rw [List.map_cons, List.pairwise_cons]
      refine ⟨fun y hy => ?_, h3⟩
      obtain ⟨x, hx, rfl⟩ := List.mem_map.1 hy
      have := (h2 x hx).1
      show i < x.1
      omega
/-- the operation at i is the j-th of those that turn something -/
def hIdx (hs : HL) (i : Nat) : Option Nat := hs.findIdx? fun x => x.1 == i
def vsH (hs : HL) (vals us : List Value) (s i : Nat) : Value := match hIdx hs i with | some j => us.getD j undef | none => vals.getD (i - s) undef
theorem QM.trace {ops : Array Oper} {Ss : SS → Prop} {l : List PI} {T T' : TT} {vals : List Value} {hs : HL} {s : Nat} (h : QM P w0 n Ss s l T T' vals hs) : ∀ (vs : Nat → Value), (∀ j, j < l.length → (∀ x ∈ hs, x.1 ≠ s + j) → vs (s + j) = vals.getD j undef) → ∀ a, cIs P n ops (List.range' s l.length) = some l → Sat n T a →
    Sat n T' (runA ops vs s l.length a) ∧ (∀ j, j < l.length → (∀ x ∈ hs, x.1 ≠ s + j) → ∀ S, Ss S → GivesAt P w0 S ops (s + j) (vals.getD j undef) (runA ops vs s j a)) ∧
      (∀ x ∈ hs, Sat n x.2.2 (runA ops vs s (x.1 - s) a)) ∧ (∀ j o, j < l.length → ops[s + j]? = some o → dstOk n o.dst = true) ∧ (∀ j, j < l.length → ∀ x, l[j]? = some x → x.d = dstAt ops (s + j)) := by
  have shift : ∀ (vs : Nat → Value) (s m : Nat) (a : Act) (o : Oper), ops[s]? = some o → runA ops vs s (m + 1) a = runA ops vs (s + 1) m (a.put o.dst (vs s)) := by
    intro vs s m a o ho
    have hda : dstAt ops s = o.dst := by simp [dstAt, ho]
    unfold runA
    rw [List.range'_succ, List.foldl_cons, hda]
  induction h with
  | nil => intro vs _ a _ hs; exact ⟨by simpa [runA] using hs, fun j hj => by simp at hj, fun x hx => (by cases hx), fun j o hj => by simp at hj, fun j hj => by simp at hj⟩
  | @step s T T' d g po v r vals hs hg h k ih =>
    intro vs hv a hc hsat
    simp only [List.length_cons, List.range'_succ] at hc
    obtain ⟨i, is, he, hi, hrest⟩ := cIs_cons hc
    simp only [List.cons.injEq] at he
    obtain ⟨rfl, rfl⟩ := he
    obtain ⟨o, ho, hpo, hd, hdst, hgd⟩ := cI_spec hi
    simp only at hpo hdst
    subst hdst
    have hlt := k.lt.2.1
    have hv0 : vs s = v := by
      have := hv 0 (by simp) (fun x hx => by have := (hlt x hx).1; omega)
      simpa using this
    obtain ⟨h1, h2, h5, h3, h4⟩ := ih vs (fun j hj hx => by
      have := hv (j + 1) (by simpa using hj) (fun x hm => by have := hx x hm; omega)
      rw [List.getD_cons_succ] at this
      rw [show s + 1 + j = s + (j + 1) by omega]
      exact this) (a.put o.dst v) hrest (hsat.put hd v)
    refine ⟨by rw [List.length_cons, shift vs s _ a o ho, hv0]; exact h1, ?_, ?_, ?_, ?_⟩
    · intro j hj hnx S hS
      cases j with
      | zero =>
        intro o' ho'
        obtain rfl : o = o' := by rw [Nat.add_zero, ho] at ho'; exact Option.some.inj ho'
        left
        simp only [runA, List.range'_zero, List.foldl_nil, List.getD_cons_zero]
        refine ⟨?_, fun w hr => ?_⟩
        · rcases hgd with ⟨hgd, _⟩ | ⟨j, b, s', hgd, hjj, he⟩
          · simp [Region.wanted, hgd]
          · simp only at he
            subst he
            simp [Region.wanted, hgd, hsat.yielded hjj hg]
        · refine Oper.wp_mono ?_ (h S hS o a w _ hpo hsat hr)
          rintro b w' ⟨v', S', rfl, hr', rfl, rfl⟩
          exact ⟨rfl, hr'⟩
      | succ j =>
        rw [shift vs s _ a o ho, hv0, List.getD_cons_succ]
        have := h2 j (by simpa using hj) (fun x hx => by have := hnx x hx; omega) S hS
        rwa [show s + 1 + j = s + (j + 1) by omega] at this
    · intro x hx
      have := (hlt x hx).1
      have h6 := h5 x hx
      rw [show x.1 - s = (x.1 - (s + 1)) + 1 by omega, shift vs s _ a o ho, hv0]
      exact h6
    · intro j o' hj ho'
      cases j with
      | zero => obtain rfl : o = o' := by rw [Nat.add_zero, ho] at ho'; exact Option.some.inj ho'
                exact hd
      | succ j => exact h3 j o' (by simpa using hj) (by rwa [show s + 1 + j = s + (j + 1) by omega])
    · intro j hj x hx
      cases j with
      | zero => simp at hx; subst hx; simp [dstAt, ho]
      | succ j => have := h4 j (by simpa using hj) x (by simpa using hx); rwa [show s + 1 + j = s + (j + 1) by omega] at this
  | @off s T T' d sl b u po r vals hs hl hcb k ih =>
    intro vs hv a hc hsat
    simp only [List.length_cons, List.range'_succ] at hc
    obtain ⟨i, is, he, hi, hrest⟩ := cIs_cons hc
    simp only [List.cons.injEq] at he
    obtain ⟨rfl, rfl⟩ := he
    obtain ⟨o, ho, hpo, hd, hdst, hgd⟩ := cI_spec hi
    simp only at hpo hdst
    subst hdst
    have hlt := k.lt.2.1
    have hv0 : vs s = undef := by
      have := hv 0 (by simp) (fun x hx => by have := (hlt x hx).1; omega)
      simpa using this
    obtain ⟨h1, h2, h5, h3, h4⟩ := ih vs (fun j hj hx => by
      have := hv (j + 1) (by simpa using hj) (fun x hm => by have := hx x hm; omega)
      rw [List.getD_cons_succ] at this
      rw [show s + 1 + j = s + (j + 1) by omega]
      exact this) (a.put o.dst undef) hrest (hsat.put hd undef)
    refine ⟨by rw [List.length_cons, shift vs s _ a o ho, hv0]; exact h1, ?_, ?_, ?_, ?_⟩
    · intro j hj hnx S hS
      cases j with
      | zero =>
        intro o' ho'
        obtain rfl : o = o' := by rw [Nat.add_zero, ho] at ho'; exact Option.some.inj ho'
        right
        refine ⟨?_, by simp⟩
        simp only [runA, List.range'_zero, List.foldl_nil]
        rcases hgd with ⟨_, hgd⟩ | ⟨j, b', s', hgd, hjj, he⟩
        · simp at hgd
        · simp only [Option.some.injEq, Prod.mk.injEq] at he
          obtain ⟨rfl, rfl⟩ := he
          simp only [Region.wanted, hgd, hsat.yieldedV hjj hl]; exact hcb
      | succ j =>
        rw [shift vs s _ a o ho, hv0, List.getD_cons_succ]
        have := h2 j (by simpa using hj) (fun x hx => by have := hnx x hx; omega) S hS
        rwa [show s + 1 + j = s + (j + 1) by omega] at this
    · intro x hx
      have := (hlt x hx).1
      have h6 := h5 x hx
      rw [show x.1 - s = (x.1 - (s + 1)) + 1 by omega, shift vs s _ a o ho, hv0]
      exact h6
    · intro j o' hj ho'
      cases j with
      | zero => obtain rfl : o = o' := by rw [Nat.add_zero, ho] at ho'; exact Option.some.inj ho'
                exact hd
      | succ j => exact h3 j o' (by simpa using hj) (by rwa [show s + 1 + j = s + (j + 1) by omega])
    · intro j hj x hx
      cases j with
      | zero => simp at hx; subst hx; simp [dstAt, ho]
      | succ j => have := h4 j (by simpa using hj) x (by simpa using hx); rwa [show s + 1 + j = s + (j + 1) by omega] at this
  | @hole s T T' c r vals hs k ih =>
    intro vs hv a hc hsat
    simp only [List.length_cons, List.range'_succ] at hc
    obtain ⟨i, is, he, hi, hrest⟩ := cIs_cons hc
    simp only [List.cons.injEq] at he
    obtain ⟨rfl, rfl⟩ := he
    obtain ⟨o, ho, hpo, hd, hdst, hgd⟩ := cI_spec hi
    have hlt := k.lt.2.1
    obtain ⟨h1, h2, h5, h3, h4⟩ := ih vs (fun j hj hx => by
      have := hv (j + 1) (by simpa using hj) (fun x hm => by
        rcases List.mem_cons.1 hm with rfl | hm
        · show s ≠ s + (j + 1); omega
        · have := hx x hm; omega)
      rw [List.getD_cons_succ] at this
      rw [show s + 1 + j = s + (j + 1) by omega]
      exact this) (a.put o.dst (vs s)) hrest (by rw [hdst]; exact hsat.del (vs s))
    refine ⟨by rw [List.length_cons, shift vs s _ a o ho]; exact h1, ?_, ?_, ?_, ?_⟩
    · intro j hj hnx S hS
      cases j with
      | zero => exact absurd (Nat.add_zero s).symm (hnx _ (List.mem_cons_self ..))
      | succ j =>
        rw [shift vs s _ a o ho, List.getD_cons_succ]
        have := h2 j (by simpa using hj) (fun x hx => by have := hnx x (List.mem_cons_of_mem _ hx); omega) S hS
        rwa [show s + 1 + j = s + (j + 1) by omega] at this
    · intro x hx
      rcases List.mem_cons.1 hx with rfl | hx
      · simp only [Nat.sub_self, runA, List.range'_zero, List.foldl_nil]; exact hsat
      · have := (hlt x hx).1
        have h6 := h5 x hx
        rw [show x.1 - s = (x.1 - (s + 1)) + 1 by omega, shift vs s _ a o ho]
        exact h6
    · intro j o' hj ho'
      cases j with
      | zero => obtain rfl : o = o' := by rw [Nat.add_zero, ho] at ho'; exact Option.some.inj ho'
                exact hd
      | succ j => exact h3 j o' (by simpa using hj) (by rwa [show s + 1 + j = s + (j + 1) by omega])
    · intro j hj x hx
      cases j with
      | zero => simp at hx; subst hx; rw [← hdst]; simp [dstAt, ho]
      | succ j => have := h4 j (by simpa using hj) x (by simpa using hx); rwa [show s + 1 + j = s + (j + 1) by omega] at this
/-- those that turn something, one behind the other -/
def LCh (P : Program) (w0 : World) (n : Nat) (Ss : SS → Prop) (post : TT → SS → Prop) : HL → TT → SS → Prop
  | [], Tl, S => post Tl S
  | x :: r, Tl, S => x.2.1.g = none ∧ OW P w0 n x.2.1.o (Tl ++ x.2.2) S (fun v S' => Ss S' ∧ LCh P w0 n Ss post r (put x.2.1.d v Tl) S')
/-- no other operation of the head writes where one that turns something writes -/
def distB (l : List PI) (hs : HL) : Bool := hs.all fun x => match x.2.1.d with
  | none => true
  | some d => (List.range l.length).all fun j => Nat.beq j x.1 || match l[j]? with | some y => !(y.d == some d) | none => true
def noMovB (hs : HL) : Bool := hs.all fun x => match x.2.1.o with | .mov _ => false | _ => true
def ordB (b : List Nat) : HL → Bool
  | [] => true
  | x :: r => (r.all fun y => Nat.beq (b.getD y.1 0 / 2 ^ x.1 % 2) 1) && ordB b r
theorem look_app (A B : TT) (i : Nat) : look (A ++ B) i = match look A i with | some v => some v | none => look B i := by
  induction A with
  | nil => rfl
  | cons p A ih =>
    obtain ⟨j, v⟩ := p
    by_cases h : j = i
    · subst h; rw [List.cons_append, look_put_same, look_put_same]
    · rw [List.cons_append, look_cons_ne _ _ h, look_cons_ne _ _ h]; exact ih
theorem cIs_pos {ops : Array Oper} {l : List PI} {k i : Nat} {x : PI} (h : cIs P n ops (List.range' 0 k) = some l) (hi : i < k) (hx : l[i]? = some x) : ∃ o, ops[i]? = some o ∧ cOp P o = some x.o ∧ o.dst = x.d ∧ ((o.guard = none ∧ x.g = none) ∨ ∃ j b s, o.guard = some (j, b) ∧ (ops[j]?).bind (·.dst) = some s ∧ x.g = some (s, b)) := by
  have hl := cIs_length h
  rw [List.length_range'] at hl
  have hsplit : List.range' 0 k = List.range' 0 i ++ List.range' i (k - i) := by
    have := List.range'_append (s := 0) (m := i) (n := k - i) (step := 1)
    simp only [Nat.one_mul, Nat.zero_add] at this
    rw [this]; congr 1; omega
  rw [hsplit] at h
  obtain ⟨h1, h2⟩ := cIs_append h
  simp only [List.length_range'] at h2
  have hd : l.drop i = x :: l.drop (i + 1) := by
    have hlt : i < l.length := (List.getElem?_eq_some_iff.1 hx).1
    rw [List.drop_eq_getElem_cons hlt]
    congr 1
    exact (List.getElem?_eq_some_iff.1 hx).2
  have hr : List.range' i (k - i) = i :: List.range' (i + 1) (k - i - 1) := by
    obtain ⟨m, hm⟩ : ∃ m, k - i = m + 1 := ⟨k - i - 1, by omega⟩
    rw [hm, List.range'_succ]; rfl
  rw [hd, hr] at h2
  obtain ⟨i', is, he, hi', _⟩ := cIs_cons h2
  simp only [List.cons.injEq] at he
  obtain ⟨rfl, rfl⟩ := he
  obtain ⟨o, ho, hpo, hdok, hdst, hgd⟩ := cI_spec hi'
  exact ⟨o, ho, hpo, hdst, hgd⟩
theorem hIdx_some {hs : HL} (hp : (hs.map (·.1)).Pairwise (· < ·)) {j : Nat} {x : Nat × PI × TT} (h : hs[j]? = some x) : hIdx hs x.1 = some j := by
  unfold hIdx
  rw [List.findIdx?_eq_some_iff_getElem]
  obtain ⟨hj, hx⟩ := List.getElem?_eq_some_iff.1 h
  refine ⟨hj, by simp [hx], fun i hi => ?_⟩
  have hil : i < hs.length := by omega
  have := List.pairwise_iff_getElem.1 hp i j (by simpa using hil) (by simpa using hj) hi
  simp only [List.getElem_map, hx] at this
  have : hs[i].1 ≠ x.1 := by omega
  simp [this]
theorem hIdx_none {hs : HL} {i : Nat} (h : ∀ x ∈ hs, x.1 ≠ i) : hIdx hs i = none := by
  unfold hIdx
  rw [List.findIdx?_eq_none_iff]
  intro x hx
  have := h x hx
  simp [this]
structure Phs (P : Program) (w0 : World) (n : Nat) (Ss : SS → Prop) (post : TT → SS → Prop) (hs0 : HL) (vals : List Value) (lst : Nat → Bool) (u : List Value) (Sx : SS) (Tl : TT) (c : Nat) : Prop where
  le : c ≤ hs0.length
  len : u.length = c
  lst : ∀ j x, hs0[j]? = some x → (lst x.1 = true ↔ j < c)
  ch : LCh P w0 n Ss post (hs0.drop c) Tl Sx
  ss : Ss Sx
  tl : ∀ d v, look Tl d = some v → ∃ j x, j < c ∧ hs0[j]? = some x ∧ x.2.1.d = some d ∧ v = vsH hs0 vals u 0 x.1
theorem runA_slot {ops : Array Oper} {vs : Nat → Value} {p d k : Nat} {a : Act} (hd : dstAt ops p = some d) (hdn : d < a.tmps.size) (hoth : ∀ j, j < k → j ≠ p → dstAt ops j ≠ some d) : ∀ m, p < m → m ≤ k → (runA ops vs 0 m a).tmps[d]? = some (vs p)
  | 0, h, _ => by omega
  | m + 1, h, hk => by
    have e2 : runA ops vs 0 (m + 1) a = (runA ops vs 0 m a).put (dstAt ops m) (vs m) := by simp [runA, List.range'_concat]
    have hsz : (runA ops vs 0 m a).tmps.size = a.tmps.size := by rw [← foldF_runA ops vs m m a (Nat.le_refl _)]; exact (foldF_size ops vs _ m a).1
    rw [e2]
    by_cases e : m = p
    · subst e
      rw [hd]
      simp [Act.put, hsz, hdn]
    · have ih := runA_slot (vs := vs) (a := a) hd hdn hoth m (by omega) (by omega)
      have hne := hoth m (by omega) e
      cases hx : dstAt ops m with
      | none => simpa [Act.put] using ih
      | some y =>
        have : y ≠ d := fun e => hne (by rw [hx, e])
        simp only [Act.put]
        rw [Array.getElem?_setIfInBounds_ne this]
        exact ih
theorem distB_spec {l : List PI} {hs : HL} (h : distB l hs = true) {x : Nat × PI × TT} (hx : x ∈ hs) {d : Nat} (hd : x.2.1.d = some d) {j : Nat} (hj : j < l.length) (hne : j ≠ x.1) {y : PI} (hy : l[j]? = some y) : y.d ≠ some d := by
  have h1 := List.all_eq_true.1 h x hx
  simp only [hd] at h1
  have h2 := List.all_eq_true.1 h1 j (List.mem_range.2 hj)
  simp only [Bool.or_eq_true, hy] at h2
  rcases h2 with h2 | h2
  · exact absurd (Nat.eq_of_beq_eq_true h2) hne
  · simpa using h2
theorem ordB_spec {b : List Nat} : ∀ {hs : HL}, ordB b hs = true → ∀ (i j : Nat) (x y : Nat × PI × TT), i < j → hs[i]? = some x → hs[j]? = some y → (b.getD y.1 0).testBit x.1 = true
  | [], _, i, j, x, y, _, hx, _ => by simp at hx
  | z :: r, h, i, j, x, y, hij, hx, hy => by
    simp only [ordB, Bool.and_eq_true] at h
    cases j with
    | zero => omega
    | succ j =>
      simp at hy
      cases i with
      | zero =>
        simp at hx
        subst hx
        have := Nat.eq_of_beq_eq_true (List.all_eq_true.1 h.1 y (List.mem_of_getElem? hy))
        rw [Nat.testBit_eq_decide_div_mod_eq, this]; rfl
      | succ i => simp at hx; exact ordB_spec h.2 i j x y (by omega) hx hy
set_option maxHeartbeats 8000000 in
/-- a region that draws its order: those of its first operations that turn something come one behind the other -/
theorem PW.quietRN {b0 : List Nat} {k : Nat} {l : List PI} {Q : Exit → TT → SS → Prop} {T2 : TT} {vals : List Value} {hs0 : HL} {Ss : SS → Prop} (hm : P.follows .mixedOrders = true) (hq : QM P w0 n Ss 0 (l.take k) T T2 vals hs0)
    (hdi : distB (l.take k) hs0 = true) (hno : noMovB hs0 = true) (hord : ordB b0 hs0 = true) (hSs : Ss S) (hch : LCh P w0 n Ss (fun Tl S' => OL P w0 n (l.drop k) (Tl ++ T2) S' (Q .normal)) hs0 [] S) : PW P w0 n (.quietR b0 k l) T S Q := by
  intro c hc a w hs hr
  cases c
  case region id ops dr =>
    cases dr with
    | false => simp [cC] at hc
    | true =>
      simp only [cC] at hc
      split at hc
      case isFalse => simp at hc
      rename_i hcond
      simp only [Bool.and_eq_true] at hcond
      obtain ⟨⟨⟨hap, hback⟩, hsel⟩, hhoist⟩ := hcond
      simp only [Option.map_eq_some_iff] at hc
      obtain ⟨l', hcis, hmk⟩ := hc
      obtain ⟨rfl, rfl, hb0⟩ := mkQ_quietR hmk
      obtain ⟨hhead, hkle⟩ := headOf_spec ops (hoists ops) ops.size (Nat.le_refl _)
      change headB ops ((hoists ops).filter (· < quietAt ops)) (quietAt ops) = true at hhead
      change quietAt ops ≤ ops.size at hkle
      generalize hk : quietAt ops = k at *
      generalize hH : (hoists ops).filter (· < k) = Hs at *
      have hHk : ∀ i ∈ Hs, i < k := fun i hi => by rw [← hH] at hi; simpa using (List.mem_filter.1 hi).2
      have hsplit : List.range ops.size = List.range' 0 k ++ List.range' k (ops.size - k) := by
        rw [List.range_eq_range']
        have := List.range'_append (s := 0) (m := k) (n := ops.size - k) (step := 1)
        simp only [Nat.one_mul, Nat.zero_add] at this
        rw [this]
        congr 1
        omega
      rw [hsplit] at hcis
      obtain ⟨hc1, hc2⟩ := cIs_append hcis
      simp only [List.length_range'] at hc1 hc2
      have hlen : (l'.take k).length = k := by simpa using cIs_length hc1
      obtain ⟨hql, hqi, hqp⟩ := hq.lt
      simp only [Nat.zero_add, Nat.sub_zero, hlen] at hqi
      rw [hlen] at hql
      let vs : List Value → Nat → Value := vsH hs0 vals
        |> fun f us i => f us 0 i
      have hvq : ∀ us j, (∀ x ∈ hs0, x.1 ≠ j) → vs us j = vals.getD j undef := fun us j h => by
        show vsH hs0 vals us 0 j = _
        unfold vsH
        rw [hIdx_none h]
        rfl
      have hvh : ∀ (us : List Value) (j : Nat) (x : Nat × PI × TT), hs0[j]? = some x → vs us x.1 = us.getD j undef := fun us j x h => by
        show vsH hs0 vals us 0 x.1 = _
        unfold vsH
        rw [hIdx_some hqp h]
      have htr := fun us => hq.trace (vs us) (fun j hj hx => by rw [Nat.zero_add] at hx ⊢; exact hvq us j hx) a (by rw [hlen]; exact hc1) hs
      simp only [hlen, Nat.zero_add, Nat.sub_zero] at htr
      have hgives : ∀ us S', Ss S' → ∀ i, i < k → (∀ x ∈ hs0, x.1 ≠ i) → GivesAt P w0 S' ops i (vs us i) (runA ops (vs us) 0 i a) := by
        intro us S' hS' i hi hne
        rw [hvq us i hne]
        exact (htr us).2.1 i hi hne S' hS'
      have hdst : ∀ i o, i < k → ops[i]? = some o → dstOk n o.dst = true := fun i o hi ho => (htr []).2.2.2.1 i o hi ho
      have hslot : ∀ (us : List Value) (x : Nat × PI × TT), x ∈ hs0 → ∀ d, x.2.1.d = some d → ∀ m, x.1 < m → m ≤ k → (runA ops (vs us) 0 m a).tmps[d]? = some (vs us x.1) := by
        intro us x hx d hd m h1 h2
        obtain ⟨_, hxk, hxl⟩ := hqi x hx
        have hda : dstAt ops x.1 = some d := by rw [← (htr us).2.2.2.2 x.1 hxk x.2.1 hxl, hd]
        have hdn : d < a.tmps.size := by
          rw [hs.size]
          have hxs : x.1 < ops.size := by omega
          have := hdst x.1 ops[x.1] hxk (by simp [hxs])
          have e : ops[x.1].dst = some d := by simpa [dstAt, hxs] using hda
          rw [e] at this
          simpa [dstOk] using this
        refine runA_slot hda hdn (fun j hj hne => ?_) m h1 h2
        have hjl : j < (l'.take k).length := by rw [hlen]; exact hj
        have e : (l'.take k)[j]? = some (l'.take k)[j] := List.getElem?_eq_getElem hjl
        rw [← (htr us).2.2.2.2 j hj _ e]
        exact distB_spec hdi hx hd hjl hne e
      have hposlt : ∀ (i j : Nat) (x y : Nat × PI × TT), i < j → hs0[i]? = some x → hs0[j]? = some y → x.1 < y.1 := by
        intro i j x y hij hx hy
        obtain ⟨h1, e1⟩ := List.getElem?_eq_some_iff.1 hx
        obtain ⟨h2, e2⟩ := List.getElem?_eq_some_iff.1 hy
        have := List.pairwise_iff_getElem.1 hqp i j (by simpa using h1) (by simpa using h2) hij
        simpa [e1, e2] using this
      have hholes : ∀ (i : Nat), (∃ (j : Nat) (x : Nat × PI × TT), hs0[j]? = some x ∧ x.1 = i) ∨ ∀ x ∈ hs0, x.1 ≠ i := by
        intro i
        by_cases h : ∃ x ∈ hs0, x.1 = i
        · obtain ⟨x, hx, rfl⟩ := h
          obtain ⟨j, hj⟩ := List.getElem?_of_mem hx
          exact .inl ⟨j, x, hj, rfl⟩
        · exact .inr fun x hx e => h ⟨x, hx, e⟩
      have hbeh : ∀ (i j : Nat) (x y : Nat × PI × TT), i < j → hs0[i]? = some x → hs0[j]? = some y → behind (reach ops) y.1 x.1 = true := by
        intro i j x y hij hx hy
        have h1 := ordB_spec hord i j x y hij hx hy
        have hyk := (hqi y (List.mem_of_getElem? hy)).2.1
        rw [hb0, List.getD_eq_getElem?_getD, List.getElem?_take_of_lt hyk, ← List.getD_eq_getElem?_getD] at h1
        exact h1
      have hsatL : ∀ us c Tl, (∀ d v, look Tl d = some v → ∃ (j : Nat) (x : Nat × PI × TT), j < c ∧ hs0[j]? = some x ∧ x.2.1.d = some d ∧ v = vs us x.1) → ∀ T0 m, m ≤ k → (∀ (j : Nat) (x : Nat × PI × TT), j < c → hs0[j]? = some x → x.1 < m) → Sat n T0 (runA ops (vs us) 0 m a) → Sat n (Tl ++ T0) (runA ops (vs us) 0 m a) := by
        intro us c Tl htl T0 m hmk hpos h0
        refine ⟨h0.size, h0.defers, fun i v hv => ?_⟩
        rw [look_app] at hv
        cases e : look Tl i with
        | none => rw [e] at hv; exact h0.get i v hv
        | some v' =>
          rw [e] at hv
          obtain rfl := Option.some.inj hv
          obtain ⟨j, x, hj, hx, hd, rfl⟩ := htl i _ e
          exact hslot us x (List.mem_of_getElem? hx) i hd m (hpos j x hj hx) hmk
      -- ordered pairs
      have hpair : ∀ i j, i < j → j < ops.size → ∀ oi oj, ops[i]? = some oi → ops[j]? = some oj → behind (reach ops) j i = true ∨ oi.apart ops oj = true := by
        intro i j hij hj oi oj hoi hoj
        have := List.all_eq_true.1 (List.all_eq_true.1 hap j (List.mem_range.2 hj)) i (List.mem_range.2 hij)
        simpa [hoi, hoj] using this
      have htail : ∀ t i, k ≤ t → t < ops.size → i < t → i ∉ Hs → behind (reach ops) t i = true := by
        intro t i hkt ht hi hnH
        have := List.all_eq_true.1 hhead t (List.mem_range.2 ht)
        simp only [Bool.or_eq_true, decide_eq_true_eq] at this
        rcases this with h | h
        · omega
        · have := List.all_eq_true.1 h i (List.mem_range.2 hi)
          simpa [hnH] using this
      have hreadyX : ∀ (listed : Array Bool) i, (∀ j o, ops[j]? = some o → listed.getD j true = true → ∀ e ∈ o.after, Region.binds .any e = true → listed.getD e.on true = true) → i ∈ Region.ready .any ops listed →
          ∀ j, j < ops.size → behind (reach ops) i j = true → j ≠ i → listed.getD j true = true := by
        intro listed i hcl hi j hj hb hne
        obtain ⟨hun, o, ho, hall⟩ := mem_ready.1 hi
        have hX : Closed ops (fun x => listed.getD x true = true ∨ x = i) := by
          rintro x ox hox (hx | rfl) e he hbd
          · exact .inl (hcl x ox hox hx e he hbd)
          · obtain rfl : o = ox := by rw [ho] at hox; exact Option.some.inj hox
            have := hall e he hbd
            left
            cases hlt : listed[e.on]? with
            | none => simp [hlt] at this
            | some b => simpa [hlt] using this
        rcases behind_spec hX (Array.getElem?_eq_some_iff.1 ho).1 hb (.inr rfl) with h | h
        · exact h
        · exact absurd h hne
      have horder : ∀ (listed : Array Bool) i o, (∀ j o, ops[j]? = some o → listed.getD j true = true → ∀ e ∈ o.after, Region.binds .any e = true → listed.getD e.on true = true) → i ∈ Region.ready .any ops listed → ops[i]? = some o → i < k →
          ∀ x, (x ∈ o.looksAt ops ∨ o.dst = some x) → ∀ j, j < k → j ≠ i → dstAt ops j = some x → decide (j < i) = listed.getD j true := by
        intro listed i o hcl hi ho hik x hx j hj hne hdj
        obtain ⟨hun, o', ho', hpre⟩ := mem_ready.1 hi
        have hilt : i < ops.size := (Array.getElem?_eq_some_iff.1 ho).1
        have hjlt : j < ops.size := by omega
        have hoj : ops[j]? = some ops[j] := by simp [hjlt]
        have hdj' : ops[j].dst = some x := by simpa [dstAt, hoj] using hdj
        rcases Nat.lt_or_gt_of_ne hne with h | h
        · rcases hpair j i h hilt _ _ hoj ho with hb' | hap'
          · rw [hreadyX listed i hcl hi j hjlt hb' hne]
            simp [h]
          · obtain ⟨e1, e2, e3⟩ := Oper.apart_spec hap'
            rcases hx with hx | hx
            · exact absurd hx (e1 x hdj')
            · exact absurd hx (e2 x hdj')
        · rcases hpair i j h hjlt _ _ ho hoj with hb' | hap'
          · have hnl : listed.getD j true = false := by
              cases hlj : listed.getD j true with
              | false => rfl
              | true =>
                exfalso
                have hX : Closed ops (fun x => listed.getD x true = true) := fun x ox hox hx e he hbd => hcl x ox hox hx e he hbd
                have := behind_spec hX hjlt hb' hlj
                rw [hun] at this
                cases this
            rw [hnl]
            simp; omega
          · obtain ⟨e1, e2, e3⟩ := Oper.apart_spec hap'
            rcases hx with hx | hx
            · exact absurd hx (e3 x hdj')
            · exact absurd hdj' (e2 x hx)
      have hgetset : ∀ (listed : Array Bool) i, listed.size = ops.size → i < ops.size → (listed.setIfInBounds i true).getD i true = true := by
        intro listed i h1 h2
        have : i < listed.size := by omega
        simp [this]
      have hput : ∀ u (listed : Array Bool) i o, listed.size = ops.size → (∀ j o, ops[j]? = some o → listed.getD j true = true → ∀ e ∈ o.after, Region.binds .any e = true → listed.getD e.on true = true) → i ∈ Region.ready .any ops listed → ops[i]? = some o → i < k →
          (foldF ops (vs u) (fun j => listed.getD j true) k a).put o.dst (vs u i) = foldF ops (vs u) (fun j => (listed.setIfInBounds i true).getD j true) k a := by
        intro u listed i o hsz hcl hi ho hik
        have hilt : i < ops.size := (Array.getElem?_eq_some_iff.1 ho).1
        have hdo : dstOk n o.dst = true := hdst i o hik ho
        have hda : dstAt ops i = o.dst := by simp [dstAt, ho]
        have hgi := hgetset listed i hsz hilt
        have hgj : ∀ j, j ≠ i → (listed.setIfInBounds i true).getD j true = listed.getD j true := fun j hj => getD_set_ne true (Ne.symm hj)
        have szs : ∀ f, (foldF ops (vs u) f k a).tmps.size = a.tmps.size := fun f => (foldF_size ops (vs u) f k a).1
        have dfs : ∀ f, (foldF ops (vs u) f k a).defers = a.defers := fun f => (foldF_size ops (vs u) f k a).2
        refine act_ext ?_ ?_ fun x => ?_
        · cases o.dst <;> simp [Act.put, szs]
        · cases o.dst <;> simp [Act.put, dfs]
        · by_cases hx : o.dst = some x
          · have e1 : (foldF ops (vs u) (fun j => (listed.setIfInBounds i true).getD j true) k a).tmps[x]? = (foldF ops (vs u) (fun j => decide (j < i + 1)) k a).tmps[x]? := by
              refine foldF_agree ops (vs u) _ _ k a x fun j hj hdj => ?_
              by_cases e : j = i
              · subst e; rw [hgi]; simp
              · rw [hgj j e, ← horder listed i o hcl hi ho hik x (.inr hx) j hj e hdj]
                by_cases h : j < i
                · have : j < i + 1 := by omega
                  simp [h, this]
                · have : ¬ j < i + 1 := by omega
                  simp [h, this]
            rw [e1, foldF_runA ops (vs u) (i + 1) k a (by omega)]
            have e2 : runA ops (vs u) 0 (i + 1) a = (runA ops (vs u) 0 i a).put (dstAt ops i) (vs u i) := by
              simp [runA, List.range'_concat]
            rw [e2, hda, hx]
            simp only [Act.put]
            have hxn : x < a.tmps.size := by rw [hs.size]; simpa [dstOk, hx] using hdo
            have hsz1 : (runA ops (vs u) 0 i a).tmps.size = a.tmps.size := by rw [← foldF_runA ops (vs u) i k a (by omega)]; exact szs _
            rw [Array.getElem?_setIfInBounds_self_of_lt (by rw [szs]; exact hxn), Array.getElem?_setIfInBounds_self_of_lt (by rw [hsz1]; exact hxn)]
          · have e1 : (foldF ops (vs u) (fun j => (listed.setIfInBounds i true).getD j true) k a).tmps[x]? = (foldF ops (vs u) (fun j => listed.getD j true) k a).tmps[x]? := by
              refine foldF_agree ops (vs u) _ _ k a x fun j hj hdj => ?_
              by_cases e : j = i
              · subst e; rw [hda] at hdj; exact absurd hdj hx
              · exact hgj j e
            rw [e1]
            cases hd : o.dst with
            | none => rfl
            | some y =>
              have : y ≠ x := fun e => hx (by rw [hd, e])
              simp [Act.put, Array.getElem?_setIfInBounds_ne this]
      have hagree : ∀ u (listed : Array Bool) i o, (∀ j o, ops[j]? = some o → listed.getD j true = true → ∀ e ∈ o.after, Region.binds .any e = true → listed.getD e.on true = true) → i ∈ Region.ready .any ops listed → ops[i]? = some o → i < k →
          ∀ x, x ∈ o.looksAt ops → (runA ops (vs u) 0 i a).tmps[x]? = (foldF ops (vs u) (fun j => listed.getD j true) k a).tmps[x]? := by
        intro u listed i o hcl hi ho hik x hx
        rw [← foldF_runA ops (vs u) i k a (by omega)]
        refine foldF_agree ops (vs u) _ _ k a x fun j hj hdj => ?_
        by_cases e : j = i
        · subst e
          have hun := (mem_ready.1 hi).1
          rw [hun]; simp
        · exact horder listed i o hcl hi ho hik x (.inl hx) j hj e hdj
      have hclset : ∀ (listed : Array Bool) i o, listed.size = ops.size → (∀ j o, ops[j]? = some o → listed.getD j true = true → ∀ e ∈ o.after, Region.binds .any e = true → listed.getD e.on true = true) → i ∈ Region.ready .any ops listed → ops[i]? = some o →
          (∀ j o, ops[j]? = some o → (listed.setIfInBounds i true).getD j true = true → ∀ e ∈ o.after, Region.binds .any e = true → (listed.setIfInBounds i true).getD e.on true = true) := by
        intro listed i o hsz hcl hi ho j oj hoj hj e he hbd
        have hilt : i < ops.size := (Array.getElem?_eq_some_iff.1 ho).1
        obtain ⟨hun, o', ho', hpre⟩ := mem_ready.1 hi
        obtain rfl : o = o' := by rw [ho] at ho'; exact Option.some.inj ho'
        have hgj : ∀ j, j ≠ i → (listed.setIfInBounds i true).getD j true = listed.getD j true := fun j hj => getD_set_ne true (Ne.symm hj)
        by_cases e1 : e.on = i
        · rw [e1]; exact hgetset listed i hsz hilt
        · rw [hgj _ e1]
          by_cases e2 : j = i
          · subst e2
            obtain rfl : o = oj := by rw [ho] at hoj; exact Option.some.inj hoj
            have := hpre e he hbd
            cases hlt : listed[e.on]? with
            | none => simp [hlt] at this
            | some bb => simpa [hlt] using this
          · rw [hgj _ e2] at hj
            exact hcl j oj hoj hj e he hbd
      have hcntset : ∀ (listed : Array Bool) i, listed.size = ops.size → i ∈ Region.ready .any ops listed → i < ops.size → cnt (fun j => listed.getD j true) ops.size = cnt (fun j => (listed.setIfInBounds i true).getD j true) ops.size + 1 := by
        intro listed i hsz hi hilt
        have := cnt_set (f := fun j => listed.getD j true) (g := fun j => (listed.setIfInBounds i true).getD j true) (i := i) (mem_ready.1 hi).1 (hgetset listed i hsz hilt) (fun j hj => getD_set_ne true (Ne.symm hj)) ops.size
        simpa [hilt] using this
      refine wp_mono (Q := fun e a' w' => e = .normal ∧ ∃ T' S', Sat n T' a' ∧ Rep w0 S' w' ∧ Q e T' S') ?_ (fun e a' w' h => h.2)
      refine wp_region_any hm ?_
      have key : ∀ (fuel : Nat) (listed : Array Bool) (b : Act) (w' : World), listed.size = ops.size →
          (∀ j o, ops[j]? = some o → listed.getD j true = true → ∀ e ∈ o.after, Region.binds .any e = true → listed.getD e.on true = true) → (∀ i ∈ Hs, listed.getD i true = true) →
          (∀ t, k ≤ t → t < ops.size → listed.getD t true = false) → (∃ u Sx Tl c, Phs P w0 n Ss (fun Tl S' => OL P w0 n (l'.drop k) (Tl ++ T2) S' (Q .normal)) hs0 vals (fun j => listed.getD j true) u Sx Tl c ∧ b = foldF ops (vs u) (fun j => listed.getD j true) k a ∧ Rep w0 Sx w') → cnt (fun j => listed.getD j true) ops.size = fuel →
          wpAny P .any ops (fun e a' w' => e = .normal ∧ ∃ T' S', Sat n T' a' ∧ Rep w0 S' w' ∧ Q e T' S') fuel listed b w' := by
        intro fuel
        induction fuel with
        | zero =>
          intro listed b w' hsz hcl hHl htl ⟨u, Sx, Tl, c, hph, hb, hr'⟩ hcnt
          have hall : ∀ j, j < ops.size → listed.getD j true = true := by
            intro j hj
            cases hx : listed.getD j true with
            | true => rfl
            | false =>
              exfalso
              have : ∀ m, j < m → 0 < cnt (fun j => listed.getD j true) m := by
                intro m
                induction m with
                | zero => intro h; omega
                | succ m ih =>
                  intro h
                  simp only [cnt]
                  by_cases e : j = m
                  · subst e; simp [hx]
                  · have := ih (by omega); omega
              have := this ops.size hj
              omega
          have hcl2 : c = hs0.length := by
            have := hph.le
            rcases Nat.lt_or_ge c hs0.length with h | h
            · have := (hph.lst c hs0[c] (List.getElem?_eq_getElem h)).1 (hall _ (by have := (hqi hs0[c] (List.getElem_mem _)).2.1; omega))
              omega
            · omega
          have hfin : OL P w0 n (l'.drop k) (Tl ++ T2) Sx (Q .normal) := by
            have := hph.ch
            rw [hcl2, List.drop_length] at this
            exact this
          have hsat' : Sat n (Tl ++ T2) (runA ops (vs u) 0 k a) := hsatL u c Tl hph.tl T2 k (Nat.le_refl _) (fun j x _ hx => (hqi x (List.mem_of_getElem? hx)).2.1) (htr u).1
          have hkeq : k = ops.size := by
            rcases Nat.lt_or_ge k ops.size with h | h
            · have h1 := htl k (Nat.le_refl _) h
              have h2 := hall k h
              rw [h1] at h2
              cases h2
            · omega
          have hbt : b = runA ops (vs u) 0 k a := by
            rw [hb, ← foldF_runA ops (vs u) k k a (Nat.le_refl _)]
            unfold foldF
            refine foldl_ext' _ _ _ _ fun b j hj => ?_
            have hj' := List.mem_range.1 hj
            simp [hall j (by omega), hj']
          refine ⟨?_, ?_⟩
          · unfold Region.ready
            rw [List.filter_eq_nil_iff]
            intro i hi
            rw [hall i (List.mem_range.1 hi)]
            simp
          · have := hfin ops [] b w' (fun e a' w' => e = .normal ∧ ∃ T' S', Sat n T' a' ∧ Rep w0 S' w' ∧ Q e T' S') (by
              rw [hkeq, Nat.sub_self] at hc2
              rw [hkeq]
              simpa using hc2) (hbt ▸ hsat') hr' (fun a' w' T' S' h3 h4 h5 => ⟨rfl, T', S', h3, h4, h5⟩)
            simpa [wpOps] using this
        | succ fuel ih =>
          intro listed b w' hsz hcl hHl htl ⟨u, Sx, Tl, c, hph, hb, hr'⟩ hcnt
          by_cases hall : ∀ j, j < k → listed.getD j true = true
          · -- the head is done
            have hcl2 : c = hs0.length := by
              have := hph.le
              rcases Nat.lt_or_ge c hs0.length with h | h
              · have := (hph.lst c hs0[c] (List.getElem?_eq_getElem h)).1 (hall _ ((hqi hs0[c] (List.getElem_mem _)).2.1))
                omega
              · omega
            have hfin : OL P w0 n (l'.drop k) (Tl ++ T2) Sx (Q .normal) := by
              have := hph.ch
              rw [hcl2, List.drop_length] at this
              exact this
            have hsat' : Sat n (Tl ++ T2) (runA ops (vs u) 0 k a) := hsatL u c Tl hph.tl T2 k (Nat.le_refl _) (fun j x _ hx => (hqi x (List.mem_of_getElem? hx)).2.1) (htr u).1
            have hexact : ∀ j, j < ops.size → listed.getD j true = decide (j < k) := by
              intro j hj
              by_cases h : j < k
              · rw [hall j h]; simp [h]
              · rw [htl j (by omega) hj]; simp [h]
            have hbt : b = runA ops (vs u) 0 k a := by
              rw [hb, ← foldF_runA ops (vs u) k k a (Nat.le_refl _)]
              unfold foldF
              refine foldl_ext' _ _ _ _ fun b j hj => ?_
              have hj' := List.mem_range.1 hj
              simp [hall j hj', hj']
            have hfuel : fuel + 1 = ops.size - k := by
              rw [← hcnt, cnt_congr ops.size hexact, cnt_below]
            rw [hfuel]
            have htl2 : ∀ listed' : Array Bool, ∀ t s', k ≤ s' → s' < t → t < ops.size → (∀ j, j < ops.size → listed'.getD j true = decide (j < s')) → listed'.size = ops.size → t ∉ Region.ready .any ops listed' := by
              intro l'' t s' h1 h2 h3 h4 h5 hmem
              have := hreadyX l'' t (fun j o ho hj e he hbd => by
                have hlt := backB_spec hback ho he hbd
                have hjs : j < ops.size := (Array.getElem?_eq_some_iff.1 ho).1
                rw [h4 j hjs] at hj
                rw [h4 e.on (by omega)]
                simp only [decide_eq_true_eq] at hj ⊢
                omega) hmem s' (by omega) (htail t s' (by omega) h3 h2 (fun hm' => by have := hHk s' hm'; omega)) (by omega)
              rw [h4 s' (by omega)] at this
              simp at this
            refine wpAny_tail hback (ops.size - k) k listed b w' (by omega) hsz hexact (fun t i h1 h2 h3 h4 h5 => htl2 listed t k (Nat.le_refl _) h1 h2 hexact hsz) htl2 ?_
            exact hfin ops _ b w' _ hc2 (hbt ▸ hsat') hr' (fun a' w' T' S' h3 h4 h5 => ⟨rfl, T', S', h3, h4, h5⟩)
          · refine ⟨fun h0 => ?_, fun i hi => ?_⟩
            · exfalso
              obtain ⟨i, hi1, hi2, hi3⟩ := cnt_pos ops.size (by rw [hcnt]; omega : 0 < cnt (fun j => listed.getD j true) ops.size)
              have : i ∈ Region.ready .any ops listed := by
                rw [mem_ready]
                refine ⟨hi2, ops[i], by simp [hi1], fun e he hbd => ?_⟩
                have hlt := backB_spec hback (show ops[i]? = some ops[i] by simp [hi1]) he hbd
                have h3 := hi3 e.on hlt
                have : e.on < listed.size := by omega
                simpa [this] using h3
              rw [h0] at this
              simp at this
            · have hmem := mem_ready.1 hi
              obtain ⟨hun, o, ho, hpre⟩ := hmem
              have hilt : i < ops.size := (Array.getElem?_eq_some_iff.1 ho).1
              have hik : i < k := by
                rcases Nat.lt_or_ge i k with h | h
                · exact h
                · exfalso
                  refine hall fun j hj => ?_
                  by_cases hjH : j ∈ Hs
                  · exact hHl j hjH
                  · exact hreadyX listed i hcl hi j (by omega) (htail i j h hilt (by omega) hjH) (by omega)
              have hdo : dstOk n o.dst = true := hdst i o hik ho
              have hagree' := hagree u listed i o hcl hi ho hik
              rw [← hb] at hagree'
              have hev : execOp (runA ops (vs u) 0 i a).eval o = execOp b.eval o :=
                execOp_congr o (fun cs bb hh => Region.noSelect_spec hsel i o cs bb ho hh) fun x hx => eval_agree fun t ht => hagree' t (looks_op (ht ▸ hx))
              have hwan := wanted_agree (ops := ops) (o := o) (a := runA ops (vs u) 0 i a) (b := b) hagree'
              have hgj : ∀ j, j ≠ i → (listed.setIfInBounds i true).getD j true = listed.getD j true := fun j hj => getD_set_ne true (Ne.symm hj)
              have hnext : ∀ u2 S2 Tl2 c2 w'' b2, Phs P w0 n Ss (fun Tl S' => OL P w0 n (l'.drop k) (Tl ++ T2) S' (Q .normal)) hs0 vals (fun j => (listed.setIfInBounds i true).getD j true) u2 S2 Tl2 c2 → b2 = foldF ops (vs u2) (fun j => (listed.setIfInBounds i true).getD j true) k a → Rep w0 S2 w'' → wpAny P .any ops (fun e a' w' => e = .normal ∧ ∃ T' S', Sat n T' a' ∧ Rep w0 S' w' ∧ Q e T' S') fuel (listed.setIfInBounds i true) b2 w'' := by
                intro u2 S2 Tl2 c2 w'' b2 hp2 hb2 hr''
                refine ih _ _ w'' (by simpa using hsz) (hclset listed i o hsz hcl hi ho) ?_ ?_ ⟨u2, S2, Tl2, c2, hp2, hb2, hr''⟩ ?_
                · intro j hj
                  by_cases e : j = i
                  · subst e; exact hgetset listed j hsz hilt
                  · rw [hgj j e]; exact hHl j hj
                · intro t h3 h4'
                  rw [hgj t (by omega)]
                  exact htl t h3 h4'
                · have := hcntset listed i hsz hi hilt
                  omega
              have hsz1 : (runA ops (vs u) 0 i a).tmps.size = n := by rw [← foldF_runA ops (vs u) i k a (by omega), (foldF_size ops (vs u) _ k a).1, hs.size]
              have hsz2 : b.tmps.size = n := by rw [hb, (foldF_size ops (vs u) _ k a).1, hs.size]
              have hdf : (runA ops (vs u) 0 i a).defers = [] := by rw [← foldF_runA ops (vs u) i k a (by omega), (foldF_size ops (vs u) _ k a).2, hs.defers]
              have hputu := fun u2 => hput u2 listed i o hsz hcl hi ho hik
              unfold wpOp
              simp only [ho]
              rcases hholes i with ⟨jx, x, hjx, hxi⟩ | hip
              · -- one that turns something
                subst hxi
                have hxm := List.mem_of_getElem? hjx
                have hjc : jx = c := by
                  rcases Nat.lt_trichotomy jx c with h | h | h
                  · have := (hph.lst jx x hjx).2 h
                    rw [hun] at this
                    cases this
                  · exact h
                  · exfalso
                    have hclt : c < hs0.length := Nat.lt_trans h (List.getElem?_eq_some_iff.1 hjx).1
                    have hcx : hs0[c]? = some hs0[c] := List.getElem?_eq_getElem hclt
                    have h1 := hbeh c jx _ x h hcx hjx
                    have h2 := hreadyX listed x.1 hcl hi hs0[c].1 (by have := (hqi hs0[c] (List.getElem_mem _)).2.1; omega) h1 (by have := hposlt c jx _ x h hcx hjx; omega)
                    have := (hph.lst c _ hcx).1 h2
                    omega
                subst hjc
                have hdrop : hs0.drop jx = x :: hs0.drop (jx + 1) := by
                  have hl1 := (List.getElem?_eq_some_iff.1 hjx).1
                  rw [List.drop_eq_getElem_cons hl1]
                  congr 1
                  exact (List.getElem?_eq_some_iff.1 hjx).2
                have hLC := hph.ch
                rw [hdrop] at hLC
                obtain ⟨hcg, hOW, hnx⟩ : x.2.1.g = none ∧ _ ∧ True := ⟨hLC.1, hLC.2, trivial⟩
                obtain ⟨_, hxk, hxl⟩ := hqi x hxm
                obtain ⟨oc, hoc, hpoc, hdstc, hgdc⟩ := cIs_pos hc1 hxk hxl
                obtain rfl : oc = o := by rw [hoc] at ho; exact Option.some.inj ho
                have hwt : Region.wanted oc (yielded ops b.tmps) = true := by
                  rcases hgdc with ⟨hgn, _⟩ | ⟨j, b', s', hgn, hj, he⟩
                  · simp [Region.wanted, hgn]
                  · rw [hcg] at he; cases he
                rw [if_pos hwt]
                left
                have hsC := hsatL u jx Tl hph.tl x.2.2 x.1 (by omega) (fun j y hj hy => hposlt j jx y x hj hy hjx) ((htr u).2.2.1 x hxm)
                have hl2 := hOW oc _ w' (fun _ _ _ => False) hpoc hsC hr'
                refine Oper.wp_mono ?_ (wp_transfer_any hev (by rw [hsz1, hsz2]) (by rw [hsz1]; exact hdo) hdf hl2)
                rintro b' w'' ⟨v2, S2, rfl, hr2, hss2, hk2⟩
                have hvnew : ∀ (j : Nat) (y : Nat × PI × TT), j < jx → hs0[j]? = some y → vs (u ++ [v2]) y.1 = vs u y.1 := by
                  intro j y hj hy
                  rw [hvh _ j y hy, hvh _ j y hy]
                  simp only [List.getD_eq_getElem?_getD]
                  rw [List.getElem?_append_left (by rw [hph.len]; exact hj)]
                refine hnext (u ++ [v2]) S2 (put x.2.1.d v2 Tl) (jx + 1) w'' _ ⟨(List.getElem?_eq_some_iff.1 hjx).1, by simp [hph.len], ?_, hk2, hss2, ?_⟩ ?_ hr2
                · intro j y hy
                  by_cases e : j = jx
                  · subst e
                    obtain rfl : x = y := by rw [hjx] at hy; exact Option.some.inj hy
                    simp [hgetset listed _ hsz hilt]
                  · have hne : y.1 ≠ x.1 := by
                      rcases Nat.lt_or_gt_of_ne e with h | h
                      · have := hposlt j jx y x h hy hjx; omega
                      · have := hposlt jx j x y h hjx hy; omega
                    have h3 := hph.lst j y hy
                    show (listed.setIfInBounds x.1 true).getD y.1 true = true ↔ _
                    rw [hgj _ hne]
                    exact h3.trans (by omega)
                · intro d v hv
                  have hold : look Tl d = some v → ∃ j y, j < jx + 1 ∧ hs0[j]? = some y ∧ y.2.1.d = some d ∧ v = vsH hs0 vals (u ++ [v2]) 0 y.1 := by
                    intro hv
                    obtain ⟨j, y, h1, h2, h3, h4⟩ := hph.tl d v hv
                    exact ⟨j, y, by omega, h2, h3, by rw [h4]; exact (hvnew j y h1 h2).symm⟩
                  cases hxd : x.2.1.d with
                  | none => rw [hxd] at hv; exact hold hv
                  | some dd =>
                    rw [hxd] at hv
                    by_cases e : dd = d
                    · subst e
                      simp only [SL.put, look_put_same] at hv
                      obtain rfl := Option.some.inj hv
                      refine ⟨jx, x, by omega, hjx, hxd, ?_⟩
                      have := hvh (u ++ [v2]) jx x hjx
                      have e2 : (u ++ [v2]).getD jx undef = v2 := by
                        rw [List.getD_eq_getElem?_getD, List.getElem?_append_right (by rw [hph.len]; exact Nat.le_refl _), hph.len]
                        simp
                      rw [e2] at this
                      exact this.symm
                    · simp only [SL.put] at hv
                      rw [look_cons_ne _ _ e] at hv
                      exact hold hv
                · have h7 := hputu (u ++ [v2])
                  have h8 : vs (u ++ [v2]) x.1 = v2 := by
                    rw [hvh _ jx x hjx, List.getD_eq_getElem?_getD, List.getElem?_append_right (by rw [hph.len]; exact Nat.le_refl _), hph.len]
                    simp
                  rw [h8] at h7
                  rw [← h7, hb]
                  congr 1
                  unfold foldF
                  refine foldl_ext' _ _ _ _ fun b j hj => ?_
                  by_cases hjl : listed.getD j true = true
                  · have : vs u j = vs (u ++ [v2]) j := by
                      rcases hholes j with ⟨jy, y, hjy, rfl⟩ | hq0
                      · exact (hvnew jy y ((hph.lst jy y hjy).1 hjl) hjy).symm
                      · rw [hvq _ _ hq0, hvq _ _ hq0]
                    rw [this]
                  · simp [hjl]
              · have hph2 : Phs P w0 n Ss (fun Tl S' => OL P w0 n (l'.drop k) (Tl ++ T2) S' (Q .normal)) hs0 vals (fun j => (listed.setIfInBounds i true).getD j true) u Sx Tl c := by
                  refine ⟨hph.le, hph.len, fun j x hx => ?_, hph.ch, hph.ss, hph.tl⟩
                  show (listed.setIfInBounds i true).getD x.1 true = true ↔ _
                  rw [hgj x.1 (hip x (List.mem_of_getElem? hx))]
                  exact hph.lst j x hx
                rcases hgives u Sx hph.ss i hik hip o ho with ⟨hw1, hw2⟩ | ⟨hw1, hw2⟩
                · rw [hwan] at hw1
                  rw [if_pos hw1]
                  left
                  refine Oper.wp_mono ?_ (wp_transfer hev (by rw [hsz1, hsz2]) (by rw [hsz1]; exact hdo) hdf (hw2 w' hr'))
                  rintro b' w'' ⟨rfl, hr''⟩
                  exact hnext u Sx Tl c w'' _ hph2 (by rw [hb]; exact hputu u) hr''
                · rw [hwan] at hw1
                  rw [hw1]
                  simp only [Bool.false_eq_true, if_false]
                  have h9 := hputu u
                  rw [hw2] at h9
                  exact hnext u Sx Tl c w' _ hph2 (by rw [hb]; exact h9) hr'
      -- the moves first
      have phase0 : ∀ (Hr : List Nat) (listed : Array Bool) (b : Act) (w' : World), hoistB ops Hr listed = true → (∀ i ∈ Hr, i < k) → listed.size = ops.size →
          (∀ j o, ops[j]? = some o → listed.getD j true = true → ∀ e ∈ o.after, Region.binds .any e = true → listed.getD e.on true = true) → (∀ i ∈ Hs, listed.getD i true = true ∨ i ∈ Hr) →
          (∀ t, k ≤ t → t < ops.size → listed.getD t true = false) → (∀ x ∈ hs0, listed.getD x.1 true = false) → b = foldF ops (vs []) (fun j => listed.getD j true) k a → Rep w0 S w' →
          wpAny P .any ops (fun e a' w' => e = .normal ∧ ∃ T' S', Sat n T' a' ∧ Rep w0 S' w' ∧ Q e T' S') (cnt (fun j => listed.getD j true) ops.size) listed b w' := by
        intro Hr
        induction Hr with
        | nil =>
          intro listed b w' _ _ hsz hcl hHl htl hnp hb hr'
          exact key _ listed b w' hsz hcl (fun i hi => (hHl i hi).resolve_right (by simp)) htl ⟨[], S, [], 0, ⟨Nat.zero_le _, rfl, fun j x hx => by simp [hnp x (List.mem_of_getElem? hx)], hch, hSs, fun d v h => by simp [look] at h⟩, hb, hr'⟩ rfl
        | cons i Hr ih =>
          intro listed b w' hh hlt hsz hcl hHl htl hnp hb hr'
          simp only [hoistB, Bool.and_eq_true] at hh
          obtain ⟨⟨⟨hho, hfree⟩, hready⟩, hrest⟩ := hh
          have hi : i ∈ Region.ready .any ops listed := by simpa using hready
          obtain ⟨hun, o, ho, hpre⟩ := mem_ready.1 hi
          have hilt : i < ops.size := (Array.getElem?_eq_some_iff.1 ho).1
          have hik : i < k := hlt i (by simp)
          have hgj : ∀ j, j ≠ i → (listed.setIfInBounds i true).getD j true = listed.getD j true := fun j hj => getD_set_ne true (Ne.symm hj)
          rw [hcntset listed i hsz hi hilt]
          simp only [hoistable?, ho, hoistable, Bool.and_eq_true] at hho
          obtain ⟨hgn, hmv⟩ := hho
          have hgn' : o.guard = none := by simpa using hgn
          have hwant : ∀ t : Array Value, Region.wanted o (yielded ops t) = true := fun t => by simp [Region.wanted, hgn']
          have hagree' := hagree [] listed i o hcl hi ho hik
          rw [← hb] at hagree'
          have hdo : dstOk n o.dst = true := hdst i o hik ho
          have hsz1 : (runA ops (vs []) 0 i a).tmps.size = n := by rw [← foldF_runA ops (vs []) i k a (by omega), (foldF_size ops (vs []) _ k a).1, hs.size]
          have hmove : ∃ x, (o.op = .move x ∨ o.op = .assign x) := by
            cases hop : o.op <;> rw [hop] at hmv <;> simp at hmv
            · exact ⟨_, .inl rfl⟩
            · exact ⟨_, .inr rfl⟩
          obtain ⟨x, hx⟩ := hmove
          have hip : ∀ x ∈ hs0, x.1 ≠ i := by
            intro y hy e; subst e
            obtain ⟨_, hyk, hyl⟩ := hqi y hy
            obtain ⟨oc, hoc, hpoc, hdstc, hgdc⟩ := cIs_pos hc1 hyk hyl
            obtain rfl : oc = o := by rw [hoc] at ho; exact Option.some.inj ho
            have : y.2.1.o = .mov (cV x) := by
              have h5 : cOp P oc = some (.mov (cV x)) := by unfold cOp cOp0; rcases hx with hx | hx <;> simp [hx]
              rw [h5] at hpoc
              exact (Option.some.inj hpoc).symm
            have h6 := List.all_eq_true.1 hno y hy
            rw [this] at h6
            simp at h6
          have hexec : ∀ ρ, execOp ρ o = pure (.value (ρ x)) := by
            intro ρ
            rcases hx with hx | hx <;> simp [execOp, hx]
          have hval : b.eval x = vs [] i ∨ o.dst = none := by
            rcases hgives [] S hSs i hik hip o ho with ⟨_, hw2⟩ | ⟨hw1, _⟩
            · have := hw2 w' hr'
              unfold Oper.wp at this
              rw [hexec] at this
              simp only [Sem.run_pure, Oper.upon] at this
              have hev : (runA ops (vs []) 0 i a).eval x = b.eval x := eval_agree fun t ht => hagree' t (looks_op (by rcases hx with hx | hx <;> simp [hx, Op.operands, ht]))
              cases hd : o.dst with
              | none => exact .inr rfl
              | some d =>
                left
                rw [hd] at this hdo
                have h3 := congrArg (fun c : Act => c.tmps[d]?) this.1
                have hdn : d < n := by simpa [dstOk] using hdo
                simp [Act.put, hsz1, hdn] at h3
                rw [← hev]; exact h3
            · rw [hwant] at hw1; cases hw1
          refine wpAny_take (oi := o) (v := b.eval x) ho hsel hfree hready (fun c a w hq => by simp at hq) (.inl ⟨hwant _, fun w => by rw [hexec]; rfl⟩) ?_
          have hbput : b.put o.dst (b.eval x) = foldF ops (vs []) (fun j => (listed.setIfInBounds i true).getD j true) k a := by
            rw [← hput [] listed i o hsz hcl hi ho hik, ← hb]
            rcases hval with h | h
            · rw [h]
            · rw [h]; rfl
          rw [hbput]
          refine ih _ _ w' hrest (fun j hj => hlt j (by simp [hj])) (by simpa using hsz) (hclset listed i o hsz hcl hi ho) ?_ ?_ (fun x hx => by rw [hgj _ (hip x hx)]; exact hnp x hx) rfl hr'
          · intro j hj
            by_cases e : j = i
            · subst e; exact .inl (hgetset listed j hsz hilt)
            · rw [hgj j e]
              rcases hHl j hj with h | h
              · exact .inl h
              · rcases List.mem_cons.1 h with h | h
                · exact absurd h e
                · exact .inr h
          · intro t h3 h4
            rw [hgj t (by omega)]
            exact htl t h3 h4
      have hcnt0 : cnt (fun j => (Array.replicate ops.size false).getD j true) ops.size = ops.size := by
        rw [cnt_congr (g := fun j => decide (j < 0)) ops.size (fun j hj => by simp [hj]), cnt_below]
        omega
      have := phase0 Hs (Array.replicate ops.size false) a { w with drawn := w.drawn + 1 } hhoist hHk (by simp) ?_ (fun i hi => .inr hi) ?_ (fun x hx => by have := (hqi x hx).2.1; have : x.1 < ops.size := (by omega); simp [this]) ?_ ?_
      · rwa [hcnt0] at this
      · intro j o ho hj
        exfalso
        have hlt : j < ops.size := (Array.getElem?_eq_some_iff.1 ho).1
        simp [hlt] at hj
      · intro t _ ht
        simp [ht]
      · have : ∀ j, j < k → (Array.replicate ops.size false).getD j true = decide (j < 0) := by
          intro j hj
          have : j < ops.size := by omega
          simp [this]
        have h0 : foldF ops (vs []) (fun j => (Array.replicate ops.size false).getD j true) k a = foldF ops (vs []) (fun j => decide (j < 0)) k a := by
          unfold foldF
          refine foldl_ext' _ _ _ _ fun b j hj => ?_
          simp only [this j (List.mem_range.1 hj)]
        rw [h0, foldF_runA ops (vs []) 0 k a (Nat.zero_le _)]
        rfl
      · exact hr.same ((Below.refl _ w).drew) (fun _ _ => rfl)
  all_goals (first | (simp [cC] at hc; done) | (simp only [cC] at hc; split at hc <;> simp at hc; done))
end
end Go.SL

set_option linter.unusedVariables false
set_option linter.unusedSimpArgs false
namespace Go.SL
open Go.RowKit
section
variable {P : Program} {w0 : World} {n : Nat} {T : TT} {S : SS}
def QN (P : Program) (w0 : World) (n : Nat) (base : SS) (i : Nat) (l : List PI) (T : TT) (K : TT → HL → Prop) : Prop := ∃ T' vals hs, QM P w0 n (Over base) i l T T' vals hs ∧ K T' hs
theorem QN.nil {base : SS} {i : Nat} {K : TT → HL → Prop} (h : K T []) : QN P w0 n base i [] T K := ⟨T, [], [], .nil, h⟩
theorem QN.det {base : SS} {i : Nat} {po : PO} {d : Option Nat} {g : Option (Nat × Bool)} {v : Value} {r : List PI} {K : TT → HL → Prop} (hg : gOk T g) (h : ∀ S, Over base S → Yields P w0 n po T S v) (k : QN P w0 n base (i + 1) r (put d v T) K) : QN P w0 n base i (⟨d, g, po⟩ :: r) T K :=
  let ⟨T', vs, hs, h1, h2⟩ := k; ⟨T', _, hs, .step hg (fun S hS => OW.of_yields (h S hS)) h1, h2⟩
theorem QN.call {base : SS} {i : Nat} {f : FuncId} {args : List PV} {vs : List Value} {v : Value} {d : Option Nat} {g : Option (Nat × Bool)} {r : List PI} {K : TT → HL → Prop} (hg : gOk T g) (hv : valsP T args = some vs) (h : ∀ S, Over base S → FC P w0 f vs S (fun v' S' => v' = v ∧ S' = S))
    (k : QN P w0 n base (i + 1) r (put d v T) K) : QN P w0 n base i (⟨d, g, .call f args⟩ :: r) T K :=
  let ⟨T', vs', hs, h1, h2⟩ := k; ⟨T', _, hs, .step hg (fun S hS => OW.call hv (h S hS)) h1, h2⟩
theorem QN.off {base : SS} {i : Nat} {po : PO} {d : Option Nat} {s : Nat} {b : Bool} {u : Value} {r : List PI} {K : TT → HL → Prop} (hl : look T s = some u) (hc : (boolOf u == some b) = false) (k : QN P w0 n base (i + 1) r (put d undef T) K) : QN P w0 n base i (⟨d, some (s, b), po⟩ :: r) T K :=
  let ⟨T', vs, hs, h1, h2⟩ := k; ⟨T', _, hs, .off hl hc h1, h2⟩
theorem QN.hole {base : SS} {i : Nat} {c : PI} {r : List PI} {K : TT → HL → Prop} (k : QN P w0 n base (i + 1) r (SL.del c.d T) (fun T' hs => K T' ((i, c, T) :: hs))) : QN P w0 n base i (c :: r) T K :=
  let ⟨T', vs, hs, h1, h2⟩ := k; ⟨T', _, _, .hole h1, h2⟩
theorem QN.bool {base : SS} {i : Nat} {po : PO} {d : Nat} {g : Option (Nat × Bool)} {r : List PI} {K : TT → HL → Prop} {b : Bool} (hg : gOk T g) (h : ∀ S, Over base S → Yields P w0 n po T S (.bool b)) (ht : b = true → QN P w0 n base (i + 1) r ((d, .bool true) :: T) K) (hf : b = false → QN P w0 n base (i + 1) r ((d, .bool false) :: T) K) : QN P w0 n base i (⟨some d, g, po⟩ :: r) T K := by
  cases b with
  | true => exact QN.det hg h (ht rfl)
  | false => exact QN.det hg h (hf rfl)
def ordP (b : List Nat) : List Nat → Bool
  | [] => true
  | x :: r => (r.all fun y => Nat.beq (b.getD y 0 / 2 ^ x % 2) 1) && ordP b r
theorem ordB_of {b hp : List Nat} : ∀ {hs : HL}, hs.map (·.1) = hp → ordP b hp = true → ordB b hs = true := by
  intro hs h h2
  subst h
  induction hs with
  | nil => rfl
  | cons x r ih =>
    simp only [List.map_cons, ordP, Bool.and_eq_true] at h2
    simp only [ordB, Bool.and_eq_true]
    refine ⟨?_, ih h2.2⟩
    rw [List.all_eq_true] at h2 ⊢
    exact fun y hy => h2.1 y.1 (List.mem_map.2 ⟨y, hy, rfl⟩)
theorem PW.quietRNK {b : List Nat} {k : Nat} {l : List PI} {base : SS} {Q : Exit → TT → SS → Prop} (hm : P.follows .mixedOrders = true) (hS : Over base S)
    (h : QN P w0 n base 0 (l.take k) T (fun T2 hs => distB (l.take k) hs = true ∧ noMovB hs = true ∧ ordB b hs = true ∧ LCh P w0 n (Over base) (fun Tl S' => OL P w0 n (l.drop k) (Tl ++ T2) S' (Q .normal)) hs [] S)) : PW P w0 n (.quietR b k l) T S Q :=
  let ⟨_, _, _, h1, h2, h3, h4, h5⟩ := h; PW.quietRN hm h1 h2 h3 h4 hS h5
theorem QM.app {Ss : SS → Prop} {A B : List PI} {T T1 T2 : TT} {va vb : List Value} {hs : HL} (h : QLs P w0 n Ss A T T1 va) : ∀ i, QM P w0 n Ss (i + A.length) B T1 T2 vb hs → QM P w0 n Ss i (A ++ B) T T2 (va ++ vb) hs := by
  induction h with
  | nil => intro i k; simpa using k
  | step hg h k ih => intro i k2; exact .step hg h (ih (i + 1) (by rw [List.length_cons, Nat.add_comm _ 1, ← Nat.add_assoc] at k2; exact k2))
  | off hl hc k ih => intro i k2; exact .off hl hc (ih (i + 1) (by rw [List.length_cons, Nat.add_comm _ 1, ← Nat.add_assoc] at k2; exact k2))
end
end Go.SL

namespace Go.Proofs
open Go.SL
set_option maxRecDepth 100000
theorem Tryd.mixed : Tryd.prog.follows .mixedOrders = true := by kernel_rfl
/-- redwax/label.Check -/
def Tryd.pc18 : PC :=
  (.seq (.ops [⟨some 1, none, .bx 24 (.t 0)⟩, ⟨some 2, none, .mov (.v (.int .i64 0))⟩])
  (.seq (.seq (.ops [⟨some 3, none, .fa 0 (.t 1)⟩, ⟨some 4, none, .ld (.t 3)⟩, ⟨some 5, none, .bin .lss (.t 4) (.v (.int .i64 0))⟩, ⟨some 6, none, .mov (.t 5)⟩, ⟨some 7, (some (6, false)), .fa 0 (.t 1)⟩, ⟨some 8, (some (6, false)), .ld (.t 7)⟩, ⟨some 9, (some (6, false)), .bin .gtr (.t 8) (.v (.int .i64 15))⟩, ⟨some 10, none, .pick (.t 6) (.v (.bool true)) (.t 9)⟩])
  (.cond (.t 10) (.seq (.ops [⟨some 2, none, .mov (.v (.int .i64 2))⟩])
   .ret) .skip))
  (.seq (.ops [⟨some 2, none, .mov (.v (.int .i64 0))⟩])
  .ret)))
theorem Tryd.known18 : Known Tryd.prog 18 Tryd.pc18 11 [2] := ⟨Tryd.f18, _, Tryd.func18, rfl, by kernel_rfl, rfl, rfl⟩
/-- redwax/redwaxref05.May -/
def Tryd.pc21 : PC :=
  (.seq (.ops [⟨some 1, none, .bx 24 (.t 0)⟩, ⟨some 2, none, .mov (.v (.bool false))⟩])
  (.seq (.ops [⟨some 3, none, .fa 0 (.t 1)⟩, ⟨some 4, none, .ld (.t 3)⟩, ⟨some 5, none, .bin .geq (.t 4) (.v (.int .i64 0))⟩, ⟨some 6, none, .mov (.t 5)⟩, ⟨some 7, (some (6, true)), .fa 0 (.t 1)⟩, ⟨some 8, (some (6, true)), .ld (.t 7)⟩, ⟨some 9, (some (6, true)), .bin .leq (.t 8) (.v (.int .i64 15))⟩, ⟨some 10, none, .pick (.t 6) (.t 9) (.v (.bool false))⟩, ⟨some 2, none, .mov (.t 10)⟩])
  .ret))
theorem Tryd.known21 : Known Tryd.prog 21 Tryd.pc21 11 [2] := ⟨Tryd.f21, _, Tryd.func21, rfl, by kernel_rfl, rfl, rfl⟩
end Go.Proofs

namespace Go.Proofs
open Go.SL
set_option maxRecDepth 100000
/-- redwax/paths.Check -/
def Tryd.pc29 : PC :=
  (.seq (.ops [⟨some 2, none, .mov (.v (.int .i64 0))⟩])
  (.seq (.seq (.ops [⟨some 3, none, .mov (.t 0)⟩, ⟨some 4, none, .call 63 [(.t 3)]⟩, ⟨some 5, none, .not (.t 4)⟩])
  (.cond (.t 5) (.seq (.ops [⟨some 2, none, .mov (.v (.int .i64 15))⟩])
   .ret) .skip))
  (.seq (.ops [⟨some 2, none, .mov (.v (.int .i64 0))⟩])
  .ret)))
theorem Tryd.known29 : Known Tryd.prog 29 Tryd.pc29 6 [2] := ⟨Tryd.f29, _, Tryd.func29, rfl, by kernel_rfl, rfl, rfl⟩
/-- redwax/paths.Prefix -/
def Tryd.pc31 : PC :=
  (.seq (.ops [⟨some 2, none, .mov (.v (.int .i64 0))⟩])
  (.seq (.seq (.ops [⟨some 3, none, .mov (.t 0)⟩, ⟨some 4, none, .bin .eql (.t 3) (.v (.string ⟨#[]⟩))⟩])
  (.cond (.t 4) (.seq (.ops [⟨some 2, none, .mov (.v (.int .i64 0))⟩])
   .ret) .skip))
  (.seq (.ops [⟨some 5, none, .mov (.t 0)⟩, ⟨some 6, none, .call 29 [(.t 5)]⟩, ⟨some 2, none, .mov (.t 6)⟩])
  .ret)))
theorem Tryd.known31 : Known Tryd.prog 31 Tryd.pc31 7 [2] := ⟨Tryd.f31, _, Tryd.func31, rfl, by kernel_rfl, rfl, rfl⟩
/-- redwax/paths.Under -/
def Tryd.pc36 : PC :=
  (.seq (.ops [⟨some 4, none, .mov (.v (.bool false))⟩])
  (.seq (.seq (.ops [⟨some 5, none, .mov (.t 1)⟩, ⟨some 6, none, .call 63 [(.t 5)]⟩, ⟨some 7, none, .not (.t 6)⟩, ⟨some 8, none, .mov (.t 7)⟩, ⟨some 9, (some (8, false)), .mov (.t 0)⟩, ⟨some 10, (some (8, false)), .call 31 [(.t 9)]⟩, ⟨some 11, (some (8, false)), .bin .neq (.t 10) (.v (.int .i64 0))⟩, ⟨some 12, none, .pick (.t 8) (.v (.bool true)) (.t 11)⟩])
  (.cond (.t 12) (.seq (.ops [⟨some 4, none, .mov (.v (.bool false))⟩])
   .ret) .skip))
  (.seq (.ops [⟨some 13, none, .mov (.t 0)⟩, ⟨some 14, none, .bin .eql (.t 13) (.v (.string ⟨#[]⟩))⟩, ⟨some 15, none, .mov (.t 14)⟩, ⟨some 16, (some (15, false)), .mov (.t 0)⟩, ⟨some 17, (some (15, false)), .mov (.t 1)⟩, ⟨some 18, (some (15, false)), .bin .eql (.t 16) (.t 17)⟩, ⟨some 19, none, .pick (.t 15) (.v (.bool true)) (.t 18)⟩, ⟨some 20, none, .mov (.t 19)⟩, ⟨some 21, (some (20, false)), .mov (.t 1)⟩, ⟨some 22, (some (20, false)), .mov (.t 0)⟩, ⟨some 23, (some (20, false)), .bin .add (.t 22) (.v (.string ⟨#[47]⟩))⟩, ⟨some 24, (some (20, false)), .call 66 [(.t 21), (.t 23)]⟩, ⟨some 25, none, .pick (.t 20) (.v (.bool true)) (.t 24)⟩, ⟨some 4, none, .mov (.t 25)⟩])
  .ret)))
theorem Tryd.known36 : Known Tryd.prog 36 Tryd.pc36 26 [4] := ⟨Tryd.f36, _, Tryd.func36, rfl, by kernel_rfl, rfl, rfl⟩
/-- redwax/paths.is -/
def Tryd.pc63 : PC :=
  (.seq (.ops [⟨some 2, none, .mov (.v (.bool false))⟩])
  (.seq (.seq (.ops [⟨some 4, none, .mov (.t 0)⟩, ⟨some 5, none, .lenStr (.t 4)⟩, ⟨some 6, none, .bin .gtr (.t 5) (.v (.int .i64 60))⟩])
  (.cond (.t 6) (.seq (.ops [⟨some 2, none, .mov (.v (.bool false))⟩])
   .ret) .skip))
  (.seq (.ops [⟨some 7, none, .mov (.t 0)⟩, ⟨some 8, none, .call 64 [(.t 7), (.v (.string ⟨#[47]⟩))]⟩, ⟨some 3, none, .mov (.t 8)⟩])
  (.seq (.ops [⟨some 9, none, .mov (.t 3)⟩, ⟨some 10, none, .lenS (.t 9)⟩, ⟨some 11, none, .bin .leq (.t 10) (.v (.int .i64 8))⟩, ⟨some 12, none, .mov (.t 11)⟩, ⟨some 13, (some (12, true)), .mov (.t 3)⟩, ⟨some 14, (some (12, true)), .call 88 [(.t 13), (.v (.func (.func 89) #[] #[]))]⟩, ⟨some 15, (some (12, true)), .not (.t 14)⟩, ⟨some 16, none, .pick (.t 12) (.t 15) (.v (.bool false))⟩, ⟨some 2, none, .mov (.t 16)⟩])
  .ret))))
theorem Tryd.known63 : Known Tryd.prog 63 Tryd.pc63 17 [2] := ⟨Tryd.f63, _, Tryd.func63, rfl, by kernel_rfl, rfl, rfl⟩
/-- strings.Split -/
def Tryd.pc64 : PC :=
  (.seq (.ops [⟨some 4, none, .mov (.v (.slice none 0 0))⟩])
  (.seq (.ops [⟨some 5, none, .mov (.t 0)⟩, ⟨some 6, none, .mov (.t 1)⟩, ⟨some 7, none, .call 91 [(.t 5), (.t 6), (.v (.int .i64 0)), (.v (.int .i64 (-1)))]⟩, ⟨some 4, none, .mov (.t 7)⟩])
  .ret))
theorem Tryd.known64 : Known Tryd.prog 64 Tryd.pc64 8 [4] := ⟨Tryd.f64, _, Tryd.func64, rfl, by kernel_rfl, rfl, rfl⟩
/-- strings.HasPrefix -/
def Tryd.pc66 : PC :=
  (.seq (.ops [⟨some 4, none, .mov (.v (.bool false))⟩])
  (.seq (.ops [⟨some 5, none, .mov (.t 0)⟩, ⟨some 6, none, .mov (.t 1)⟩, ⟨some 7, none, .call 93 [(.t 5), (.t 6)]⟩, ⟨some 4, none, .mov (.t 7)⟩])
  .ret))
theorem Tryd.known66 : Known Tryd.prog 66 Tryd.pc66 8 [4] := ⟨Tryd.f66, _, Tryd.func66, rfl, by kernel_rfl, rfl, rfl⟩
/-- slices.ContainsFunc[[]string,string] -/
def Tryd.pc88 : PC :=
  (.seq (.ops [⟨some 4, none, .mov (.v (.bool false))⟩])
  (.seq (.ops [⟨some 5, none, .mov (.t 0)⟩, ⟨some 6, none, .mov (.t 1)⟩, ⟨some 7, none, .call 105 [(.t 5), (.t 6)]⟩, ⟨some 8, none, .bin .geq (.t 7) (.v (.int .i64 0))⟩, ⟨some 4, none, .mov (.t 8)⟩])
  .ret))
theorem Tryd.known88 : Known Tryd.prog 88 Tryd.pc88 9 [4] := ⟨Tryd.f88, _, Tryd.func88, rfl, by kernel_rfl, rfl, rfl⟩
/-- redwax/paths.is$1 -/
def Tryd.pc89 : PC :=
  (.seq (.ops [⟨some 2, none, .mov (.v (.bool false))⟩])
  (.seq (.ops [⟨some 3, none, .mov (.t 0)⟩, ⟨some 4, none, .call 90 [(.t 3)]⟩, ⟨some 5, none, .not (.t 4)⟩, ⟨some 2, none, .mov (.t 5)⟩])
  .ret))
theorem Tryd.known89 : Known Tryd.prog 89 Tryd.pc89 6 [2] := ⟨Tryd.f89, _, Tryd.func89, rfl, by kernel_rfl, rfl, rfl⟩
/-- redwax/paths.part -/
def Tryd.pc90 : PC :=
  (.seq (.ops [⟨some 2, none, .mov (.v (.bool false))⟩])
  (.seq (.ops [⟨some 3, none, .mov (.v (.int .i64 0))⟩])
  (.seq (.seq (.ops [⟨some 6, none, .mov (.t 0)⟩, ⟨some 7, none, .more (.rngS (.t 6))⟩])
  (.block 0 (.loop (.seq (.ops [⟨some 8, none, .more (.nxtS (.t 7))⟩, ⟨some 9, none, .ext 0 (.t 8)⟩])
    (.seq (.cond (.t 9) .skip (.exit 0))
    (.block 1 (.seq (.ops [⟨some 10, none, .ext 2 (.t 8)⟩, ⟨some 5, none, .mov (.t 10)⟩])
     (.seq (.seq (.ops [⟨some 11, none, .mov (.t 5)⟩, ⟨some 12, none, .call 106 [(.t 11)]⟩, ⟨some 13, none, .not (.t 12)⟩])
     (.cond (.t 13) (.seq (.ops [⟨some 2, none, .mov (.v (.bool false))⟩])
      .ret) .skip))
     (.seq (.ops [⟨some 14, none, .mov (.t 5)⟩, ⟨some 15, none, .bin .eql (.t 14) (.v (.int .i32 46))⟩])
     (.cond (.t 15) (.ops [⟨some 16, none, .mov (.t 3)⟩, ⟨some 17, none, .bin .add (.t 16) (.v (.int .i64 1))⟩, ⟨some 3, none, .mov (.t 17)⟩]) .skip))))))))))
  (.seq (.ops [⟨some 18, none, .mov (.t 3)⟩, ⟨some 19, none, .mov (.t 0)⟩, ⟨some 20, none, .lenStr (.t 19)⟩, ⟨some 21, none, .bin .lss (.t 18) (.t 20)⟩, ⟨some 2, none, .mov (.t 21)⟩])
  .ret))))
theorem Tryd.known90 : Known Tryd.prog 90 Tryd.pc90 22 [2] := ⟨Tryd.f90, _, Tryd.func90, rfl, by kernel_rfl, rfl, rfl⟩
/-- strings.genSplit -/
def Tryd.pc91 : PC :=
  (.seq (.ops [⟨some 8, none, .mov (.v (.slice none 0 0))⟩])
  (.seq (.seq (.ops [⟨some 12, none, .mov (.t 3)⟩, ⟨some 13, none, .bin .eql (.t 12) (.v (.int .i64 0))⟩])
  (.cond (.t 13) (.seq (.ops [⟨some 8, none, .mov (.v (.slice none 0 0))⟩])
   .ret) .skip))
  (.seq (.seq (.ops [⟨some 14, none, .mov (.t 1)⟩, ⟨some 15, none, .bin .eql (.t 14) (.v (.string ⟨#[]⟩))⟩])
  (.cond (.t 15) (.seq (.ops [⟨some 16, none, .mov (.t 0)⟩, ⟨some 17, none, .mov (.t 3)⟩, ⟨some 18, none, .call 107 [(.t 16), (.t 17)]⟩, ⟨some 8, none, .mov (.t 18)⟩])
   .ret) .skip))
  (.seq (.seq (.ops [⟨some 19, none, .mov (.t 3)⟩, ⟨some 20, none, .bin .lss (.t 19) (.v (.int .i64 0))⟩])
  (.cond (.t 20) (.ops [⟨some 21, none, .mov (.t 0)⟩, ⟨some 22, none, .mov (.t 1)⟩, ⟨some 23, none, .call 108 [(.t 21), (.t 22)]⟩, ⟨some 24, none, .bin .add (.t 23) (.v (.int .i64 1))⟩, ⟨some 3, none, .mov (.t 24)⟩]) .skip))
  (.seq (.ops [⟨some 25, none, .mov (.t 3)⟩, ⟨some 26, none, .mov (.t 0)⟩, ⟨some 27, none, .lenStr (.t 26)⟩, ⟨some 28, none, .bin .add (.t 27) (.v (.int .i64 1))⟩, ⟨some 29, none, .mnx false [(.t 25), (.t 28)]⟩, ⟨some 3, none, .mov (.t 29)⟩])
  (.seq (.ops [⟨some 30, none, .mov (.t 3)⟩, ⟨some 31, none, .mkS 35 9 1 16 (.string ⟨#[]⟩) (.t 30) (.t 30)⟩, ⟨some 9, none, .mov (.t 31)⟩])
  (.seq (.ops [⟨some 32, none, .mov (.t 3)⟩, ⟨some 33, none, .bin .sub (.t 32) (.v (.int .i64 1))⟩, ⟨some 3, none, .mov (.t 33)⟩])
  (.seq (.ops [⟨some 10, none, .mov (.v (.int .i64 0))⟩])
  (.seq (.block 0 (.loop (.seq (.seq (.ops [⟨some 34, none, .mov (.t 10)⟩, ⟨some 35, none, .mov (.t 3)⟩, ⟨some 36, none, .bin .lss (.t 34) (.t 35)⟩])
    (.cond (.t 36) .skip (.exit 0)))
    (.block 1 (.seq (.ops [⟨some 37, none, .mov (.t 0)⟩, ⟨some 38, none, .mov (.t 1)⟩, ⟨some 39, none, .call 109 [(.t 37), (.t 38)]⟩, ⟨some 11, none, .mov (.t 39)⟩])
     (.seq (.seq (.ops [⟨some 40, none, .mov (.t 11)⟩, ⟨some 41, none, .bin .lss (.t 40) (.v (.int .i64 0))⟩])
     (.cond (.t 41) (.exit 0) .skip))
     (.seq (.ops [⟨some 42, none, .mov (.t 9)⟩, ⟨some 43, none, .mov (.t 10)⟩, ⟨some 44, none, .mov (.t 0)⟩, ⟨some 45, none, .mov (.t 11)⟩, ⟨some 46, none, .mov (.t 2)⟩, ⟨some 47, none, .bin .add (.t 45) (.t 46)⟩, ⟨some 48, none, .slStr (.t 44) none (some (.t 47))⟩, ⟨some 49, none, .ixS 1 (.t 42) (.t 43)⟩, ⟨none, none, .st 1 (.t 49) (.t 48)⟩])
     (.seq (.ops [⟨some 50, none, .mov (.t 0)⟩, ⟨some 51, none, .mov (.t 11)⟩, ⟨some 52, none, .mov (.t 1)⟩, ⟨some 53, none, .lenStr (.t 52)⟩, ⟨some 54, none, .bin .add (.t 51) (.t 53)⟩, ⟨some 55, none, .slStr (.t 50) (some (.t 54)) none⟩, ⟨some 0, none, .mov (.t 55)⟩])
     (.ops [⟨some 56, none, .mov (.t 10)⟩, ⟨some 57, none, .bin .add (.t 56) (.v (.int .i64 1))⟩, ⟨some 10, none, .mov (.t 57)⟩])))))))))
  (.seq (.ops [⟨some 58, none, .mov (.t 9)⟩, ⟨some 59, none, .mov (.t 10)⟩, ⟨some 60, none, .mov (.t 0)⟩, ⟨some 61, none, .ixS 1 (.t 58) (.t 59)⟩, ⟨none, none, .st 1 (.t 61) (.t 60)⟩])
  (.seq (.ops [⟨some 62, none, .mov (.t 9)⟩, ⟨some 63, none, .mov (.t 10)⟩, ⟨some 64, none, .bin .add (.t 63) (.v (.int .i64 1))⟩, ⟨some 65, none, .slS 1 (.t 62) none (some (.t 64))⟩, ⟨some 8, none, .mov (.t 65)⟩])
  .ret)))))))))))
theorem Tryd.known91 : Known Tryd.prog 91 Tryd.pc91 66 [8] := ⟨Tryd.f91, _, Tryd.func91, rfl, by kernel_rfl, rfl, rfl⟩
/-- internal/stringslite.HasPrefix -/
def Tryd.pc93 : PC :=
  (.seq (.ops [⟨some 4, none, .mov (.v (.bool false))⟩])
  (.seq (.ops [⟨some 5, none, .mov (.t 0)⟩, ⟨some 6, none, .lenStr (.t 5)⟩, ⟨some 7, none, .mov (.t 1)⟩, ⟨some 8, none, .lenStr (.t 7)⟩, ⟨some 9, none, .bin .geq (.t 6) (.t 8)⟩, ⟨some 10, none, .mov (.t 9)⟩, ⟨some 11, (some (10, true)), .mov (.t 0)⟩, ⟨some 12, (some (10, true)), .mov (.t 1)⟩, ⟨some 13, (some (10, true)), .lenStr (.t 12)⟩, ⟨some 14, (some (10, true)), .slStr (.t 11) none (some (.t 13))⟩, ⟨some 15, (some (10, true)), .mov (.t 1)⟩, ⟨some 16, (some (10, true)), .bin .eql (.t 14) (.t 15)⟩, ⟨some 17, none, .pick (.t 10) (.t 16) (.v (.bool false))⟩, ⟨some 4, none, .mov (.t 17)⟩])
  .ret))
theorem Tryd.known93 : Known Tryd.prog 93 Tryd.pc93 18 [4] := ⟨Tryd.f93, _, Tryd.func93, rfl, by kernel_rfl, rfl, rfl⟩
/-- slices.IndexFunc[[]string,string] -/
def Tryd.pc105 : PC :=
  (.seq (.ops [⟨some 4, none, .mov (.v (.int .i64 0))⟩])
  (.seq (.seq (.ops [⟨some 6, none, .mov (.t 0)⟩, ⟨some 7, none, .lenS (.t 6)⟩, ⟨some 8, none, .mov (.v (.int .i64 0))⟩])
  (.block 0 (.loop (.seq (.ops [⟨some 9, none, .bin .lss (.t 8) (.t 7)⟩])
    (.seq (.cond (.t 9) .skip (.exit 0))
    (.seq (.block 1 (.seq (.ops [⟨some 10, none, .mov (.t 8)⟩, ⟨some 5, none, .mov (.t 10)⟩])
     (.seq (.ops [⟨some 11, none, .mov (.t 1)⟩, ⟨some 12, none, .mov (.t 0)⟩, ⟨some 13, none, .mov (.t 5)⟩, ⟨some 14, none, .ixS 1 (.t 12) (.t 13)⟩, ⟨some 15, none, .ld (.t 14)⟩, ⟨some 16, none, .callv (.t 11) [(.t 15)]⟩])
     (.cond (.t 16) (.seq (.ops [⟨some 17, none, .mov (.t 5)⟩, ⟨some 4, none, .mov (.t 17)⟩])
      .ret) .skip))))
    (.ops [⟨some 18, none, .bin .add (.t 8) (.v (.int .i64 1))⟩, ⟨some 8, none, .mov (.t 18)⟩])))))))
  (.seq (.ops [⟨some 4, none, .mov (.v (.int .i64 (-1)))⟩])
  .ret)))
theorem Tryd.known105 : Known Tryd.prog 105 Tryd.pc105 19 [4] := ⟨Tryd.f105, _, Tryd.func105, rfl, by kernel_rfl, rfl, rfl⟩
/-- redwax/paths.may -/
def Tryd.pc106 : PC :=
  (.seq (.ops [⟨some 2, none, .mov (.v (.bool false))⟩])
  (.seq (.ops [⟨some 3, none, .mov (.t 0)⟩, ⟨some 4, none, .bin .geq (.t 3) (.v (.int .i32 97))⟩, ⟨some 5, none, .mov (.t 4)⟩, ⟨some 6, (some (5, true)), .mov (.t 0)⟩, ⟨some 7, (some (5, true)), .bin .leq (.t 6) (.v (.int .i32 122))⟩, ⟨some 8, none, .pick (.t 5) (.t 7) (.v (.bool false))⟩, ⟨some 9, none, .mov (.t 8)⟩, ⟨some 10, (some (9, false)), .mov (.t 0)⟩, ⟨some 11, (some (9, false)), .bin .geq (.t 10) (.v (.int .i32 65))⟩, ⟨some 12, (some (9, false)), .mov (.t 11)⟩, ⟨some 13, (some (12, true)), .mov (.t 0)⟩, ⟨some 14, (some (12, true)), .bin .leq (.t 13) (.v (.int .i32 90))⟩, ⟨some 15, (some (9, false)), .pick (.t 12) (.t 14) (.v (.bool false))⟩, ⟨some 16, none, .pick (.t 9) (.v (.bool true)) (.t 15)⟩, ⟨some 17, none, .mov (.t 16)⟩, ⟨some 18, (some (17, false)), .mov (.t 0)⟩, ⟨some 19, (some (17, false)), .bin .geq (.t 18) (.v (.int .i32 48))⟩, ⟨some 20, (some (17, false)), .mov (.t 19)⟩, ⟨some 21, (some (20, true)), .mov (.t 0)⟩, ⟨some 22, (some (20, true)), .bin .leq (.t 21) (.v (.int .i32 57))⟩, ⟨some 23, (some (17, false)), .pick (.t 20) (.t 22) (.v (.bool false))⟩, ⟨some 24, none, .pick (.t 17) (.v (.bool true)) (.t 23)⟩, ⟨some 25, none, .mov (.t 24)⟩, ⟨some 26, (some (25, false)), .mov (.t 0)⟩, ⟨some 27, (some (25, false)), .bin .eql (.t 26) (.v (.int .i32 95))⟩, ⟨some 28, none, .pick (.t 25) (.v (.bool true)) (.t 27)⟩, ⟨some 29, none, .mov (.t 28)⟩, ⟨some 30, (some (29, false)), .mov (.t 0)⟩, ⟨some 31, (some (29, false)), .bin .eql (.t 30) (.v (.int .i32 45))⟩, ⟨some 32, none, .pick (.t 29) (.v (.bool true)) (.t 31)⟩, ⟨some 33, none, .mov (.t 32)⟩, ⟨some 34, (some (33, false)), .mov (.t 0)⟩, ⟨some 35, (some (33, false)), .bin .eql (.t 34) (.v (.int .i32 46))⟩, ⟨some 36, none, .pick (.t 33) (.v (.bool true)) (.t 35)⟩, ⟨some 2, none, .mov (.t 36)⟩])
  .ret))
theorem Tryd.known106 : Known Tryd.prog 106 Tryd.pc106 37 [2] := ⟨Tryd.f106, _, Tryd.func106, rfl, by kernel_rfl, rfl, rfl⟩
/-- strings.Count -/
def Tryd.pc108 : PC :=
  (.seq (.ops [⟨some 4, none, .mov (.v (.int .i64 0))⟩])
  (.seq (.seq (.ops [⟨some 7, none, .mov (.t 1)⟩, ⟨some 8, none, .lenStr (.t 7)⟩, ⟨some 9, none, .bin .eql (.t 8) (.v (.int .i64 0))⟩])
  (.cond (.t 9) (.seq (.ops [⟨some 10, none, .mov (.t 0)⟩, ⟨some 11, none, .call 135 [(.t 10)]⟩, ⟨some 12, none, .bin .add (.t 11) (.v (.int .i64 1))⟩, ⟨some 4, none, .mov (.t 12)⟩])
   .ret) .skip))
  (.seq (.seq (.ops [⟨some 13, none, .mov (.t 1)⟩, ⟨some 14, none, .lenStr (.t 13)⟩, ⟨some 15, none, .bin .eql (.t 14) (.v (.int .i64 1))⟩])
  (.cond (.t 15) (.seq (.ops [⟨some 16, none, .mov (.t 0)⟩, ⟨some 17, none, .mov (.t 1)⟩, ⟨some 18, none, .ixStr (.t 17) (.v (.int .i64 0))⟩, ⟨some 19, none, .more (.xc 1 [(.t 16), (.t 18)])⟩, ⟨some 4, none, .mov (.t 19)⟩])
   .ret) .skip))
  (.seq (.ops [⟨some 5, none, .mov (.v (.int .i64 0))⟩])
  (.block 0 (.loop (.block 1 (.seq (.ops [⟨some 20, none, .mov (.t 0)⟩, ⟨some 21, none, .mov (.t 1)⟩, ⟨some 22, none, .call 109 [(.t 20), (.t 21)]⟩, ⟨some 6, none, .mov (.t 22)⟩])
     (.seq (.seq (.ops [⟨some 23, none, .mov (.t 6)⟩, ⟨some 24, none, .bin .eql (.t 23) (.v (.int .i64 (-1)))⟩])
     (.cond (.t 24) (.seq (.ops [⟨some 25, none, .mov (.t 5)⟩, ⟨some 4, none, .mov (.t 25)⟩])
      .ret) .skip))
     (.seq (.ops [⟨some 26, none, .mov (.t 5)⟩, ⟨some 27, none, .bin .add (.t 26) (.v (.int .i64 1))⟩, ⟨some 5, none, .mov (.t 27)⟩])
     (.ops [⟨some 28, none, .mov (.t 0)⟩, ⟨some 29, none, .mov (.t 6)⟩, ⟨some 30, none, .mov (.t 1)⟩, ⟨some 31, none, .lenStr (.t 30)⟩, ⟨some 32, none, .bin .add (.t 29) (.t 31)⟩, ⟨some 33, none, .slStr (.t 28) (some (.t 32)) none⟩, ⟨some 0, none, .mov (.t 33)⟩])))))))))))
theorem Tryd.known108 : Known Tryd.prog 108 Tryd.pc108 34 [4] := ⟨Tryd.f108, _, Tryd.func108, rfl, by kernel_rfl, rfl, rfl⟩
/-- strings.Index -/
def Tryd.pc109 : PC :=
  (.seq (.ops [⟨some 4, none, .mov (.v (.int .i64 0))⟩])
  (.seq (.ops [⟨some 5, none, .mov (.t 0)⟩, ⟨some 6, none, .mov (.t 1)⟩, ⟨some 7, none, .call 122 [(.t 5), (.t 6)]⟩, ⟨some 4, none, .mov (.t 7)⟩])
  .ret))
theorem Tryd.known109 : Known Tryd.prog 109 Tryd.pc109 8 [4] := ⟨Tryd.f109, _, Tryd.func109, rfl, by kernel_rfl, rfl, rfl⟩
/-- internal/stringslite.Index -/
def Tryd.pc122 : PC :=
  (.seq (.ops [⟨some 4, none, .mov (.v (.int .i64 0))⟩])
  (.seq (.ops [⟨some 14, none, .mov (.t 1)⟩, ⟨some 15, none, .lenStr (.t 14)⟩, ⟨some 5, none, .mov (.t 15)⟩])
  (.seq (.block 0 (.seq (.ops [⟨some 17, none, .mov (.t 5)⟩, ⟨some 18, none, .bin .eql (.t 17) (.v (.int .i64 0))⟩, ⟨some 19, none, .mov (.t 18)⟩, ⟨some 20, (some (19, false)), .mov (.t 1)⟩, ⟨some 21, (some (19, false)), .mov (.t 0)⟩, ⟨some 22, (some (19, false)), .bin .eql (.t 20) (.t 21)⟩, ⟨some 23, none, .pick (.t 19) (.v (.bool true)) (.t 22)⟩, ⟨some 16, none, .mov (.t 23)⟩])
   (.cond (.t 16) (.seq (.ops [⟨some 4, none, .mov (.v (.int .i64 0))⟩])
    .ret) (.seq (.ops [⟨some 25, none, .mov (.t 5)⟩, ⟨some 26, none, .bin .eql (.t 25) (.v (.int .i64 1))⟩, ⟨some 24, none, .mov (.t 26)⟩])
    (.cond (.t 24) (.seq (.ops [⟨some 27, none, .mov (.t 0)⟩, ⟨some 28, none, .mov (.t 1)⟩, ⟨some 29, none, .ixStr (.t 28) (.v (.int .i64 0))⟩, ⟨some 30, none, .call 144 [(.t 27), (.t 29)]⟩, ⟨some 4, none, .mov (.t 30)⟩])
     .ret) (.seq (.ops [⟨some 32, none, .mov (.t 5)⟩, ⟨some 33, none, .mov (.t 0)⟩, ⟨some 34, none, .lenStr (.t 33)⟩, ⟨some 35, none, .bin .geq (.t 32) (.t 34)⟩, ⟨some 31, none, .mov (.t 35)⟩])
     (.cond (.t 31) (.seq (.ops [⟨some 4, none, .mov (.v (.int .i64 (-1)))⟩])
      .ret) (.seq (.ops [⟨some 37, none, .mov (.t 5)⟩, ⟨some 38, none, .ld (.v (.pointer (some ⟨0, 0, none⟩)))⟩, ⟨some 39, none, .bin .leq (.t 37) (.t 38)⟩, ⟨some 40, none, .mov (.t 39)⟩, ⟨some 41, (some (40, true)), .mov (.t 0)⟩, ⟨some 42, (some (40, true)), .lenStr (.t 41)⟩, ⟨some 43, (some (40, true)), .bin .leq (.t 42) (.v (.int .i64 64))⟩, ⟨some 44, none, .pick (.t 40) (.t 43) (.v (.bool false))⟩, ⟨some 36, none, .mov (.t 44)⟩])
      (.cond (.t 36) (.seq (.ops [⟨some 45, none, .mov (.t 0)⟩, ⟨some 46, none, .mov (.t 1)⟩, ⟨some 47, none, .more (.other (.xf 145 [(.t 45), (.t 46)]))⟩, ⟨some 4, none, .mov (.t 47)⟩])
       .ret) .skip)))))))))
  (.seq (.ops [⟨some 48, none, .mov (.t 1)⟩, ⟨some 49, none, .ixStr (.t 48) (.v (.int .i64 0))⟩, ⟨some 6, none, .mov (.t 49)⟩])
  (.seq (.ops [⟨some 50, none, .mov (.t 1)⟩, ⟨some 51, none, .ixStr (.t 50) (.v (.int .i64 1))⟩, ⟨some 7, none, .mov (.t 51)⟩])
  (.seq (.ops [⟨some 8, none, .mov (.v (.int .i64 0))⟩])
  (.seq (.ops [⟨some 52, none, .mov (.t 0)⟩, ⟨some 53, none, .lenStr (.t 52)⟩, ⟨some 54, none, .mov (.t 5)⟩, ⟨some 55, none, .bin .sub (.t 53) (.t 54)⟩, ⟨some 56, none, .bin .add (.t 55) (.v (.int .i64 1))⟩, ⟨some 9, none, .mov (.t 56)⟩])
  (.seq (.ops [⟨some 10, none, .mov (.v (.int .i64 0))⟩])
  (.seq (.block 1 (.loop (.seq (.seq (.ops [⟨some 57, none, .mov (.t 8)⟩, ⟨some 58, none, .mov (.t 9)⟩, ⟨some 59, none, .bin .lss (.t 57) (.t 58)⟩])
    (.cond (.t 59) .skip (.exit 1)))
    (.block 2 (.seq (.seq (.ops [⟨some 60, none, .mov (.t 0)⟩, ⟨some 61, none, .mov (.t 8)⟩, ⟨some 62, none, .ixStr (.t 60) (.t 61)⟩, ⟨some 63, none, .mov (.t 6)⟩, ⟨some 64, none, .bin .neq (.t 62) (.t 63)⟩])
     (.cond (.t 64) (.seq (.ops [⟨some 65, none, .mov (.t 0)⟩, ⟨some 66, none, .mov (.t 8)⟩, ⟨some 67, none, .bin .add (.t 66) (.v (.int .i64 1))⟩, ⟨some 68, none, .mov (.t 9)⟩, ⟨some 69, none, .slStr (.t 65) (some (.t 67)) (some (.t 68))⟩, ⟨some 70, none, .mov (.t 6)⟩, ⟨some 71, none, .call 144 [(.t 69), (.t 70)]⟩, ⟨some 11, none, .mov (.t 71)⟩])
      (.seq (.seq (.ops [⟨some 72, none, .mov (.t 11)⟩, ⟨some 73, none, .bin .lss (.t 72) (.v (.int .i64 0))⟩])
      (.cond (.t 73) (.seq (.ops [⟨some 4, none, .mov (.v (.int .i64 (-1)))⟩])
       .ret) .skip))
      (.ops [⟨some 74, none, .mov (.t 8)⟩, ⟨some 75, none, .mov (.t 11)⟩, ⟨some 76, none, .bin .add (.t 75) (.v (.int .i64 1))⟩, ⟨some 77, none, .bin .add (.t 74) (.t 76)⟩, ⟨some 8, none, .mov (.t 77)⟩]))) .skip))
     (.seq (.seq (.ops [⟨some 78, none, .mov (.t 0)⟩, ⟨some 79, none, .mov (.t 8)⟩, ⟨some 80, none, .bin .add (.t 79) (.v (.int .i64 1))⟩, ⟨some 81, none, .ixStr (.t 78) (.t 80)⟩, ⟨some 82, none, .mov (.t 7)⟩, ⟨some 83, none, .bin .eql (.t 81) (.t 82)⟩, ⟨some 84, none, .mov (.t 83)⟩, ⟨some 85, (some (84, true)), .mov (.t 0)⟩, ⟨some 86, (some (84, true)), .mov (.t 8)⟩, ⟨some 87, (some (84, true)), .mov (.t 8)⟩, ⟨some 88, (some (84, true)), .mov (.t 5)⟩, ⟨some 89, (some (84, true)), .bin .add (.t 87) (.t 88)⟩, ⟨some 90, (some (84, true)), .slStr (.t 85) (some (.t 86)) (some (.t 89))⟩, ⟨some 91, (some (84, true)), .mov (.t 1)⟩, ⟨some 92, (some (84, true)), .bin .eql (.t 90) (.t 91)⟩, ⟨some 93, none, .pick (.t 84) (.t 92) (.v (.bool false))⟩])
     (.cond (.t 93) (.seq (.ops [⟨some 94, none, .mov (.t 8)⟩, ⟨some 4, none, .mov (.t 94)⟩])
      .ret) .skip))
     (.seq (.ops [⟨some 95, none, .mov (.t 8)⟩, ⟨some 96, none, .bin .add (.t 95) (.v (.int .i64 1))⟩, ⟨some 8, none, .mov (.t 96)⟩])
     (.seq (.ops [⟨some 97, none, .mov (.t 10)⟩, ⟨some 98, none, .bin .add (.t 97) (.v (.int .i64 1))⟩, ⟨some 10, none, .mov (.t 98)⟩])
     (.seq (.ops [⟨some 99, none, .mov (.t 5)⟩, ⟨some 100, none, .ld (.v (.pointer (some ⟨0, 0, none⟩)))⟩, ⟨some 101, none, .bin .leq (.t 99) (.t 100)⟩, ⟨some 102, none, .mov (.t 101)⟩, ⟨some 103, (some (102, true)), .mov (.t 10)⟩, ⟨some 104, (some (102, true)), .mov (.t 8)⟩, ⟨some 105, (some (102, true)), .call 146 [(.t 104)]⟩, ⟨some 106, (some (102, true)), .bin .gtr (.t 103) (.t 105)⟩, ⟨some 107, none, .pick (.t 102) (.t 106) (.v (.bool false))⟩])
     (.cond (.t 107) (.seq (.ops [⟨some 108, none, .mov (.t 0)⟩, ⟨some 109, none, .mov (.t 8)⟩, ⟨some 110, none, .slStr (.t 108) (some (.t 109)) none⟩, ⟨some 111, none, .mov (.t 1)⟩, ⟨some 112, none, .more (.other (.xf 145 [(.t 110), (.t 111)]))⟩, ⟨some 12, none, .mov (.t 112)⟩])
      (.seq (.seq (.ops [⟨some 113, none, .mov (.t 12)⟩, ⟨some 114, none, .bin .geq (.t 113) (.v (.int .i64 0))⟩])
      (.cond (.t 114) (.seq (.ops [⟨some 115, none, .mov (.t 12)⟩, ⟨some 116, none, .mov (.t 8)⟩, ⟨some 117, none, .bin .add (.t 115) (.t 116)⟩, ⟨some 4, none, .mov (.t 117)⟩])
       .ret) .skip))
      (.seq (.ops [⟨some 4, none, .mov (.v (.int .i64 (-1)))⟩])
      .ret))) (.seq (.ops [⟨some 118, none, .mov (.t 5)⟩, ⟨some 119, none, .ld (.v (.pointer (some ⟨0, 0, none⟩)))⟩, ⟨some 120, none, .bin .gtr (.t 118) (.t 119)⟩, ⟨some 121, none, .mov (.t 120)⟩, ⟨some 122, (some (121, true)), .mov (.t 10)⟩, ⟨some 123, (some (121, true)), .mov (.t 8)⟩, ⟨some 124, (some (121, true)), .bin .shr (.t 123) (.v (.int .u64 4))⟩, ⟨some 125, (some (121, true)), .bin .add (.v (.int .i64 4)) (.t 124)⟩, ⟨some 126, (some (121, true)), .bin .geq (.t 122) (.t 125)⟩, ⟨some 127, none, .pick (.t 121) (.t 126) (.v (.bool false))⟩, ⟨some 128, none, .mov (.t 127)⟩, ⟨some 129, (some (128, true)), .mov (.t 8)⟩, ⟨some 130, (some (128, true)), .mov (.t 9)⟩, ⟨some 131, (some (128, true)), .bin .lss (.t 129) (.t 130)⟩, ⟨some 132, none, .pick (.t 128) (.t 131) (.v (.bool false))⟩])
      (.cond (.t 132) (.seq (.ops [⟨some 133, none, .mov (.t 0)⟩, ⟨some 134, none, .mov (.t 8)⟩, ⟨some 135, none, .slStr (.t 133) (some (.t 134)) none⟩, ⟨some 136, none, .mov (.t 1)⟩, ⟨some 137, none, .call 147 [(.t 135), (.t 136)]⟩, ⟨some 13, none, .mov (.t 137)⟩])
       (.seq (.seq (.ops [⟨some 138, none, .mov (.t 13)⟩, ⟨some 139, none, .bin .lss (.t 138) (.v (.int .i64 0))⟩])
       (.cond (.t 139) (.seq (.ops [⟨some 4, none, .mov (.v (.int .i64 (-1)))⟩])
        .ret) .skip))
       (.seq (.ops [⟨some 140, none, .mov (.t 8)⟩, ⟨some 141, none, .mov (.t 13)⟩, ⟨some 142, none, .bin .add (.t 140) (.t 141)⟩, ⟨some 4, none, .mov (.t 142)⟩])
       .ret))) .skip))))))))))))
  (.seq (.ops [⟨some 4, none, .mov (.v (.int .i64 (-1)))⟩])
  .ret))))))))))
theorem Tryd.known122 : Known Tryd.prog 122 Tryd.pc122 143 [4] := ⟨Tryd.f122, _, Tryd.func122, rfl, by kernel_rfl, rfl, rfl⟩
/-- internal/stringslite.IndexByte -/
def Tryd.pc144 : PC :=
  (.seq (.ops [⟨some 4, none, .mov (.v (.int .i64 0))⟩])
  (.seq (.ops [⟨some 5, none, .mov (.t 0)⟩, ⟨some 6, none, .mov (.t 1)⟩, ⟨some 7, none, .more (.xc 0 [(.t 5), (.t 6)])⟩, ⟨some 4, none, .mov (.t 7)⟩])
  .ret))
theorem Tryd.known144 : Known Tryd.prog 144 Tryd.pc144 8 [4] := ⟨Tryd.f144, _, Tryd.func144, rfl, by kernel_rfl, rfl, rfl⟩
end Go.Proofs

namespace Go.Proofs
open Go.SL
set_option maxRecDepth 100000
/-- redwax/redwaxlaw07.RulesJust -/
def Tryd.pc11 : PC :=
  (.seq (.ops [⟨some 3, none, .bx 45 (.t 0)⟩, ⟨some 4, none, .bx 56 (.t 1)⟩, ⟨some 6, none, .mov (.v (.bool false))⟩])
  (.seq (.seq (.ops [⟨some 11, none, .ldA 2 (.t 3)⟩, ⟨some 12, none, .mov (.t 2)⟩, ⟨some 13, none, .call 40 [(.t 11), (.t 12)]⟩, ⟨some 14, none, .mov (.t 13)⟩, ⟨some 15, (some (14, false)), .fa 0 (.t 4)⟩, ⟨some 16, (some (14, false)), .ld (.t 15)⟩, ⟨some 17, (some (14, false)), .lenStr (.t 16)⟩, ⟨some 18, (some (14, false)), .bin .gtr (.t 17) (.v (.int .i64 200))⟩, ⟨some 19, none, .pick (.t 14) (.v (.bool true)) (.t 18)⟩])
  (.cond (.t 19) (.seq (.ops [⟨some 20, none, .call 41 []⟩, ⟨some 6, none, .mov (.t 20)⟩])
   .ret) .skip))
  (.seq (.ops [⟨some 22, none, .ldA 2 (.t 3)⟩, ⟨some 23, none, .fa 0 (.t 4)⟩, ⟨some 24, none, .ld (.t 23)⟩, ⟨some 25, none, .fa 1 (.t 4)⟩, ⟨some 26, none, .ldA 2 (.t 25)⟩, ⟨some 27, none, .call 43 [(.t 22), (.t 24), (.t 26)]⟩, ⟨some 21, none, .mov (.t 27)⟩, ⟨some 28, none, .ext 0 (.t 21)⟩, ⟨some 29, none, .ext 1 (.t 21)⟩, ⟨some 7, none, .al 45 [.int .i64 0, .slice none 0 0]⟩, ⟨none, none, .st 2 (.t 7) (.t 28)⟩, ⟨some 8, none, .mov (.t 29)⟩])
  (.seq (.seq (.ops [⟨some 30, none, .mov (.t 8)⟩, ⟨some 31, none, .bin .neq (.t 30) (.v (.int .i64 0))⟩])
  (.cond (.t 31) (.seq (.ops [⟨some 32, none, .fa 0 (.t 7)⟩, ⟨some 33, none, .ld (.t 32)⟩, ⟨some 34, none, .bin .eql (.t 33) (.v (.int .i64 0))⟩, ⟨some 35, none, .mov (.t 34)⟩, ⟨some 36, (some (35, true)), .fa 1 (.t 7)⟩, ⟨some 37, (some (35, true)), .ld (.t 36)⟩, ⟨some 38, (some (35, true)), .lenS (.t 37)⟩, ⟨some 39, (some (35, true)), .bin .eql (.t 38) (.v (.int .i64 0))⟩, ⟨some 40, none, .pick (.t 35) (.t 39) (.v (.bool false))⟩, ⟨some 41, none, .mov (.t 40)⟩, ⟨some 42, (some (41, true)), .call 41 []⟩, ⟨some 43, none, .pick (.t 41) (.t 42) (.v (.bool false))⟩, ⟨some 6, none, .mov (.t 43)⟩])
   .ret) .skip))
  (.seq (.seq (.ops [⟨some 44, none, .ldA 2 (.t 7)⟩, ⟨some 45, none, .call 47 [(.t 44)]⟩, ⟨some 46, none, .bin .neq (.t 45) (.v (.int .i64 0))⟩, ⟨some 47, none, .mov (.t 46)⟩, ⟨some 48, (some (47, false)), .fa 0 (.t 7)⟩, ⟨some 49, (some (47, false)), .ld (.t 48)⟩, ⟨some 50, (some (47, false)), .fa 0 (.t 3)⟩, ⟨some 51, (some (47, false)), .ld (.t 50)⟩, ⟨some 52, (some (47, false)), .bin .add (.t 51) (.v (.int .i64 1))⟩, ⟨some 53, (some (47, false)), .bin .neq (.t 49) (.t 52)⟩, ⟨some 54, none, .pick (.t 47) (.v (.bool true)) (.t 53)⟩])
  (.cond (.t 54) (.seq (.ops [⟨some 6, none, .mov (.v (.bool false))⟩])
   .ret) .skip))
  (.seq (.ops [⟨some 9, none, .mov (.v (.bool false))⟩])
  (.seq (.seq (.ops [⟨some 10, none, .mov (.v (.int .i64 0))⟩])
  (.block 0 (.loop (.seq (.seq (.ops [⟨some 55, none, .mov (.t 10)⟩, ⟨some 56, none, .fa 1 (.t 3)⟩, ⟨some 57, none, .ld (.t 56)⟩, ⟨some 58, none, .lenS (.t 57)⟩, ⟨some 59, none, .bin .lss (.t 55) (.t 58)⟩])
    (.cond (.t 59) .skip (.exit 0)))
    (.seq (.block 1 (.quiet 21 [⟨some 62, none, .mov (.t 9)⟩, ⟨some 63, none, .mov (.t 62)⟩, ⟨some 64, (some (63, false)), .fa 1 (.t 3)⟩, ⟨some 65, (some (63, false)), .ld (.t 64)⟩, ⟨some 66, (some (63, false)), .mov (.t 10)⟩, ⟨some 67, (some (63, false)), .ixS 3 (.t 65) (.t 66)⟩, ⟨some 68, (some (63, false)), .fa 0 (.t 67)⟩, ⟨some 69, (some (63, false)), .ld (.t 68)⟩, ⟨some 70, (some (63, false)), .lenStr (.t 69)⟩, ⟨some 71, (some (63, false)), .fa 0 (.t 4)⟩, ⟨some 72, (some (63, false)), .ld (.t 71)⟩, ⟨some 73, (some (63, false)), .lenStr (.t 72)⟩, ⟨some 74, (some (63, false)), .bin .gtr (.t 70) (.t 73)⟩, ⟨some 75, (some (63, false)), .mov (.t 74)⟩, ⟨some 76, (some (75, true)), .fa 1 (.t 3)⟩, ⟨some 77, (some (75, true)), .ld (.t 76)⟩, ⟨some 78, (some (75, true)), .mov (.t 10)⟩, ⟨some 79, (some (75, true)), .ixS 3 (.t 77) (.t 78)⟩, ⟨some 80, (some (75, true)), .fa 0 (.t 79)⟩, ⟨some 81, (some (75, true)), .ld (.t 80)⟩, ⟨some 82, (some (75, true)), .mov (.t 2)⟩, ⟨some 83, (some (75, true)), .call 48 [(.t 81), (.t 82)]⟩, ⟨some 84, (some (63, false)), .pick (.t 75) (.t 83) (.v (.bool false))⟩, ⟨some 85, none, .pick (.t 63) (.v (.bool true)) (.t 84)⟩, ⟨some 9, none, .mov (.t 85)⟩]))
    (.ops [⟨some 60, none, .mov (.t 10)⟩, ⟨some 61, none, .bin .add (.t 60) (.v (.int .i64 1))⟩, ⟨some 10, none, .mov (.t 61)⟩]))))))
  (.seq (.seq (.ops [⟨some 86, none, .fa 0 (.t 4)⟩, ⟨some 87, none, .ld (.t 86)⟩, ⟨some 88, none, .mov (.t 2)⟩, ⟨some 89, none, .call 48 [(.t 87), (.t 88)]⟩, ⟨some 90, none, .mov (.t 89)⟩, ⟨some 91, (some (90, true)), .mov (.t 9)⟩, ⟨some 92, (some (90, true)), .not (.t 91)⟩, ⟨some 93, none, .pick (.t 90) (.t 92) (.v (.bool false))⟩])
  (.cond (.t 93) (.seq (.quiet 5 [⟨some 94, none, .ldA 2 (.t 7)⟩, ⟨some 95, none, .mov (.t 2)⟩, ⟨some 96, none, .call 49 [(.t 94), (.t 95)]⟩, ⟨some 97, none, .fa 1 (.t 4)⟩, ⟨some 98, none, .ldA 2 (.t 97)⟩, ⟨some 99, none, .eqA false 24 [.int .i64, .int .u64] (.t 96) (.t 98)⟩, ⟨some 100, none, .mov (.t 99)⟩, ⟨some 101, (some (100, true)), .call 41 []⟩, ⟨some 102, none, .pick (.t 100) (.t 101) (.v (.bool false))⟩, ⟨some 6, none, .mov (.t 102)⟩])
   .ret) .skip))
  (.seq (.quiet 5 [⟨some 103, none, .ldA 2 (.t 7)⟩, ⟨some 104, none, .mov (.t 2)⟩, ⟨some 105, none, .call 49 [(.t 103), (.t 104)]⟩, ⟨some 106, none, .ldA 2 (.t 3)⟩, ⟨some 107, none, .mov (.t 2)⟩, ⟨some 108, none, .call 49 [(.t 106), (.t 107)]⟩, ⟨some 109, none, .eqA false 24 [.int .i64, .int .u64] (.t 105) (.t 108)⟩, ⟨some 110, none, .mov (.t 109)⟩, ⟨some 111, (some (110, true)), .call 41 []⟩, ⟨some 112, none, .pick (.t 110) (.t 111) (.v (.bool false))⟩, ⟨some 6, none, .mov (.t 112)⟩])
  .ret)))))))))
theorem Tryd.known11 : Known Tryd.prog 11 Tryd.pc11 113 [6] := ⟨Tryd.f11, _, Tryd.func11, rfl, by kernel_rfl, rfl, rfl⟩
/-- redwax/redwaxlaw07.large -/
def Tryd.pc40 : PC :=
  (.seq (.ops [⟨some 2, none, .bx 45 (.t 0)⟩, ⟨some 4, none, .mov (.v (.bool false))⟩])
  (.seq (.seq (.ops [⟨some 5, none, .mov (.v (.int .i64 0))⟩])
  (.block 0 (.loop (.seq (.seq (.ops [⟨some 6, none, .mov (.t 5)⟩, ⟨some 7, none, .fa 1 (.t 2)⟩, ⟨some 8, none, .ld (.t 7)⟩, ⟨some 9, none, .lenS (.t 8)⟩, ⟨some 10, none, .bin .lss (.t 6) (.t 9)⟩, ⟨some 11, none, .mov (.t 10)⟩, ⟨some 12, (some (11, true)), .mov (.t 5)⟩, ⟨some 13, (some (11, true)), .bin .lss (.t 12) (.v (.int .i64 70))⟩, ⟨some 14, none, .pick (.t 11) (.t 13) (.v (.bool false))⟩])
    (.cond (.t 14) .skip (.exit 0)))
    (.seq (.block 1 (.seq (.ops [⟨some 17, none, .fa 1 (.t 2)⟩, ⟨some 18, none, .ld (.t 17)⟩, ⟨some 19, none, .mov (.t 5)⟩, ⟨some 20, none, .ixS 3 (.t 18) (.t 19)⟩, ⟨some 21, none, .fa 0 (.t 20)⟩, ⟨some 22, none, .ld (.t 21)⟩, ⟨some 23, none, .lenStr (.t 22)⟩, ⟨some 24, none, .bin .gtr (.t 23) (.v (.int .i64 200))⟩])
     (.cond (.t 24) (.seq (.ops [⟨some 4, none, .mov (.v (.bool true))⟩])
      .ret) .skip)))
    (.ops [⟨some 15, none, .mov (.t 5)⟩, ⟨some 16, none, .bin .add (.t 15) (.v (.int .i64 1))⟩, ⟨some 5, none, .mov (.t 16)⟩]))))))
  (.seq (.ops [⟨some 25, none, .fa 1 (.t 2)⟩, ⟨some 26, none, .ld (.t 25)⟩, ⟨some 27, none, .lenS (.t 26)⟩, ⟨some 28, none, .bin .gtr (.t 27) (.v (.int .i64 60))⟩, ⟨some 29, none, .mov (.t 28)⟩, ⟨some 30, (some (29, false)), .mov (.t 1)⟩, ⟨some 31, (some (29, false)), .lenStr (.t 30)⟩, ⟨some 32, (some (29, false)), .bin .gtr (.t 31) (.v (.int .i64 200))⟩, ⟨some 33, none, .pick (.t 29) (.v (.bool true)) (.t 32)⟩, ⟨some 34, none, .mov (.t 33)⟩, ⟨some 35, (some (34, false)), .fa 0 (.t 2)⟩, ⟨some 36, (some (34, false)), .ld (.t 35)⟩, ⟨some 37, (some (34, false)), .bin .gtr (.t 36) (.v (.int .i64 999999999))⟩, ⟨some 38, none, .pick (.t 34) (.v (.bool true)) (.t 37)⟩, ⟨some 39, none, .mov (.t 38)⟩, ⟨some 40, (some (39, false)), .fa 0 (.t 2)⟩, ⟨some 41, (some (39, false)), .ld (.t 40)⟩, ⟨some 42, (some (39, false)), .bin .lss (.t 41) (.v (.int .i64 (-999999999)))⟩, ⟨some 43, none, .pick (.t 39) (.v (.bool true)) (.t 42)⟩, ⟨some 4, none, .mov (.t 43)⟩])
  .ret)))
theorem Tryd.known40 : Known Tryd.prog 40 Tryd.pc40 44 [4] := ⟨Tryd.f40, _, Tryd.func40, rfl, by kernel_rfl, rfl, rfl⟩
/-- redwax/rules.With -/
def Tryd.pc43 : PC :=
  (.seq (.ops [⟨some 3, none, .bx 45 (.t 0)⟩, ⟨some 4, none, .bx 9 (.t 1)⟩, ⟨some 5, none, .bx 24 (.t 2)⟩, ⟨some 6, none, .al 45 [.int .i64 0, .slice none 0 0]⟩, ⟨some 7, none, .mov (.v (.int .i64 0))⟩])
  (.seq (.block 0 (.seq (.ops [⟨some 11, none, .ld (.t 4)⟩, ⟨some 12, none, .call 70 [(.t 11)]⟩, ⟨some 13, none, .not (.t 12)⟩, ⟨some 10, none, .mov (.t 13)⟩])
   (.cond (.t 10) (.seq (.ops [⟨some 14, none, .build [.int .i64 0, .slice none 0 0] []⟩, ⟨none, none, .st 2 (.t 6) (.t 14)⟩, ⟨some 7, none, .mov (.v (.int .i64 15))⟩])
    .ret) (.seq (.ops [⟨some 16, none, .ldA 2 (.t 5)⟩, ⟨some 17, none, .call 18 [(.t 16)]⟩, ⟨some 18, none, .bin .neq (.t 17) (.v (.int .i64 0))⟩, ⟨some 19, none, .mov (.t 18)⟩, ⟨some 20, (some (19, false)), .ldA 2 (.t 3)⟩, ⟨some 21, (some (19, false)), .call 47 [(.t 20)]⟩, ⟨some 22, (some (19, false)), .bin .neq (.t 21) (.v (.int .i64 0))⟩, ⟨some 23, none, .pick (.t 19) (.v (.bool true)) (.t 22)⟩, ⟨some 15, none, .mov (.t 23)⟩])
    (.cond (.t 15) (.seq (.ops [⟨some 24, none, .build [.int .i64 0, .slice none 0 0] []⟩, ⟨none, none, .st 2 (.t 6) (.t 24)⟩, ⟨some 7, none, .mov (.v (.int .i64 2))⟩])
     .ret) .skip)))))
  (.seq (.ops [⟨some 25, none, .fa 1 (.t 3)⟩, ⟨some 26, none, .ld (.t 25)⟩, ⟨some 27, none, .call 71 [(.t 26)]⟩, ⟨some 8, none, .mov (.t 27)⟩])
  (.seq (.ops [⟨some 28, none, .mov (.t 8)⟩, ⟨some 29, none, .mkF 73 [(.t 4)]⟩, ⟨some 30, none, .call 72 [(.t 28), (.t 29)]⟩, ⟨some 9, none, .mov (.t 30)⟩])
  (.seq (.seq (.ops [⟨some 31, none, .mov (.t 9)⟩, ⟨some 32, none, .bin .lss (.t 31) (.v (.int .i64 0))⟩])
  (.cond (.t 32) (.ops [⟨some 33, none, .mov (.t 8)⟩, ⟨some 34, none, .lenS (.t 33)⟩, ⟨some 9, none, .mov (.t 34)⟩]) .skip))
  (.seq (.seq (.quiet 11 [⟨some 35, none, .mov (.t 9)⟩, ⟨some 36, none, .mov (.t 8)⟩, ⟨some 37, none, .lenS (.t 36)⟩, ⟨some 38, none, .bin .lss (.t 35) (.t 37)⟩, ⟨some 39, none, .mov (.t 38)⟩, ⟨some 40, (some (39, true)), .mov (.t 8)⟩, ⟨some 41, (some (39, true)), .mov (.t 9)⟩, ⟨some 42, (some (39, true)), .ixS 3 (.t 40) (.t 41)⟩, ⟨some 43, (some (39, true)), .fa 0 (.t 42)⟩, ⟨some 44, (some (39, true)), .ld (.t 43)⟩, ⟨some 45, (some (39, true)), .ld (.t 4)⟩, ⟨some 46, (some (39, true)), .bin .eql (.t 44) (.t 45)⟩, ⟨some 47, none, .pick (.t 39) (.t 46) (.v (.bool false))⟩])
  (.cond (.t 47) (.seq (.ops [⟨some 48, none, .mov (.t 8)⟩, ⟨some 49, none, .mov (.t 9)⟩, ⟨some 50, none, .ldA 2 (.t 5)⟩, ⟨some 51, none, .ixS 3 (.t 48) (.t 49)⟩, ⟨some 52, none, .fa 1 (.t 51)⟩, ⟨none, none, .st 2 (.t 52) (.t 50)⟩])
   (.seq (.ops [⟨some 53, none, .fa 0 (.t 3)⟩, ⟨some 54, none, .ld (.t 53)⟩, ⟨some 55, none, .bin .add (.t 54) (.v (.int .i64 1))⟩, ⟨some 56, none, .mov (.t 8)⟩, ⟨some 57, none, .build [.int .i64 0, .slice none 0 0] [(0, 1, (.t 55)), (1, 1, (.t 56))]⟩, ⟨none, none, .st 2 (.t 6) (.t 57)⟩, ⟨some 7, none, .mov (.v (.int .i64 0))⟩])
   .ret)) .skip))
  (.seq (.seq (.ops [⟨some 58, none, .mov (.t 8)⟩, ⟨some 59, none, .lenS (.t 58)⟩, ⟨some 60, none, .bin .eql (.t 59) (.v (.int .i64 32))⟩])
  (.cond (.t 60) (.seq (.ops [⟨some 61, none, .build [.int .i64 0, .slice none 0 0] []⟩, ⟨none, none, .st 2 (.t 6) (.t 61)⟩, ⟨some 7, none, .mov (.v (.int .i64 7))⟩])
   .ret) .skip))
  (.seq (.quietR [0, 1, 3, 0, 0, 0, 0, 96, 224, 504] 10 [⟨some 62, none, .fa 0 (.t 3)⟩, ⟨some 63, none, .ld (.t 62)⟩, ⟨some 64, none, .bin .add (.t 63) (.v (.int .i64 1))⟩, ⟨some 65, none, .mov (.t 8)⟩, ⟨some 66, none, .mov (.t 9)⟩, ⟨some 67, none, .ld (.t 4)⟩, ⟨some 68, none, .ldA 2 (.t 5)⟩, ⟨some 69, none, .build [.string ⟨#[]⟩, .int .i64 0, .int .u64 0] [(0, 1, (.t 67)), (1, 2, (.t 68))]⟩, ⟨some 70, none, .bsl 56 [.string ⟨#[]⟩, .int .i64 0, .int .u64 0] 1 [(0, 3, (.t 69))]⟩, ⟨some 71, none, .call 74 [(.t 65), (.t 66), (.t 70)]⟩, ⟨some 72, none, .build [.int .i64 0, .slice none 0 0] [(0, 1, (.t 64)), (1, 1, (.t 71))]⟩, ⟨none, none, .st 2 (.t 6) (.t 72)⟩, ⟨some 7, none, .mov (.v (.int .i64 0))⟩])
  .ret))))))))
theorem Tryd.known43 : KnownCT Tryd.prog 43 Tryd.pc43 73 6 7 (some 2) := ⟨Tryd.f43, _, _, Tryd.func43, rfl, by kernel_rfl, rfl, rfl, by kernel_rfl⟩
/-- redwax/rules.Check -/
def Tryd.pc47 : PC :=
  (.seq (.ops [⟨some 1, none, .bx 45 (.t 0)⟩, ⟨some 2, none, .mov (.v (.int .i64 0))⟩])
  (.seq (.seq (.ops [⟨some 5, none, .fa 1 (.t 1)⟩, ⟨some 6, none, .ld (.t 5)⟩, ⟨some 7, none, .lenS (.t 6)⟩, ⟨some 8, none, .bin .gtr (.t 7) (.v (.int .i64 32))⟩, ⟨some 9, none, .mov (.t 8)⟩, ⟨some 10, (some (9, false)), .fa 0 (.t 1)⟩, ⟨some 11, (some (9, false)), .ld (.t 10)⟩, ⟨some 12, (some (9, false)), .fa 1 (.t 1)⟩, ⟨some 13, (some (9, false)), .ld (.t 12)⟩, ⟨some 14, (some (9, false)), .lenS (.t 13)⟩, ⟨some 15, (some (9, false)), .bin .lss (.t 11) (.t 14)⟩, ⟨some 16, none, .pick (.t 9) (.v (.bool true)) (.t 15)⟩])
  (.cond (.t 16) (.seq (.ops [⟨some 2, none, .mov (.v (.int .i64 2))⟩])
   .ret) .skip))
  (.seq (.seq (.ops [⟨some 17, none, .fa 1 (.t 1)⟩, ⟨some 18, none, .ld (.t 17)⟩, ⟨some 19, none, .lenS (.t 18)⟩, ⟨some 20, none, .mov (.v (.int .i64 0))⟩])
  (.block 0 (.loop (.seq (.ops [⟨some 21, none, .bin .lss (.t 20) (.t 19)⟩])
    (.seq (.cond (.t 21) .skip (.exit 0))
    (.seq (.block 1 (.seq (.ops [⟨some 22, none, .mov (.t 20)⟩, ⟨some 23, none, .ixS 3 (.t 18) (.t 20)⟩, ⟨some 24, none, .ldA 3 (.t 23)⟩, ⟨some 4, none, .al 56 [.string ⟨#[]⟩, .int .i64 0, .int .u64 0]⟩, ⟨some 3, none, .mov (.t 22)⟩, ⟨none, none, .st 3 (.t 4) (.t 24)⟩])
     (.seq (.quiet 12 [⟨some 25, none, .mov (.t 3)⟩, ⟨some 26, none, .bin .gtr (.t 25) (.v (.int .i64 0))⟩, ⟨some 27, none, .mov (.t 26)⟩, ⟨some 28, (some (27, true)), .fa 1 (.t 1)⟩, ⟨some 29, (some (27, true)), .ld (.t 28)⟩, ⟨some 30, (some (27, true)), .mov (.t 3)⟩, ⟨some 31, (some (27, true)), .bin .sub (.t 30) (.v (.int .i64 1))⟩, ⟨some 32, (some (27, true)), .ixS 3 (.t 29) (.t 31)⟩, ⟨some 33, (some (27, true)), .fa 0 (.t 32)⟩, ⟨some 34, (some (27, true)), .ld (.t 33)⟩, ⟨some 35, (some (27, true)), .fa 0 (.t 4)⟩, ⟨some 36, (some (27, true)), .ld (.t 35)⟩, ⟨some 37, (some (27, true)), .bin .geq (.t 34) (.t 36)⟩, ⟨some 38, none, .pick (.t 27) (.t 37) (.v (.bool false))⟩, ⟨some 39, none, .mov (.t 38)⟩, ⟨some 40, (some (39, false)), .fa 0 (.t 4)⟩, ⟨some 41, (some (39, false)), .ld (.t 40)⟩, ⟨some 42, (some (39, false)), .call 70 [(.t 41)]⟩, ⟨some 43, (some (39, false)), .not (.t 42)⟩, ⟨some 44, none, .pick (.t 39) (.v (.bool true)) (.t 43)⟩, ⟨some 45, none, .mov (.t 44)⟩, ⟨some 46, (some (45, false)), .fa 1 (.t 4)⟩, ⟨some 47, (some (45, false)), .ldA 2 (.t 46)⟩, ⟨some 48, (some (45, false)), .call 18 [(.t 47)]⟩, ⟨some 49, (some (45, false)), .bin .neq (.t 48) (.v (.int .i64 0))⟩, ⟨some 50, none, .pick (.t 45) (.v (.bool true)) (.t 49)⟩])
     (.cond (.t 50) (.seq (.ops [⟨some 2, none, .mov (.v (.int .i64 2))⟩])
      .ret) .skip))))
    (.ops [⟨some 51, none, .bin .add (.t 20) (.v (.int .i64 1))⟩, ⟨some 20, none, .mov (.t 51)⟩])))))))
  (.seq (.ops [⟨some 2, none, .mov (.v (.int .i64 0))⟩])
  .ret))))
theorem Tryd.known47 : Known Tryd.prog 47 Tryd.pc47 52 [2] := ⟨Tryd.f47, _, Tryd.func47, rfl, by kernel_rfl, rfl, rfl⟩
/-- redwax/redwaxlaw07.over -/
def Tryd.pc48 : PC :=
  (.seq (.ops [⟨some 4, none, .mov (.v (.bool false))⟩])
  (.seq (.ops [⟨some 5, none, .mov (.t 0)⟩, ⟨some 6, none, .mov (.t 1)⟩, ⟨some 7, none, .bin .eql (.t 5) (.t 6)⟩, ⟨some 8, none, .mov (.t 7)⟩, ⟨some 9, (some (8, false)), .mov (.t 0)⟩, ⟨some 10, (some (8, false)), .mov (.t 1)⟩, ⟨some 11, (some (8, false)), .call 36 [(.t 9), (.t 10)]⟩, ⟨some 12, none, .pick (.t 8) (.v (.bool true)) (.t 11)⟩, ⟨some 4, none, .mov (.t 12)⟩])
  .ret))
theorem Tryd.known48 : Known Tryd.prog 48 Tryd.pc48 13 [4] := ⟨Tryd.f48, _, Tryd.func48, rfl, by kernel_rfl, rfl, rfl⟩
/-- redwax/rules.Find -/
def Tryd.pc49 : PC :=
  (.seq (.ops [⟨some 2, none, .bx 45 (.t 0)⟩, ⟨some 4, none, .al 24 [.int .i64 0, .int .u64 0]⟩])
  (.seq (.ops [⟨some 5, none, .mov (.v (.int .i64 (-1)))⟩])
  (.seq (.seq (.ops [⟨some 8, none, .fa 1 (.t 2)⟩, ⟨some 9, none, .ld (.t 8)⟩, ⟨some 10, none, .lenS (.t 9)⟩, ⟨some 11, none, .mov (.v (.int .i64 0))⟩])
  (.block 0 (.loop (.seq (.ops [⟨some 12, none, .bin .lss (.t 11) (.t 10)⟩])
    (.seq (.cond (.t 12) .skip (.exit 0))
    (.seq (.block 1 (.seq (.ops [⟨some 13, none, .ixS 3 (.t 9) (.t 11)⟩, ⟨some 14, none, .ldA 3 (.t 13)⟩, ⟨some 7, none, .al 56 [.string ⟨#[]⟩, .int .i64 0, .int .u64 0]⟩, ⟨none, none, .st 3 (.t 7) (.t 14)⟩])
     (.seq (.ops [⟨some 15, none, .fa 0 (.t 7)⟩, ⟨some 16, none, .ld (.t 15)⟩, ⟨some 17, none, .lenStr (.t 16)⟩, ⟨some 18, none, .mov (.t 5)⟩, ⟨some 19, none, .bin .gtr (.t 17) (.t 18)⟩, ⟨some 20, none, .mov (.t 19)⟩, ⟨some 21, (some (20, true)), .fa 0 (.t 7)⟩, ⟨some 22, (some (20, true)), .ld (.t 21)⟩, ⟨some 23, (some (20, true)), .mov (.t 1)⟩, ⟨some 24, (some (20, true)), .call 77 [(.t 22), (.t 23)]⟩, ⟨some 25, none, .pick (.t 20) (.t 24) (.v (.bool false))⟩])
     (.cond (.t 25) (.quiet 6 [⟨some 26, none, .fa 0 (.t 7)⟩, ⟨some 27, none, .ld (.t 26)⟩, ⟨some 28, none, .lenStr (.t 27)⟩, ⟨some 29, none, .fa 1 (.t 7)⟩, ⟨some 30, none, .ldA 2 (.t 29)⟩, ⟨some 5, none, .mov (.t 28)⟩, ⟨none, none, .st 2 (.t 4) (.t 30)⟩]) .skip))))
    (.ops [⟨some 31, none, .bin .add (.t 11) (.v (.int .i64 1))⟩, ⟨some 11, none, .mov (.t 31)⟩])))))))
  (.seq (.ops [⟨some 32, none, .ldA 2 (.t 4)⟩, ⟨none, none, .st 2 (.t 4) (.t 32)⟩])
  .ret))))
theorem Tryd.known49 : KnownC Tryd.prog 49 Tryd.pc49 33 4 (some 2) := ⟨Tryd.f49, _, _, Tryd.func49, rfl, by kernel_rfl, rfl, rfl, by kernel_rfl⟩
/-- redwax/rules.prefix -/
def Tryd.pc70 : PC :=
  (.seq (.ops [⟨some 2, none, .mov (.v (.bool false))⟩])
  (.seq (.ops [⟨some 3, none, .mov (.t 0)⟩, ⟨some 4, none, .bin .eql (.t 3) (.v (.string ⟨#[]⟩))⟩, ⟨some 5, none, .mov (.t 4)⟩, ⟨some 6, (some (5, false)), .mov (.t 0)⟩, ⟨some 7, (some (5, false)), .call 29 [(.t 6)]⟩, ⟨some 8, (some (5, false)), .bin .eql (.t 7) (.v (.int .i64 0))⟩, ⟨some 9, none, .pick (.t 5) (.v (.bool true)) (.t 8)⟩, ⟨some 2, none, .mov (.t 9)⟩])
  .ret))
theorem Tryd.known70 : Known Tryd.prog 70 Tryd.pc70 10 [2] := ⟨Tryd.f70, _, Tryd.func70, rfl, by kernel_rfl, rfl, rfl⟩
/-- slices.Clone[[]redwax/api.Rule,redwax/api.Rule] -/
def Tryd.pc71 : PC :=
  (.seq (.ops [⟨some 2, none, .mov (.v (.slice none 0 0))⟩])
  (.seq (.seq (.ops [⟨some 3, none, .mov (.t 0)⟩, ⟨some 4, none, .more (.slNil false (.t 3))⟩])
  (.cond (.t 4) (.seq (.ops [⟨some 2, none, .mov (.v (.slice none 0 0))⟩])
   .ret) .skip))
  (.seq (.ops [⟨some 5, none, .bsl0 56⟩, ⟨some 6, none, .mov (.t 0)⟩, ⟨some 7, none, .app 43 56 3 32 (.agg #[.string ⟨#[]⟩, .int .i64 0, .int .u64 0]) (.t 5) (.t 6)⟩, ⟨some 2, none, .mov (.t 7)⟩])
  .ret)))
theorem Tryd.known71 : Known Tryd.prog 71 Tryd.pc71 8 [2] := ⟨Tryd.f71, _, Tryd.func71, rfl, by kernel_rfl, rfl, rfl⟩
/-- slices.IndexFunc[[]redwax/api.Rule,redwax/api.Rule] -/
def Tryd.pc72 : PC :=
  (.seq (.ops [⟨some 4, none, .mov (.v (.int .i64 0))⟩])
  (.seq (.seq (.ops [⟨some 6, none, .mov (.t 0)⟩, ⟨some 7, none, .lenS (.t 6)⟩, ⟨some 8, none, .mov (.v (.int .i64 0))⟩])
  (.block 0 (.loop (.seq (.ops [⟨some 9, none, .bin .lss (.t 8) (.t 7)⟩])
    (.seq (.cond (.t 9) .skip (.exit 0))
    (.seq (.block 1 (.seq (.ops [⟨some 10, none, .mov (.t 8)⟩, ⟨some 5, none, .mov (.t 10)⟩])
     (.seq (.ops [⟨some 11, none, .mov (.t 1)⟩, ⟨some 12, none, .mov (.t 0)⟩, ⟨some 13, none, .mov (.t 5)⟩, ⟨some 14, none, .ixS 3 (.t 12) (.t 13)⟩, ⟨some 15, none, .ldA 3 (.t 14)⟩, ⟨some 16, none, .callv (.t 11) [(.t 15)]⟩])
     (.cond (.t 16) (.seq (.ops [⟨some 17, none, .mov (.t 5)⟩, ⟨some 4, none, .mov (.t 17)⟩])
      .ret) .skip))))
    (.ops [⟨some 18, none, .bin .add (.t 8) (.v (.int .i64 1))⟩, ⟨some 8, none, .mov (.t 18)⟩])))))))
  (.seq (.ops [⟨some 4, none, .mov (.v (.int .i64 (-1)))⟩])
  .ret)))
theorem Tryd.known72 : Known Tryd.prog 72 Tryd.pc72 19 [4] := ⟨Tryd.f72, _, Tryd.func72, rfl, by kernel_rfl, rfl, rfl⟩
/-- redwax/rules.With$1 -/
def Tryd.pc73 : PC :=
  (.seq (.ops [⟨some 2, none, .bx 56 (.t 0)⟩, ⟨some 3, none, .mov (.v (.bool false))⟩])
  (.seq (.ops [⟨some 4, none, .fa 0 (.t 2)⟩, ⟨some 5, none, .ld (.t 4)⟩, ⟨some 6, none, .ld (.t 1)⟩, ⟨some 7, none, .bin .geq (.t 5) (.t 6)⟩, ⟨some 3, none, .mov (.t 7)⟩])
  .ret))
theorem Tryd.known73 : Known Tryd.prog 73 Tryd.pc73 8 [3] := ⟨Tryd.f73, _, Tryd.func73, rfl, by kernel_rfl, rfl, rfl⟩
/-- slices.Insert[[]redwax/api.Rule,redwax/api.Rule] -/
def Tryd.pc74 : PC :=
  (.seq (.ops [⟨some 6, none, .mov (.v (.slice none 0 0))⟩])
  (.seq (.ops [⟨some 10, none, .mov (.t 0)⟩, ⟨some 11, none, .mov (.t 1)⟩, ⟨some 12, none, .slS 3 (.t 10) (some (.t 11)) none⟩])
  (.seq (.ops [⟨some 13, none, .mov (.t 2)⟩, ⟨some 14, none, .lenS (.t 13)⟩, ⟨some 7, none, .mov (.t 14)⟩])
  (.seq (.seq (.ops [⟨some 15, none, .mov (.t 7)⟩, ⟨some 16, none, .bin .eql (.t 15) (.v (.int .i64 0))⟩])
  (.cond (.t 16) (.seq (.ops [⟨some 17, none, .mov (.t 0)⟩, ⟨some 6, none, .mov (.t 17)⟩])
   .ret) .skip))
  (.seq (.ops [⟨some 18, none, .mov (.t 0)⟩, ⟨some 19, none, .lenS (.t 18)⟩, ⟨some 8, none, .mov (.t 19)⟩])
  (.seq (.seq (.ops [⟨some 20, none, .mov (.t 1)⟩, ⟨some 21, none, .mov (.t 8)⟩, ⟨some 22, none, .bin .eql (.t 20) (.t 21)⟩])
  (.cond (.t 22) (.seq (.ops [⟨some 23, none, .mov (.t 0)⟩, ⟨some 24, none, .mov (.t 2)⟩, ⟨some 25, none, .app 43 56 3 32 (.agg #[.string ⟨#[]⟩, .int .i64 0, .int .u64 0]) (.t 23) (.t 24)⟩, ⟨some 6, none, .mov (.t 25)⟩])
   .ret) .skip))
  (.seq (.seq (.ops [⟨some 26, none, .mov (.t 8)⟩, ⟨some 27, none, .mov (.t 7)⟩, ⟨some 28, none, .bin .add (.t 26) (.t 27)⟩, ⟨some 29, none, .mov (.t 0)⟩, ⟨some 30, none, .more (.other (.cap (.t 29)))⟩, ⟨some 31, none, .bin .gtr (.t 28) (.t 30)⟩])
  (.cond (.t 31) (.seq (.ops [⟨some 32, none, .mov (.t 0)⟩, ⟨some 33, none, .mov (.t 1)⟩, ⟨some 34, none, .slS 3 (.t 32) none (some (.t 33))⟩, ⟨some 35, none, .mov (.t 8)⟩, ⟨some 36, none, .mov (.t 7)⟩, ⟨some 37, none, .bin .add (.t 35) (.t 36)⟩, ⟨some 38, none, .mov (.t 1)⟩, ⟨some 39, none, .bin .sub (.t 37) (.t 38)⟩, ⟨some 40, none, .more (.other (.appM 43 3 56 3 32 (.agg #[.string ⟨#[]⟩, .int .i64 0, .int .u64 0]) (.t 34) (.t 39)))⟩, ⟨some 9, none, .mov (.t 40)⟩])
   (.seq (.ops [⟨some 41, none, .mov (.t 9)⟩, ⟨some 42, none, .mov (.t 1)⟩, ⟨some 43, none, .slS 3 (.t 41) (some (.t 42)) none⟩, ⟨some 44, none, .mov (.t 2)⟩, ⟨some 45, none, .cpy 56 3 (.t 43) (.t 44)⟩])
   (.seq (.quiet 8 [⟨some 46, none, .mov (.t 9)⟩, ⟨some 47, none, .mov (.t 1)⟩, ⟨some 48, none, .mov (.t 7)⟩, ⟨some 49, none, .bin .add (.t 47) (.t 48)⟩, ⟨some 50, none, .slS 3 (.t 46) (some (.t 49)) none⟩, ⟨some 51, none, .mov (.t 0)⟩, ⟨some 52, none, .mov (.t 1)⟩, ⟨some 53, none, .slS 3 (.t 51) (some (.t 52)) none⟩, ⟨some 54, none, .cpy 56 3 (.t 50) (.t 53)⟩])
   (.seq (.ops [⟨some 55, none, .mov (.t 9)⟩, ⟨some 6, none, .mov (.t 55)⟩])
   .ret)))) .skip))
  (.seq (.ops [⟨some 56, none, .mov (.t 0)⟩, ⟨some 57, none, .mov (.t 8)⟩, ⟨some 58, none, .mov (.t 7)⟩, ⟨some 59, none, .bin .add (.t 57) (.t 58)⟩, ⟨some 60, none, .slS 3 (.t 56) none (some (.t 59))⟩, ⟨some 0, none, .mov (.t 60)⟩])
  (.seq (.seq (.ops [⟨some 61, none, .mov (.t 2)⟩, ⟨some 62, none, .mov (.t 0)⟩, ⟨some 63, none, .mov (.t 1)⟩, ⟨some 64, none, .mov (.t 7)⟩, ⟨some 65, none, .bin .add (.t 63) (.t 64)⟩, ⟨some 66, none, .slS 3 (.t 62) (some (.t 65)) none⟩, ⟨some 67, none, .more (.other (.xf 95 [(.t 61), (.t 66)]))⟩, ⟨some 68, none, .not (.t 67)⟩])
  (.cond (.t 68) (.seq (.quiet 8 [⟨some 69, none, .mov (.t 0)⟩, ⟨some 70, none, .mov (.t 1)⟩, ⟨some 71, none, .mov (.t 7)⟩, ⟨some 72, none, .bin .add (.t 70) (.t 71)⟩, ⟨some 73, none, .slS 3 (.t 69) (some (.t 72)) none⟩, ⟨some 74, none, .mov (.t 0)⟩, ⟨some 75, none, .mov (.t 1)⟩, ⟨some 76, none, .slS 3 (.t 74) (some (.t 75)) none⟩, ⟨some 77, none, .cpy 56 3 (.t 73) (.t 76)⟩])
   (.seq (.ops [⟨some 78, none, .mov (.t 0)⟩, ⟨some 79, none, .mov (.t 1)⟩, ⟨some 80, none, .slS 3 (.t 78) (some (.t 79)) none⟩, ⟨some 81, none, .mov (.t 2)⟩, ⟨some 82, none, .cpy 56 3 (.t 80) (.t 81)⟩])
   (.seq (.ops [⟨some 83, none, .mov (.t 0)⟩, ⟨some 6, none, .mov (.t 83)⟩])
   .ret))) .skip))
  (.seq (.ops [⟨some 84, none, .mov (.t 0)⟩, ⟨some 85, none, .mov (.t 8)⟩, ⟨some 86, none, .slS 3 (.t 84) (some (.t 85)) none⟩, ⟨some 87, none, .mov (.t 2)⟩, ⟨some 88, none, .cpy 56 3 (.t 86) (.t 87)⟩])
  (.seq (.ops [⟨some 89, none, .mov (.t 0)⟩, ⟨some 90, none, .mov (.t 1)⟩, ⟨some 91, none, .slS 3 (.t 89) (some (.t 90)) none⟩, ⟨some 92, none, .mov (.t 7)⟩, ⟨some 93, none, .call 96 [(.t 91), (.t 92)]⟩])
  (.seq (.ops [⟨some 94, none, .mov (.t 0)⟩, ⟨some 6, none, .mov (.t 94)⟩])
  .ret))))))))))))
theorem Tryd.known74 : Known Tryd.prog 74 Tryd.pc74 95 [6] := ⟨Tryd.f74, _, Tryd.func74, rfl, by kernel_rfl, rfl, rfl⟩
/-- redwax/rules.over -/
def Tryd.pc77 : PC :=
  (.seq (.ops [⟨some 4, none, .mov (.v (.bool false))⟩])
  (.seq (.ops [⟨some 5, none, .mov (.t 0)⟩, ⟨some 6, none, .mov (.t 1)⟩, ⟨some 7, none, .bin .eql (.t 5) (.t 6)⟩, ⟨some 8, none, .mov (.t 7)⟩, ⟨some 9, (some (8, false)), .mov (.t 0)⟩, ⟨some 10, (some (8, false)), .mov (.t 1)⟩, ⟨some 11, (some (8, false)), .call 36 [(.t 9), (.t 10)]⟩, ⟨some 12, none, .pick (.t 8) (.v (.bool true)) (.t 11)⟩, ⟨some 4, none, .mov (.t 12)⟩])
  .ret))
theorem Tryd.known77 : Known Tryd.prog 77 Tryd.pc77 13 [4] := ⟨Tryd.f77, _, Tryd.func77, rfl, by kernel_rfl, rfl, rfl⟩
end Go.Proofs

set_option linter.unusedVariables false
set_option linter.unusedSimpArgs false
namespace Go.Proofs
open Go.SL Go.RowKit
set_option maxHeartbeats 1000000
theorem ext_list (s : ByteArray) (a b : Nat) : (s.extract a b).data.toList = (s.data.toList.take b).drop a := by
  simp [ByteArray.data_extract, List.drop_take]
theorem ba_ext {s t : ByteArray} (h : s.data.toList = t.data.toList) : s = t := by
  cases s; cases t; congr 1; exact Array.toList_inj.1 h
theorem ba_get {s : ByteArray} {k : Nat} (h : k < s.size) : ∃ b, s[k]? = some b ∧ s.data.toList[k]? = some b ∧ s.data.toList.take (k + 1) = s.data.toList.take k ++ [b] ∧ s[k]'h = b := by
  have h' : k < s.data.toList.length := by simpa using h
  refine ⟨s[k], by rw [getElem?_pos s k h], ?_, ?_, rfl⟩
  · rw [List.getElem?_eq_getElem h']; rfl
  · rw [List.take_add_one, List.getElem?_eq_getElem h']; rfl
theorem dec_ok {s : ByteArray} {p : Nat} {b : UInt8} (hp : p < s.size) (hb : s[p]'hp = b) : (b.toNat < 128 ∧ (Utf8.decode s p).1 = b.toNat ∧ (Utf8.decode s p).2 = 1) ∨ (128 ≤ b.toNat ∧ 128 ≤ (Utf8.decode s p).1) := by
  by_cases h : b.toNat < 128
  · have := decode_ascii s p hp (by rw [hb]; exact h)
    rw [this, hb]
    exact .inl ⟨h, rfl, rfl⟩
  · exact .inr ⟨by omega, (decode_high s p hp (by rw [hb]; omega)).1⟩
theorem OL.nxt {P : Program} {w0 : World} {n : Nat} {T : TT} {S : SS} {x : PV} {s : ByteArray} {b k p d1 d2 : Nat} {rest : List PI} {K : TT → SS → Prop} (hx : x.val T = some (.pointer (some ⟨b, 0, none⟩))) (hk : S[k]? = some [(b, .obj (.stringIter s p))])
    (h1 : p < s.size → OL P w0 n rest ((d2, .bool true) :: (d1, .tuple #[.bool true, .int .i64 (p : Int), .int .i32 ((Utf8.decode s p).1 : Int)]) :: T) (S.set k [(b, .obj (.stringIter s (p + (Utf8.decode s p).2)))]) K)
    (h2 : ¬ p < s.size → OL P w0 n rest ((d2, .bool false) :: (d1, .tuple #[.bool false]) :: T) S K) :
    OL P w0 n (⟨some d1, none, .more (.nxtS x)⟩ :: ⟨some d2, none, .ext 0 (.t d1)⟩ :: rest) T S K := by
  have hl : ∀ v : Value, (PV.t d1).val ((d1, v) :: T) = some v := fun v => look_put_same d1 v T
  by_cases hp : p < s.size
  · refine OL.cons trivial (OW.nxtS hx hk hp) ?_
    rintro _ _ ⟨rfl, rfl⟩
    refine OL.det trivial (Yields.pure (v := .bool true) ?_) (h1 hp)
    show evalP _ _ = _
    unfold evalP
    simp only [put, hl]
    rfl
  · refine OL.det trivial (OW.nxtS_end hx hk hp) ?_
    refine OL.det trivial (Yields.pure (v := .bool false) ?_) (h2 hp)
    show evalP _ _ = _
    unfold evalP
    simp only [put, hl]
    rfl
theorem toL_inj {a b : ByteArray} : a.toList = b.toList ↔ a = b := by
  constructor
  · intro h; rw [ByteArray.toList_eq, ByteArray.toList_eq] at h; exact ba_ext h
  · rintro rfl; rfl
theorem eqS (a b : ByteArray) : (a.toList == b.toList) = decide (a = b) := by
  rw [Bool.eq_iff_iff, beq_iff_eq, toL_inj, decide_eq_true_eq]
theorem app_list (a b : ByteArray) : (a ++ b).data.toList = a.data.toList ++ b.data.toList := by simp
theorem yields_cat {P : Program} {w0 : World} {n : Nat} {T : TT} {S : SS} {x y : PV} {a b : ByteArray} (hx : x.val T = some (.string a)) (hy : y.val T = some (.string b)) (h : a.size + b.size ≤ 9223372036854775807) : Go.SL.Yields P w0 n (.bin .add x y) T S (.string (a ++ b)) :=
  Go.SL.Yields.binRaw hx hy (fun t a b w => by simp [eqGuard]) (fun t w => by
    have hm : IntKind.i64.max = 9223372036854775807 := by decide
    have : ¬ ((a.size + b.size : Nat) : Int) > IntKind.i64.max := by rw [hm]; omega
    show Sem.run P (Op.stringOp .add a b) w = _
    unfold Op.stringOp
    simp only
    rw [if_neg this]
    rfl)
def strs (ls : List ByteArray) : List Value := ls.map .string
theorem strs_len (ls : List ByteArray) : (strs ls).length = ls.length := by simp [strs]
theorem strs_at {w0 : World} {S : SS} {a : Addr} {ls : List ByteArray} (h : Rd w0 S (some a) (strs ls)) {k : Nat} (hk : k < ls.length) : Cell w0 S (a.add k) (.string ls[k]) := h.at (by simp [strs, hk])
theorem strs_ne {ls : List ByteArray} (h : 0 < ls.length) : strs ls ≠ [] := by intro e; have := congrArg List.length e; rw [strs_len, List.length_nil] at this; omega
def cutL : List UInt8 → List ByteArray
  | [] => [⟨#[]⟩]
  | b :: r => if b = 47 then ⟨#[]⟩ :: cutL r else match cutL r with | x :: xs => ⟨(b :: x.data.toList).toArray⟩ :: xs | [] => []
theorem cut_ne : ∀ l : List UInt8, cutL l ≠ []
  | [] => by simp [cutL]
  | b :: r => by
    have := cut_ne r
    simp only [cutL]
    split
    · simp
    · split
      · simp
      · rename_i h; exact absurd h this
theorem cut_cons : ∀ (p r : List UInt8), (∀ b ∈ p, b ≠ 47) → cutL (p ++ 47 :: r) = ⟨p.toArray⟩ :: cutL r
  | [], r, h => by simp [cutL]
  | b :: p, r, h => by
    have ih := cut_cons p r (fun x hx => h x (by simp [hx]))
    simp only [List.cons_append, cutL]
    rw [if_neg (h b (by simp)), ih]
theorem cut_no : ∀ (l : List UInt8), (∀ b ∈ l, b ≠ 47) → cutL l = [⟨l.toArray⟩]
  | [], h => rfl
  | b :: l, h => by
    have ih := cut_no l (fun x hx => h x (by simp [hx]))
    simp only [cutL]
    rw [if_neg (h b (by simp)), ih]
theorem cut_len : ∀ l : List UInt8, (cutL l).length = Lib.countByte l 47 + 1
  | [] => rfl
  | b :: r => by
    have ih := cut_len r
    have hn := cut_ne r
    simp only [cutL, Lib.countByte, List.count_cons] at ih ⊢
    split
    · rename_i h; subst h; simp; omega
    · rename_i h
      have hb : (b == 47) = false := by simpa using h
      rw [hb]
      split
      · rename_i x xs e; rw [e] at ih; simp at ih ⊢; omega
      · rename_i e; exact absurd e hn
def idxP (s : ByteArray) : Int := firstIdx s 47
theorem idx_spec (s : ByteArray) : (0 ≤ idxP s → ∃ p r, s.data.toList = p ++ 47 :: r ∧ (∀ b ∈ p, b ≠ 47) ∧ idxP s = (p.length : Int)) ∧ (¬ 0 ≤ idxP s → ∀ b ∈ s.data.toList, b ≠ 47) := by
  have e : idxP s = Lib.indexByte s.data.toList 47 := Lib.firstIdx_eq s 47
  rw [e]
  generalize s.data.toList = l
  induction l with
  | nil => simp [Lib.indexByte]
  | cons b l ih =>
    have hge := Lib.indexByte_ge l 47
    simp only [Lib.indexByte]
    by_cases hb : b = 47
    · subst hb
      simp only [beq_self_eq_true, if_true]
      exact ⟨fun _ => ⟨[], l, rfl, by simp, rfl⟩, fun h => absurd (by omega) h⟩
    · have hbf : (b == 47) = false := by simpa using hb
      rw [hbf]
      simp only [Bool.false_eq_true, if_false]
      by_cases h1 : Lib.indexByte l 47 = -1
      · rw [h1]
        simp only [beq_self_eq_true, if_true]
        refine ⟨fun h => absurd h (by omega), fun _ x hx => ?_⟩
        rcases List.mem_cons.1 hx with rfl | hx
        · exact hb
        · exact ih.2 (by omega) x hx
      · have h2 : (Lib.indexByte l 47 == -1) = false := by simpa using h1
        rw [h2]
        simp only [Bool.false_eq_true, if_false]
        refine ⟨fun _ => ?_, fun h => absurd (by omega) h⟩
        obtain ⟨p, r, e1, e2, e3⟩ := ih.1 (by omega)
        refine ⟨b :: p, r, by rw [e1]; rfl, ?_, by rw [e3]; simp⟩
        intro x hx
        rcases List.mem_cons.1 hx with rfl | hx
        · exact hb
        · exact e2 x hx
def slB : ByteArray := ⟨#[47]⟩
def numP (s : ByteArray) : Nat := Lib.countByte s.data.toList 47
theorem num_fold (s : ByteArray) : s.foldl (fun (n : Int) x => if x == (47 : UInt8) then n + 1 else n) ((0 : Nat) : Int) = (numP s : Int) := by
  have e : s.foldl (fun (n : Int) x => if x == (47 : UInt8) then n + 1 else n) ((0 : Nat) : Int) = s.data.toList.foldl (fun (n : Int) x => if x == (47 : UInt8) then n + 1 else n) ((0 : Nat) : Int) := by
    rw [← Lib.foldl_data]
  rw [e, Lib.count_foldl]
  simp [numP]
theorem idxb_fc {w0 : World} {S : SS} {s : ByteArray} : FC Tryd.prog w0 144 [.string s, .int .u8 47] S (fun v S' => v = .int .i64 (idxP s) ∧ S' = S) := by
  refine FC.of Tryd.known144 (by simp) ?_
  unfold Tryd.pc144
  simp only [argT]
  refine PW.seqOps ?_
  refine OL.det trivial (Yields.pure rfl) ?_
  refine OL.nil ?_
  refine PW.keep (T' := [(0, _), (1, _)]) ⟨rfl, rfl, trivial⟩ ?_
  refine PW.seqOps ?_
  refine OL.det trivial (Yields.pure rfl) ?_
  refine OL.det trivial (Yields.pure rfl) ?_
  refine OL.det trivial (Yields.xc (e := Extern.BytealgIndexByte.indexByte) rfl (by kernel_rfl) (by kernel_rfl) (fun fn hn => by unfold Extern.find; rw [hn]; kernel_rfl) (fun w => run_indexByte_string s 47 w)) ?_
  refine OL.det trivial (Yields.pure rfl) ?_
  refine OL.nil ?_
  refine PW.keep (T' := [(4, _)]) ⟨rfl, trivial⟩ ?_
  refine PW.ret ?_
  change (Exit.ret = Exit.normal ∨ Exit.ret = Exit.ret) ∧ ∃ v, resV _ _ = some v ∧ _
  exact ⟨.inr rfl, _, rfl, rfl, rfl⟩
theorem index_fc {w0 : World} {S : SS} {s : ByteArray} : FC Tryd.prog w0 122 [.string s, .string slB] S (fun v S' => v = .int .i64 (idxP s) ∧ S' = S) := by
  refine FC.of Tryd.known122 (by simp) ?_
  unfold Tryd.pc122
  simp only [argT]
  refine PW.seqOps ?_
  refine OL.det trivial (Yields.pure rfl) ?_
  refine OL.nil ?_
  refine PW.keep (T' := [(0, _), (1, _)]) ⟨rfl, rfl, trivial⟩ ?_
  refine PW.seqOps ?_
  refine OL.det trivial (Yields.pure rfl) ?_
  refine OL.det trivial (Yields.pure rfl) ?_
  refine OL.det trivial (Yields.pure rfl) ?_
  refine OL.nil ?_
  refine PW.keep (T' := [(0, _), (1, _), (5, _)]) ⟨rfl, rfl, rfl, trivial⟩ ?_
  refine PW.seq fun K1 hK1 => ?_
  refine PW.block ?_
  refine PW.seqOps ?_
  refine OL.det trivial (Yields.pure rfl) ?_
  refine OL.det trivial (Yields.pure rfl) ?_
  refine OL.bool trivial (Yields.pure rfl) (fun g19 => ?_) (fun g19 => ?_)
  · try simp only [decide_eq_true_eq, decide_eq_false_iff_not, beq_iff_eq, bne_iff_ne, beq_eq_false_iff_ne, bne_eq_false_iff_eq, Bool.not_eq_true', Bool.not_eq_false', Bool.not_eq_true, ne_eq, Decidable.not_not] at g19
    exfalso; revert g19; decide
    -- done
  · try simp only [decide_eq_true_eq, decide_eq_false_iff_not, beq_iff_eq, bne_iff_ne, beq_eq_false_iff_ne, bne_eq_false_iff_eq, Bool.not_eq_true', Bool.not_eq_false', Bool.not_eq_true, ne_eq, Decidable.not_not] at g19
    refine OL.det rfl (Yields.pure rfl) ?_
    refine OL.det rfl (Yields.pure rfl) ?_
    refine OL.det rfl (Yields.pure rfl) ?_
    refine OL.det trivial (Yields.pure rfl) ?_
    refine OL.det trivial (Yields.pure rfl) ?_
    refine OL.nil ?_
    refine PW.keep (T' := [(0, _), (1, _), (5, _), (16, _)]) ⟨rfl, rfl, rfl, rfl, trivial⟩ ?_
    refine PW.cond rfl (fun c16 => ?_) (fun c16 => ?_)
    · try simp only [decide_eq_true_eq, decide_eq_false_iff_not, beq_iff_eq, bne_iff_ne, beq_eq_false_iff_ne, bne_eq_false_iff_eq, Bool.not_eq_true', Bool.not_eq_false', Bool.not_eq_true, ne_eq, Decidable.not_not] at c16
      refine PW.seqOps ?_
      refine OL.det trivial (Yields.pure rfl) ?_
      refine OL.nil ?_
      refine PW.keep (T' := [(4, _)]) ⟨rfl, trivial⟩ ?_
      refine PW.ret ?_
      change (Exit.ret = Exit.normal ∨ Exit.ret = Exit.ret) ∧ ∃ v, resV _ _ = some v ∧ _
      rw [toL_inj] at c16
      subst c16
      exact ⟨.inr rfl, _, rfl, rfl, rfl⟩
    · try simp only [decide_eq_true_eq, decide_eq_false_iff_not, beq_iff_eq, bne_iff_ne, beq_eq_false_iff_ne, bne_eq_false_iff_eq, Bool.not_eq_true', Bool.not_eq_false', Bool.not_eq_true, ne_eq, Decidable.not_not] at c16
      refine PW.seqOps ?_
      refine OL.det trivial (Yields.pure rfl) ?_
      refine OL.det trivial (Yields.pure rfl) ?_
      refine OL.det trivial (Yields.pure rfl) ?_
      refine OL.nil ?_
      refine PW.keep (T' := [(0, _), (1, _), (5, _), (24, _)]) ⟨rfl, rfl, rfl, rfl, trivial⟩ ?_
      refine PW.cond rfl (fun c24 => ?_) (fun c24 => ?_)
      · try simp only [decide_eq_true_eq, decide_eq_false_iff_not, beq_iff_eq, bne_iff_ne, beq_eq_false_iff_ne, bne_eq_false_iff_eq, Bool.not_eq_true', Bool.not_eq_false', Bool.not_eq_true, ne_eq, Decidable.not_not] at c24
        refine PW.seqOps ?_
        refine OL.det trivial (Yields.pure rfl) ?_
        refine OL.det trivial (Yields.pure rfl) ?_
        refine OL.det trivial (Yields.ixStr (b := 47) rfl rfl rfl) ?_
        refine OL.call trivial rfl (idxb_fc) ?_
        rintro _ _ ⟨rfl, rfl⟩
        refine OL.det trivial (Yields.pure rfl) ?_
        refine OL.nil ?_
        refine PW.keep (T' := [(4, _)]) ⟨rfl, trivial⟩ ?_
        refine PW.ret ?_
        change (Exit.ret = Exit.normal ∨ Exit.ret = Exit.ret) ∧ ∃ v, resV _ _ = some v ∧ _
        exact ⟨.inr rfl, _, rfl, rfl, rfl⟩
      · try simp only [decide_eq_true_eq, decide_eq_false_iff_not, beq_iff_eq, bne_iff_ne, beq_eq_false_iff_ne, bne_eq_false_iff_eq, Bool.not_eq_true', Bool.not_eq_false', Bool.not_eq_true, ne_eq, Decidable.not_not] at c24
        exfalso; revert c24; decide
        -- done
theorem sindex_fc {w0 : World} {S : SS} {s : ByteArray} : FC Tryd.prog w0 109 [.string s, .string slB] S (fun v S' => v = .int .i64 (idxP s) ∧ S' = S) := by
  refine FC.of Tryd.known109 (by simp) ?_
  unfold Tryd.pc109
  simp only [argT]
  refine PW.seqOps ?_
  refine OL.det trivial (Yields.pure rfl) ?_
  refine OL.nil ?_
  refine PW.keep (T' := [(0, _), (1, _)]) ⟨rfl, rfl, trivial⟩ ?_
  refine PW.seqOps ?_
  refine OL.det trivial (Yields.pure rfl) ?_
  refine OL.det trivial (Yields.pure rfl) ?_
  refine OL.call trivial rfl (index_fc) ?_
  rintro _ _ ⟨rfl, rfl⟩
  refine OL.det trivial (Yields.pure rfl) ?_
  refine OL.nil ?_
  refine PW.keep (T' := [(4, _)]) ⟨rfl, trivial⟩ ?_
  refine PW.ret ?_
  change (Exit.ret = Exit.normal ∨ Exit.ret = Exit.ret) ∧ ∃ v, resV _ _ = some v ∧ _
  exact ⟨.inr rfl, _, rfl, rfl, rfl⟩
theorem count_fc {w0 : World} {S : SS} {s : ByteArray} : FC Tryd.prog w0 108 [.string s, .string slB] S (fun v S' => v = .int .i64 (numP s : Int) ∧ S' = S) := by
  refine FC.of Tryd.known108 (by simp) ?_
  unfold Tryd.pc108
  simp only [argT]
  refine PW.seqOps ?_
  refine OL.det trivial (Yields.pure rfl) ?_
  refine OL.nil ?_
  refine PW.keep (T' := [(0, _), (1, _)]) ⟨rfl, rfl, trivial⟩ ?_
  refine PW.seq fun K1 hK1 => ?_
  refine PW.seqOps ?_
  refine OL.det trivial (Yields.pure rfl) ?_
  refine OL.det trivial (Yields.pure rfl) ?_
  refine OL.det trivial (Yields.pure rfl) ?_
  refine OL.nil ?_
  refine PW.keep (T' := [(0, _), (1, _), (9, _)]) ⟨rfl, rfl, rfl, trivial⟩ ?_
  refine PW.cond rfl (fun c9 => ?_) (fun c9 => ?_)
  · try simp only [decide_eq_true_eq, decide_eq_false_iff_not, beq_iff_eq, bne_iff_ne, beq_eq_false_iff_ne, bne_eq_false_iff_eq, Bool.not_eq_true', Bool.not_eq_false', Bool.not_eq_true, ne_eq, Decidable.not_not] at c9
    exfalso; revert c9; decide
    -- done
  · try simp only [decide_eq_true_eq, decide_eq_false_iff_not, beq_iff_eq, bne_iff_ne, beq_eq_false_iff_ne, bne_eq_false_iff_eq, Bool.not_eq_true', Bool.not_eq_false', Bool.not_eq_true, ne_eq, Decidable.not_not] at c9
    refine PW.skip ?_
    refine hK1 _ _ ?_
    refine PW.keep (T' := [(0, _), (1, _)]) ⟨rfl, rfl, trivial⟩ ?_
    refine PW.seq fun K2 hK2 => ?_
    refine PW.seqOps ?_
    refine OL.det trivial (Yields.pure rfl) ?_
    refine OL.det trivial (Yields.pure rfl) ?_
    refine OL.det trivial (Yields.pure rfl) ?_
    refine OL.nil ?_
    refine PW.keep (T' := [(0, _), (1, _), (15, _)]) ⟨rfl, rfl, rfl, trivial⟩ ?_
    refine PW.cond rfl (fun c15 => ?_) (fun c15 => ?_)
    · try simp only [decide_eq_true_eq, decide_eq_false_iff_not, beq_iff_eq, bne_iff_ne, beq_eq_false_iff_ne, bne_eq_false_iff_eq, Bool.not_eq_true', Bool.not_eq_false', Bool.not_eq_true, ne_eq, Decidable.not_not] at c15
      refine PW.seqOps ?_
      refine OL.det trivial (Yields.pure rfl) ?_
      refine OL.det trivial (Yields.pure rfl) ?_
      refine OL.det trivial (Yields.ixStr (b := 47) rfl rfl rfl) ?_
      refine OL.det trivial (Yields.xc (e := Extern.BytealgCount.count) rfl (by kernel_rfl) (by kernel_rfl) (fun fn hn => by unfold Extern.find; rw [hn]; kernel_rfl) (fun w => rfl)) ?_
      refine OL.det trivial (Yields.pure rfl) ?_
      refine OL.nil ?_
      refine PW.keep (T' := [(4, _)]) ⟨rfl, trivial⟩ ?_
      refine PW.ret ?_
      change (Exit.ret = Exit.normal ∨ Exit.ret = Exit.ret) ∧ ∃ v, resV _ _ = some v ∧ _
      exact ⟨.inr rfl, _, rfl, by rw [← num_fold]; rfl, rfl⟩
    · try simp only [decide_eq_true_eq, decide_eq_false_iff_not, beq_iff_eq, bne_iff_ne, beq_eq_false_iff_ne, bne_eq_false_iff_eq, Bool.not_eq_true', Bool.not_eq_false', Bool.not_eq_true, ne_eq, Decidable.not_not] at c15
      exfalso; revert c15; decide
      -- done
def startsB (s p : ByteArray) : Bool := decide (p.size ≤ s.size) && decide (s.extract 0 p.size = p)
theorem starts_fc {w0 : World} {S : SS} {s p : ByteArray} : FC Tryd.prog w0 93 [.string s, .string p] S (fun v S' => v = .bool (startsB s p) ∧ S' = S) := by
  refine FC.of Tryd.known93 (by simp) ?_
  unfold Tryd.pc93
  simp only [argT]
  refine PW.seqOps ?_
  refine OL.det trivial (Yields.pure rfl) ?_
  refine OL.nil ?_
  refine PW.keep (T' := [(0, _), (1, _)]) ⟨rfl, rfl, trivial⟩ ?_
  refine PW.seqOps ?_
  refine OL.det trivial (Yields.pure rfl) ?_
  refine OL.det trivial (Yields.pure rfl) ?_
  refine OL.det trivial (Yields.pure rfl) ?_
  refine OL.det trivial (Yields.pure rfl) ?_
  refine OL.det trivial (Yields.pure rfl) ?_
  refine OL.bool trivial (Yields.pure rfl) (fun g10 => ?_) (fun g10 => ?_)
  · try simp only [decide_eq_true_eq, decide_eq_false_iff_not, beq_iff_eq, bne_iff_ne, beq_eq_false_iff_ne, bne_eq_false_iff_eq, Bool.not_eq_true', Bool.not_eq_false', Bool.not_eq_true, ne_eq, Decidable.not_not] at g10
    refine OL.det rfl (Yields.pure rfl) ?_
    refine OL.det rfl (Yields.pure rfl) ?_
    refine OL.det rfl (Yields.pure rfl) ?_
    refine OL.det rfl (Yields.slStr (s := s) (l := 0) (h := p.size) rfl rfl rfl (.inr ⟨rfl, rfl⟩) (.inl rfl) (by omega) (by omega)) ?_
    refine OL.det rfl (Yields.pure rfl) ?_
    refine OL.det rfl (Yields.pure rfl) ?_
    refine OL.det trivial (Yields.pure rfl) ?_
    refine OL.det trivial (Yields.pure rfl) ?_
    refine OL.nil ?_
    refine PW.keep (T' := [(4, _)]) ⟨rfl, trivial⟩ ?_
    refine PW.ret ?_
    change (Exit.ret = Exit.normal ∨ Exit.ret = Exit.ret) ∧ ∃ v, resV _ _ = some v ∧ _
    exact ⟨.inr rfl, _, rfl, by unfold startsB; first | (rw [show decide (p.size ≤ s.size) = true from decide_eq_true (by omega), eqS]; rfl) | (rw [show decide (p.size ≤ s.size) = false from decide_eq_false (by omega)]; rfl), rfl⟩
  · try simp only [decide_eq_true_eq, decide_eq_false_iff_not, beq_iff_eq, bne_iff_ne, beq_eq_false_iff_ne, bne_eq_false_iff_eq, Bool.not_eq_true', Bool.not_eq_false', Bool.not_eq_true, ne_eq, Decidable.not_not] at g10
    refine OL.off rfl rfl ?_
    refine OL.off rfl rfl ?_
    refine OL.off rfl rfl ?_
    refine OL.off rfl rfl ?_
    refine OL.off rfl rfl ?_
    refine OL.off rfl rfl ?_
    refine OL.det trivial (Yields.pure rfl) ?_
    refine OL.det trivial (Yields.pure rfl) ?_
    refine OL.nil ?_
    refine PW.keep (T' := [(4, _)]) ⟨rfl, trivial⟩ ?_
    refine PW.ret ?_
    change (Exit.ret = Exit.normal ∨ Exit.ret = Exit.ret) ∧ ∃ v, resV _ _ = some v ∧ _
    exact ⟨.inr rfl, _, rfl, by unfold startsB; first | (rw [show decide (p.size ≤ s.size) = true from decide_eq_true (by omega), eqS]; rfl) | (rw [show decide (p.size ≤ s.size) = false from decide_eq_false (by omega)]; rfl), rfl⟩
theorem hasp_fc {w0 : World} {S : SS} {s p : ByteArray} : FC Tryd.prog w0 66 [.string s, .string p] S (fun v S' => v = .bool (startsB s p) ∧ S' = S) := by
  refine FC.of Tryd.known66 (by simp) ?_
  unfold Tryd.pc66
  simp only [argT]
  refine PW.seqOps ?_
  refine OL.det trivial (Yields.pure rfl) ?_
  refine OL.nil ?_
  refine PW.keep (T' := [(0, _), (1, _)]) ⟨rfl, rfl, trivial⟩ ?_
  refine PW.seqOps ?_
  refine OL.det trivial (Yields.pure rfl) ?_
  refine OL.det trivial (Yields.pure rfl) ?_
  refine OL.call trivial rfl (starts_fc) ?_
  rintro _ _ ⟨rfl, rfl⟩
  refine OL.det trivial (Yields.pure rfl) ?_
  refine OL.nil ?_
  refine PW.keep (T' := [(4, _)]) ⟨rfl, trivial⟩ ?_
  refine PW.ret ?_
  change (Exit.ret = Exit.normal ∨ Exit.ret = Exit.ret) ∧ ∃ v, resV _ _ = some v ∧ _
  exact ⟨.inr rfl, _, rfl, rfl, rfl⟩
end Go.Proofs
