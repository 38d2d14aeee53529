/- Walks. -/
import Derived.Test.YtbejcoeajlhmcaaPart2
import Derived.SizedLaws
import Derived.Test.YtbejcoeajlhmcaaProg
set_option linter.unusedVariables false
set_option linter.unusedSimpArgs false
set_option linter.unusedSectionVars false

namespace Go.SL
open Go.RowKit
section
variable {P : Program} {w0 : World} {n : Nat} {T : TT} {S : SS}
abbrev HL := List (Nat × PI × TT)
inductive QM (P : Program) (w0 : World) (n : Nat) (Ss : SS -> Prop) : Nat -> List PI -> TT -> TT -> List Value -> HL -> Prop
 | nil {i : Nat} {T : TT} : QM P w0 n Ss i [] T T [] []
 | step {i : Nat} {T T' : TT} {d : Option Nat} {g : Option (Nat × Bool)} {po : PO} {v : Value} {r : List PI} {vs : List Value} {hs : HL} (hg : gOk T g) (h : ∀ S, Ss S -> OW P w0 n po T S (fun v' S' => v' = v /\ S' = S)) (k : QM P w0 n Ss (i + 1) r (put d v T) T' vs hs) : QM P w0 n Ss i (⟨d, g, po⟩ :: r) T T' (v :: vs) hs
 | off {i : Nat} {T T' : TT} {d : Option Nat} {s : Nat} {b : Bool} {u : Value} {po : PO} {r : List PI} {vs : List Value} {hs : HL} (hl : look T s = some u) (hc : (boolOf u == some b) = false) (k : QM P w0 n Ss (i + 1) r (put d undef T) T' vs hs) : QM P w0 n Ss i (⟨d, some (s, b), po⟩ :: r) T T' (undef :: vs) hs
 | hole {i : Nat} {T T' : TT} {c : PI} {r : List PI} {vs : List Value} {hs : HL} (k : QM P w0 n Ss (i + 1) r (SL.del c.d T) T' vs hs) : QM P w0 n Ss i (c :: r) T T' (undef :: vs) ((i, c, T) :: hs)
theorem QM.lt {Ss : SS -> Prop} {l : List PI} {T T' : TT} {vals : List Value} {hs : HL} {s : Nat} (h : QM P w0 n Ss s l T T' vals hs) : vals.length = l.length /\ (∀ x ∈ hs, s <= x.1 /\ x.1 < s + l.length /\ l[x.1 - s]? = some x.2.1) /\ (hs.map (·.1)).Pairwise (· < ·) := by
 induction h with
 | nil => simp
 | @step i T T' d g po v r vs hs hg h k ih =>
  obtain ⟨h1, h2, h3⟩ := ih
  refine ⟨by simp [h1], fun x hx => ?_, h3⟩
  obtain ⟨a, b, c⟩ := h2 x hx
  refine ⟨by omega, by simp only [List.length_cons]; omega, ?_⟩
  rw [show x.1 - i = (x.1 - (i + 1)) + 1 by omega, List.getElem?_cons_succ]; exact c
 | @off i T T' d s b u po r vs hs hl hc k ih =>
  obtain ⟨h1, h2, h3⟩ := ih
  refine ⟨by simp [h1], fun x hx => ?_, h3⟩
  obtain ⟨a, b, c⟩ := h2 x hx
  refine ⟨by omega, by simp only [List.length_cons]; omega, ?_⟩
  rw [show x.1 - i = (x.1 - (i + 1)) + 1 by omega, List.getElem?_cons_succ]; exact c
 | @hole i T T' c r vs hs k ih =>
  obtain ⟨h1, h2, h3⟩ := ih
  refine ⟨by simp [h1], fun x hx => ?_, ?_⟩
  ·rcases List.mem_cons.1 hx with rfl | hx
   ·exact ⟨Nat.le_refl _, by simp, by simp⟩
   obtain ⟨a, b, c⟩ := h2 x hx
   refine ⟨by omega, by simp only [List.length_cons]; omega, ?_⟩
   rw [show x.1 - i = (x.1 - (i + 1)) + 1 by omega, List.getElem?_cons_succ]; exact c
  rw [List.map_cons, List.pairwise_cons]
  refine ⟨fun y hy => ?_, h3⟩
  obtain ⟨x, hx, rfl⟩ := List.mem_map.1 hy
  have := (h2 x hx).1
  show i < x.1
  omega
def hIdx (hs : HL) (i : Nat) : Option Nat := hs.findIdx? fun x => x.1 == i
def vsH (hs : HL) (vals us : List Value) (s i : Nat) : Value := match hIdx hs i with | some j => us.getD j undef | none => vals.getD (i - s) undef
theorem QM.trace {ops : Array Oper} {Ss : SS -> Prop} {l : List PI} {T T' : TT} {vals : List Value} {hs : HL} {s : Nat} (h : QM P w0 n Ss s l T T' vals hs) : ∀ (vs : Nat -> Value), (∀ j, j < l.length -> (∀ x ∈ hs, x.1 ≠ s + j) -> vs (s + j) = vals.getD j undef) -> ∀ a, cIs P n ops (List.range' s l.length) = some l -> Sat n T a ->
    Sat n T' (runA ops vs s l.length a) /\ (∀ j, j < l.length -> (∀ x ∈ hs, x.1 ≠ s + j) -> ∀ S, Ss S -> GivesAt P w0 S ops (s + j) (vals.getD j undef) (runA ops vs s j a)) /\
      (∀ x ∈ hs, Sat n x.2.2 (runA ops vs s (x.1 - s) a)) /\ (∀ j o, j < l.length -> ops[s + j]? = some o -> dstOk n o.dst = true) /\ (∀ j, j < l.length -> ∀ x, l[j]? = some x -> x.d = dstAt ops (s + j)) := by
  have shift : ∀ (vs : Nat -> Value) (s m : Nat) (a : Act) (o : Oper), ops[s]? = some o -> runA ops vs s (m + 1) a = runA ops vs (s + 1) m (a.put o.dst (vs s)) := by
    intro vs s m a o ho
    have hda : dstAt ops s = o.dst := by simp [dstAt, ho]
    unfold runA
    rw [List.range'_succ, List.foldl_cons, hda]
  induction h with
  | nil => intro vs _ a _ hs; exact ⟨by simpa [runA] using hs, fun j hj => by simp at hj, fun x hx => (by cases hx), fun j o hj => by simp at hj, fun j hj => by simp at hj⟩
  | @step s T T' d g po v r vals hs hg h k ih =>
    intro vs hv a hc hsat
    simp only [List.length_cons, List.range'_succ] at hc
    obtain ⟨i, is, he, hi, hrest⟩ := cIs_cons hc
    simp only [List.cons.injEq] at he
    obtain ⟨rfl, rfl⟩ := he
    obtain ⟨o, ho, hpo, hd, hdst, hgd⟩ := cI_spec hi
    simp only at hpo hdst
    subst hdst
    have hlt := k.lt.2.1
    have hv0 : vs s = v := by
      have := hv 0 (by simp) (fun x hx => by have := (hlt x hx).1; omega)
      simpa using this
    obtain ⟨h1, h2, h5, h3, h4⟩ := ih vs (fun j hj hx => by
      have := hv (j + 1) (by simpa using hj) (fun x hm => by have := hx x hm; omega)
      rw [List.getD_cons_succ] at this
      rw [show s + 1 + j = s + (j + 1) by omega]
      exact this) (a.put o.dst v) hrest (hsat.put hd v)
    refine ⟨by rw [List.length_cons, shift vs s _ a o ho, hv0]; exact h1, ?_, ?_, ?_, ?_⟩
    · intro j hj hnx S hS
      cases j with
      | zero =>
        intro o' ho'
        obtain rfl : o = o' := by rw [Nat.add_zero, ho] at ho'; exact Option.some.inj ho'
        left
        simp only [runA, List.range'_zero, List.foldl_nil, List.getD_cons_zero]
        refine ⟨?_, fun w hr => ?_⟩
        · rcases hgd with ⟨hgd, _⟩ | ⟨j, b, s', hgd, hjj, he⟩
          · simp [Region.wanted, hgd]
          simp only at he
          subst he
          simp [Region.wanted, hgd, hsat.yielded hjj hg]
        refine Oper.wp_mono ?_ (h S hS o a w _ hpo hsat hr)
        rintro b w' ⟨v', S', rfl, hr', rfl, rfl⟩
        exact ⟨rfl, hr'⟩
      | succ j =>
        rw [shift vs s _ a o ho, hv0, List.getD_cons_succ]
        have := h2 j (by simpa using hj) (fun x hx => by have := hnx x hx; omega) S hS
        rwa [show s + 1 + j = s + (j + 1) by omega] at this
    · intro x hx
      have := (hlt x hx).1
      have h6 := h5 x hx
      rw [show x.1 - s = (x.1 - (s + 1)) + 1 by omega, shift vs s _ a o ho, hv0]
      exact h6
    · intro j o' hj ho'
      cases j with
      | zero => obtain rfl : o = o' := by rw [Nat.add_zero, ho] at ho'; exact Option.some.inj ho'
                exact hd
      | succ j => exact h3 j o' (by simpa using hj) (by rwa [show s + 1 + j = s + (j + 1) by omega])
    intro j hj x hx
    cases j with
    | zero => simp at hx; subst hx; simp [dstAt, ho]
    | succ j => have := h4 j (by simpa using hj) x (by simpa using hx); rwa [show s + 1 + j = s + (j + 1) by omega] at this
  | @off s T T' d sl b u po r vals hs hl hcb k ih =>
    intro vs hv a hc hsat
    simp only [List.length_cons, List.range'_succ] at hc
    obtain ⟨i, is, he, hi, hrest⟩ := cIs_cons hc
    simp only [List.cons.injEq] at he
    obtain ⟨rfl, rfl⟩ := he
    obtain ⟨o, ho, hpo, hd, hdst, hgd⟩ := cI_spec hi
    simp only at hpo hdst
    subst hdst
    have hlt := k.lt.2.1
    have hv0 : vs s = undef := by
      have := hv 0 (by simp) (fun x hx => by have := (hlt x hx).1; omega)
      simpa using this
    obtain ⟨h1, h2, h5, h3, h4⟩ := ih vs (fun j hj hx => by
      have := hv (j + 1) (by simpa using hj) (fun x hm => by have := hx x hm; omega)
      rw [List.getD_cons_succ] at this
      rw [show s + 1 + j = s + (j + 1) by omega]
      exact this) (a.put o.dst undef) hrest (hsat.put hd undef)
    refine ⟨by rw [List.length_cons, shift vs s _ a o ho, hv0]; exact h1, ?_, ?_, ?_, ?_⟩
    · intro j hj hnx S hS
      cases j with
      | zero =>
        intro o' ho'
        obtain rfl : o = o' := by rw [Nat.add_zero, ho] at ho'; exact Option.some.inj ho'
        right
        refine ⟨?_, by simp⟩
        simp only [runA, List.range'_zero, List.foldl_nil]
        rcases hgd with ⟨_, hgd⟩ | ⟨j, b', s', hgd, hjj, he⟩
        · simp at hgd
        simp only [Option.some.injEq, Prod.mk.injEq] at he
        obtain ⟨rfl, rfl⟩ := he
        simp only [Region.wanted, hgd, hsat.yieldedV hjj hl]; exact hcb
      | succ j =>
        rw [shift vs s _ a o ho, hv0, List.getD_cons_succ]
        have := h2 j (by simpa using hj) (fun x hx => by have := hnx x hx; omega) S hS
        rwa [show s + 1 + j = s + (j + 1) by omega] at this
    · intro x hx
      have := (hlt x hx).1
      have h6 := h5 x hx
      rw [show x.1 - s = (x.1 - (s + 1)) + 1 by omega, shift vs s _ a o ho, hv0]
      exact h6
    · intro j o' hj ho'
      cases j with
      | zero => obtain rfl : o = o' := by rw [Nat.add_zero, ho] at ho'; exact Option.some.inj ho'
                exact hd
      | succ j => exact h3 j o' (by simpa using hj) (by rwa [show s + 1 + j = s + (j + 1) by omega])
    intro j hj x hx
    cases j with
    | zero => simp at hx; subst hx; simp [dstAt, ho]
    | succ j => have := h4 j (by simpa using hj) x (by simpa using hx); rwa [show s + 1 + j = s + (j + 1) by omega] at this
  | @hole s T T' c r vals hs k ih =>
    intro vs hv a hc hsat
    simp only [List.length_cons, List.range'_succ] at hc
    obtain ⟨i, is, he, hi, hrest⟩ := cIs_cons hc
    simp only [List.cons.injEq] at he
    obtain ⟨rfl, rfl⟩ := he
    obtain ⟨o, ho, hpo, hd, hdst, hgd⟩ := cI_spec hi
    have hlt := k.lt.2.1
    obtain ⟨h1, h2, h5, h3, h4⟩ := ih vs (fun j hj hx => by
      have := hv (j + 1) (by simpa using hj) (fun x hm => by
        rcases List.mem_cons.1 hm with rfl | hm
        · show s ≠ s + (j + 1); omega
        have := hx x hm; omega)
      rw [List.getD_cons_succ] at this
      rw [show s + 1 + j = s + (j + 1) by omega]
      exact this) (a.put o.dst (vs s)) hrest (by rw [hdst]; exact hsat.del (vs s))
    refine ⟨by rw [List.length_cons, shift vs s _ a o ho]; exact h1, ?_, ?_, ?_, ?_⟩
    · intro j hj hnx S hS
      cases j with
      | zero => exact absurd (Nat.add_zero s).symm (hnx _ (List.mem_cons_self ..))
      | succ j =>
        rw [shift vs s _ a o ho, List.getD_cons_succ]
        have := h2 j (by simpa using hj) (fun x hx => by have := hnx x (List.mem_cons_of_mem _ hx); omega) S hS
        rwa [show s + 1 + j = s + (j + 1) by omega] at this
    · intro x hx
      rcases List.mem_cons.1 hx with rfl | hx
      · simp only [Nat.sub_self, runA, List.range'_zero, List.foldl_nil]; exact hsat
      have := (hlt x hx).1
      have h6 := h5 x hx
      rw [show x.1 - s = (x.1 - (s + 1)) + 1 by omega, shift vs s _ a o ho]
      exact h6
    · intro j o' hj ho'
      cases j with
      | zero => obtain rfl : o = o' := by rw [Nat.add_zero, ho] at ho'; exact Option.some.inj ho'
                exact hd
      | succ j => exact h3 j o' (by simpa using hj) (by rwa [show s + 1 + j = s + (j + 1) by omega])
    intro j hj x hx
    cases j with
    | zero => simp at hx; subst hx; rw [<- hdst]; simp [dstAt, ho]
    | succ j => have := h4 j (by simpa using hj) x (by simpa using hx); rwa [show s + 1 + j = s + (j + 1) by omega] at this
def LCh (P : Program) (w0 : World) (n : Nat) (Ss : SS -> Prop) (post : TT -> SS -> Prop) : HL -> TT -> SS -> Prop
 | [], Tl, S => post Tl S
 | x :: r, Tl, S => x.2.1.g = none /\ OW P w0 n x.2.1.o (Tl ++ x.2.2) S (fun v S' => Ss S' /\ LCh P w0 n Ss post r (put x.2.1.d v Tl) S')
def distB (l : List PI) (hs : HL) : Bool := hs.all fun x => match x.2.1.d with
 | none => true
 | some d => (List.range l.length).all fun j => Nat.beq j x.1 || match l[j]? with | some y => !(y.d == some d) | none => true
def noMovB (hs : HL) : Bool := hs.all fun x => match x.2.1.o with | .mov _ => false | _ => true
def ordB (b : List Nat) : HL -> Bool
 | [] => true
 | x :: r => (r.all fun y => Nat.beq (b.getD y.1 0 / 2 ^ x.1 % 2) 1) && ordB b r
theorem look_app (A B : TT) (i : Nat) : look (A ++ B) i = match look A i with | some v => some v | none => look B i := by
 induction A with
 | nil => rfl
 | cons p A ih =>
  obtain ⟨j, v⟩ := p
  by_cases h : j = i
  ·subst h; rw [List.cons_append, look_put_same, look_put_same]
  rw [List.cons_append, look_cons_ne _ _ h, look_cons_ne _ _ h]; exact ih
theorem cIs_pos {ops : Array Oper} {l : List PI} {k i : Nat} {x : PI} (h : cIs P n ops (List.range' 0 k) = some l) (hi : i < k) (hx : l[i]? = some x) : ∃ o, ops[i]? = some o /\ cOp P o = some x.o /\ o.dst = x.d /\ ((o.guard = none /\ x.g = none) ∨ ∃ j b s, o.guard = some (j, b) /\ (ops[j]?).bind (·.dst) = some s /\ x.g = some (s, b)) := by
 have hl := cIs_length h
 rw [List.length_range'] at hl
 have hsplit : List.range' 0 k = List.range' 0 i ++ List.range' i (k - i) := by
  have := List.range'_append (s := 0) (m := i) (n := k - i) (step := 1)
  simp only [Nat.one_mul, Nat.zero_add] at this
  rw [this]; congr 1; omega
 rw [hsplit] at h
 obtain ⟨h1, h2⟩ := cIs_append h
 simp only [List.length_range'] at h2
 have hd : l.drop i = x :: l.drop (i + 1) := by
  have hlt : i < l.length := (List.getElem?_eq_some_iff.1 hx).1
  rw [List.drop_eq_getElem_cons hlt]
  congr 1
  exact (List.getElem?_eq_some_iff.1 hx).2
 have hr : List.range' i (k - i) = i :: List.range' (i + 1) (k - i - 1) := by
  obtain ⟨m, hm⟩ : ∃ m, k - i = m + 1 := ⟨k - i - 1, by omega⟩
  rw [hm, List.range'_succ]; rfl
 rw [hd, hr] at h2
 obtain ⟨i', is, he, hi', _⟩ := cIs_cons h2
 simp only [List.cons.injEq] at he
 obtain ⟨rfl, rfl⟩ := he
 obtain ⟨o, ho, hpo, hdok, hdst, hgd⟩ := cI_spec hi'
 exact ⟨o, ho, hpo, hdst, hgd⟩
theorem hIdx_some {hs : HL} (hp : (hs.map (·.1)).Pairwise (· < ·)) {j : Nat} {x : Nat × PI × TT} (h : hs[j]? = some x) : hIdx hs x.1 = some j := by
 unfold hIdx
 rw [List.findIdx?_eq_some_iff_getElem]
 obtain ⟨hj, hx⟩ := List.getElem?_eq_some_iff.1 h
 refine ⟨hj, by simp [hx], fun i hi => ?_⟩
 have hil : i < hs.length := by omega
 have := List.pairwise_iff_getElem.1 hp i j (by simpa using hil) (by simpa using hj) hi
 simp only [List.getElem_map, hx] at this
 have : hs[i].1 ≠ x.1 := by omega
 simp [this]
theorem hIdx_none {hs : HL} {i : Nat} (h : ∀ x ∈ hs, x.1 ≠ i) : hIdx hs i = none := by
 unfold hIdx
 rw [List.findIdx?_eq_none_iff]
 intro x hx
 have := h x hx
 simp [this]
structure Phs (P : Program) (w0 : World) (n : Nat) (Ss : SS -> Prop) (post : TT -> SS -> Prop) (hs0 : HL) (vals : List Value) (lst : Nat -> Bool) (u : List Value) (Sx : SS) (Tl : TT) (c : Nat) : Prop where
 le : c <= hs0.length
 len : u.length = c
 lst : ∀ j x, hs0[j]? = some x -> (lst x.1 = true ↔ j < c)
 ch : LCh P w0 n Ss post (hs0.drop c) Tl Sx
 ss : Ss Sx
 tl : ∀ d v, look Tl d = some v -> ∃ j x, j < c /\ hs0[j]? = some x /\ x.2.1.d = some d /\ v = vsH hs0 vals u 0 x.1
theorem runA_slot {ops : Array Oper} {vs : Nat -> Value} {p d k : Nat} {a : Act} (hd : dstAt ops p = some d) (hdn : d < a.tmps.size) (hoth : ∀ j, j < k -> j ≠ p -> dstAt ops j ≠ some d) : ∀ m, p < m -> m <= k -> (runA ops vs 0 m a).tmps[d]? = some (vs p)
 | 0, h, _ => by omega
 | m + 1, h, hk => by
  have e2 : runA ops vs 0 (m + 1) a = (runA ops vs 0 m a).put (dstAt ops m) (vs m) := by simp [runA, List.range'_concat]
  have hsz : (runA ops vs 0 m a).tmps.size = a.tmps.size := by rw [<- foldF_runA ops vs m m a (Nat.le_refl _)]; exact (foldF_size ops vs _ m a).1
  rw [e2]
  by_cases e : m = p
  ·subst e
   rw [hd]
   simp [Act.put, hsz, hdn]
  have ih := runA_slot (vs := vs) (a := a) hd hdn hoth m (by omega) (by omega)
  have hne := hoth m (by omega) e
  cases hx : dstAt ops m with
  | none => simpa [Act.put] using ih
  | some y =>
   have : y ≠ d := fun e => hne (by rw [hx, e])
   simp only [Act.put]
   rw [Array.getElem?_setIfInBounds_ne this]
   exact ih
theorem distB_spec {l : List PI} {hs : HL} (h : distB l hs = true) {x : Nat × PI × TT} (hx : x ∈ hs) {d : Nat} (hd : x.2.1.d = some d) {j : Nat} (hj : j < l.length) (hne : j ≠ x.1) {y : PI} (hy : l[j]? = some y) : y.d ≠ some d := by
 have h1 := List.all_eq_true.1 h x hx
 simp only [hd] at h1
 have h2 := List.all_eq_true.1 h1 j (List.mem_range.2 hj)
 simp only [Bool.or_eq_true, hy] at h2
 rcases h2 with h2 | h2
 ·exact absurd (Nat.eq_of_beq_eq_true h2) hne
 simpa using h2
theorem ordB_spec {b : List Nat} : ∀ {hs : HL}, ordB b hs = true -> ∀ (i j : Nat) (x y : Nat × PI × TT), i < j -> hs[i]? = some x -> hs[j]? = some y -> (b.getD y.1 0).testBit x.1 = true
 | [], _, i, j, x, y, _, hx, _ => by simp at hx
 | z :: r, h, i, j, x, y, hij, hx, hy => by
  simp only [ordB, Bool.and_eq_true] at h
  cases j with
  | zero => omega
  | succ j =>
   simp at hy
   cases i with
   | zero =>
    simp at hx
    subst hx
    have := Nat.eq_of_beq_eq_true (List.all_eq_true.1 h.1 y (List.mem_of_getElem? hy))
    rw [Nat.testBit_eq_decide_div_mod_eq, this]; rfl
   | succ i => simp at hx; exact ordB_spec h.2 i j x y (by omega) hx hy
set_option maxHeartbeats 8000000 in
theorem PW.quietRN {b0 : List Nat} {k : Nat} {l : List PI} {Q : Exit -> TT -> SS -> Prop} {T2 : TT} {vals : List Value} {hs0 : HL} {Ss : SS -> Prop} (hm : P.follows .mixedOrders = true) (hq : QM P w0 n Ss 0 (l.take k) T T2 vals hs0)
  (hdi : distB (l.take k) hs0 = true) (hno : noMovB hs0 = true) (hord : ordB b0 hs0 = true) (hSs : Ss S) (hch : LCh P w0 n Ss (fun Tl S' => OL P w0 n (l.drop k) (Tl ++ T2) S' (Q .normal)) hs0 [] S) : PW P w0 n (.quietR b0 k l) T S Q := by
 intro c hc a w hs hr
 cases c
 case region id ops dr =>
  cases dr with
  | false => simp [cC] at hc
  | true =>
   simp only [cC] at hc
   split at hc
   case isFalse => simp at hc
   rename_i hcond
   simp only [Bool.and_eq_true] at hcond
   obtain ⟨⟨⟨hap, hback⟩, hsel⟩, hhoist⟩ := hcond
   simp only [Option.map_eq_some_iff] at hc
   obtain ⟨l', hcis, hmk⟩ := hc
   obtain ⟨rfl, rfl, hb0⟩ := mkQ_quietR hmk
   obtain ⟨hhead, hkle⟩ := headOf_spec ops (hoists ops) ops.size (Nat.le_refl _)
   change headB ops ((hoists ops).filter (· < quietAt ops)) (quietAt ops) = true at hhead
   change quietAt ops <= ops.size at hkle
   generalize hk : quietAt ops = k at *
   generalize hH : (hoists ops).filter (· < k) = Hs at *
   have hHk : ∀ i ∈ Hs, i < k := fun i hi => by rw [<- hH] at hi; simpa using (List.mem_filter.1 hi).2
   have hsplit : List.range ops.size = List.range' 0 k ++ List.range' k (ops.size - k) := by
    rw [List.range_eq_range']
    have := List.range'_append (s := 0) (m := k) (n := ops.size - k) (step := 1)
    simp only [Nat.one_mul, Nat.zero_add] at this
    rw [this]
    congr 1
    omega
   rw [hsplit] at hcis
   obtain ⟨hc1, hc2⟩ := cIs_append hcis
   simp only [List.length_range'] at hc1 hc2
   have hlen : (l'.take k).length = k := by simpa using cIs_length hc1
   obtain ⟨hql, hqi, hqp⟩ := hq.lt
   simp only [Nat.zero_add, Nat.sub_zero, hlen] at hqi
   rw [hlen] at hql
   let vs : List Value -> Nat -> Value := vsH hs0 vals
    |> fun f us i => f us 0 i
   have hvq : ∀ us j, (∀ x ∈ hs0, x.1 ≠ j) -> vs us j = vals.getD j undef := fun us j h => by
    show vsH hs0 vals us 0 j = _
    unfold vsH
    rw [hIdx_none h]
    rfl
   have hvh : ∀ (us : List Value) (j : Nat) (x : Nat × PI × TT), hs0[j]? = some x -> vs us x.1 = us.getD j undef := fun us j x h => by
    show vsH hs0 vals us 0 x.1 = _
    unfold vsH
    rw [hIdx_some hqp h]
   have htr := fun us => hq.trace (vs us) (fun j hj hx => by rw [Nat.zero_add] at hx ⊢; exact hvq us j hx) a (by rw [hlen]; exact hc1) hs
   simp only [hlen, Nat.zero_add, Nat.sub_zero] at htr
   have hgives : ∀ us S', Ss S' -> ∀ i, i < k -> (∀ x ∈ hs0, x.1 ≠ i) -> GivesAt P w0 S' ops i (vs us i) (runA ops (vs us) 0 i a) := by
    intro us S' hS' i hi hne
    rw [hvq us i hne]
    exact (htr us).2.1 i hi hne S' hS'
   have hdst : ∀ i o, i < k -> ops[i]? = some o -> dstOk n o.dst = true := fun i o hi ho => (htr []).2.2.2.1 i o hi ho
   have hslot : ∀ (us : List Value) (x : Nat × PI × TT), x ∈ hs0 -> ∀ d, x.2.1.d = some d -> ∀ m, x.1 < m -> m <= k -> (runA ops (vs us) 0 m a).tmps[d]? = some (vs us x.1) := by
    intro us x hx d hd m h1 h2
    obtain ⟨_, hxk, hxl⟩ := hqi x hx
    have hda : dstAt ops x.1 = some d := by rw [<- (htr us).2.2.2.2 x.1 hxk x.2.1 hxl, hd]
    have hdn : d < a.tmps.size := by
     rw [hs.size]
     have hxs : x.1 < ops.size := by omega
     have := hdst x.1 ops[x.1] hxk (by simp [hxs])
     have e : ops[x.1].dst = some d := by simpa [dstAt, hxs] using hda
     rw [e] at this
     simpa [dstOk] using this
    refine runA_slot hda hdn (fun j hj hne => ?_) m h1 h2
    have hjl : j < (l'.take k).length := by rw [hlen]; exact hj
    have e : (l'.take k)[j]? = some (l'.take k)[j] := List.getElem?_eq_getElem hjl
    rw [<- (htr us).2.2.2.2 j hj _ e]
    exact distB_spec hdi hx hd hjl hne e
   have hposlt : ∀ (i j : Nat) (x y : Nat × PI × TT), i < j -> hs0[i]? = some x -> hs0[j]? = some y -> x.1 < y.1 := by
    intro i j x y hij hx hy
    obtain ⟨h1, e1⟩ := List.getElem?_eq_some_iff.1 hx
    obtain ⟨h2, e2⟩ := List.getElem?_eq_some_iff.1 hy
    have := List.pairwise_iff_getElem.1 hqp i j (by simpa using h1) (by simpa using h2) hij
    simpa [e1, e2] using this
   have hholes : ∀ (i : Nat), (∃ (j : Nat) (x : Nat × PI × TT), hs0[j]? = some x /\ x.1 = i) ∨ ∀ x ∈ hs0, x.1 ≠ i := by
    intro i
    by_cases h : ∃ x ∈ hs0, x.1 = i
    ·obtain ⟨x, hx, rfl⟩ := h
     obtain ⟨j, hj⟩ := List.getElem?_of_mem hx
     exact .inl ⟨j, x, hj, rfl⟩
    exact .inr fun x hx e => h ⟨x, hx, e⟩
   have hbeh : ∀ (i j : Nat) (x y : Nat × PI × TT), i < j -> hs0[i]? = some x -> hs0[j]? = some y -> behind (reach ops) y.1 x.1 = true := by
    intro i j x y hij hx hy
    have h1 := ordB_spec hord i j x y hij hx hy
    have hyk := (hqi y (List.mem_of_getElem? hy)).2.1
    rw [hb0, List.getD_eq_getElem?_getD, List.getElem?_take_of_lt hyk, <- List.getD_eq_getElem?_getD] at h1
    exact h1
   have hsatL : ∀ us c Tl, (∀ d v, look Tl d = some v -> ∃ (j : Nat) (x : Nat × PI × TT), j < c /\ hs0[j]? = some x /\ x.2.1.d = some d /\ v = vs us x.1) -> ∀ T0 m, m <= k -> (∀ (j : Nat) (x : Nat × PI × TT), j < c -> hs0[j]? = some x -> x.1 < m) -> Sat n T0 (runA ops (vs us) 0 m a) -> Sat n (Tl ++ T0) (runA ops (vs us) 0 m a) := by
    intro us c Tl htl T0 m hmk hpos h0
    refine ⟨h0.size, h0.defers, fun i v hv => ?_⟩
    rw [look_app] at hv
    cases e : look Tl i with
    | none => rw [e] at hv; exact h0.get i v hv
    | some v' =>
     rw [e] at hv
     obtain rfl := Option.some.inj hv
     obtain ⟨j, x, hj, hx, hd, rfl⟩ := htl i _ e
     exact hslot us x (List.mem_of_getElem? hx) i hd m (hpos j x hj hx) hmk
   -- ordered pairs
   have hpair : ∀ i j, i < j -> j < ops.size -> ∀ oi oj, ops[i]? = some oi -> ops[j]? = some oj -> behind (reach ops) j i = true ∨ oi.apart ops oj = true := by
    intro i j hij hj oi oj hoi hoj
    have := List.all_eq_true.1 (List.all_eq_true.1 hap j (List.mem_range.2 hj)) i (List.mem_range.2 hij)
    simpa [hoi, hoj] using this
   have htail : ∀ t i, k <= t -> t < ops.size -> i < t -> i ∉ Hs -> behind (reach ops) t i = true := by
    intro t i hkt ht hi hnH
    have := List.all_eq_true.1 hhead t (List.mem_range.2 ht)
    simp only [Bool.or_eq_true, decide_eq_true_eq] at this
    rcases this with h | h
    ·omega
    have := List.all_eq_true.1 h i (List.mem_range.2 hi)
    simpa [hnH] using this
   have hreadyX : ∀ (listed : Array Bool) i, (∀ j o, ops[j]? = some o -> listed.getD j true = true -> ∀ e ∈ o.after, Region.binds .any e = true -> listed.getD e.on true = true) -> i ∈ Region.ready .any ops listed ->
     ∀ j, j < ops.size -> behind (reach ops) i j = true -> j ≠ i -> listed.getD j true = true := by
    intro listed i hcl hi j hj hb hne
    obtain ⟨hun, o, ho, hall⟩ := mem_ready.1 hi
    have hX : Closed ops (fun x => listed.getD x true = true ∨ x = i) := by
     rintro x ox hox (hx | rfl) e he hbd
     ·exact .inl (hcl x ox hox hx e he hbd)
     obtain rfl : o = ox := by rw [ho] at hox; exact Option.some.inj hox
     have := hall e he hbd
     left
     cases hlt : listed[e.on]? with
     | none => simp [hlt] at this
     | some b => simpa [hlt] using this
    rcases behind_spec hX (Array.getElem?_eq_some_iff.1 ho).1 hb (.inr rfl) with h | h
    ·exact h
    exact absurd h hne
   have horder : ∀ (listed : Array Bool) i o, (∀ j o, ops[j]? = some o -> listed.getD j true = true -> ∀ e ∈ o.after, Region.binds .any e = true -> listed.getD e.on true = true) -> i ∈ Region.ready .any ops listed -> ops[i]? = some o -> i < k ->
     ∀ x, (x ∈ o.looksAt ops ∨ o.dst = some x) -> ∀ j, j < k -> j ≠ i -> dstAt ops j = some x -> decide (j < i) = listed.getD j true := by
    intro listed i o hcl hi ho hik x hx j hj hne hdj
    obtain ⟨hun, o', ho', hpre⟩ := mem_ready.1 hi
    have hilt : i < ops.size := (Array.getElem?_eq_some_iff.1 ho).1
    have hjlt : j < ops.size := by omega
    have hoj : ops[j]? = some ops[j] := by simp [hjlt]
    have hdj' : ops[j].dst = some x := by simpa [dstAt, hoj] using hdj
    rcases Nat.lt_or_gt_of_ne hne with h | h
    ·rcases hpair j i h hilt _ _ hoj ho with hb' | hap'
     ·rw [hreadyX listed i hcl hi j hjlt hb' hne]
      simp [h]
     obtain ⟨e1, e2, e3⟩ := Oper.apart_spec hap'
     rcases hx with hx | hx
     ·exact absurd hx (e1 x hdj')
     exact absurd hx (e2 x hdj')
    rcases hpair i j h hjlt _ _ ho hoj with hb' | hap'
    ·have hnl : listed.getD j true = false := by
      cases hlj : listed.getD j true with
      | false => rfl
      | true =>
       exfalso
       have hX : Closed ops (fun x => listed.getD x true = true) := fun x ox hox hx e he hbd => hcl x ox hox hx e he hbd
       have := behind_spec hX hjlt hb' hlj
       rw [hun] at this
       cases this
     rw [hnl]
     simp; omega
    obtain ⟨e1, e2, e3⟩ := Oper.apart_spec hap'
    rcases hx with hx | hx
    ·exact absurd hx (e3 x hdj')
    exact absurd hdj' (e2 x hx)
   have hgetset : ∀ (listed : Array Bool) i, listed.size = ops.size -> i < ops.size -> (listed.setIfInBounds i true).getD i true = true := by
    intro listed i h1 h2
    have : i < listed.size := by omega
    simp [this]
   have hput : ∀ u (listed : Array Bool) i o, listed.size = ops.size -> (∀ j o, ops[j]? = some o -> listed.getD j true = true -> ∀ e ∈ o.after, Region.binds .any e = true -> listed.getD e.on true = true) -> i ∈ Region.ready .any ops listed -> ops[i]? = some o -> i < k ->
     (foldF ops (vs u) (fun j => listed.getD j true) k a).put o.dst (vs u i) = foldF ops (vs u) (fun j => (listed.setIfInBounds i true).getD j true) k a := by
    intro u listed i o hsz hcl hi ho hik
    have hilt : i < ops.size := (Array.getElem?_eq_some_iff.1 ho).1
    have hdo : dstOk n o.dst = true := hdst i o hik ho
    have hda : dstAt ops i = o.dst := by simp [dstAt, ho]
    have hgi := hgetset listed i hsz hilt
    have hgj : ∀ j, j ≠ i -> (listed.setIfInBounds i true).getD j true = listed.getD j true := fun j hj => getD_set_ne true (Ne.symm hj)
    have szs : ∀ f, (foldF ops (vs u) f k a).tmps.size = a.tmps.size := fun f => (foldF_size ops (vs u) f k a).1
    have dfs : ∀ f, (foldF ops (vs u) f k a).defers = a.defers := fun f => (foldF_size ops (vs u) f k a).2
    refine act_ext ?_ ?_ fun x => ?_
    ·cases o.dst <;> simp [Act.put, szs]
    ·cases o.dst <;> simp [Act.put, dfs]
    by_cases hx : o.dst = some x
    ·have e1 : (foldF ops (vs u) (fun j => (listed.setIfInBounds i true).getD j true) k a).tmps[x]? = (foldF ops (vs u) (fun j => decide (j < i + 1)) k a).tmps[x]? := by
      refine foldF_agree ops (vs u) _ _ k a x fun j hj hdj => ?_
      by_cases e : j = i
      ·subst e; rw [hgi]; simp
      rw [hgj j e, <- horder listed i o hcl hi ho hik x (.inr hx) j hj e hdj]
      by_cases h : j < i
      ·have : j < i + 1 := by omega
       simp [h, this]
      have : ¬ j < i + 1 := by omega
      simp [h, this]
     rw [e1, foldF_runA ops (vs u) (i + 1) k a (by omega)]
     have e2 : runA ops (vs u) 0 (i + 1) a = (runA ops (vs u) 0 i a).put (dstAt ops i) (vs u i) := by
      simp [runA, List.range'_concat]
     rw [e2, hda, hx]
     simp only [Act.put]
     have hxn : x < a.tmps.size := by rw [hs.size]; simpa [dstOk, hx] using hdo
     have hsz1 : (runA ops (vs u) 0 i a).tmps.size = a.tmps.size := by rw [<- foldF_runA ops (vs u) i k a (by omega)]; exact szs _
     rw [Array.getElem?_setIfInBounds_self_of_lt (by rw [szs]; exact hxn), Array.getElem?_setIfInBounds_self_of_lt (by rw [hsz1]; exact hxn)]
    have e1 : (foldF ops (vs u) (fun j => (listed.setIfInBounds i true).getD j true) k a).tmps[x]? = (foldF ops (vs u) (fun j => listed.getD j true) k a).tmps[x]? := by
     refine foldF_agree ops (vs u) _ _ k a x fun j hj hdj => ?_
     by_cases e : j = i
     ·subst e; rw [hda] at hdj; exact absurd hdj hx
     exact hgj j e
    rw [e1]
    cases hd : o.dst with
    | none => rfl
    | some y =>
     have : y ≠ x := fun e => hx (by rw [hd, e])
     simp [Act.put, Array.getElem?_setIfInBounds_ne this]
   have hagree : ∀ u (listed : Array Bool) i o, (∀ j o, ops[j]? = some o -> listed.getD j true = true -> ∀ e ∈ o.after, Region.binds .any e = true -> listed.getD e.on true = true) -> i ∈ Region.ready .any ops listed -> ops[i]? = some o -> i < k ->
     ∀ x, x ∈ o.looksAt ops -> (runA ops (vs u) 0 i a).tmps[x]? = (foldF ops (vs u) (fun j => listed.getD j true) k a).tmps[x]? := by
    intro u listed i o hcl hi ho hik x hx
    rw [<- foldF_runA ops (vs u) i k a (by omega)]
    refine foldF_agree ops (vs u) _ _ k a x fun j hj hdj => ?_
    by_cases e : j = i
    ·subst e
     have hun := (mem_ready.1 hi).1
     rw [hun]; simp
    exact horder listed i o hcl hi ho hik x (.inl hx) j hj e hdj
   have hclset : ∀ (listed : Array Bool) i o, listed.size = ops.size -> (∀ j o, ops[j]? = some o -> listed.getD j true = true -> ∀ e ∈ o.after, Region.binds .any e = true -> listed.getD e.on true = true) -> i ∈ Region.ready .any ops listed -> ops[i]? = some o ->
     (∀ j o, ops[j]? = some o -> (listed.setIfInBounds i true).getD j true = true -> ∀ e ∈ o.after, Region.binds .any e = true -> (listed.setIfInBounds i true).getD e.on true = true) := by
    intro listed i o hsz hcl hi ho j oj hoj hj e he hbd
    have hilt : i < ops.size := (Array.getElem?_eq_some_iff.1 ho).1
    obtain ⟨hun, o', ho', hpre⟩ := mem_ready.1 hi
    obtain rfl : o = o' := by rw [ho] at ho'; exact Option.some.inj ho'
    have hgj : ∀ j, j ≠ i -> (listed.setIfInBounds i true).getD j true = listed.getD j true := fun j hj => getD_set_ne true (Ne.symm hj)
    by_cases e1 : e.on = i
    ·rw [e1]; exact hgetset listed i hsz hilt
    rw [hgj _ e1]
    by_cases e2 : j = i
    ·subst e2
     obtain rfl : o = oj := by rw [ho] at hoj; exact Option.some.inj hoj
     have := hpre e he hbd
     cases hlt : listed[e.on]? with
     | none => simp [hlt] at this
     | some bb => simpa [hlt] using this
    rw [hgj _ e2] at hj
    exact hcl j oj hoj hj e he hbd
   have hcntset : ∀ (listed : Array Bool) i, listed.size = ops.size -> i ∈ Region.ready .any ops listed -> i < ops.size -> cnt (fun j => listed.getD j true) ops.size = cnt (fun j => (listed.setIfInBounds i true).getD j true) ops.size + 1 := by
    intro listed i hsz hi hilt
    have := cnt_set (f := fun j => listed.getD j true) (g := fun j => (listed.setIfInBounds i true).getD j true) (i := i) (mem_ready.1 hi).1 (hgetset listed i hsz hilt) (fun j hj => getD_set_ne true (Ne.symm hj)) ops.size
    simpa [hilt] using this
   refine wp_mono (Q := fun e a' w' => e = .normal /\ ∃ T' S', Sat n T' a' /\ Rep w0 S' w' /\ Q e T' S') ?_ (fun e a' w' h => h.2)
   refine wp_region_any hm ?_
   have key : ∀ (fuel : Nat) (listed : Array Bool) (b : Act) (w' : World), listed.size = ops.size ->
     (∀ j o, ops[j]? = some o -> listed.getD j true = true -> ∀ e ∈ o.after, Region.binds .any e = true -> listed.getD e.on true = true) -> (∀ i ∈ Hs, listed.getD i true = true) ->
     (∀ t, k <= t -> t < ops.size -> listed.getD t true = false) -> (∃ u Sx Tl c, Phs P w0 n Ss (fun Tl S' => OL P w0 n (l'.drop k) (Tl ++ T2) S' (Q .normal)) hs0 vals (fun j => listed.getD j true) u Sx Tl c /\ b = foldF ops (vs u) (fun j => listed.getD j true) k a /\ Rep w0 Sx w') -> cnt (fun j => listed.getD j true) ops.size = fuel ->
     wpAny P .any ops (fun e a' w' => e = .normal /\ ∃ T' S', Sat n T' a' /\ Rep w0 S' w' /\ Q e T' S') fuel listed b w' := by
    intro fuel
    induction fuel with
    | zero =>
     intro listed b w' hsz hcl hHl htl ⟨u, Sx, Tl, c, hph, hb, hr'⟩ hcnt
     have hall : ∀ j, j < ops.size -> listed.getD j true = true := by
      intro j hj
      cases hx : listed.getD j true with
      | true => rfl
      | false =>
       exfalso
       have : ∀ m, j < m -> 0 < cnt (fun j => listed.getD j true) m := by
        intro m
        induction m with
        | zero => intro h; omega
        | succ m ih =>
         intro h
         simp only [cnt]
         by_cases e : j = m
         ·subst e; simp [hx]
         have := ih (by omega); omega
       have := this ops.size hj
       omega
     have hcl2 : c = hs0.length := by
      have := hph.le
      rcases Nat.lt_or_ge c hs0.length with h | h
      ·have := (hph.lst c hs0[c] (List.getElem?_eq_getElem h)).1 (hall _ (by have := (hqi hs0[c] (List.getElem_mem _)).2.1; omega))
       omega
      omega
     have hfin : OL P w0 n (l'.drop k) (Tl ++ T2) Sx (Q .normal) := by
      have := hph.ch
      rw [hcl2, List.drop_length] at this
      exact this
     have hsat' : Sat n (Tl ++ T2) (runA ops (vs u) 0 k a) := hsatL u c Tl hph.tl T2 k (Nat.le_refl _) (fun j x _ hx => (hqi x (List.mem_of_getElem? hx)).2.1) (htr u).1
     have hkeq : k = ops.size := by
      rcases Nat.lt_or_ge k ops.size with h | h
      ·have h1 := htl k (Nat.le_refl _) h
       have h2 := hall k h
       rw [h1] at h2
       cases h2
      omega
     have hbt : b = runA ops (vs u) 0 k a := by
      rw [hb, <- foldF_runA ops (vs u) k k a (Nat.le_refl _)]
      unfold foldF
      refine foldl_ext' _ _ _ _ fun b j hj => ?_
      have hj' := List.mem_range.1 hj
      simp [hall j (by omega), hj']
     refine ⟨?_, ?_⟩
     ·unfold Region.ready
      rw [List.filter_eq_nil_iff]
      intro i hi
      rw [hall i (List.mem_range.1 hi)]
      simp
     have := hfin ops [] b w' (fun e a' w' => e = .normal /\ ∃ T' S', Sat n T' a' /\ Rep w0 S' w' /\ Q e T' S') (by
      rw [hkeq, Nat.sub_self] at hc2
      rw [hkeq]
      simpa using hc2) (hbt ▸ hsat') hr' (fun a' w' T' S' h3 h4 h5 => ⟨rfl, T', S', h3, h4, h5⟩)
     simpa [wpOps] using this
    | succ fuel ih =>
     intro listed b w' hsz hcl hHl htl ⟨u, Sx, Tl, c, hph, hb, hr'⟩ hcnt
     by_cases hall : ∀ j, j < k -> listed.getD j true = true
     ·-- the head is done
      have hcl2 : c = hs0.length := by
       have := hph.le
       rcases Nat.lt_or_ge c hs0.length with h | h
       ·have := (hph.lst c hs0[c] (List.getElem?_eq_getElem h)).1 (hall _ ((hqi hs0[c] (List.getElem_mem _)).2.1))
        omega
       omega
      have hfin : OL P w0 n (l'.drop k) (Tl ++ T2) Sx (Q .normal) := by
       have := hph.ch
       rw [hcl2, List.drop_length] at this
       exact this
      have hsat' : Sat n (Tl ++ T2) (runA ops (vs u) 0 k a) := hsatL u c Tl hph.tl T2 k (Nat.le_refl _) (fun j x _ hx => (hqi x (List.mem_of_getElem? hx)).2.1) (htr u).1
      have hexact : ∀ j, j < ops.size -> listed.getD j true = decide (j < k) := by
       intro j hj
       by_cases h : j < k
       ·rw [hall j h]; simp [h]
       rw [htl j (by omega) hj]; simp [h]
      have hbt : b = runA ops (vs u) 0 k a := by
       rw [hb, <- foldF_runA ops (vs u) k k a (Nat.le_refl _)]
       unfold foldF
       refine foldl_ext' _ _ _ _ fun b j hj => ?_
       have hj' := List.mem_range.1 hj
       simp [hall j hj', hj']
      have hfuel : fuel + 1 = ops.size - k := by
       rw [<- hcnt, cnt_congr ops.size hexact, cnt_below]
      rw [hfuel]
      have htl2 : ∀ listed' : Array Bool, ∀ t s', k <= s' -> s' < t -> t < ops.size -> (∀ j, j < ops.size -> listed'.getD j true = decide (j < s')) -> listed'.size = ops.size -> t ∉ Region.ready .any ops listed' := by
       intro l'' t s' h1 h2 h3 h4 h5 hmem
       have := hreadyX l'' t (fun j o ho hj e he hbd => by
        have hlt := backB_spec hback ho he hbd
        have hjs : j < ops.size := (Array.getElem?_eq_some_iff.1 ho).1
        rw [h4 j hjs] at hj
        rw [h4 e.on (by omega)]
        simp only [decide_eq_true_eq] at hj ⊢
        omega) hmem s' (by omega) (htail t s' (by omega) h3 h2 (fun hm' => by have := hHk s' hm'; omega)) (by omega)
       rw [h4 s' (by omega)] at this
       simp at this
      refine wpAny_tail hback (ops.size - k) k listed b w' (by omega) hsz hexact (fun t i h1 h2 h3 h4 h5 => htl2 listed t k (Nat.le_refl _) h1 h2 hexact hsz) htl2 ?_
      exact hfin ops _ b w' _ hc2 (hbt ▸ hsat') hr' (fun a' w' T' S' h3 h4 h5 => ⟨rfl, T', S', h3, h4, h5⟩)
     refine ⟨fun h0 => ?_, fun i hi => ?_⟩
     ·exfalso
      obtain ⟨i, hi1, hi2, hi3⟩ := cnt_pos ops.size (by rw [hcnt]; omega : 0 < cnt (fun j => listed.getD j true) ops.size)
      have : i ∈ Region.ready .any ops listed := by
       rw [mem_ready]
       refine ⟨hi2, ops[i], by simp [hi1], fun e he hbd => ?_⟩
       have hlt := backB_spec hback (show ops[i]? = some ops[i] by simp [hi1]) he hbd
       have h3 := hi3 e.on hlt
       have : e.on < listed.size := by omega
       simpa [this] using h3
      rw [h0] at this
      simp at this
     have hmem := mem_ready.1 hi
     obtain ⟨hun, o, ho, hpre⟩ := hmem
     have hilt : i < ops.size := (Array.getElem?_eq_some_iff.1 ho).1
     have hik : i < k := by
      rcases Nat.lt_or_ge i k with h | h
      ·exact h
      exfalso
      refine hall fun j hj => ?_
      by_cases hjH : j ∈ Hs
      ·exact hHl j hjH
      exact hreadyX listed i hcl hi j (by omega) (htail i j h hilt (by omega) hjH) (by omega)
     have hdo : dstOk n o.dst = true := hdst i o hik ho
     have hagree' := hagree u listed i o hcl hi ho hik
     rw [<- hb] at hagree'
     have hev : execOp (runA ops (vs u) 0 i a).eval o = execOp b.eval o :=
      execOp_congr o (fun cs bb hh => Region.noSelect_spec hsel i o cs bb ho hh) fun x hx => eval_agree fun t ht => hagree' t (looks_op (ht ▸ hx))
     have hwan := wanted_agree (ops := ops) (o := o) (a := runA ops (vs u) 0 i a) (b := b) hagree'
     have hgj : ∀ j, j ≠ i -> (listed.setIfInBounds i true).getD j true = listed.getD j true := fun j hj => getD_set_ne true (Ne.symm hj)
     have hnext : ∀ u2 S2 Tl2 c2 w'' b2, Phs P w0 n Ss (fun Tl S' => OL P w0 n (l'.drop k) (Tl ++ T2) S' (Q .normal)) hs0 vals (fun j => (listed.setIfInBounds i true).getD j true) u2 S2 Tl2 c2 -> b2 = foldF ops (vs u2) (fun j => (listed.setIfInBounds i true).getD j true) k a -> Rep w0 S2 w'' -> wpAny P .any ops (fun e a' w' => e = .normal /\ ∃ T' S', Sat n T' a' /\ Rep w0 S' w' /\ Q e T' S') fuel (listed.setIfInBounds i true) b2 w'' := by
      intro u2 S2 Tl2 c2 w'' b2 hp2 hb2 hr''
      refine ih _ _ w'' (by simpa using hsz) (hclset listed i o hsz hcl hi ho) ?_ ?_ ⟨u2, S2, Tl2, c2, hp2, hb2, hr''⟩ ?_
      ·intro j hj
       by_cases e : j = i
       ·subst e; exact hgetset listed j hsz hilt
       rw [hgj j e]; exact hHl j hj
      ·intro t h3 h4'
       rw [hgj t (by omega)]
       exact htl t h3 h4'
      have := hcntset listed i hsz hi hilt
      omega
     have hsz1 : (runA ops (vs u) 0 i a).tmps.size = n := by rw [<- foldF_runA ops (vs u) i k a (by omega), (foldF_size ops (vs u) _ k a).1, hs.size]
     have hsz2 : b.tmps.size = n := by rw [hb, (foldF_size ops (vs u) _ k a).1, hs.size]
     have hdf : (runA ops (vs u) 0 i a).defers = [] := by rw [<- foldF_runA ops (vs u) i k a (by omega), (foldF_size ops (vs u) _ k a).2, hs.defers]
     have hputu := fun u2 => hput u2 listed i o hsz hcl hi ho hik
     unfold wpOp
     simp only [ho]
     rcases hholes i with ⟨jx, x, hjx, hxi⟩ | hip
     ·-- one that turns something
      subst hxi
      have hxm := List.mem_of_getElem? hjx
      have hjc : jx = c := by
       rcases Nat.lt_trichotomy jx c with h | h | h
       ·have := (hph.lst jx x hjx).2 h
        rw [hun] at this
        cases this
       ·exact h
       exfalso
       have hclt : c < hs0.length := Nat.lt_trans h (List.getElem?_eq_some_iff.1 hjx).1
       have hcx : hs0[c]? = some hs0[c] := List.getElem?_eq_getElem hclt
       have h1 := hbeh c jx _ x h hcx hjx
       have h2 := hreadyX listed x.1 hcl hi hs0[c].1 (by have := (hqi hs0[c] (List.getElem_mem _)).2.1; omega) h1 (by have := hposlt c jx _ x h hcx hjx; omega)
       have := (hph.lst c _ hcx).1 h2
       omega
      subst hjc
      have hdrop : hs0.drop jx = x :: hs0.drop (jx + 1) := by
       have hl1 := (List.getElem?_eq_some_iff.1 hjx).1
       rw [List.drop_eq_getElem_cons hl1]
       congr 1
       exact (List.getElem?_eq_some_iff.1 hjx).2
      have hLC := hph.ch
      rw [hdrop] at hLC
      obtain ⟨hcg, hOW, hnx⟩ : x.2.1.g = none /\ _ /\ True := ⟨hLC.1, hLC.2, trivial⟩
      obtain ⟨_, hxk, hxl⟩ := hqi x hxm
      obtain ⟨oc, hoc, hpoc, hdstc, hgdc⟩ := cIs_pos hc1 hxk hxl
      obtain rfl : oc = o := by rw [hoc] at ho; exact Option.some.inj ho
      have hwt : Region.wanted oc (yielded ops b.tmps) = true := by
       rcases hgdc with ⟨hgn, _⟩ | ⟨j, b', s', hgn, hj, he⟩
       ·simp [Region.wanted, hgn]
       rw [hcg] at he; cases he
      rw [if_pos hwt]
      left
      have hsC := hsatL u jx Tl hph.tl x.2.2 x.1 (by omega) (fun j y hj hy => hposlt j jx y x hj hy hjx) ((htr u).2.2.1 x hxm)
      have hl2 := hOW oc _ w' (fun _ _ _ => False) hpoc hsC hr'
      refine Oper.wp_mono ?_ (wp_transfer_any hev (by rw [hsz1, hsz2]) (by rw [hsz1]; exact hdo) hdf hl2)
      rintro b' w'' ⟨v2, S2, rfl, hr2, hss2, hk2⟩
      have hvnew : ∀ (j : Nat) (y : Nat × PI × TT), j < jx -> hs0[j]? = some y -> vs (u ++ [v2]) y.1 = vs u y.1 := by
       intro j y hj hy
       rw [hvh _ j y hy, hvh _ j y hy]
       simp only [List.getD_eq_getElem?_getD]
       rw [List.getElem?_append_left (by rw [hph.len]; exact hj)]
      refine hnext (u ++ [v2]) S2 (put x.2.1.d v2 Tl) (jx + 1) w'' _ ⟨(List.getElem?_eq_some_iff.1 hjx).1, by simp [hph.len], ?_, hk2, hss2, ?_⟩ ?_ hr2
      ·intro j y hy
       by_cases e : j = jx
       ·subst e
        obtain rfl : x = y := by rw [hjx] at hy; exact Option.some.inj hy
        simp [hgetset listed _ hsz hilt]
       have hne : y.1 ≠ x.1 := by
        rcases Nat.lt_or_gt_of_ne e with h | h
        ·have := hposlt j jx y x h hy hjx; omega
        have := hposlt jx j x y h hjx hy; omega
       have h3 := hph.lst j y hy
       show (listed.setIfInBounds x.1 true).getD y.1 true = true ↔ _
       rw [hgj _ hne]
       exact h3.trans (by omega)
      ·intro d v hv
       have hold : look Tl d = some v -> ∃ j y, j < jx + 1 /\ hs0[j]? = some y /\ y.2.1.d = some d /\ v = vsH hs0 vals (u ++ [v2]) 0 y.1 := by
        intro hv
        obtain ⟨j, y, h1, h2, h3, h4⟩ := hph.tl d v hv
        exact ⟨j, y, by omega, h2, h3, by rw [h4]; exact (hvnew j y h1 h2).symm⟩
       cases hxd : x.2.1.d with
       | none => rw [hxd] at hv; exact hold hv
       | some dd =>
        rw [hxd] at hv
        by_cases e : dd = d
        ·subst e
         simp only [SL.put, look_put_same] at hv
         obtain rfl := Option.some.inj hv
         refine ⟨jx, x, by omega, hjx, hxd, ?_⟩
         have := hvh (u ++ [v2]) jx x hjx
         have e2 : (u ++ [v2]).getD jx undef = v2 := by
          rw [List.getD_eq_getElem?_getD, List.getElem?_append_right (by rw [hph.len]; exact Nat.le_refl _), hph.len]
          simp
         rw [e2] at this
         exact this.symm
        simp only [SL.put] at hv
        rw [look_cons_ne _ _ e] at hv
        exact hold hv
      have h7 := hputu (u ++ [v2])
      have h8 : vs (u ++ [v2]) x.1 = v2 := by
       rw [hvh _ jx x hjx, List.getD_eq_getElem?_getD, List.getElem?_append_right (by rw [hph.len]; exact Nat.le_refl _), hph.len]
       simp
      rw [h8] at h7
      rw [<- h7, hb]
      congr 1
      unfold foldF
      refine foldl_ext' _ _ _ _ fun b j hj => ?_
      by_cases hjl : listed.getD j true = true
      ·have : vs u j = vs (u ++ [v2]) j := by
        rcases hholes j with ⟨jy, y, hjy, rfl⟩ | hq0
        ·exact (hvnew jy y ((hph.lst jy y hjy).1 hjl) hjy).symm
        rw [hvq _ _ hq0, hvq _ _ hq0]
       rw [this]
      simp [hjl]
     have hph2 : Phs P w0 n Ss (fun Tl S' => OL P w0 n (l'.drop k) (Tl ++ T2) S' (Q .normal)) hs0 vals (fun j => (listed.setIfInBounds i true).getD j true) u Sx Tl c := by
      refine ⟨hph.le, hph.len, fun j x hx => ?_, hph.ch, hph.ss, hph.tl⟩
      show (listed.setIfInBounds i true).getD x.1 true = true ↔ _
      rw [hgj x.1 (hip x (List.mem_of_getElem? hx))]
      exact hph.lst j x hx
     rcases hgives u Sx hph.ss i hik hip o ho with ⟨hw1, hw2⟩ | ⟨hw1, hw2⟩
     ·rw [hwan] at hw1
      rw [if_pos hw1]
      left
      refine Oper.wp_mono ?_ (wp_transfer hev (by rw [hsz1, hsz2]) (by rw [hsz1]; exact hdo) hdf (hw2 w' hr'))
      rintro b' w'' ⟨rfl, hr''⟩
      exact hnext u Sx Tl c w'' _ hph2 (by rw [hb]; exact hputu u) hr''
     rw [hwan] at hw1
     rw [hw1]
     simp only [Bool.false_eq_true, if_false]
     have h9 := hputu u
     rw [hw2] at h9
     exact hnext u Sx Tl c w' _ hph2 (by rw [hb]; exact h9) hr'
   -- the moves first
   have phase0 : ∀ (Hr : List Nat) (listed : Array Bool) (b : Act) (w' : World), hoistB ops Hr listed = true -> (∀ i ∈ Hr, i < k) -> listed.size = ops.size ->
     (∀ j o, ops[j]? = some o -> listed.getD j true = true -> ∀ e ∈ o.after, Region.binds .any e = true -> listed.getD e.on true = true) -> (∀ i ∈ Hs, listed.getD i true = true ∨ i ∈ Hr) ->
     (∀ t, k <= t -> t < ops.size -> listed.getD t true = false) -> (∀ x ∈ hs0, listed.getD x.1 true = false) -> b = foldF ops (vs []) (fun j => listed.getD j true) k a -> Rep w0 S w' ->
     wpAny P .any ops (fun e a' w' => e = .normal /\ ∃ T' S', Sat n T' a' /\ Rep w0 S' w' /\ Q e T' S') (cnt (fun j => listed.getD j true) ops.size) listed b w' := by
    intro Hr
    induction Hr with
    | nil =>
     intro listed b w' _ _ hsz hcl hHl htl hnp hb hr'
     exact key _ listed b w' hsz hcl (fun i hi => (hHl i hi).resolve_right (by simp)) htl ⟨[], S, [], 0, ⟨Nat.zero_le _, rfl, fun j x hx => by simp [hnp x (List.mem_of_getElem? hx)], hch, hSs, fun d v h => by simp [look] at h⟩, hb, hr'⟩ rfl
    | cons i Hr ih =>
     intro listed b w' hh hlt hsz hcl hHl htl hnp hb hr'
     simp only [hoistB, Bool.and_eq_true] at hh
     obtain ⟨⟨⟨hho, hfree⟩, hready⟩, hrest⟩ := hh
     have hi : i ∈ Region.ready .any ops listed := by simpa using hready
     obtain ⟨hun, o, ho, hpre⟩ := mem_ready.1 hi
     have hilt : i < ops.size := (Array.getElem?_eq_some_iff.1 ho).1
     have hik : i < k := hlt i (by simp)
     have hgj : ∀ j, j ≠ i -> (listed.setIfInBounds i true).getD j true = listed.getD j true := fun j hj => getD_set_ne true (Ne.symm hj)
     rw [hcntset listed i hsz hi hilt]
     simp only [hoistable?, ho, hoistable, Bool.and_eq_true] at hho
     obtain ⟨hgn, hmv⟩ := hho
     have hgn' : o.guard = none := by simpa using hgn
     have hwant : ∀ t : Array Value, Region.wanted o (yielded ops t) = true := fun t => by simp [Region.wanted, hgn']
     have hagree' := hagree [] listed i o hcl hi ho hik
     rw [<- hb] at hagree'
     have hdo : dstOk n o.dst = true := hdst i o hik ho
     have hsz1 : (runA ops (vs []) 0 i a).tmps.size = n := by rw [<- foldF_runA ops (vs []) i k a (by omega), (foldF_size ops (vs []) _ k a).1, hs.size]
     have hmove : ∃ x, (o.op = .move x ∨ o.op = .assign x) := by
      cases hop : o.op <;> rw [hop] at hmv <;> simp at hmv
      ·exact ⟨_, .inl rfl⟩
      exact ⟨_, .inr rfl⟩
     obtain ⟨x, hx⟩ := hmove
     have hip : ∀ x ∈ hs0, x.1 ≠ i := by
      intro y hy e; subst e
      obtain ⟨_, hyk, hyl⟩ := hqi y hy
      obtain ⟨oc, hoc, hpoc, hdstc, hgdc⟩ := cIs_pos hc1 hyk hyl
      obtain rfl : oc = o := by rw [hoc] at ho; exact Option.some.inj ho
      have : y.2.1.o = .mov (cV x) := by
       have h5 : cOp P oc = some (.mov (cV x)) := by unfold cOp cOp0; rcases hx with hx | hx <;> simp [hx]
       rw [h5] at hpoc
       exact (Option.some.inj hpoc).symm
      have h6 := List.all_eq_true.1 hno y hy
      rw [this] at h6
      simp at h6
     have hexec : ∀ ρ, execOp ρ o = pure (.value (ρ x)) := by
      intro ρ
      rcases hx with hx | hx <;> simp [execOp, hx]
     have hval : b.eval x = vs [] i ∨ o.dst = none := by
      rcases hgives [] S hSs i hik hip o ho with ⟨_, hw2⟩ | ⟨hw1, _⟩
      ·have := hw2 w' hr'
       unfold Oper.wp at this
       rw [hexec] at this
       simp only [Sem.run_pure, Oper.upon] at this
       have hev : (runA ops (vs []) 0 i a).eval x = b.eval x := eval_agree fun t ht => hagree' t (looks_op (by rcases hx with hx | hx <;> simp [hx, Op.operands, ht]))
       cases hd : o.dst with
       | none => exact .inr rfl
       | some d =>
        left
        rw [hd] at this hdo
        have h3 := congrArg (fun c : Act => c.tmps[d]?) this.1
        have hdn : d < n := by simpa [dstOk] using hdo
        simp [Act.put, hsz1, hdn] at h3
        rw [<- hev]; exact h3
      rw [hwant] at hw1; cases hw1
     refine wpAny_take (oi := o) (v := b.eval x) ho hsel hfree hready (fun c a w hq => by simp at hq) (.inl ⟨hwant _, fun w => by rw [hexec]; rfl⟩) ?_
     have hbput : b.put o.dst (b.eval x) = foldF ops (vs []) (fun j => (listed.setIfInBounds i true).getD j true) k a := by
      rw [<- hput [] listed i o hsz hcl hi ho hik, <- hb]
      rcases hval with h | h
      ·rw [h]
      rw [h]; rfl
     rw [hbput]
     refine ih _ _ w' hrest (fun j hj => hlt j (by simp [hj])) (by simpa using hsz) (hclset listed i o hsz hcl hi ho) ?_ ?_ (fun x hx => by rw [hgj _ (hip x hx)]; exact hnp x hx) rfl hr'
     ·intro j hj
      by_cases e : j = i
      ·subst e; exact .inl (hgetset listed j hsz hilt)
      rw [hgj j e]
      rcases hHl j hj with h | h
      ·exact .inl h
      rcases List.mem_cons.1 h with h | h
      ·exact absurd h e
      exact .inr h
     intro t h3 h4
     rw [hgj t (by omega)]
     exact htl t h3 h4
   have hcnt0 : cnt (fun j => (Array.replicate ops.size false).getD j true) ops.size = ops.size := by
    rw [cnt_congr (g := fun j => decide (j < 0)) ops.size (fun j hj => by simp [hj]), cnt_below]
    omega
   have := phase0 Hs (Array.replicate ops.size false) a { w with drawn := w.drawn + 1 } hhoist hHk (by simp) ?_ (fun i hi => .inr hi) ?_ (fun x hx => by have := (hqi x hx).2.1; have : x.1 < ops.size := (by omega); simp [this]) ?_ ?_
   ·rwa [hcnt0] at this
   ·intro j o ho hj
    exfalso
    have hlt : j < ops.size := (Array.getElem?_eq_some_iff.1 ho).1
    simp [hlt] at hj
   ·intro t _ ht
    simp [ht]
   ·have : ∀ j, j < k -> (Array.replicate ops.size false).getD j true = decide (j < 0) := by
     intro j hj
     have : j < ops.size := by omega
     simp [this]
    have h0 : foldF ops (vs []) (fun j => (Array.replicate ops.size false).getD j true) k a = foldF ops (vs []) (fun j => decide (j < 0)) k a := by
     unfold foldF
     refine foldl_ext' _ _ _ _ fun b j hj => ?_
     simp only [this j (List.mem_range.1 hj)]
    rw [h0, foldF_runA ops (vs []) 0 k a (Nat.zero_le _)]
    rfl
   exact hr.same ((Below.refl _ w).drew) (fun _ _ => rfl)
 all_goals (first | (simp [cC] at hc; done) | (simp only [cC] at hc; split at hc <;> simp at hc; done))
end
end Go.SL

namespace Go.SL
open Go.RowKit
section
variable {P : Program} {w0 : World} {n : Nat} {T : TT} {S : SS}
def QN (P : Program) (w0 : World) (n : Nat) (base : SS) (i : Nat) (l : List PI) (T : TT) (K : TT -> HL -> Prop) : Prop := ∃ T' vals hs, QM P w0 n (Over base) i l T T' vals hs /\ K T' hs
theorem QN.nil {base : SS} {i : Nat} {K : TT -> HL -> Prop} (h : K T []) : QN P w0 n base i [] T K := ⟨T, [], [], .nil, h⟩
theorem QN.det {base : SS} {i : Nat} {po : PO} {d : Option Nat} {g : Option (Nat × Bool)} {v : Value} {r : List PI} {K : TT -> HL -> Prop} (hg : gOk T g) (h : ∀ S, Over base S -> Yields P w0 n po T S v) (k : QN P w0 n base (i + 1) r (put d v T) K) : QN P w0 n base i (⟨d, g, po⟩ :: r) T K :=
 let ⟨T', vs, hs, h1, h2⟩ := k; ⟨T', _, hs, .step hg (fun S hS => OW.of_yields (h S hS)) h1, h2⟩
theorem QN.hole {base : SS} {i : Nat} {c : PI} {r : List PI} {K : TT -> HL -> Prop} (k : QN P w0 n base (i + 1) r (SL.del c.d T) (fun T' hs => K T' ((i, c, T) :: hs))) : QN P w0 n base i (c :: r) T K :=
 let ⟨T', vs, hs, h1, h2⟩ := k; ⟨T', _, _, .hole h1, h2⟩
def ordP (b : List Nat) : List Nat -> Bool
 | [] => true
 | x :: r => (r.all fun y => Nat.beq (b.getD y 0 / 2 ^ x % 2) 1) && ordP b r
theorem ordB_of {b hp : List Nat} : ∀ {hs : HL}, hs.map (·.1) = hp -> ordP b hp = true -> ordB b hs = true := by
 intro hs h h2
 subst h
 induction hs with
 | nil => rfl
 | cons x r ih =>
  simp only [List.map_cons, ordP, Bool.and_eq_true] at h2
  simp only [ordB, Bool.and_eq_true]
  refine ⟨?_, ih h2.2⟩
  rw [List.all_eq_true] at h2 ⊢
  exact fun y hy => h2.1 y.1 (List.mem_map.2 ⟨y, hy, rfl⟩)
theorem PW.quietRNK {b : List Nat} {k : Nat} {l : List PI} {base : SS} {Q : Exit -> TT -> SS -> Prop} (hm : P.follows .mixedOrders = true) (hS : Over base S)
  (h : QN P w0 n base 0 (l.take k) T (fun T2 hs => distB (l.take k) hs = true /\ noMovB hs = true /\ ordB b hs = true /\ LCh P w0 n (Over base) (fun Tl S' => OL P w0 n (l.drop k) (Tl ++ T2) S' (Q .normal)) hs [] S)) : PW P w0 n (.quietR b k l) T S Q :=
 let ⟨_, _, _, h1, h2, h3, h4, h5⟩ := h; PW.quietRN hm h1 h2 h3 h4 hS h5
end
end Go.SL

namespace Go.SL
open Go.RowKit
section
variable {P : Program} {w0 : World} {n : Nat} {T : TT} {S : SS}
inductive HK where
 | loud
 | dep
 | free
 deriving DecidableEq
abbrev CE := Nat × PI × TT × HK
def LCF (P : Program) (w0 : World) (n : Nat) (base : SS) (post : TT -> SS -> Prop) : List CE -> TT -> SS -> Prop
 | [], Tl, S => post Tl S
 | (i, c, T, .loud) :: r, Tl, S => c.g = none /\ ∀ F, OW P w0 n c.o (Tl ++ T) (F ++ S) (fun v S' => ∃ S1, (F ++ S1).Perm S' /\ Over base S1 /\ LCF P w0 n base post r (put c.d v Tl) S1)
 | (i, c, T, .dep) :: r, Tl, S => c.g = none /\ ∃ v, evalP c.o (Tl ++ T) = some v /\ LCF P w0 n base post r (put c.d v Tl) S
 | (i, c, T, .free) :: r, Tl, S => c.g = none /\ ∃ E z, c.o = .al E z /\ ∀ rr, LCF P w0 n base post r (put c.d (.pointer (some ⟨rr, 0, none⟩)) Tl) ([(rr, .cells z E z.length)] :: S)
def mkCh (hs : HL) (ks : List (Nat × HK)) : List CE := ks.filterMap fun p => (hs[p.1]?).map fun x => (x.1, x.2.1, x.2.2, p.2)
def okKs (m : Nat) (ks : List (Nat × HK)) : Bool := ((List.range m).all fun j => ks.any fun p => Nat.beq p.1 j) && decide (ks.map (·.1)).Nodup
def ordQ (b : List Nat) : List (Nat × HK) -> Bool
 | [] => true
 | x :: r => (r.all fun y => decide (y.2 = .free) || (Nat.blt x.1 y.1 && (decide (x.2 = .dep) || Nat.beq (b.getD y.1 0 / 2 ^ x.1 % 2) 1))) && ordQ b r
theorem ordQ_spec {b : List Nat} : ∀ {hs : List (Nat × HK)}, ordQ b hs = true -> ∀ (i j : Nat) (x y : Nat × HK), i < j -> hs[i]? = some x -> hs[j]? = some y -> y.2 ≠ .free -> x.1 < y.1 /\ (x.2 ≠ .dep -> (b.getD y.1 0).testBit x.1 = true)
 | [], _, i, j, x, y, _, hx, _, _ => by simp at hx
 | z :: r, h, i, j, x, y, hij, hx, hy, hyf => by
  simp only [ordQ, Bool.and_eq_true] at h
  cases j with
  | zero => omega
  | succ j =>
   simp at hy
   cases i with
   | zero =>
    simp at hx
    subst hx
    have := List.all_eq_true.1 h.1 y (List.mem_of_getElem? hy)
    simp only [Bool.or_eq_true, decide_eq_true_eq, Bool.and_eq_true] at this
    rcases this with h1 | ⟨h1, h2⟩
    ·exact absurd h1 hyf
    refine ⟨by have h9 : Nat.ble (z.1 + 1) y.1 = true := h1; exact Nat.le_of_ble_eq_true h9, fun hd => ?_⟩
    have h3 := Nat.eq_of_beq_eq_true (h2.resolve_left hd)
    rw [Nat.testBit_eq_decide_div_mod_eq, h3]; rfl
   | succ i => simp at hx; exact ordQ_spec h.2 i j x y (by omega) hx hy hyf
def kindB (ch : List CE) : Bool := ch.all fun x => match x.2.2.2 with
 | .loud => true
 | .dep => x.2.1.g.isNone
 | .free => x.2.1.g.isNone && (match x.2.1.o with | .al _ _ => true | _ => false)
def noMovC (ch : List CE) : Bool := (match ch with | [] => true | x :: _ => decide (x.2.2.2 ≠ .dep)) && ch.all fun x => match x.2.1.o with | .mov _ => decide (x.2.2.2 = .dep) | _ => true
theorem Rep.permS {w : World} {S' : SS} (h : Rep w0 S w) (hp : S.Perm S') : Rep w0 S' w :=
 h.sub (fun p hx => hp.flatten.mem_iff.2 hx) ((hp.flatten.map _).nodup_iff.1 h.nodup)
def vsC (ch : List CE) (vals : List Value) (us : Nat -> Value) (i : Nat) : Value := match ch.findIdx? fun x => x.1 == i with | some j => us j | none => vals.getD i undef
def fseg (ch : List CE) (us : Nat -> Value) (j : Nat) : Seg := match ch[j]?, us j with
 | some x, .pointer (some a) => (match x.2.1.o with | .al E z => [(a.block, .cells z E z.length)] | _ => [])
 | _, _ => []
structure PhG (P : Program) (w0 : World) (n : Nat) (base : SS) (post : TT -> SS -> Prop) (ch : List CE) (lst : Nat -> Bool) (us : Nat -> Value) (Sx : SS) (Tl : TT) (C : Nat) (js : List Nat) : Prop where
 le : C <= ch.length
 loud : ∀ j x, ch[j]? = some x -> x.2.2.2 = .loud -> (lst x.1 = true ↔ j < C)
 free : ∀ j x, ch[j]? = some x -> x.2.2.2 = .free -> (lst x.1 = true ↔ (j < C ∨ j ∈ js))
 dep : ∀ j x, ch[j]? = some x -> x.2.2.2 = .dep -> lst x.1 = true -> j < C
 jge : ∀ j ∈ js, C <= j
 jnd : js.Nodup
 jfr : ∀ j ∈ js, ∃ x rr, ch[j]? = some x /\ x.2.2.2 = .free /\ us j = .pointer (some ⟨rr, 0, none⟩)
 lc : LCF P w0 n base post (ch.drop C) Tl Sx
 ss : Over base Sx
 tl : ∀ d v, look Tl d = some v -> ∃ j x, j < C /\ ch[j]? = some x /\ x.2.1.d = some d /\ v = us j
 deps : ∀ j x, j < C -> ch[j]? = some x -> x.2.2.2 = .dep -> ∃ Tl', (∀ d v, look Tl' d = some v -> ∃ j' x', j' < j /\ ch[j']? = some x' /\ x'.2.1.d = some d /\ v = us j') /\ evalP x.2.1.o (Tl' ++ x.2.2.1) = some (us j)
def Cur (ch : List CE) (C : Nat) (js : List Nat) : Prop := ∀ x, ch[C]? = some x -> x.2.2.2 = .loud ∨ (x.2.2.2 = .free /\ C ∉ js)
theorem put_tl {ch : List CE} {us us' : Nat -> Value} {Tl : TT} {C : Nat} {x : CE} (hx : ch[C]? = some x) (hag : ∀ j, j < C -> us' j = us j) (h : ∀ d v, look Tl d = some v -> ∃ j y, j < C /\ ch[j]? = some y /\ y.2.1.d = some d /\ v = us j) :
  ∀ d v, look (put x.2.1.d (us' C) Tl) d = some v -> ∃ j y, j < C + 1 /\ ch[j]? = some y /\ y.2.1.d = some d /\ v = us' j := by
 intro d v hv
 have hold : look Tl d = some v -> ∃ j y, j < C + 1 /\ ch[j]? = some y /\ y.2.1.d = some d /\ v = us' j := by
  intro hv
  obtain ⟨j, y, h1, h2, h3, h4⟩ := h d v hv
  exact ⟨j, y, by omega, h2, h3, by rw [hag j h1]; exact h4⟩
 cases hxd : x.2.1.d with
 | none => rw [hxd] at hv; exact hold hv
 | some dd =>
  rw [hxd] at hv
  by_cases e : dd = d
  ·subst e
   simp only [SL.put, look_put_same] at hv
   obtain rfl := Option.some.inj hv
   exact ⟨C, x, by omega, hx, hxd, rfl⟩
  simp only [SL.put] at hv
  rw [look_cons_ne _ _ e] at hv
  exact hold hv
theorem deps_mono {ch : List CE} {us us' : Nat -> Value} {C : Nat} (hag : ∀ j, j < C -> us' j = us j)
  (h : ∀ j x, j < C -> ch[j]? = some x -> x.2.2.2 = .dep -> ∃ Tl', (∀ d v, look Tl' d = some v -> ∃ j' x', j' < j /\ ch[j']? = some x' /\ x'.2.1.d = some d /\ v = us j') /\ evalP x.2.1.o (Tl' ++ x.2.2.1) = some (us j)) :
  ∀ j x, j < C -> ch[j]? = some x -> x.2.2.2 = .dep -> ∃ Tl', (∀ d v, look Tl' d = some v -> ∃ j' x', j' < j /\ ch[j']? = some x' /\ x'.2.1.d = some d /\ v = us' j') /\ evalP x.2.1.o (Tl' ++ x.2.2.1) = some (us' j) := by
 intro j x hj hx hd
 obtain ⟨Tl', h1, h2⟩ := h j x hj hx hd
 refine ⟨Tl', fun d v hv => ?_, by rw [hag j hj]; exact h2⟩
 obtain ⟨j', x', g1, g2, g3, g4⟩ := h1 d v hv
 exact ⟨j', x', g1, g2, g3, by rw [hag j' (by omega)]; exact g4⟩
theorem drop_at {ch : List CE} {C : Nat} {x : CE} (hx : ch[C]? = some x) : ch.drop C = x :: ch.drop (C + 1) := by
 rw [List.drop_eq_getElem_cons (List.getElem?_eq_some_iff.1 hx).1]
 congr 1
 exact (List.getElem?_eq_some_iff.1 hx).2
theorem fseg_congr {ch : List CE} {us us' : Nat -> Value} {js : List Nat} (h : ∀ j ∈ js, us' j = us j) : js.map (fseg ch us') = js.map (fseg ch us) := by
 apply List.map_congr_left
 intro j hj
 unfold fseg
 rw [h j hj]
theorem PhG.advance {base : SS} {post : TT -> SS -> Prop} {ch : List CE} {lst : Nat -> Bool} (m : Nat) : ∀ {us : Nat -> Value} {Sx : SS} {Tl : TT} {C : Nat} {js : List Nat} {w : World}, ch.length - C <= m -> PhG P w0 n base post ch lst us Sx Tl C js -> Rep w0 (js.map (fseg ch us) ++ Sx) w ->
  ∃ us' Sx' Tl' C' js', PhG P w0 n base post ch lst us' Sx' Tl' C' js' /\ Cur ch C' js' /\ Rep w0 (js'.map (fseg ch us') ++ Sx') w /\ (∀ j x, ch[j]? = some x -> lst x.1 = true -> us' j = us j) := by
 induction m with
 | zero =>
  intro us Sx Tl C js w hm h hr
  refine ⟨us, Sx, Tl, C, js, h, fun x hx => ?_, hr, fun _ _ _ _ => rfl⟩
  have := (List.getElem?_eq_some_iff.1 hx).1
  have := h.le
  omega
 | succ m ih =>
  intro us Sx Tl C js w hm h hr
  cases hx : ch[C]? with
  | none => exact ⟨us, Sx, Tl, C, js, h, fun x hx2 => (by rw [hx] at hx2; cases hx2), hr, fun _ _ _ _ => rfl⟩
  | some x =>
   have hlt := (List.getElem?_eq_some_iff.1 hx).1
   obtain ⟨i, c, T0, kd⟩ := x
   have hLC := h.lc
   rw [drop_at hx] at hLC
   cases kd with
   | loud => exact ⟨us, Sx, Tl, C, js, h, fun y hy => (by rw [hx] at hy; obtain rfl := Option.some.inj hy; exact .inl rfl), hr, fun _ _ _ _ => rfl⟩
   | dep =>
    obtain ⟨hg, v, hv, hrest⟩ := hLC
    let us' : Nat -> Value := fun j => if j = C then v else us j
    have hag : ∀ j, j < C -> us' j = us j := fun j hj => by simp only [us']; rw [if_neg (by omega)]
    have hC : us' C = v := by simp [us']
    have hCj : C ∉ js := fun hj => by obtain ⟨y, rr, h1, h2, _⟩ := h.jfr C hj; rw [hx] at h1; obtain rfl := Option.some.inj h1; cases h2
    have hjs : ∀ j ∈ js, us' j = us j := fun j hj => by
     show (if j = C then v else us j) = us j
     rw [if_neg]
     rintro rfl
     exact hCj hj
    have hph : PhG P w0 n base post ch lst us' Sx (put c.d v Tl) (C + 1) js := by
     refine ⟨hlt, fun j y hy hk => ?_, fun j y hy hk => ?_, fun j y hy hk hl => by have := h.dep j y hy hk hl; omega, fun j hj => ?_, h.jnd, fun j hj => ?_, hrest, h.ss, ?_, ?_⟩
     ·rw [h.loud j y hy hk]
      constructor
      ·intro h; omega
      intro h2
      rcases Nat.lt_or_ge j C with h3 | h3
      ·exact h3
      obtain rfl : j = C := by omega
      rw [hx] at hy; obtain rfl := Option.some.inj hy; cases hk
     ·rw [h.free j y hy hk]
      constructor
      ·rintro (h | h)
       ·exact .inl (by omega)
       exact .inr h
      rintro (h2 | h2)
      ·rcases Nat.lt_or_ge j C with h3 | h3
       ·exact .inl h3
       obtain rfl : j = C := by omega
       rw [hx] at hy; obtain rfl := Option.some.inj hy; cases hk
      exact .inr h2
     ·have h1 := h.jge j hj
      rcases Nat.lt_or_ge C j with h3 | h3
      ·exact h3
      exact absurd ((by omega : j = C) ▸ hj) hCj
     ·obtain ⟨y, rr, h1, h2, h3⟩ := h.jfr j hj
      exact ⟨y, rr, h1, h2, by rw [hjs j hj]; exact h3⟩
     ·have := put_tl (us' := us') hx hag h.tl
      rw [hC] at this
      exact this
     intro j y hj hy hk
     rcases Nat.lt_or_ge j C with h3 | h3
     ·exact deps_mono hag h.deps j y h3 hy hk
     obtain rfl : j = C := by omega
     rw [hx] at hy; obtain rfl := Option.some.inj hy
     refine ⟨Tl, fun d u hu => ?_, by rw [hC]; exact hv⟩
     obtain ⟨j', y', g1, g2, g3, g4⟩ := h.tl d u hu
     exact ⟨j', y', g1, g2, g3, by rw [hag j' g1]; exact g4⟩
    obtain ⟨u2, S2, T2, C2, j2, g1, g2, g3, g4⟩ := ih (by omega) hph (by rw [fseg_congr hjs]; exact hr)
    refine ⟨u2, S2, T2, C2, j2, g1, g2, g3, fun j y hy hl => ?_⟩
    rw [g4 j y hy hl]
    simp only [us']
    rw [if_neg]
    rintro rfl
    rw [hx] at hy; obtain rfl := Option.some.inj hy
    have := h.dep j _ hx rfl hl
    omega
   | free =>
    by_cases hj : C ∈ js
    ·obtain ⟨hg, E, z, ho, hrest⟩ := hLC
     obtain ⟨y, rr, h1, h2, h3⟩ := h.jfr C hj
     have hsegC : fseg ch us C = [(rr, .cells z E z.length)] := by unfold fseg; rw [hx, h3]; simp [ho]
     have hph : PhG P w0 n base post ch lst us ([(rr, .cells z E z.length)] :: Sx) (put c.d (.pointer (some ⟨rr, 0, none⟩)) Tl) (C + 1) (js.erase C) := by
      refine ⟨hlt, fun j y hy hk => ?_, fun j y hy hk => ?_, fun j y hy hk hl => by have := h.dep j y hy hk hl; omega, fun j hj => ?_, h.jnd.erase _, fun j hj => h.jfr j (List.mem_of_mem_erase hj), hrest rr, h.ss.cons, ?_, ?_⟩
      ·rw [h.loud j y hy hk]
       constructor
       ·intro h; omega
       intro h2
       rcases Nat.lt_or_ge j C with h3 | h3
       ·exact h3
       obtain rfl : j = C := by omega
       rw [hx] at hy; obtain rfl := Option.some.inj hy; cases hk
      ·rw [h.free j y hy hk, h.jnd.mem_erase_iff]
       constructor
       ·rintro (h | h)
        ·exact .inl (by omega)
        by_cases e : j = C
        ·exact .inl (by omega)
        exact .inr ⟨e, h⟩
       rintro (h2 | h2)
       ·rcases Nat.lt_or_ge j C with h3 | h3
        ·exact .inl h3
        obtain rfl : j = C := by omega
        exact .inr hj
       exact .inr h2.2
      ·rw [h.jnd.mem_erase_iff] at hj
       have := h.jge j hj.2
       omega
      ·have := put_tl (us' := us) hx (fun _ _ => rfl) h.tl
       rw [h3] at this
       exact this
      intro j y hj hy hk
      rcases Nat.lt_or_ge j C with h3 | h3
      ·exact h.deps j y h3 hy hk
      obtain rfl : j = C := by omega
      rw [hx] at hy; obtain rfl := Option.some.inj hy; cases hk
     refine ih (by omega) hph (hr.permS ?_)
     have hp : js.Perm (C :: js.erase C) := List.perm_cons_erase hj
     have hp2 := (hp.map (fseg ch us)).append_right Sx
     rw [List.map_cons, hsegC] at hp2
     refine hp2.trans ?_
     rw [List.cons_append]
     exact (List.perm_middle (a := [(rr, AO.cells z E z.length)]) (l₁ := (js.erase C).map (fseg ch us)) (l₂ := Sx)).symm
    exact ⟨us, Sx, Tl, C, js, h, fun y hy => (by rw [hx] at hy; obtain rfl := Option.some.inj hy; exact .inr ⟨rfl, hj⟩), hr, fun _ _ _ _ => rfl⟩
set_option maxHeartbeats 8000000 in
theorem PW.quietRF {b0 : List Nat} {k : Nat} {l : List PI} {base : SS} {Q : Exit -> TT -> SS -> Prop} {T2 : TT} {vals : List Value} {hs0 : HL} {ks : List (Nat × HK)} (hm : P.follows .mixedOrders = true) (hq : QM P w0 n (Over base) 0 (l.take k) T T2 vals hs0)
  (hdi : distB (l.take k) hs0 = true) (hno : noMovC (mkCh hs0 ks) = true) {m0 : Nat} (hml : hs0.length = m0) (hks : okKs m0 ks = true) {hp : List (Nat × HK)} (hmap : (mkCh hs0 ks).map (fun x => (x.1, x.2.2.2)) = hp) (hord : ordQ b0 hp = true) (hkb : kindB (mkCh hs0 ks) = true) (hSs : Over base S)
  (hch : LCF P w0 n base (fun Tl S' => OL P w0 n (l.drop k) (Tl ++ T2) S' (Q .normal)) (mkCh hs0 ks) [] S) : PW P w0 n (.quietR b0 k l) T S Q := by
 intro c hc a w hs hr
 cases c
 case region id ops dr =>
  cases dr with
  | false => simp [cC] at hc
  | true =>
   simp only [cC] at hc
   split at hc
   case isFalse => simp at hc
   rename_i hcond
   simp only [Bool.and_eq_true] at hcond
   obtain ⟨⟨⟨hap, hback⟩, hsel⟩, hhoist⟩ := hcond
   simp only [Option.map_eq_some_iff] at hc
   obtain ⟨l', hcis, hmk⟩ := hc
   obtain ⟨rfl, rfl, hb0⟩ := mkQ_quietR hmk
   obtain ⟨hhead, hkle⟩ := headOf_spec ops (hoists ops) ops.size (Nat.le_refl _)
   change headB ops ((hoists ops).filter (· < quietAt ops)) (quietAt ops) = true at hhead
   change quietAt ops <= ops.size at hkle
   generalize hk : quietAt ops = k at *
   generalize hH : (hoists ops).filter (· < k) = Hs at *
   have hHk : ∀ i ∈ Hs, i < k := fun i hi => by rw [<- hH] at hi; simpa using (List.mem_filter.1 hi).2
   have hsplit : List.range ops.size = List.range' 0 k ++ List.range' k (ops.size - k) := by
    rw [List.range_eq_range']
    have := List.range'_append (s := 0) (m := k) (n := ops.size - k) (step := 1)
    simp only [Nat.one_mul, Nat.zero_add] at this
    rw [this]
    congr 1
    omega
   rw [hsplit] at hcis
   obtain ⟨hc1, hc2⟩ := cIs_append hcis
   simp only [List.length_range'] at hc1 hc2
   have hlen : (l'.take k).length = k := by simpa using cIs_length hc1
   obtain ⟨hql, hqi, hqp⟩ := hq.lt
   simp only [Nat.zero_add, Nat.sub_zero, hlen] at hqi
   rw [hlen] at hql
   generalize hce : mkCh hs0 ks = ch at *
   have hcm : ∀ x : Nat × PI × TT, x ∈ hs0 ↔ ∃ kd, (x.1, x.2.1, x.2.2, kd) ∈ ch := by
    intro x
    rw [<- hce]
    unfold mkCh
    simp only [List.mem_filterMap, Option.map_eq_some_iff]
    simp only [okKs, Bool.and_eq_true, List.all_eq_true, List.mem_range, List.any_eq_true, decide_eq_true_eq] at hks
    constructor
    ·intro hx
     obtain ⟨j, hj⟩ := List.getElem?_of_mem hx
     have hjl := (List.getElem?_eq_some_iff.1 hj).1
     obtain ⟨p, hp1, hp2⟩ := hks.1 j (by omega)
     have := Nat.eq_of_beq_eq_true hp2
     exact ⟨p.2, p, hp1, x, by rw [this]; exact hj, rfl⟩
    rintro ⟨kd, p, hp1, y, hy, he⟩
    have e1 := congrArg (fun z : CE => (z.1, z.2.1, z.2.2.1)) he
    have : y = x := e1
    rw [<- this]
    exact List.mem_of_getElem? hy
   have hcnd : (ch.map (·.1)).Nodup := by
    rw [<- hce]
    simp only [okKs, Bool.and_eq_true, decide_eq_true_eq] at hks
    have hk2 := hks.2
    clear hks hce hmap hch
    induction ks with
    | nil => simp [mkCh]
    | cons p ks ih =>
     rw [List.map_cons, List.nodup_cons] at hk2
     have ih' := ih hk2.2
     unfold mkCh at ih' ⊢
     rw [List.filterMap_cons]
     cases hp : hs0[p.1]? with
     | none => simpa [hp] using ih'
     | some x =>
      simp only [Option.map_some, List.map_cons, List.nodup_cons]
      refine ⟨fun hm => ?_, ih'⟩
      obtain ⟨y, hy, hye⟩ := List.mem_map.1 hm
      obtain ⟨q, hq1, hq2⟩ := List.mem_filterMap.1 hy
      obtain ⟨z, hz, rfl⟩ := Option.map_eq_some_iff.1 hq2
      have hze : z.1 = x.1 := hye
      obtain ⟨h1, e1⟩ := List.getElem?_eq_some_iff.1 hp
      obtain ⟨h2, e2⟩ := List.getElem?_eq_some_iff.1 hz
      have hpq : q.1 = p.1 := by
       rcases Nat.lt_trichotomy q.1 p.1 with h | h | h
       ·have := List.pairwise_iff_getElem.1 hqp q.1 p.1 (by simpa using h2) (by simpa using h1) h
        simp only [List.getElem_map, e1, e2] at this; omega
       ·exact h
       have := List.pairwise_iff_getElem.1 hqp p.1 q.1 (by simpa using h1) (by simpa using h2) h
       simp only [List.getElem_map, e1, e2] at this; omega
      exact hk2.1 (List.mem_map.2 ⟨q, hq1, hpq⟩)
   have hci : ∀ (j : Nat) (x : CE), ch[j]? = some x -> (x.1, x.2.1, x.2.2.1) ∈ hs0 := fun j x hx => (hcm _).2 ⟨x.2.2.2, List.mem_of_getElem? hx⟩
   have hcat : ∀ x ∈ hs0, ∃ (j : Nat) (kd : HK), ch[j]? = some (x.1, x.2.1, x.2.2, kd) := fun x hx => by
    obtain ⟨kd, hm⟩ := (hcm x).1 hx
    obtain ⟨j, hj⟩ := List.getElem?_of_mem hm
    exact ⟨j, kd, hj⟩
   have hcix : ∀ (j : Nat) (x : CE), ch[j]? = some x -> ch.findIdx? (fun y => y.1 == x.1) = some j := by
    intro j x hx
    rw [List.findIdx?_eq_some_iff_getElem]
    obtain ⟨hj, he⟩ := List.getElem?_eq_some_iff.1 hx
    refine ⟨hj, by simp [he], fun i hi => ?_⟩
    have hne : (ch.map (·.1))[i]'(by simp; omega) ≠ (ch.map (·.1))[j]'(by simpa using hj) := fun e => by
     have := (List.getElem_inj hcnd).1 e
     omega
    simp only [List.getElem_map, he] at hne
    simpa using hne
   let vs : (Nat -> Value) -> Nat -> Value := fun us i => vsC ch vals us i
   have hvq : ∀ us j, (∀ x ∈ hs0, x.1 ≠ j) -> vs us j = vals.getD j undef := fun us j h => by
    show vsC ch vals us j = _
    unfold vsC
    have : ch.findIdx? (fun x => x.1 == j) = none := by
     rw [List.findIdx?_eq_none_iff]
     intro x hx
     have := h _ ((hcm (x.1, x.2.1, x.2.2.1)).2 ⟨x.2.2.2, hx⟩)
     simpa using this
    rw [this]
   have hvh : ∀ (us : Nat -> Value) (j : Nat) (x : CE), ch[j]? = some x -> vs us x.1 = us j := fun us j x h => by
    show vsC ch vals us x.1 = _
    unfold vsC
    rw [hcix j x h]
   have htr := fun us => hq.trace (vs us) (fun j hj hx => by rw [Nat.zero_add] at hx ⊢; exact hvq us j hx) a (by rw [hlen]; exact hc1) hs
   simp only [hlen, Nat.zero_add, Nat.sub_zero] at htr
   have hgives : ∀ us S', Over base S' -> ∀ i, i < k -> (∀ x ∈ hs0, x.1 ≠ i) -> GivesAt P w0 S' ops i (vs us i) (runA ops (vs us) 0 i a) := by
    intro us S' hS' i hi hne
    rw [hvq us i hne]
    exact (htr us).2.1 i hi hne S' hS'
   have hdst : ∀ i o, i < k -> ops[i]? = some o -> dstOk n o.dst = true := fun i o hi ho => (htr fun _ => undef).2.2.2.1 i o hi ho
   have hslot : ∀ (us : Nat -> Value) (x : Nat × PI × TT), x ∈ hs0 -> ∀ d, x.2.1.d = some d -> ∀ m, x.1 < m -> m <= k -> (runA ops (vs us) 0 m a).tmps[d]? = some (vs us x.1) := by
    intro us x hx d hd m h1 h2
    obtain ⟨_, hxk, hxl⟩ := hqi x hx
    have hda : dstAt ops x.1 = some d := by rw [<- (htr us).2.2.2.2 x.1 hxk x.2.1 hxl, hd]
    have hdn : d < a.tmps.size := by
     rw [hs.size]
     have hxs : x.1 < ops.size := by omega
     have := hdst x.1 ops[x.1] hxk (by simp [hxs])
     have e : ops[x.1].dst = some d := by simpa [dstAt, hxs] using hda
     rw [e] at this
     simpa [dstOk] using this
    refine runA_slot hda hdn (fun j hj hne => ?_) m h1 h2
    have hjl : j < (l'.take k).length := by rw [hlen]; exact hj
    have e : (l'.take k)[j]? = some (l'.take k)[j] := List.getElem?_eq_getElem hjl
    rw [<- (htr us).2.2.2.2 j hj _ e]
    exact distB_spec hdi hx hd hjl hne e
   have hholes : ∀ (i : Nat), (∃ (j : Nat) (x : CE), ch[j]? = some x /\ x.1 = i) ∨ ∀ x ∈ hs0, x.1 ≠ i := by
    intro i
    by_cases h : ∃ x ∈ hs0, x.1 = i
    ·obtain ⟨x, hx, rfl⟩ := h
     obtain ⟨j, kd, hj⟩ := hcat x hx
     exact .inl ⟨j, _, hj, rfl⟩
    exact .inr fun x hx e => h ⟨x, hx, e⟩
   have hck : ∀ (j : Nat) (x : CE), ch[j]? = some x -> x.1 < k := fun j x hx => (hqi _ (hci j x hx)).2.1
   have hordc : ∀ (i j : Nat) (x y : CE), i < j -> ch[i]? = some x -> ch[j]? = some y -> y.2.2.2 ≠ .free -> x.1 < y.1 /\ (x.2.2.2 ≠ .dep -> behind (reach ops) y.1 x.1 = true) := by
    intro i j x y hij hx hy hyf
    have h1 := ordQ_spec hord i j (x.1, x.2.2.2) (y.1, y.2.2.2) hij (by rw [<- hmap]; simp [hx]) (by rw [<- hmap]; simp [hy]) hyf
    refine ⟨h1.1, fun hd => ?_⟩
    have h2 := h1.2 hd
    have hyk := hck j y hy
    rw [hb0, List.getD_eq_getElem?_getD, List.getElem?_take_of_lt hyk, <- List.getD_eq_getElem?_getD] at h2
    exact h2
   have hsatL : ∀ us c Tl, (∀ d v, look Tl d = some v -> ∃ (j : Nat) (x : CE), j < c /\ ch[j]? = some x /\ x.2.1.d = some d /\ v = us j) -> ∀ T0 m, m <= k -> (∀ (j : Nat) (x : CE), j < c -> ch[j]? = some x -> x.1 < m) -> Sat n T0 (runA ops (vs us) 0 m a) -> Sat n (Tl ++ T0) (runA ops (vs us) 0 m a) := by
    intro us c Tl htl T0 m hmk hpos h0
    refine ⟨h0.size, h0.defers, fun i v hv => ?_⟩
    rw [look_app] at hv
    cases e : look Tl i with
    | none => rw [e] at hv; exact h0.get i v hv
    | some v' =>
     rw [e] at hv
     obtain rfl := Option.some.inj hv
     obtain ⟨j, x, hj, hx, hd, rfl⟩ := htl i _ e
     rw [<- hvh us j x hx]
     exact hslot us _ (hci j x hx) i hd m (hpos j x hj hx) hmk
   have hdepg : ∀ {j : Nat} (x : CE), ch[j]? = some x -> x.2.2.2 = .dep -> x.2.1.g = none := by
    intro j x hx hk
    have := List.all_eq_true.1 hkb x (List.mem_of_getElem? hx)
    rw [hk] at this
    simpa using this
   have hfree : ∀ {j : Nat} (x : CE), ch[j]? = some x -> x.2.2.2 = .free -> ∃ E z, x.2.1.o = .al E z /\ x.2.1.g = none := by
    intro j x hx hk
    have := List.all_eq_true.1 hkb x (List.mem_of_getElem? hx)
    rw [hk] at this
    simp only [Bool.and_eq_true, Option.isNone_iff_eq_none] at this
    obtain ⟨h1, h2⟩ := this
    cases ho : x.2.1.o <;> rw [ho] at h2 <;> (first | cases h2 | skip)
    exact ⟨_, _, rfl, h1⟩
   -- ordered pairs
   have hpair : ∀ i j, i < j -> j < ops.size -> ∀ oi oj, ops[i]? = some oi -> ops[j]? = some oj -> behind (reach ops) j i = true ∨ oi.apart ops oj = true := by
    intro i j hij hj oi oj hoi hoj
    have := List.all_eq_true.1 (List.all_eq_true.1 hap j (List.mem_range.2 hj)) i (List.mem_range.2 hij)
    simpa [hoi, hoj] using this
   have htail : ∀ t i, k <= t -> t < ops.size -> i < t -> i ∉ Hs -> behind (reach ops) t i = true := by
    intro t i hkt ht hi hnH
    have := List.all_eq_true.1 hhead t (List.mem_range.2 ht)
    simp only [Bool.or_eq_true, decide_eq_true_eq] at this
    rcases this with h | h
    ·omega
    have := List.all_eq_true.1 h i (List.mem_range.2 hi)
    simpa [hnH] using this
   have hreadyX : ∀ (listed : Array Bool) i, (∀ j o, ops[j]? = some o -> listed.getD j true = true -> ∀ e ∈ o.after, Region.binds .any e = true -> listed.getD e.on true = true) -> i ∈ Region.ready .any ops listed ->
     ∀ j, j < ops.size -> behind (reach ops) i j = true -> j ≠ i -> listed.getD j true = true := by
    intro listed i hcl hi j hj hb hne
    obtain ⟨hun, o, ho, hall⟩ := mem_ready.1 hi
    have hX : Closed ops (fun x => listed.getD x true = true ∨ x = i) := by
     rintro x ox hox (hx | rfl) e he hbd
     ·exact .inl (hcl x ox hox hx e he hbd)
     obtain rfl : o = ox := by rw [ho] at hox; exact Option.some.inj hox
     have := hall e he hbd
     left
     cases hlt : listed[e.on]? with
     | none => simp [hlt] at this
     | some b => simpa [hlt] using this
    rcases behind_spec hX (Array.getElem?_eq_some_iff.1 ho).1 hb (.inr rfl) with h | h
    ·exact h
    exact absurd h hne
   have horder : ∀ (listed : Array Bool) i o, (∀ j o, ops[j]? = some o -> listed.getD j true = true -> ∀ e ∈ o.after, Region.binds .any e = true -> listed.getD e.on true = true) -> i ∈ Region.ready .any ops listed -> ops[i]? = some o -> i < k ->
     ∀ x, (x ∈ o.looksAt ops ∨ o.dst = some x) -> ∀ j, j < k -> j ≠ i -> dstAt ops j = some x -> decide (j < i) = listed.getD j true := by
    intro listed i o hcl hi ho hik x hx j hj hne hdj
    obtain ⟨hun, o', ho', hpre⟩ := mem_ready.1 hi
    have hilt : i < ops.size := (Array.getElem?_eq_some_iff.1 ho).1
    have hjlt : j < ops.size := by omega
    have hoj : ops[j]? = some ops[j] := by simp [hjlt]
    have hdj' : ops[j].dst = some x := by simpa [dstAt, hoj] using hdj
    rcases Nat.lt_or_gt_of_ne hne with h | h
    ·rcases hpair j i h hilt _ _ hoj ho with hb' | hap'
     ·rw [hreadyX listed i hcl hi j hjlt hb' hne]
      simp [h]
     obtain ⟨e1, e2, e3⟩ := Oper.apart_spec hap'
     rcases hx with hx | hx
     ·exact absurd hx (e1 x hdj')
     exact absurd hx (e2 x hdj')
    rcases hpair i j h hjlt _ _ ho hoj with hb' | hap'
    ·have hnl : listed.getD j true = false := by
      cases hlj : listed.getD j true with
      | false => rfl
      | true =>
       exfalso
       have hX : Closed ops (fun x => listed.getD x true = true) := fun x ox hox hx e he hbd => hcl x ox hox hx e he hbd
       have := behind_spec hX hjlt hb' hlj
       rw [hun] at this
       cases this
     rw [hnl]
     simp; omega
    obtain ⟨e1, e2, e3⟩ := Oper.apart_spec hap'
    rcases hx with hx | hx
    ·exact absurd hx (e3 x hdj')
    exact absurd hdj' (e2 x hx)
   have hgetset : ∀ (listed : Array Bool) i, listed.size = ops.size -> i < ops.size -> (listed.setIfInBounds i true).getD i true = true := by
    intro listed i h1 h2
    have : i < listed.size := by omega
    simp [this]
   have hput : ∀ u (listed : Array Bool) i o, listed.size = ops.size -> (∀ j o, ops[j]? = some o -> listed.getD j true = true -> ∀ e ∈ o.after, Region.binds .any e = true -> listed.getD e.on true = true) -> i ∈ Region.ready .any ops listed -> ops[i]? = some o -> i < k ->
     (foldF ops (vs u) (fun j => listed.getD j true) k a).put o.dst (vs u i) = foldF ops (vs u) (fun j => (listed.setIfInBounds i true).getD j true) k a := by
    intro u listed i o hsz hcl hi ho hik
    have hilt : i < ops.size := (Array.getElem?_eq_some_iff.1 ho).1
    have hdo : dstOk n o.dst = true := hdst i o hik ho
    have hda : dstAt ops i = o.dst := by simp [dstAt, ho]
    have hgi := hgetset listed i hsz hilt
    have hgj : ∀ j, j ≠ i -> (listed.setIfInBounds i true).getD j true = listed.getD j true := fun j hj => getD_set_ne true (Ne.symm hj)
    have szs : ∀ f, (foldF ops (vs u) f k a).tmps.size = a.tmps.size := fun f => (foldF_size ops (vs u) f k a).1
    have dfs : ∀ f, (foldF ops (vs u) f k a).defers = a.defers := fun f => (foldF_size ops (vs u) f k a).2
    refine act_ext ?_ ?_ fun x => ?_
    ·cases o.dst <;> simp [Act.put, szs]
    ·cases o.dst <;> simp [Act.put, dfs]
    by_cases hx : o.dst = some x
    ·have e1 : (foldF ops (vs u) (fun j => (listed.setIfInBounds i true).getD j true) k a).tmps[x]? = (foldF ops (vs u) (fun j => decide (j < i + 1)) k a).tmps[x]? := by
      refine foldF_agree ops (vs u) _ _ k a x fun j hj hdj => ?_
      by_cases e : j = i
      ·subst e; rw [hgi]; simp
      rw [hgj j e, <- horder listed i o hcl hi ho hik x (.inr hx) j hj e hdj]
      by_cases h : j < i
      ·have : j < i + 1 := by omega
       simp [h, this]
      have : ¬ j < i + 1 := by omega
      simp [h, this]
     rw [e1, foldF_runA ops (vs u) (i + 1) k a (by omega)]
     have e2 : runA ops (vs u) 0 (i + 1) a = (runA ops (vs u) 0 i a).put (dstAt ops i) (vs u i) := by
      simp [runA, List.range'_concat]
     rw [e2, hda, hx]
     simp only [Act.put]
     have hxn : x < a.tmps.size := by rw [hs.size]; simpa [dstOk, hx] using hdo
     have hsz1 : (runA ops (vs u) 0 i a).tmps.size = a.tmps.size := by rw [<- foldF_runA ops (vs u) i k a (by omega)]; exact szs _
     rw [Array.getElem?_setIfInBounds_self_of_lt (by rw [szs]; exact hxn), Array.getElem?_setIfInBounds_self_of_lt (by rw [hsz1]; exact hxn)]
    have e1 : (foldF ops (vs u) (fun j => (listed.setIfInBounds i true).getD j true) k a).tmps[x]? = (foldF ops (vs u) (fun j => listed.getD j true) k a).tmps[x]? := by
     refine foldF_agree ops (vs u) _ _ k a x fun j hj hdj => ?_
     by_cases e : j = i
     ·subst e; rw [hda] at hdj; exact absurd hdj hx
     exact hgj j e
    rw [e1]
    cases hd : o.dst with
    | none => rfl
    | some y =>
     have : y ≠ x := fun e => hx (by rw [hd, e])
     simp [Act.put, Array.getElem?_setIfInBounds_ne this]
   have hagree : ∀ u (listed : Array Bool) i o, (∀ j o, ops[j]? = some o -> listed.getD j true = true -> ∀ e ∈ o.after, Region.binds .any e = true -> listed.getD e.on true = true) -> i ∈ Region.ready .any ops listed -> ops[i]? = some o -> i < k ->
     ∀ x, x ∈ o.looksAt ops -> (runA ops (vs u) 0 i a).tmps[x]? = (foldF ops (vs u) (fun j => listed.getD j true) k a).tmps[x]? := by
    intro u listed i o hcl hi ho hik x hx
    rw [<- foldF_runA ops (vs u) i k a (by omega)]
    refine foldF_agree ops (vs u) _ _ k a x fun j hj hdj => ?_
    by_cases e : j = i
    ·subst e
     have hun := (mem_ready.1 hi).1
     rw [hun]; simp
    exact horder listed i o hcl hi ho hik x (.inl hx) j hj e hdj
   have hclset : ∀ (listed : Array Bool) i o, listed.size = ops.size -> (∀ j o, ops[j]? = some o -> listed.getD j true = true -> ∀ e ∈ o.after, Region.binds .any e = true -> listed.getD e.on true = true) -> i ∈ Region.ready .any ops listed -> ops[i]? = some o ->
     (∀ j o, ops[j]? = some o -> (listed.setIfInBounds i true).getD j true = true -> ∀ e ∈ o.after, Region.binds .any e = true -> (listed.setIfInBounds i true).getD e.on true = true) := by
    intro listed i o hsz hcl hi ho j oj hoj hj e he hbd
    have hilt : i < ops.size := (Array.getElem?_eq_some_iff.1 ho).1
    obtain ⟨hun, o', ho', hpre⟩ := mem_ready.1 hi
    obtain rfl : o = o' := by rw [ho] at ho'; exact Option.some.inj ho'
    have hgj : ∀ j, j ≠ i -> (listed.setIfInBounds i true).getD j true = listed.getD j true := fun j hj => getD_set_ne true (Ne.symm hj)
    by_cases e1 : e.on = i
    ·rw [e1]; exact hgetset listed i hsz hilt
    rw [hgj _ e1]
    by_cases e2 : j = i
    ·subst e2
     obtain rfl : o = oj := by rw [ho] at hoj; exact Option.some.inj hoj
     have := hpre e he hbd
     cases hlt : listed[e.on]? with
     | none => simp [hlt] at this
     | some bb => simpa [hlt] using this
    rw [hgj _ e2] at hj
    exact hcl j oj hoj hj e he hbd
   have hcntset : ∀ (listed : Array Bool) i, listed.size = ops.size -> i ∈ Region.ready .any ops listed -> i < ops.size -> cnt (fun j => listed.getD j true) ops.size = cnt (fun j => (listed.setIfInBounds i true).getD j true) ops.size + 1 := by
    intro listed i hsz hi hilt
    have := cnt_set (f := fun j => listed.getD j true) (g := fun j => (listed.setIfInBounds i true).getD j true) (i := i) (mem_ready.1 hi).1 (hgetset listed i hsz hilt) (fun j hj => getD_set_ne true (Ne.symm hj)) ops.size
    simpa [hilt] using this
   refine wp_mono (Q := fun e a' w' => e = .normal /\ ∃ T' S', Sat n T' a' /\ Rep w0 S' w' /\ Q e T' S') ?_ (fun e a' w' h => h.2)
   refine wp_region_any hm ?_
   have key : ∀ (fuel : Nat) (listed : Array Bool) (b : Act) (w' : World), listed.size = ops.size ->
     (∀ j o, ops[j]? = some o -> listed.getD j true = true -> ∀ e ∈ o.after, Region.binds .any e = true -> listed.getD e.on true = true) -> (∀ i ∈ Hs, listed.getD i true = true) ->
     (∀ t, k <= t -> t < ops.size -> listed.getD t true = false) -> (∃ u Sx Tl c js, PhG P w0 n base (fun Tl S' => OL P w0 n (l'.drop k) (Tl ++ T2) S' (Q .normal)) ch (fun j => listed.getD j true) u Sx Tl c js /\ Cur ch c js /\ b = foldF ops (vs u) (fun j => listed.getD j true) k a /\ Rep w0 (js.map (fseg ch u) ++ Sx) w') -> cnt (fun j => listed.getD j true) ops.size = fuel ->
     wpAny P .any ops (fun e a' w' => e = .normal /\ ∃ T' S', Sat n T' a' /\ Rep w0 S' w' /\ Q e T' S') fuel listed b w' := by
    intro fuel
    induction fuel with
    | zero =>
     intro listed b w' hsz hcl hHl htl ⟨u, Sx, Tl, c, js, hph, hcur, hb, hr'⟩ hcnt
     have hall : ∀ j, j < ops.size -> listed.getD j true = true := by
      intro j hj
      cases hx : listed.getD j true with
      | true => rfl
      | false =>
       exfalso
       have : ∀ m, j < m -> 0 < cnt (fun j => listed.getD j true) m := by
        intro m
        induction m with
        | zero => intro h; omega
        | succ m ih =>
         intro h
         simp only [cnt]
         by_cases e : j = m
         ·subst e; simp [hx]
         have := ih (by omega); omega
       have := this ops.size hj
       omega
     have hcl2 : c = ch.length := by
      have := hph.le
      rcases Nat.lt_or_ge c ch.length with h | h
      ·have he : ch[c]? = some ch[c] := List.getElem?_eq_getElem h
       have hl1 := hall ch[c].1 (by have := hck c _ he; omega)
       rcases hcur _ he with h1 | ⟨h1, h2⟩
       ·have := (hph.loud c _ he h1).1 hl1
        omega
       rcases (hph.free c _ he h1).1 hl1 with h3 | h3
       ·omega
       exact absurd h3 h2
      omega
     have hjs0 : js = [] := by
      cases hj : js with
      | nil => rfl
      | cons j0 r0 =>
       exfalso
       have hm : j0 ∈ js := by rw [hj]; simp
       have h1 := hph.jge j0 hm
       obtain ⟨y, _, h2, _⟩ := hph.jfr j0 hm
       have := (List.getElem?_eq_some_iff.1 h2).1
       omega
     rw [hjs0] at hr'
     have hr' : Rep w0 Sx w' := hr'
     have hfin : OL P w0 n (l'.drop k) (Tl ++ T2) Sx (Q .normal) := by
      have := hph.lc
      rw [hcl2, List.drop_length] at this
      exact this
     have hsat' : Sat n (Tl ++ T2) (runA ops (vs u) 0 k a) := hsatL u c Tl hph.tl T2 k (Nat.le_refl _) (fun j x _ hx => hck j x hx) (htr u).1
     have hkeq : k = ops.size := by
      rcases Nat.lt_or_ge k ops.size with h | h
      ·have h1 := htl k (Nat.le_refl _) h
       have h2 := hall k h
       rw [h1] at h2
       cases h2
      omega
     have hbt : b = runA ops (vs u) 0 k a := by
      rw [hb, <- foldF_runA ops (vs u) k k a (Nat.le_refl _)]
      unfold foldF
      refine foldl_ext' _ _ _ _ fun b j hj => ?_
      have hj' := List.mem_range.1 hj
      simp [hall j (by omega), hj']
     refine ⟨?_, ?_⟩
     ·unfold Region.ready
      rw [List.filter_eq_nil_iff]
      intro i hi
      rw [hall i (List.mem_range.1 hi)]
      simp
     have := hfin ops [] b w' (fun e a' w' => e = .normal /\ ∃ T' S', Sat n T' a' /\ Rep w0 S' w' /\ Q e T' S') (by
      rw [hkeq, Nat.sub_self] at hc2
      rw [hkeq]
      simpa using hc2) (hbt ▸ hsat') hr' (fun a' w' T' S' h3 h4 h5 => ⟨rfl, T', S', h3, h4, h5⟩)
     simpa [wpOps] using this
    | succ fuel ih =>
     intro listed b w' hsz hcl hHl htl ⟨u, Sx, Tl, c, js, hph, hcur, hb, hr'⟩ hcnt
     by_cases hall : ∀ j, j < k -> listed.getD j true = true
     ·-- the head is done
      have hcl2 : c = ch.length := by
       have := hph.le
       rcases Nat.lt_or_ge c ch.length with h | h
       ·have he : ch[c]? = some ch[c] := List.getElem?_eq_getElem h
        have hl1 := hall ch[c].1 (hck c _ he)
        rcases hcur _ he with h1 | ⟨h1, h2⟩
        ·have := (hph.loud c _ he h1).1 hl1
         omega
        rcases (hph.free c _ he h1).1 hl1 with h3 | h3
        ·omega
        exact absurd h3 h2
       omega
      have hjs0 : js = [] := by
       cases hj : js with
       | nil => rfl
       | cons j0 r0 =>
        exfalso
        have hm : j0 ∈ js := by rw [hj]; simp
        have h1 := hph.jge j0 hm
        obtain ⟨y, _, h2, _⟩ := hph.jfr j0 hm
        have := (List.getElem?_eq_some_iff.1 h2).1
        omega
      rw [hjs0] at hr'
      have hr' : Rep w0 Sx w' := hr'
      have hfin : OL P w0 n (l'.drop k) (Tl ++ T2) Sx (Q .normal) := by
       have := hph.lc
       rw [hcl2, List.drop_length] at this
       exact this
      have hsat' : Sat n (Tl ++ T2) (runA ops (vs u) 0 k a) := hsatL u c Tl hph.tl T2 k (Nat.le_refl _) (fun j x _ hx => hck j x hx) (htr u).1
      have hexact : ∀ j, j < ops.size -> listed.getD j true = decide (j < k) := by
       intro j hj
       by_cases h : j < k
       ·rw [hall j h]; simp [h]
       rw [htl j (by omega) hj]; simp [h]
      have hbt : b = runA ops (vs u) 0 k a := by
       rw [hb, <- foldF_runA ops (vs u) k k a (Nat.le_refl _)]
       unfold foldF
       refine foldl_ext' _ _ _ _ fun b j hj => ?_
       have hj' := List.mem_range.1 hj
       simp [hall j hj', hj']
      have hfuel : fuel + 1 = ops.size - k := by
       rw [<- hcnt, cnt_congr ops.size hexact, cnt_below]
      rw [hfuel]
      have htl2 : ∀ listed' : Array Bool, ∀ t s', k <= s' -> s' < t -> t < ops.size -> (∀ j, j < ops.size -> listed'.getD j true = decide (j < s')) -> listed'.size = ops.size -> t ∉ Region.ready .any ops listed' := by
       intro l'' t s' h1 h2 h3 h4 h5 hmem
       have := hreadyX l'' t (fun j o ho hj e he hbd => by
        have hlt := backB_spec hback ho he hbd
        have hjs : j < ops.size := (Array.getElem?_eq_some_iff.1 ho).1
        rw [h4 j hjs] at hj
        rw [h4 e.on (by omega)]
        simp only [decide_eq_true_eq] at hj ⊢
        omega) hmem s' (by omega) (htail t s' (by omega) h3 h2 (fun hm' => by have := hHk s' hm'; omega)) (by omega)
       rw [h4 s' (by omega)] at this
       simp at this
      refine wpAny_tail hback (ops.size - k) k listed b w' (by omega) hsz hexact (fun t i h1 h2 h3 h4 h5 => htl2 listed t k (Nat.le_refl _) h1 h2 hexact hsz) htl2 ?_
      exact hfin ops _ b w' _ hc2 (hbt ▸ hsat') hr' (fun a' w' T' S' h3 h4 h5 => ⟨rfl, T', S', h3, h4, h5⟩)
     refine ⟨fun h0 => ?_, fun i hi => ?_⟩
     ·exfalso
      obtain ⟨i, hi1, hi2, hi3⟩ := cnt_pos ops.size (by rw [hcnt]; omega : 0 < cnt (fun j => listed.getD j true) ops.size)
      have : i ∈ Region.ready .any ops listed := by
       rw [mem_ready]
       refine ⟨hi2, ops[i], by simp [hi1], fun e he hbd => ?_⟩
       have hlt := backB_spec hback (show ops[i]? = some ops[i] by simp [hi1]) he hbd
       have h3 := hi3 e.on hlt
       have : e.on < listed.size := by omega
       simpa [this] using h3
      rw [h0] at this
      simp at this
     have hmem := mem_ready.1 hi
     obtain ⟨hun, o, ho, hpre⟩ := hmem
     have hilt : i < ops.size := (Array.getElem?_eq_some_iff.1 ho).1
     have hik : i < k := by
      rcases Nat.lt_or_ge i k with h | h
      ·exact h
      exfalso
      refine hall fun j hj => ?_
      by_cases hjH : j ∈ Hs
      ·exact hHl j hjH
      exact hreadyX listed i hcl hi j (by omega) (htail i j h hilt (by omega) hjH) (by omega)
     have hdo : dstOk n o.dst = true := hdst i o hik ho
     have hagree' := hagree u listed i o hcl hi ho hik
     rw [<- hb] at hagree'
     have hev : execOp (runA ops (vs u) 0 i a).eval o = execOp b.eval o :=
      execOp_congr o (fun cs bb hh => Region.noSelect_spec hsel i o cs bb ho hh) fun x hx => eval_agree fun t ht => hagree' t (looks_op (ht ▸ hx))
     have hwan := wanted_agree (ops := ops) (o := o) (a := runA ops (vs u) 0 i a) (b := b) hagree'
     have hgj : ∀ j, j ≠ i -> (listed.setIfInBounds i true).getD j true = listed.getD j true := fun j hj => getD_set_ne true (Ne.symm hj)
     have hnext : ∀ u2 S2 Tl2 c2 js2 w'' b2, PhG P w0 n base (fun Tl S' => OL P w0 n (l'.drop k) (Tl ++ T2) S' (Q .normal)) ch (fun j => (listed.setIfInBounds i true).getD j true) u2 S2 Tl2 c2 js2 -> b2 = foldF ops (vs u2) (fun j => (listed.setIfInBounds i true).getD j true) k a -> Rep w0 (js2.map (fseg ch u2) ++ S2) w'' -> wpAny P .any ops (fun e a' w' => e = .normal /\ ∃ T' S', Sat n T' a' /\ Rep w0 S' w' /\ Q e T' S') fuel (listed.setIfInBounds i true) b2 w'' := by
      intro u2 S2 Tl2 c2 js2 w'' b2 hp2 hb2 hr''
      obtain ⟨u3, S3, Tl3, c3, js3, hp3, hcur3, hr3, hag3⟩ := PhG.advance (ch.length - c2) (Nat.le_refl _) hp2 hr''
      refine ih _ _ w'' (by simpa using hsz) (hclset listed i o hsz hcl hi ho) ?_ ?_ ⟨u3, S3, Tl3, c3, js3, hp3, hcur3, ?_, hr3⟩ ?_
      ·intro j hj
       by_cases e : j = i
       ·subst e; exact hgetset listed j hsz hilt
       rw [hgj j e]; exact hHl j hj
      ·intro t h3 h4'
       rw [hgj t (by omega)]
       exact htl t h3 h4'
      ·rw [hb2]
       unfold foldF
       refine foldl_ext' _ _ _ _ fun b j hj => ?_
       by_cases hjl : (listed.setIfInBounds i true).getD j true = true
       ·have : vs u2 j = vs u3 j := by
         rcases hholes j with ⟨jy, y, hjy, rfl⟩ | hq0
         ·rw [hvh _ jy y hjy, hvh _ jy y hjy]
          exact (hag3 jy y hjy hjl).symm
         rw [hvq _ _ hq0, hvq _ _ hq0]
        rw [this]
       simp [hjl]
      have := hcntset listed i hsz hi hilt
      omega
     have hsz1 : (runA ops (vs u) 0 i a).tmps.size = n := by rw [<- foldF_runA ops (vs u) i k a (by omega), (foldF_size ops (vs u) _ k a).1, hs.size]
     have hsz2 : b.tmps.size = n := by rw [hb, (foldF_size ops (vs u) _ k a).1, hs.size]
     have hdf : (runA ops (vs u) 0 i a).defers = [] := by rw [<- foldF_runA ops (vs u) i k a (by omega), (foldF_size ops (vs u) _ k a).2, hs.defers]
     have hputu := fun u2 => hput u2 listed i o hsz hcl hi ho hik
     unfold wpOp
     simp only [ho]
     rcases hholes i with ⟨jx, x, hjx, hxi⟩ | hip
     ·subst hxi
      have hxm := hci jx x hjx
      have hxk := hck jx x hjx
      have hwait : x.2.2.2 ≠ .free -> jx <= c := by
       intro hnf
       rcases Nat.lt_or_ge c jx with h | h
       ·exfalso
        have hclt : c < ch.length := Nat.lt_trans h (List.getElem?_eq_some_iff.1 hjx).1
        have hcx : ch[c]? = some ch[c] := List.getElem?_eq_getElem hclt
        have hc3 := hcur _ hcx
        have hnd : ch[c].2.2.2 ≠ .dep := by rcases hc3 with h1 | ⟨h1, _⟩ <;> rw [h1] <;> simp
        have h1 := hordc c jx _ x h hcx hjx hnf
        have h2 := hreadyX listed x.1 hcl hi ch[c].1 (by have := hck c _ hcx; omega) (h1.2 hnd) (by have := h1.1; omega)
        rcases hc3 with h3 | ⟨h3, h4⟩
        ·have := (hph.loud c _ hcx h3).1 h2
         omega
        rcases (hph.free c _ hcx h3).1 h2 with h5 | h5
        ·omega
        exact h4 h5
       exact h
      obtain ⟨oc, hoc, hpoc, hdstc, hgdc⟩ := cIs_pos hc1 hxk (hqi _ hxm).2.2
      obtain rfl : oc = o := by rw [hoc] at ho; exact Option.some.inj ho
      have hwt0 : x.2.1.g = none -> Region.wanted oc (yielded ops b.tmps) = true := by
       intro hcg
       rcases hgdc with ⟨hgn, _⟩ | ⟨j, b', s', hgn, hj, he⟩
       ·simp [Region.wanted, hgn]
       rw [hcg] at he; cases he
      have hT := (htr u).2.2.1 _ hxm
      cases hkd : x.2.2.2 with
      | loud =>
       have hjc : jx = c := by
        have h1 := hwait (by rw [hkd]; simp)
        rcases Nat.lt_or_ge jx c with h | h
        ·have this : listed.getD x.1 true = true := (hph.loud jx x hjx hkd).2 h
         rw [hun] at this
         cases this
        omega
       subst hjc
       have hLC := hph.lc
       rw [drop_at hjx] at hLC
       obtain ⟨xi, xc, xT, xk⟩ := x
       simp only at hkd
       subst hkd
       obtain ⟨hcg, hOW⟩ := hLC
       rw [if_pos (hwt0 hcg)]
       left
       have hsC := hsatL u jx Tl hph.tl xT xi (by simp only at hxk; omega) (fun j y hj hy => (hordc j jx y _ hj hy hjx (by simp)).1) hT
       have hl2 := hOW (js.map (fseg ch u)) oc _ w' (fun _ _ _ => False) hpoc hsC hr'
       refine Oper.wp_mono ?_ (wp_transfer_any hev (by rw [hsz1, hsz2]) (by rw [hsz1]; exact hdo) hdf hl2)
       rintro b' w'' ⟨v2, S2, rfl, hr2, S1, hperm, hss2, hk2⟩
       let us' : Nat -> Value := fun j => if j = jx then v2 else u j
       have hag : ∀ j, j ≠ jx -> us' j = u j := fun j hj => by simp only [us']; rw [if_neg hj]
       have hjs : ∀ j ∈ js, us' j = u j := fun j hj => hag j fun e => by
        obtain ⟨y, rr, h1, h2, _⟩ := hph.jfr j hj
        rw [e, hjx] at h1; obtain rfl := Option.some.inj h1; cases h2
       have hjC : jx ∉ js := fun hj => by
        obtain ⟨y, rr, h1, h2, _⟩ := hph.jfr jx hj
        rw [hjx] at h1; obtain rfl := Option.some.inj h1; cases h2
       let x : CE := (xi, xc, xT, .loud)
       have hjx : ch[jx]? = some x := hjx
       have hlst : ∀ (j : Nat) (y : CE), ch[j]? = some y -> j ≠ jx -> (listed.setIfInBounds x.1 true).getD y.1 true = listed.getD y.1 true := by
        intro j y hy hne
        refine hgj _ fun e => hne ?_
        have h1 := hcix j y hy
        rw [e, hcix jx x hjx] at h1
        exact (Option.some.inj h1).symm
       refine hnext us' S1 (put xc.d v2 Tl) (jx + 1) js w'' _ ⟨(List.getElem?_eq_some_iff.1 hjx).1, ?_, ?_, ?_, ?_, hph.jnd, ?_, hk2, hss2, ?_, ?_⟩ ?_ (by rw [fseg_congr hjs]; exact hr2.permS hperm.symm)
       ·intro j y hy hk
        by_cases e : j = jx
        ·subst e
         obtain rfl : x = y := by rw [hjx] at hy; exact Option.some.inj hy
         simp [x, hgetset listed _ hsz hilt]
        show (listed.setIfInBounds x.1 true).getD y.1 true = true ↔ _
        rw [hlst j y hy e]
        have := hph.loud j y hy hk
        exact this.trans (by omega)
       ·intro j y hy hk
        have e : j ≠ jx := by rintro rfl; rw [hjx] at hy; obtain rfl := Option.some.inj hy; cases hk
        show (listed.setIfInBounds x.1 true).getD y.1 true = true ↔ _
        rw [hlst j y hy e]
        have := hph.free j y hy hk
        refine this.trans ⟨fun h => h.imp (fun h => by omega) (fun h => h), fun h => h.imp (fun h => by omega) (fun h => h)⟩
       ·intro j y hy hk hl
        have e : j ≠ jx := by rintro rfl; rw [hjx] at hy; obtain rfl := Option.some.inj hy; cases hk
        have hl : (listed.setIfInBounds x.1 true).getD y.1 true = true := hl
        rw [hlst j y hy e] at hl
        have := hph.dep j y hy hk hl
        omega
       ·intro j hj
        have h1 := hph.jge j hj
        have : j ≠ jx := fun e => hjC (e ▸ hj)
        omega
       ·intro j hj
        obtain ⟨y, rr, h1, h2, h3⟩ := hph.jfr j hj
        exact ⟨y, rr, h1, h2, by rw [hjs j hj]; exact h3⟩
       ·have := put_tl (us' := us') hjx (fun j hj => hag j (by omega)) hph.tl
        rw [show us' jx = v2 by simp [us']] at this
        exact this
       ·intro j y hj hy hk
        have e : j ≠ jx := by rintro rfl; rw [hjx] at hy; obtain rfl := Option.some.inj hy; cases hk
        exact deps_mono (fun j hj => hag j (by omega)) hph.deps j y (by omega) hy hk
       have h7 := hputu us'
       have h8 : vs us' x.1 = v2 := by rw [hvh _ jx x hjx]; simp [us']
       rw [h8] at h7
       rw [<- h7, hb]
       congr 1
       unfold foldF
       refine foldl_ext' _ _ _ _ fun b j hj => ?_
       by_cases hjl : listed.getD j true = true
       ·have : vs u j = vs us' j := by
         rcases hholes j with ⟨jy, y, hjy, rfl⟩ | hq0
         ·rw [hvh _ jy y hjy, hvh _ jy y hjy]
          simp only [us']
          rw [if_neg]
          rintro rfl
          rw [hjx] at hjy
          obtain rfl := Option.some.inj hjy
          rw [hun] at hjl
          cases hjl
         rw [hvq _ _ hq0, hvq _ _ hq0]
        rw [this]
       simp [hjl]
      | dep =>
       have hjc : jx < c := by
        have h1 := hwait (by rw [hkd]; simp)
        rcases Nat.lt_or_ge jx c with h | h
        ·exact h
        obtain rfl : jx = c := by omega
        rcases hcur x hjx with h3 | ⟨h3, _⟩ <;> rw [hkd] at h3 <;> cases h3
       obtain ⟨Tl', htl', hval⟩ := hph.deps jx x hjc hjx hkd
       have hcg : x.2.1.g = none := hdepg _ hjx hkd
       rw [if_pos (hwt0 hcg)]
       left
       have hsC := hsatL u jx Tl' htl' x.2.2.1 x.1 (by omega) (fun j y hj hy => (hordc j jx y x hj hy hjx (by rw [hkd]; simp)).1) hT
       have hl2 := (OW.of_yields (P := P) (w0 := w0) (n := n) (S := js.map (fseg ch u) ++ Sx) (Yields.pure hval)) oc _ w' (fun _ _ _ => False) hpoc hsC hr'
       refine Oper.wp_mono ?_ (wp_transfer_any hev (by rw [hsz1, hsz2]) (by rw [hsz1]; exact hdo) hdf hl2)
       rintro b' w'' ⟨v2, S2, rfl, hr2, rfl, rfl⟩
       have hlst : ∀ (j : Nat) (y : CE), ch[j]? = some y -> j ≠ jx -> (listed.setIfInBounds x.1 true).getD y.1 true = listed.getD y.1 true := by
        intro j y hy hne
        refine hgj _ fun e => hne ?_
        have h1 := hcix j y hy
        rw [e, hcix jx x hjx] at h1
        exact (Option.some.inj h1).symm
       refine hnext u Sx Tl c js w'' _ ⟨hph.le, ?_, ?_, ?_, hph.jge, hph.jnd, hph.jfr, hph.lc, hph.ss, hph.tl, hph.deps⟩ ?_ hr2
       ·intro j y hy hk
        have e : j ≠ jx := by rintro rfl; rw [hjx] at hy; obtain rfl := Option.some.inj hy; rw [hkd] at hk; cases hk
        show (listed.setIfInBounds x.1 true).getD y.1 true = true ↔ _
        rw [hlst j y hy e]
        exact hph.loud j y hy hk
       ·intro j y hy hk
        have e : j ≠ jx := by rintro rfl; rw [hjx] at hy; obtain rfl := Option.some.inj hy; rw [hkd] at hk; cases hk
        show (listed.setIfInBounds x.1 true).getD y.1 true = true ↔ _
        rw [hlst j y hy e]
        exact hph.free j y hy hk
       ·intro j y hy hk hl
        by_cases e : j = jx
        ·rw [e]; exact hjc
        have hl : (listed.setIfInBounds x.1 true).getD y.1 true = true := hl
        rw [hlst j y hy e] at hl
        exact hph.dep j y hy hk hl
       have h7 := hputu u
       rw [hvh _ jx x hjx] at h7
       rw [hb]; exact h7
      | free =>
       have hcj : c <= jx /\ jx ∉ js := by
        have h1 := hph.free jx x hjx hkd
        simp only [hun, Bool.false_eq_true, false_iff, not_or] at h1
        exact ⟨by omega, h1.2⟩
       obtain ⟨E, z, ho2, hcg⟩ : ∃ E z, x.2.1.o = .al E z /\ x.2.1.g = none := hfree _ hjx hkd
       rw [if_pos (hwt0 hcg)]
       left
       rw [ho2] at hpoc
       have hl2 := (OW.al (P := P) (w0 := w0) (n := n) (T := x.2.2.1) (S := js.map (fseg ch u) ++ Sx) (E := E) (zero := z)) oc _ w' (fun _ _ _ => False) hpoc hT hr'
       refine Oper.wp_mono ?_ (wp_transfer_any hev (by rw [hsz1, hsz2]) (by rw [hsz1]; exact hdo) hdf hl2)
       rintro b' w'' ⟨v2, S2, rfl, hr2, rr, rfl, rfl⟩
       let us' : Nat -> Value := fun j => if j = jx then .pointer (some ⟨rr, 0, none⟩) else u j
       have hag : ∀ j, j ≠ jx -> us' j = u j := fun j hj => by simp only [us']; rw [if_neg hj]
       have hjs : ∀ j ∈ js, us' j = u j := fun j hj => hag j fun e => hcj.2 (e ▸ hj)
       have hujx : us' jx = .pointer (some ⟨rr, 0, none⟩) := by simp [us']
       have hlst : ∀ (j : Nat) (y : CE), ch[j]? = some y -> j ≠ jx -> (listed.setIfInBounds x.1 true).getD y.1 true = listed.getD y.1 true := by
        intro j y hy hne
        refine hgj _ fun e => hne ?_
        have h1 := hcix j y hy
        rw [e, hcix jx x hjx] at h1
        exact (Option.some.inj h1).symm
       have hfo : (foldF ops (vs u) (fun j => listed.getD j true) k a).put oc.dst (.pointer (some ⟨rr, 0, none⟩)) = foldF ops (vs us') (fun j => (listed.setIfInBounds x.1 true).getD j true) k a := by
        have h7 := hputu us'
        rw [hvh _ jx x hjx, hujx] at h7
        rw [<- h7]
        congr 1
        unfold foldF
        refine foldl_ext' _ _ _ _ fun b j hj => ?_
        by_cases hjl : listed.getD j true = true
        ·have : vs u j = vs us' j := by
          rcases hholes j with ⟨jy, y, hjy, rfl⟩ | hq0
          ·rw [hvh _ jy y hjy, hvh _ jy y hjy]
           refine (hag jy ?_).symm
           rintro rfl
           rw [hjx] at hjy
           obtain rfl := Option.some.inj hjy
           rw [hun] at hjl
           cases hjl
          rw [hvq _ _ hq0, hvq _ _ hq0]
         rw [this]
        simp [hjl]
       have hL : ∀ (cc : Nat), cc <= jx -> ∀ j y, ch[j]? = some y -> y.2.2.2 = .loud -> ((listed.setIfInBounds x.1 true).getD y.1 true = true ↔ j < c) := by
        intro cc _ j y hy hk
        have e : j ≠ jx := by rintro rfl; rw [hjx] at hy; obtain rfl := Option.some.inj hy; rw [hkd] at hk; cases hk
        rw [hlst j y hy e]
        exact hph.loud j y hy hk
       have hD : ∀ j y, ch[j]? = some y -> y.2.2.2 = .dep -> (listed.setIfInBounds x.1 true).getD y.1 true = true -> j < c := by
        intro j y hy hk hl
        have e : j ≠ jx := by rintro rfl; rw [hjx] at hy; obtain rfl := Option.some.inj hy; rw [hkd] at hk; cases hk
        rw [hlst j y hy e] at hl
        exact hph.dep j y hy hk hl
       by_cases hjc : jx = c
       ·subst hjc
        have hLC := hph.lc
        rw [drop_at hjx] at hLC
        have hrest : LCF P w0 n base (fun Tl S' => OL P w0 n (l'.drop k) (Tl ++ T2) S' (Q .normal)) (ch.drop (jx + 1)) (put x.2.1.d (.pointer (some ⟨rr, 0, none⟩)) Tl) ([(rr, .cells z E z.length)] :: Sx) := by
         obtain ⟨xi, xc, xT, xk⟩ := x
         simp only at hkd
         subst hkd
         obtain ⟨_, E', z', ho3, hr3⟩ := hLC
         simp only at ho2
         rw [ho2] at ho3
         cases ho3
         exact hr3 rr
        refine hnext us' ([(rr, .cells z E z.length)] :: Sx) (put x.2.1.d (.pointer (some ⟨rr, 0, none⟩)) Tl) (jx + 1) js w'' _ ⟨(List.getElem?_eq_some_iff.1 hjx).1, ?_, ?_, fun j y hy hk hl => by have := hD j y hy hk hl; omega, ?_, hph.jnd, ?_, hrest, hph.ss.cons, ?_, ?_⟩ (by rw [hb]; exact hfo) ?_
        ·intro j y hy hk
         refine (hL jx (Nat.le_refl _) j y hy hk).trans ⟨fun h => by omega, fun h => ?_⟩
         rcases Nat.lt_or_ge j jx with h3 | h3
         ·exact h3
         obtain rfl : j = jx := by omega
         rw [hjx] at hy; obtain rfl := Option.some.inj hy; rw [hkd] at hk; cases hk
        ·intro j y hy hk
         by_cases e : j = jx
         ·subst e
          obtain rfl : x = y := by rw [hjx] at hy; exact Option.some.inj hy
          simp [hgetset listed _ hsz hilt]
         show (listed.setIfInBounds x.1 true).getD y.1 true = true ↔ _
         rw [hlst j y hy e]
         have := hph.free j y hy hk
         exact this.trans ⟨fun h => h.imp (fun h => by omega) (fun h => h), fun h => h.imp (fun h => by omega) (fun h => h)⟩
        ·intro j hj
         have h1 := hph.jge j hj
         have : j ≠ jx := fun e => hcj.2 (e ▸ hj)
         omega
        ·intro j hj
         obtain ⟨y, r3, h1, h2, h3⟩ := hph.jfr j hj
         exact ⟨y, r3, h1, h2, by rw [hjs j hj]; exact h3⟩
        ·have := put_tl (us' := us') hjx (fun j hj => hag j (by omega)) hph.tl
         rw [hujx] at this
         exact this
        ·intro j y hj hy hk
         have e : j ≠ jx := by rintro rfl; rw [hjx] at hy; obtain rfl := Option.some.inj hy; rw [hkd] at hk; cases hk
         exact deps_mono (fun j hj => hag j (by omega)) hph.deps j y (by omega) hy hk
        rw [fseg_congr hjs]
        exact hr2.permS (List.perm_middle (a := [(rr, AO.cells z E z.length)]) (l₁ := js.map (fseg ch u)) (l₂ := Sx)).symm
       have hjc2 : c < jx := by omega
       refine hnext us' Sx Tl c (jx :: js) w'' _ ⟨hph.le, hL c hcj.1, ?_, hD, ?_, List.nodup_cons.2 ⟨hcj.2, hph.jnd⟩, ?_, hph.lc, hph.ss, ?_, ?_⟩ (by rw [hb]; exact hfo) ?_
       ·intro j y hy hk
        by_cases e : j = jx
        ·subst e
         obtain rfl : x = y := by rw [hjx] at hy; exact Option.some.inj hy
         simp [hgetset listed _ hsz hilt]
        show (listed.setIfInBounds x.1 true).getD y.1 true = true ↔ _
        rw [hlst j y hy e]
        have := hph.free j y hy hk
        exact this.trans ⟨fun h => h.imp (fun h => h) (fun h => List.mem_cons_of_mem _ h), fun h => h.imp (fun h => h) (fun h => (List.mem_cons.1 h).resolve_left e)⟩
       ·intro j hj
        rcases List.mem_cons.1 hj with rfl | hj
        ·exact hcj.1
        exact hph.jge j hj
       ·intro j hj
        rcases List.mem_cons.1 hj with rfl | hj
        ·exact ⟨x, rr, hjx, hkd, hujx⟩
        obtain ⟨y, r3, h1, h2, h3⟩ := hph.jfr j hj
        exact ⟨y, r3, h1, h2, by rw [hjs j hj]; exact h3⟩
       ·intro d v hv
        obtain ⟨j, y, g1, g2, g3, g4⟩ := hph.tl d v hv
        exact ⟨j, y, g1, g2, g3, by rw [hag j (by omega)]; exact g4⟩
       ·exact deps_mono (fun j hj => hag j (by omega)) hph.deps
       rw [List.map_cons, fseg_congr hjs]
       have : fseg ch us' jx = [(rr, .cells z E z.length)] := by unfold fseg; rw [hjx, hujx]; simp [ho2]
       rw [this]
       exact hr2
     have hph2 : PhG P w0 n base (fun Tl S' => OL P w0 n (l'.drop k) (Tl ++ T2) S' (Q .normal)) ch (fun j => (listed.setIfInBounds i true).getD j true) u Sx Tl c js := by
      have hne : ∀ (j : Nat) (y : CE), ch[j]? = some y -> (listed.setIfInBounds i true).getD y.1 true = listed.getD y.1 true := fun j y hy => hgj y.1 (hip _ (hci j y hy))
      refine ⟨hph.le, ?_, ?_, ?_, hph.jge, hph.jnd, hph.jfr, hph.lc, hph.ss, hph.tl, hph.deps⟩
      ·intro j y hy hk
       show (listed.setIfInBounds i true).getD y.1 true = true ↔ _
       rw [hne j y hy]; exact hph.loud j y hy hk
      ·intro j y hy hk
       show (listed.setIfInBounds i true).getD y.1 true = true ↔ _
       rw [hne j y hy]; exact hph.free j y hy hk
      intro j y hy hk hl
      have hl : (listed.setIfInBounds i true).getD y.1 true = true := hl
      rw [hne j y hy] at hl; exact hph.dep j y hy hk hl
     have hover : Over base (js.map (fseg ch u) ++ Sx) := fun q hq => by
      rw [List.flatten_append, List.mem_append]; exact .inr (hph.ss q hq)
     rcases hgives u _ hover i hik hip o ho with ⟨hw1, hw2⟩ | ⟨hw1, hw2⟩
     ·rw [hwan] at hw1
      rw [if_pos hw1]
      left
      refine Oper.wp_mono ?_ (wp_transfer hev (by rw [hsz1, hsz2]) (by rw [hsz1]; exact hdo) hdf (hw2 w' hr'))
      rintro b' w'' ⟨rfl, hr''⟩
      exact hnext u Sx Tl c js w'' _ hph2 (by rw [hb]; exact hputu u) hr''
     rw [hwan] at hw1
     rw [hw1]
     simp only [Bool.false_eq_true, if_false]
     have h9 := hputu u
     rw [hw2] at h9
     exact hnext u Sx Tl c js w' _ hph2 (by rw [hb]; exact h9) hr'
   -- the moves first
   let us0 : Nat -> Value := fun _ => undef
   have hstart : ∀ (listed : Array Bool) (b : Act) (w' : World), (∀ x ∈ hs0, listed.getD x.1 true = false) -> b = foldF ops (vs us0) (fun j => listed.getD j true) k a -> Rep w0 S w' ->
     ∃ u Sx Tl c js, PhG P w0 n base (fun Tl S' => OL P w0 n (l'.drop k) (Tl ++ T2) S' (Q .normal)) ch (fun j => listed.getD j true) u Sx Tl c js /\ Cur ch c js /\ b = foldF ops (vs u) (fun j => listed.getD j true) k a /\ Rep w0 (js.map (fseg ch u) ++ Sx) w' := by
    intro listed b w' hnp hb hr'
    have hnl : ∀ (j : Nat) (x : CE), ch[j]? = some x -> listed.getD x.1 true = false := fun j x hx => hnp _ (hci j x hx)
    have h0 : PhG P w0 n base (fun Tl S' => OL P w0 n (l'.drop k) (Tl ++ T2) S' (Q .normal)) ch (fun j => listed.getD j true) us0 S [] 0 [] := by
     refine ⟨Nat.zero_le _, fun j x hx _ => by simp [hnl j x hx], fun j x hx _ => by simp [hnl j x hx], fun j x hx _ h => ?_, by simp, List.nodup_nil, by simp, hch, hSs, fun d v h => by simp [look] at h, fun j x h => by omega⟩
     have h : listed.getD x.1 true = true := h
     rw [hnl j x hx] at h; cases h
    obtain ⟨u3, S3, Tl3, c3, js3, hp3, hcur3, hr3, hag3⟩ := PhG.advance ch.length (w := w') (by omega) h0 hr'
    refine ⟨u3, S3, Tl3, c3, js3, hp3, hcur3, ?_, hr3⟩
    rw [hb]
    unfold foldF
    refine foldl_ext' _ _ _ _ fun b j hj => ?_
    by_cases hjl : listed.getD j true = true
    ·have : vs us0 j = vs u3 j := by
      rcases hholes j with ⟨jy, y, hjy, rfl⟩ | hq0
      ·rw [hnl jy y hjy] at hjl; cases hjl
      rw [hvq _ _ hq0, hvq _ _ hq0]
     rw [this]
    simp [hjl]
   have phase0 : ∀ (Hr : List Nat) (listed : Array Bool) (b : Act) (w' : World), hoistB ops Hr listed = true -> (∀ i ∈ Hr, i < k) -> listed.size = ops.size ->
     (∀ j o, ops[j]? = some o -> listed.getD j true = true -> ∀ e ∈ o.after, Region.binds .any e = true -> listed.getD e.on true = true) -> (∀ i ∈ Hs, listed.getD i true = true ∨ i ∈ Hr) ->
     (∀ t, k <= t -> t < ops.size -> listed.getD t true = false) -> (∀ x ∈ hs0, listed.getD x.1 true = false) -> b = foldF ops (vs us0) (fun j => listed.getD j true) k a -> Rep w0 S w' ->
     wpAny P .any ops (fun e a' w' => e = .normal /\ ∃ T' S', Sat n T' a' /\ Rep w0 S' w' /\ Q e T' S') (cnt (fun j => listed.getD j true) ops.size) listed b w' := by
    intro Hr
    induction Hr with
    | nil =>
     intro listed b w' _ _ hsz hcl hHl htl hnp hb hr'
     exact key _ listed b w' hsz hcl (fun i hi => (hHl i hi).resolve_right (by simp)) htl (hstart listed b w' hnp hb hr') rfl
    | cons i Hr ih =>
     intro listed b w' hh hlt hsz hcl hHl htl hnp hb hr'
     simp only [hoistB, Bool.and_eq_true] at hh
     obtain ⟨⟨⟨hho, hfree⟩, hready⟩, hrest⟩ := hh
     have hi : i ∈ Region.ready .any ops listed := by simpa using hready
     obtain ⟨hun, o, ho, hpre⟩ := mem_ready.1 hi
     have hilt : i < ops.size := (Array.getElem?_eq_some_iff.1 ho).1
     have hik : i < k := hlt i (by simp)
     have hgj : ∀ j, j ≠ i -> (listed.setIfInBounds i true).getD j true = listed.getD j true := fun j hj => getD_set_ne true (Ne.symm hj)
     rw [hcntset listed i hsz hi hilt]
     simp only [hoistable?, ho, hoistable, Bool.and_eq_true] at hho
     obtain ⟨hgn, hmv⟩ := hho
     have hgn' : o.guard = none := by simpa using hgn
     have hwant : ∀ t : Array Value, Region.wanted o (yielded ops t) = true := fun t => by simp [Region.wanted, hgn']
     have hagree' := hagree us0 listed i o hcl hi ho hik
     rw [<- hb] at hagree'
     have hdo : dstOk n o.dst = true := hdst i o hik ho
     have hsz1 : (runA ops (vs us0) 0 i a).tmps.size = n := by rw [<- foldF_runA ops (vs us0) i k a (by omega), (foldF_size ops (vs us0) _ k a).1, hs.size]
     have hmove : ∃ x, (o.op = .move x ∨ o.op = .assign x) := by
      cases hop : o.op <;> rw [hop] at hmv <;> simp at hmv
      ·exact ⟨_, .inl rfl⟩
      exact ⟨_, .inr rfl⟩
     obtain ⟨x, hx⟩ := hmove
     have hip : ∀ x ∈ hs0, x.1 ≠ i := by
      intro y hy e; subst e
      obtain ⟨_, hyk, hyl⟩ := hqi y hy
      obtain ⟨oc, hoc, hpoc, hdstc, hgdc⟩ := cIs_pos hc1 hyk hyl
      obtain rfl : oc = o := by rw [hoc] at ho; exact Option.some.inj ho
      have : y.2.1.o = .mov (cV x) := by
       have h5 : cOp P oc = some (.mov (cV x)) := by unfold cOp cOp0; rcases hx with hx | hx <;> simp [hx]
       rw [h5] at hpoc
       exact (Option.some.inj hpoc).symm
      obtain ⟨jy, kd, hjy⟩ := hcat y hy
      unfold noMovC at hno
      simp only [Bool.and_eq_true] at hno
      have h6 := List.all_eq_true.1 hno.2 _ (List.mem_of_getElem? hjy)
      simp only [this, decide_eq_true_eq] at h6
      cases hc0 : ch with
      | nil => rw [hc0] at hjy; simp at hjy
      | cons c0 r0 =>
       have h7 := hno.1
       rw [hc0] at h7
       simp only [decide_eq_true_eq] at h7
       have h00 : ch[0]? = some c0 := by rw [hc0]; rfl
       have hj0 : 0 < jy := by
        rcases Nat.eq_zero_or_pos jy with e | e
        ·subst e
         rw [h00] at hjy
         obtain rfl := Option.some.inj hjy
         exact absurd h6 h7
        exact e
       have h8 := hordc 0 jy c0 _ hj0 h00 hjy (by simp [h6])
       have h9 := hreadyX listed y.1 hcl hi c0.1 (by have := hck 0 c0 h00; omega) (h8.2 h7) (by have := h8.1; simp only at this; omega)
       rw [hnp _ (hci 0 c0 h00)] at h9
       cases h9
     have hexec : ∀ ρ, execOp ρ o = pure (.value (ρ x)) := by
      intro ρ
      rcases hx with hx | hx <;> simp [execOp, hx]
     have hval : b.eval x = vs us0 i ∨ o.dst = none := by
      rcases hgives us0 S hSs i hik hip o ho with ⟨_, hw2⟩ | ⟨hw1, _⟩
      ·have := hw2 w' hr'
       unfold Oper.wp at this
       rw [hexec] at this
       simp only [Sem.run_pure, Oper.upon] at this
       have hev : (runA ops (vs us0) 0 i a).eval x = b.eval x := eval_agree fun t ht => hagree' t (looks_op (by rcases hx with hx | hx <;> simp [hx, Op.operands, ht]))
       cases hd : o.dst with
       | none => exact .inr rfl
       | some d =>
        left
        rw [hd] at this hdo
        have h3 := congrArg (fun c : Act => c.tmps[d]?) this.1
        have hdn : d < n := by simpa [dstOk] using hdo
        simp [Act.put, hsz1, hdn] at h3
        rw [<- hev]; exact h3
      rw [hwant] at hw1; cases hw1
     refine wpAny_take (oi := o) (v := b.eval x) ho hsel hfree hready (fun c a w hq => by simp at hq) (.inl ⟨hwant _, fun w => by rw [hexec]; rfl⟩) ?_
     have hbput : b.put o.dst (b.eval x) = foldF ops (vs us0) (fun j => (listed.setIfInBounds i true).getD j true) k a := by
      rw [<- hput us0 listed i o hsz hcl hi ho hik, <- hb]
      rcases hval with h | h
      ·rw [h]
      rw [h]; rfl
     rw [hbput]
     refine ih _ _ w' hrest (fun j hj => hlt j (by simp [hj])) (by simpa using hsz) (hclset listed i o hsz hcl hi ho) ?_ ?_ (fun x hx => by rw [hgj _ (hip x hx)]; exact hnp x hx) rfl hr'
     ·intro j hj
      by_cases e : j = i
      ·subst e; exact .inl (hgetset listed j hsz hilt)
      rw [hgj j e]
      rcases hHl j hj with h | h
      ·exact .inl h
      rcases List.mem_cons.1 h with h | h
      ·exact absurd h e
      exact .inr h
     intro t h3 h4
     rw [hgj t (by omega)]
     exact htl t h3 h4
   have hcnt0 : cnt (fun j => (Array.replicate ops.size false).getD j true) ops.size = ops.size := by
    rw [cnt_congr (g := fun j => decide (j < 0)) ops.size (fun j hj => by simp [hj]), cnt_below]
    omega
   have := phase0 Hs (Array.replicate ops.size false) a { w with drawn := w.drawn + 1 } hhoist hHk (by simp) ?_ (fun i hi => .inr hi) ?_ (fun x hx => by have := (hqi x hx).2.1; have : x.1 < ops.size := (by omega); simp [this]) ?_ ?_
   ·rwa [hcnt0] at this
   ·intro j o ho hj
    exfalso
    have hlt : j < ops.size := (Array.getElem?_eq_some_iff.1 ho).1
    simp [hlt] at hj
   ·intro t _ ht
    simp [ht]
   ·have : ∀ j, j < k -> (Array.replicate ops.size false).getD j true = decide (j < 0) := by
     intro j hj
     have : j < ops.size := by omega
     simp [this]
    have h0 : foldF ops (vs us0) (fun j => (Array.replicate ops.size false).getD j true) k a = foldF ops (vs us0) (fun j => decide (j < 0)) k a := by
     unfold foldF
     refine foldl_ext' _ _ _ _ fun b j hj => ?_
     simp only [this j (List.mem_range.1 hj)]
    rw [h0, foldF_runA ops (vs us0) 0 k a (Nat.zero_le _)]
    rfl
   exact hr.same ((Below.refl _ w).drew) (fun _ _ => rfl)
 all_goals (first | (simp [cC] at hc; done) | (simp only [cC] at hc; split at hc <;> simp at hc; done))
end
end Go.SL

namespace Go.SL
open Go.RowKit
section
variable {P : Program} {w0 : World} {n : Nat} {T : TT} {S : SS}
theorem PW.quietRFK {b : List Nat} {k m : Nat} {l : List PI} {base : SS} {ks hp : List (Nat × HK)} {Q : Exit -> TT -> SS -> Prop} (hm : P.follows .mixedOrders = true) (hks : okKs m ks = true) (ho : ordQ b hp = true) (hS : Over base S)
  (h : QN P w0 n base 0 (l.take k) T (fun T2 hs => distB (l.take k) hs = true /\ noMovC (mkCh hs ks) = true /\ hs.length = m /\ (mkCh hs ks).map (fun x => (x.1, x.2.2.2)) = hp /\ kindB (mkCh hs ks) = true /\ LCF P w0 n base (fun Tl S' => OL P w0 n (l.drop k) (Tl ++ T2) S' (Q .normal)) (mkCh hs ks) [] S)) : PW P w0 n (.quietR b k l) T S Q :=
 let ⟨_, _, _, h1, h2, h3, h4, h5, h6, h7⟩ := h; PW.quietRF hm h1 h2 h3 h4 hks h5 ho h6 hS h7
theorem OW.frameSt {sz : Nat} {x v : PV} {b o E tot k : Nat} {F : SS} {c : List Value} {u : Value} (hx : x.val T = some (.pointer (some ⟨b, o, none⟩))) (hv : v.val T = some u)
  (hk : S[k]? = some [(b, .cells c E tot)]) (hsz : u.cells.size = sz) (hb : o + sz <= c.length) (h1 : u.cells.toList.all (·.oneCell') = true) :
  OW P w0 n (.st sz x v) T (F ++ S) (fun _ S' => ∃ S1, (F ++ S1).Perm S' /\ S1 = S.set k [(b, .cells (setAt c o u.cells.toList) E tot)]) := by
 refine (OW.st (k := F.length + k) hx hv (by rw [List.getElem?_append_right (by omega)]; simpa using hk) hsz hb h1).mono ?_
 rintro _ S' rfl
 refine ⟨_, ?_, rfl⟩
 rw [List.set_append_right _ _ (by omega)]
 simp
end
end Go.SL

namespace Go.SL
open Go.RowKit
section
variable {P : Program} {w0 : World} {n : Nat} {T : TT} {S : SS}
theorem Rep.loadVar {w : World} {S : SS} {a : Addr} {v : Value} {m : Option Nat} {t : TypeId} (hr : Rep w0 S w) (hm : aggOf P t = some m) (hv : ReadsAs w0 S m a v) : (Go.loadVar t a).run P w = .ok v w := by
 cases m with
 | none =>
  obtain ⟨d, hu, hd⟩ := aggOf_none hm
  have := hr.cell hv
  simp [Go.loadVar, run_isAgg hu, hd, load, Sem.run, this]
 | some m =>
  obtain ⟨cs, rfl, hcl, hcs⟩ := hv
  obtain ⟨d, i, hu, hd, hi, hsz⟩ := aggOf_some hm
  have hload := run_loadCells_list (P := P) w a cs (fun j v hj => hr.cell (hcs j v hj))
  rw [hcl] at hload
  simp [Go.loadVar, run_isAgg hu, hd, sizeOf, typeInfo, program, hi, hsz, hload, Sem.run]
def KnownTCC (P : Program) (k : FuncId) (pc : PC) (n u s1 s2 : Nat) (m1 m2 : Option Nat) : Prop :=
 ∃ fn c t1 t2, P.funcs[k]? = some fn /\ fn.body = some c /\ cC P fn.ntmps c = some pc /\ fn.ntmps = n /\ fn.results = #[.tmp u, .cell s1 t1, .cell s2 t2] /\ aggOf P t1 = some m1 /\ aggOf P t2 = some m2
theorem FC.ofTCC {k : FuncId} {pc : PC} {u s1 s2 : Nat} {m1 m2 : Option Nat} {args : List Value} {post : Value -> SS -> Prop} (hk : KnownTCC P k pc n u s1 s2 m1 m2) (hn : args.length <= n)
  (h : PW P w0 n pc (argT 0 args) S (fun e T' S' => (e = .normal ∨ e = .ret) /\ ∃ x a v b y, look T' u = some x /\ look T' s1 = some (.pointer (some a)) /\ ReadsAs w0 S' m1 a v /\ look T' s2 = some (.pointer (some b)) /\ ReadsAs w0 S' m2 b y /\ ∃ S'', Sub S'' S' /\ post (.tuple #[x, v, y]) S'')) : FC P w0 k args S post := by
 obtain ⟨fn, c, t1, t2, hf, hb, hc, rfl, hres, hm1, hm2⟩ := hk
 intro w hw
 refine calls_of_wp hf hb (wp_mono (h c hc _ w (argT_sat hn) hw) ?_)
 rintro e a' w' ⟨T', S', hs', hr', he, x, a, v, b, y, hx, ha, hv, hb', hy, S'', hsub, hp⟩
 have htx := hs'.get u _ hx
 have hta := hs'.get s1 _ ha
 have htb := hs'.get s2 _ hb'
 have l1 := hr'.loadVar hm1 hv
 have l2 := hr'.loadVar hm2 hy
 have hrun : (results fn a'.tmps).run P w' = .ok (.tuple #[x, v, y]) w' := by
  simp [results, hres, htx, hta, htb, asAddr, l1, l2]
 rcases he with rfl | rfl
 ·exact ⟨hs'.defers, _, hrun, _, S'', rfl, hr'.subS hsub, hp⟩
 exact ⟨hs'.defers, _, hrun, _, S'', rfl, hr'.subS hsub, hp⟩
end
end Go.SL

namespace Go.SL
open Go.RowKit Go.ChangeShapes Go.WideShapes Go.ChangeAt
section
variable {H : Type} {enc : TypeId × Value -> H} {P : Program} {W : World}
theorem trod_slice1 {t e : TypeId} {n : Nat} {cs : List Value} {y : DataW H × List MemPlace} (hu : P.underlying t = some (.slice e)) (h : DataW.trod enc P W 0 (fun _ => true) true n t cs = some y) :
  ∃ A len cap, cs = [.slice A len cap] /\ DataW.Trod enc P W 0 (fun _ => true) true t (.slice A len cap) y.1 y.2 := by
 rcases DataW.trod_slice hu h with ⟨h0, _⟩ | ⟨a, len', cap', elems, rest, n', _, hcs, _⟩
 ·exact ⟨none, 0, 0, h0, n, by rw [show (Value.slice none 0 0).cells.toList = cs from h0.symm]; exact h⟩
 exact ⟨_, _, _, hcs, n, by rw [show (Value.slice (some a) len' cap').cells.toList = cs from hcs.symm]; exact h⟩
end
end Go.SL

abbrev Go.SL.zo (d : Nat) (x : Go.SL.PO) : Go.SL.PI := ⟨some d, none, x⟩
abbrev Go.SL.zm (d a : Nat) : Go.SL.PI := ⟨some d, none, .mov (.t a)⟩
abbrev Go.SL.zg (d g : Nat) (b : Bool) (x : Go.SL.PO) : Go.SL.PI := ⟨some d, some (g, b), x⟩
abbrev Go.SL.zz : Go.Value := .int .u8 0
abbrev Go.SL.yy : Go.SL.CK := .int .u8
namespace Go.Proofs
open Go.SL
set_option maxRecDepth 100000
theorem Try.mixed : Try.prog.follows .mixedOrders = true := by kernel_rfl
def Try.pc14 : PC :=
 (.seq (.ops [zo 0 (.mov (.v (.pointer none)))])
 (.seq (.ops [zo 1 (.mkM), zo 2 (.mkM), zo 3 (.build [.bool false, .map none, .map none, .slice none 0 0] [(0, 1, (.v (.bool true))), (1, 1, (.t 1)), (2, 1, (.t 2))]), zo 4 (.bx 57 (.t 3)), zm 0 4])
 .ret))
theorem Try.known14 : Known Try.prog 14 Try.pc14 5 [0] := ⟨Try.f14, _, Try.func14, rfl, by kernel_rfl, rfl, rfl⟩
def Try.pc16 : PC :=
 (.seq (.ops [zo 2 (.bx 25 (.t 0)), zo 3 (.bx 36 (.t 1)), zo 4 (.mov (.v (.int .i64 0)))])
 (.seq (.block 0 (.seq (.ops [zo 8 (.ld (.t 2)), zo 9 (.call 48 [(.t 8)]), zo 10 (.not (.t 9)), zm 7 10])
 (.cond (.t 7) (.seq (.ops [zo 4 (.mov (.v (.int .i64 1)))])
 .ret) (.seq (.ops [zo 12 (.ld (.t 2)), zo 13 (.ldA 102 (.t 3)), zo 14 (.call 52 [(.t 12), (.t 13)]), zm 11 14])
 (.cond (.t 11) (.seq (.ops [zo 4 (.mov (.v (.int .i64 6)))])
 .ret) (.seq (.ops [zo 16 (.ldA 102 (.t 3)), zo 17 (.call 53 [(.t 16)]), zo 18 (.not (.t 17)), zm 15 18])
 (.cond (.t 15) (.seq (.ops [zo 4 (.mov (.v (.int .i64 4)))])
 .ret) (.seq (.ops [zo 20 (.ld (.t 2)), zo 21 (.fa 34 (.t 3)), zo 22 (.ldA 33 (.t 21)), zo 23 (.call 29 [(.t 20), (.t 22)]), zo 24 (.not (.t 23)), zm 25 24, zg 26 25 false (.ld (.t 2)), zg 27 25 false (.fa 67 (.t 3)), zg 28 25 false (.ldA 33 (.t 27)), zg 29 25 false (.call 29 [(.t 26), (.t 28)]), zg 30 25 false (.not (.t 29)), zo 31 (.pick (.t 25) (.v (.bool true)) (.t 30)), zm 32 31, zg 33 32 false (.fa 101 (.t 3)), zg 34 32 false (.ld (.t 33)), zg 35 32 false (.mkF 55 [(.t 2)]), zg 36 32 false (.call 54 [(.t 34), (.t 35)]), zo 37 (.pick (.t 32) (.v (.bool true)) (.t 36)), zm 19 37])
 (.cond (.t 19) (.seq (.ops [zo 4 (.mov (.v (.int .i64 10)))])
 .ret) (.seq (.ops [zo 39 (.ld (.t 2)), zo 40 (.fa 34 (.t 3)), zo 41 (.ldA 33 (.t 40)), zo 42 (.fa 67 (.t 3)), zo 43 (.ldA 33 (.t 42)), zo 44 (.call 18 [(.t 39), (.t 41), (.t 43)]), zo 45 (.not (.t 44)), zm 38 45])
 (.cond (.t 38) (.seq (.ops [zo 4 (.mov (.v (.int .i64 4)))])
 .ret) .skip)))))))))))
 (.seq (.quietR [0, 1, 3, 0, 8, 31, 31] 7 [zo 46 (.fa 100 (.t 3)), zo 47 (.ld (.t 46)), zo 48 (.call 57 [(.t 47)]), zo 49 (.fa 101 (.t 3)), zo 50 (.ld (.t 49)), zo 51 (.call 51 [(.t 50)]), zo 52 (.fa 100 (.t 3)), ⟨none, none, .st 1 (.t 52) (.t 48)⟩, zo 53 (.fa 101 (.t 3)), ⟨none, none, .st 1 (.t 53) (.t 51)⟩])
 (.seq (.quiet 10 [zo 54 (.ld (.t 2)), zo 55 (.nilc (.t 54)), zo 56 (.fa 1 (.t 55)), zo 57 (.ld (.t 56)), zo 58 (.fa 0 (.t 3)), zo 59 (.ldA 32 (.t 58)), zo 60 (.fa 32 (.t 3)), zo 61 (.ld (.t 60)), zo 62 (.build [zz, zz, zz, zz, zz, zz, zz, zz, zz, zz, zz, zz, zz, zz, zz, zz, zz, zz, zz, zz, zz, zz, zz, zz, zz, zz, zz, zz, zz, zz, zz, zz, .int .i64 0] [(0, 32, (.t 59)), (32, 1, (.t 61))]), zo 63 (.ldA 102 (.t 3)), ⟨none, none, .more (.other (.gen (.mapUpdate 54 (.tmp 57) (.tmp 62) (.tmp 63))))⟩])
 (.seq (.seq (.ops [zo 64 (.fa 100 (.t 3)), zo 65 (.ld (.t 64)), zo 66 (.lenS (.t 65)), zo 67 (.mov (.v (.int .i64 0)))])
 (.block 1 (.loop (.seq (.ops [zo 68 (.bin .lss (.t 67) (.t 66))])
 (.seq (.cond (.t 68) .skip (.exit 1))
 (.seq (.block 2 (.seq (.ops [zm 69 67, zo 70 (.ixS 1 (.t 65) (.t 67)), zo 71 (.ld (.t 70)), zm 5 69, zm 6 71])
 (.quiet 9 [zo 72 (.ld (.t 2)), zo 73 (.nilc (.t 72)), zo 74 (.fa 2 (.t 73)), zo 75 (.ld (.t 74)), zo 76 (.ldA 102 (.t 3)), zm 77 5, zo 78 (.call 58 [(.t 76), (.t 77)]), zm 79 6, zo 80 (.build [.string ⟨#[]⟩, .int .i64 0, .int .i64 0, .slice none 0 0] [(0, 1, (.t 79))]), ⟨none, none, .more (.other (.gen (.mapUpdate 55 (.tmp 75) (.tmp 78) (.tmp 80))))⟩])))
 (.ops [zo 81 (.bin .add (.t 67) (.v (.int .i64 1))), zm 67 81])))))))
 (.seq (.ops [zo 82 (.ld (.t 2)), zo 83 (.ldA 102 (.t 3)), zo 84 (.call 59 [(.t 82), (.t 83), (.v (.bool true))])])
 (.seq (.ops [zo 85 (.ld (.t 2)), zo 86 (.ldA 102 (.t 3)), zo 87 (.call 60 [(.t 85), (.t 86), (.v (.int .i64 1))])])
 (.seq (.ops [zo 4 (.mov (.v (.int .i64 0)))])
 .ret))))))))
theorem Try.known16 : Known Try.prog 16 Try.pc16 88 [4] := ⟨Try.f16, _, Try.func16, rfl, by kernel_rfl, rfl, rfl⟩
def Try.pc17 : PC :=
 (.seq (.ops [zo 2 (.mov (.v (.slice none 0 0)))])
 (.seq (.seq (.ops [zm 11 0, zo 12 (.call 48 [(.t 11)]), zo 13 (.not (.t 12))])
 (.cond (.t 13) (.seq (.ops [zo 2 (.mov (.v (.slice none 0 0)))])
 .ret) .skip))
 (.seq (.ops [zm 14 0, zo 15 (.call 61 [(.t 14)]), zm 3 15])
 (.seq (.ops [zo 16 (.bsl0 32), zo 17 (.bx 110 (.t 16)), zm 4 17])
 (.seq (.seq (.ops [zm 18 0, zo 19 (.nilc (.t 18)), zo 20 (.fa 2 (.t 19)), zo 21 (.ld (.t 20)), zo 22 (.more (.other (.gen (.range 55 (.tmp 21)))))])
 (.block 0 (.loop (.seq (.ops [zo 23 (.more (.other (.gen (.next (.tmp 22) false)))), zo 24 (.ext 0 (.t 23))])
 (.seq (.cond (.t 24) .skip (.exit 0))
 (.block 1 (.seq (.ops [zo 25 (.more (.other (.gen (.entry (.tmp 22))))), zo 26 (.ext 0 (.t 25)), zo 5 (.al 32 [zz, zz, zz, zz, zz, zz, zz, zz, zz, zz, zz, zz, zz, zz, zz, zz, zz, zz, zz, zz, zz, zz, zz, zz, zz, zz, zz, zz, zz, zz, zz, zz, .int .i64 0]), ⟨none, none, .st 33 (.t 5) (.t 26)⟩])
 (.seq (.ops [zm 27 3, zo 28 (.ldA 33 (.t 5)), zo 29 (.more (.other (.gen (.lookup 107 (.tmp 27) (.tmp 28) false)))), zo 30 (.bin .eql (.t 29) (.v (.int .i64 0)))])
 (.cond (.t 30) (.ops [zm 31 4, zo 32 (.more (.mkI 109 (.t 31))), zo 33 (.ldA 33 (.t 5)), zo 34 (.more (.mkI 32 (.t 33))), zo 35 (.call 62 [(.t 32), (.t 34)])]) .skip)))))))))
 (.seq (.block 2 (.loop (.seq (.seq (.ops [zm 36 4, zo 37 (.nilc (.t 36)), zo 38 (.ld (.t 37)), zo 39 (.call 63 [(.t 38)]), zo 40 (.bin .gtr (.t 39) (.v (.int .i64 0)))])
 (.cond (.t 40) .skip (.exit 2)))
 (.block 3 (.seq (.ops [zm 42 4, zo 43 (.more (.mkI 109 (.t 42))), zo 44 (.call 64 [(.t 43)]), zo 45 (.more (.other (.gen (.typeAssert (.tmp 44) 20 32 true)))), zm 41 45, zo 46 (.ext 0 (.t 41)), zo 47 (.ext 1 (.t 41)), zo 6 (.al 32 [zz, zz, zz, zz, zz, zz, zz, zz, zz, zz, zz, zz, zz, zz, zz, zz, zz, zz, zz, zz, zz, zz, zz, zz, zz, zz, zz, zz, zz, zz, zz, zz, .int .i64 0]), ⟨none, none, .st 33 (.t 6) (.t 46)⟩, zm 7 47])
 (.seq (.seq (.ops [zm 48 7, zo 49 (.not (.t 48))])
 (.cond (.t 49) (.exit 3) .skip))
 (.seq (.quiet 7 [zm 50 0, zo 51 (.nilc (.t 50)), zo 52 (.fa 2 (.t 51)), zo 53 (.ld (.t 52)), zo 54 (.ldA 33 (.t 6)), zo 55 (.more (.other (.gen (.lookup 55 (.tmp 53) (.tmp 54) false)))), zo 8 (.al 100 [.string ⟨#[]⟩, .int .i64 0, .int .i64 0, .slice none 0 0]), ⟨none, none, .st 4 (.t 8) (.t 55)⟩])
 (.seq (.ops [zm 56 2, zo 57 (.ldA 33 (.t 6)), zo 58 (.fa 0 (.t 8)), zo 59 (.ld (.t 58)), zo 60 (.fa 1 (.t 8)), zo 61 (.ld (.t 60)), zo 62 (.bin .eql (.t 61) (.v (.int .i64 0))), zo 63 (.build [zz, zz, zz, zz, zz, zz, zz, zz, zz, zz, zz, zz, zz, zz, zz, zz, zz, zz, zz, zz, zz, zz, zz, zz, zz, zz, zz, zz, zz, zz, zz, zz, .int .i64 0, .string ⟨#[]⟩, .bool false] [(0, 33, (.t 57)), (33, 1, (.t 59)), (34, 1, (.t 62))]), zo 64 (.bsl 43 [zz, zz, zz, zz, zz, zz, zz, zz, zz, zz, zz, zz, zz, zz, zz, zz, zz, zz, zz, zz, zz, zz, zz, zz, zz, zz, zz, zz, zz, zz, zz, zz, .int .i64 0, .string ⟨#[]⟩, .bool false] 1 [(0, 35, (.t 63))]), zo 65 (.app 39 43 35 64 (.agg #[zz, zz, zz, zz, zz, zz, zz, zz, zz, zz, zz, zz, zz, zz, zz, zz, zz, zz, zz, zz, zz, zz, zz, zz, zz, zz, zz, zz, zz, zz, zz, zz, .int .i64 0, .string ⟨#[]⟩, .bool false]) (.t 56) (.t 64)), zm 2 65])
 (.seq (.ops [zo 66 (.fa 3 (.t 8)), zo 67 (.ld (.t 66)), zo 68 (.lenS (.t 67)), zo 69 (.mov (.v (.int .i64 0)))])
 (.block 4 (.loop (.seq (.ops [zo 70 (.bin .lss (.t 69) (.t 68))])
 (.seq (.cond (.t 70) .skip (.exit 4))
 (.seq (.block 5 (.seq (.ops [zo 71 (.ixS 33 (.t 67) (.t 69)), zo 72 (.ldA 33 (.t 71)), zo 10 (.al 32 [zz, zz, zz, zz, zz, zz, zz, zz, zz, zz, zz, zz, zz, zz, zz, zz, zz, zz, zz, zz, zz, zz, zz, zz, zz, zz, zz, zz, zz, zz, zz, zz, .int .i64 0]), ⟨none, none, .st 33 (.t 10) (.t 72)⟩])
 (.seq (.quietR [0, 0, 3, 7, 3, 19] 6 [zm 73 3, zo 74 (.ldA 33 (.t 10)), zo 75 (.more (.other (.gen (.lookup 107 (.tmp 73) (.tmp 74) false)))), zo 76 (.bin .sub (.t 75) (.v (.int .i64 1))), zo 77 (.more (.other (.gen (.mapEntry 107 (.tmp 73) (.tmp 74))))), zo 78 (.ext 1 (.t 77)), ⟨none, none, .more (.other (.gen (.entryStore 107 (.tmp 73) (.tmp 78) (.tmp 76))))⟩])
 (.seq (.quiet2 1 6 [zo 79 (.ldA 33 (.t 10)), zo 80 (.call 65 []), zo 81 (.more (.eqD true 32 [yy, yy, yy, yy, yy, yy, yy, yy, yy, yy, yy, yy, yy, yy, yy, yy, yy, yy, yy, yy, yy, yy, yy, yy, yy, yy, yy, yy, yy, yy, yy, yy, .int .i64] (.t 79) (.t 80))), zm 82 81, zg 83 82 true (.mov (.t 3)), zg 84 82 true (.ldA 33 (.t 10)), zg 85 82 true (.more (.other (.gen (.lookup 107 (.tmp 83) (.tmp 84) false)))), zg 86 82 true (.bin .eql (.t 85) (.v (.int .i64 0))), zo 87 (.pick (.t 82) (.t 86) (.v (.bool false)))])
 (.cond (.t 87) (.ops [zm 88 4, zo 89 (.more (.mkI 109 (.t 88))), zo 90 (.ldA 33 (.t 10)), zo 91 (.more (.mkI 32 (.t 90))), zo 92 (.call 62 [(.t 89), (.t 91)])]) .skip)))))
 (.ops [zo 93 (.bin .add (.t 69) (.v (.int .i64 1))), zm 69 93])))))))))))))))
 (.seq (.ops [zm 94 2, zm 2 94])
 .ret)))))))
theorem Try.known17 : Known Try.prog 17 Try.pc17 95 [2] := ⟨Try.f17, _, Try.func17, rfl, by kernel_rfl, rfl, rfl⟩
def Try.pc18 : PC :=
 (.seq (.ops [zo 4 (.bx 32 (.t 1)), zo 5 (.bx 32 (.t 2)), zo 6 (.mov (.v (.bool false)))])
 (.seq (.block 0 (.seq (.quiet2 2 23 [zm 15 0, zo 16 (.ldA 33 (.t 4)), zo 17 (.call 29 [(.t 15), (.t 16)]), zo 18 (.not (.t 17)), zm 19 18, zg 20 19 false (.mov (.t 0)), zg 21 19 false (.ldA 33 (.t 5)), zg 22 19 false (.call 29 [(.t 20), (.t 21)]), zg 23 19 false (.not (.t 22)), zo 24 (.pick (.t 19) (.v (.bool true)) (.t 23)), zm 25 24, zg 26 25 false (.ldA 33 (.t 4)), zg 27 25 false (.ldA 33 (.t 5)), zg 28 25 false (.more (.eqD false 32 [yy, yy, yy, yy, yy, yy, yy, yy, yy, yy, yy, yy, yy, yy, yy, yy, yy, yy, yy, yy, yy, yy, yy, yy, yy, yy, yy, yy, yy, yy, yy, yy, .int .i64] (.t 26) (.t 27))), zo 29 (.pick (.t 25) (.v (.bool true)) (.t 28)), zm 30 29, zg 31 30 false (.ldA 33 (.t 4)), zg 32 30 false (.call 65 []), zg 33 30 false (.more (.eqD false 32 [yy, yy, yy, yy, yy, yy, yy, yy, yy, yy, yy, yy, yy, yy, yy, yy, yy, yy, yy, yy, yy, yy, yy, yy, yy, yy, yy, yy, yy, yy, yy, yy, .int .i64] (.t 31) (.t 32))), zo 34 (.pick (.t 30) (.v (.bool true)) (.t 33)), zm 35 34, zg 36 35 false (.ldA 33 (.t 5)), zg 37 35 false (.call 66 []), zg 38 35 false (.more (.eqD false 32 [yy, yy, yy, yy, yy, yy, yy, yy, yy, yy, yy, yy, yy, yy, yy, yy, yy, yy, yy, yy, yy, yy, yy, yy, yy, yy, yy, yy, yy, yy, yy, yy, .int .i64] (.t 36) (.t 37))), zo 39 (.pick (.t 35) (.v (.bool true)) (.t 38)), zm 14 39])
 (.cond (.t 14) (.seq (.ops [zo 6 (.mov (.v (.bool false)))])
 .ret) (.seq (.quiet2 1 6 [zo 41 (.ldA 33 (.t 4)), zo 42 (.call 66 []), zo 43 (.more (.eqD false 32 [yy, yy, yy, yy, yy, yy, yy, yy, yy, yy, yy, yy, yy, yy, yy, yy, yy, yy, yy, yy, yy, yy, yy, yy, yy, yy, yy, yy, yy, yy, yy, yy, .int .i64] (.t 41) (.t 42))), zm 44 43, zg 45 44 false (.ldA 33 (.t 5)), zg 46 44 false (.call 65 []), zg 47 44 false (.more (.eqD false 32 [yy, yy, yy, yy, yy, yy, yy, yy, yy, yy, yy, yy, yy, yy, yy, yy, yy, yy, yy, yy, yy, yy, yy, yy, yy, yy, yy, yy, yy, yy, yy, yy, .int .i64] (.t 45) (.t 46))), zo 48 (.pick (.t 44) (.v (.bool true)) (.t 47)), zm 40 48])
 (.cond (.t 40) (.seq (.ops [zo 6 (.mov (.v (.bool true)))])
 .ret) .skip)))))
 (.seq (.ops [zo 49 (.mkM), zo 50 (.ldA 33 (.t 4)), zo 51 (.build [] []), ⟨none, none, .more (.other (.gen (.insert 117 (.tmp 49) (.tmp 50) (.tmp 51))))⟩, zm 52 49, zm 7 52])
 (.seq (.ops [zo 53 (.ldA 33 (.t 4)), zo 54 (.bsl 32 [zz, zz, zz, zz, zz, zz, zz, zz, zz, zz, zz, zz, zz, zz, zz, zz, zz, zz, zz, zz, zz, zz, zz, zz, zz, zz, zz, zz, zz, zz, zz, zz, .int .i64 0] 1 [(0, 33, (.t 53))]), zm 8 54])
 (.seq (.block 1 (.loop (.seq (.seq (.ops [zm 55 8, zo 56 (.lenS (.t 55)), zo 57 (.bin .gtr (.t 56) (.v (.int .i64 0)))])
 (.cond (.t 57) .skip (.exit 1)))
 (.block 2 (.seq (.ops [zm 58 8, zm 59 8, zo 60 (.lenS (.t 59)), zo 61 (.bin .sub (.t 60) (.v (.int .i64 1))), zo 62 (.ixS 33 (.t 58) (.t 61)), zo 63 (.ldA 33 (.t 62)), zo 9 (.al 32 [zz, zz, zz, zz, zz, zz, zz, zz, zz, zz, zz, zz, zz, zz, zz, zz, zz, zz, zz, zz, zz, zz, zz, zz, zz, zz, zz, zz, zz, zz, zz, zz, .int .i64 0]), ⟨none, none, .st 33 (.t 9) (.t 63)⟩])
 (.seq (.ops [zm 64 8, zm 65 8, zo 66 (.lenS (.t 65)), zo 67 (.bin .sub (.t 66) (.v (.int .i64 1))), zo 68 (.slS 33 (.t 64) none (some (.t 67))), zm 8 68])
 (.seq (.ops [zm 69 0, zo 70 (.ldA 33 (.t 9)), zo 71 (.call 67 [(.t 69), (.t 70)]), zo 72 (.lenS (.t 71)), zo 73 (.mov (.v (.int .i64 0)))])
 (.block 3 (.loop (.seq (.ops [zo 74 (.bin .lss (.t 73) (.t 72))])
 (.seq (.cond (.t 74) .skip (.exit 3))
 (.seq (.block 4 (.seq (.ops [zo 75 (.ixS 33 (.t 71) (.t 73)), zo 76 (.ldA 33 (.t 75)), zo 11 (.al 32 [zz, zz, zz, zz, zz, zz, zz, zz, zz, zz, zz, zz, zz, zz, zz, zz, zz, zz, zz, zz, zz, zz, zz, zz, zz, zz, zz, zz, zz, zz, zz, zz, .int .i64 0]), ⟨none, none, .st 33 (.t 11) (.t 76)⟩])
 (.seq (.seq (.ops [zo 77 (.ldA 33 (.t 11)), zo 78 (.ldA 33 (.t 5)), zo 79 (.more (.eqD false 32 [yy, yy, yy, yy, yy, yy, yy, yy, yy, yy, yy, yy, yy, yy, yy, yy, yy, yy, yy, yy, yy, yy, yy, yy, yy, yy, yy, yy, yy, yy, yy, yy, .int .i64] (.t 77) (.t 78)))])
 (.cond (.t 79) (.seq (.ops [zo 6 (.mov (.v (.bool true)))])
 .ret) .skip))
 (.seq (.ops [zm 81 7, zo 82 (.ldA 33 (.t 11)), zo 83 (.more (.other (.gen (.lookup 117 (.tmp 81) (.tmp 82) true)))), zm 80 83, zo 84 (.ext 0 (.t 80)), zo 85 (.ext 1 (.t 80)), zo 12 (.al 116 []), ⟨none, none, .st 0 (.t 12) (.t 84)⟩, zm 13 85])
 (.seq (.ops [zm 86 13, zo 87 (.not (.t 86))])
 (.cond (.t 87) (.seq (.ops [zm 88 7, zo 89 (.ldA 33 (.t 11)), zo 90 (.build [] []), ⟨none, none, .more (.other (.gen (.mapUpdate 117 (.tmp 88) (.tmp 89) (.tmp 90))))⟩])
 (.ops [zm 91 8, zo 92 (.ldA 33 (.t 11)), zo 93 (.bsl 32 [zz, zz, zz, zz, zz, zz, zz, zz, zz, zz, zz, zz, zz, zz, zz, zz, zz, zz, zz, zz, zz, zz, zz, zz, zz, zz, zz, zz, zz, zz, zz, zz, .int .i64 0] 1 [(0, 33, (.t 92))]), zo 94 (.app 34 32 33 40 (.agg #[zz, zz, zz, zz, zz, zz, zz, zz, zz, zz, zz, zz, zz, zz, zz, zz, zz, zz, zz, zz, zz, zz, zz, zz, zz, zz, zz, zz, zz, zz, zz, zz, .int .i64 0]) (.t 91) (.t 93)), zm 8 94])) .skip))))))
 (.ops [zo 95 (.bin .add (.t 73) (.v (.int .i64 1))), zm 73 95])))))))))))))
 (.seq (.ops [zo 6 (.mov (.v (.bool false)))])
 .ret))))))
theorem Try.known18 : Known Try.prog 18 Try.pc18 96 [6] := ⟨Try.f18, _, Try.func18, rfl, by kernel_rfl, rfl, rfl⟩
def Try.pc29 : PC :=
 (.seq (.ops [zo 3 (.bx 32 (.t 1)), zo 4 (.mov (.v (.bool false)))])
 (.seq (.quiet2 1 14 [zm 5 0, zo 6 (.call 48 [(.t 5)]), zm 7 6, zg 8 7 true (.ldA 33 (.t 3)), zg 9 7 true (.call 66 []), zg 10 7 true (.more (.eqD false 32 [yy, yy, yy, yy, yy, yy, yy, yy, yy, yy, yy, yy, yy, yy, yy, yy, yy, yy, yy, yy, yy, yy, yy, yy, yy, yy, yy, yy, yy, yy, yy, yy, .int .i64] (.t 8) (.t 9))), zg 11 7 true (.mov (.t 10)), zg 12 11 false (.ldA 33 (.t 3)), zg 13 11 false (.call 65 []), zg 14 11 false (.more (.eqD false 32 [yy, yy, yy, yy, yy, yy, yy, yy, yy, yy, yy, yy, yy, yy, yy, yy, yy, yy, yy, yy, yy, yy, yy, yy, yy, yy, yy, yy, yy, yy, yy, yy, .int .i64] (.t 12) (.t 13))), zg 15 7 true (.pick (.t 11) (.v (.bool true)) (.t 14)), zg 16 7 true (.mov (.t 15)), zg 17 16 false (.mov (.t 0)), zg 18 16 false (.ldA 33 (.t 3)), zg 19 16 false (.call 56 [(.t 17), (.t 18)]), zg 20 7 true (.pick (.t 16) (.v (.bool true)) (.t 19)), zo 21 (.pick (.t 7) (.t 20) (.v (.bool false))), zm 4 21])
 .ret))
theorem Try.known29 : Known Try.prog 29 Try.pc29 22 [4] := ⟨Try.f29, _, Try.func29, rfl, by kernel_rfl, rfl, rfl⟩
def Try.pc48 : PC :=
 (.seq (.ops [zo 2 (.mov (.v (.bool false)))])
 (.seq (.ops [zm 3 0, zo 4 (.eqP true (.t 3) (.v (.pointer none))), zm 5 4, zg 6 5 true (.mov (.t 0)), zg 7 5 true (.nilc (.t 6)), zg 8 5 true (.fa 0 (.t 7)), zg 9 5 true (.ld (.t 8)), zo 10 (.pick (.t 5) (.t 9) (.v (.bool false))), zm 2 10])
 .ret))
theorem Try.known48 : Known Try.prog 48 Try.pc48 11 [2] := ⟨Try.f48, _, Try.func48, rfl, by kernel_rfl, rfl, rfl⟩
def Try.pc51 : PC :=
 (.seq (.ops [zo 2 (.mov (.v (.slice none 0 0)))])
 (.seq (.seq (.ops [zm 3 0, zo 4 (.more (.slNil false (.t 3)))])
 (.cond (.t 4) (.seq (.ops [zo 2 (.mov (.v (.slice none 0 0)))])
 .ret) .skip))
 (.seq (.ops [zo 5 (.bsl0 32), zm 6 0, zo 7 (.app 34 32 33 40 (.agg #[zz, zz, zz, zz, zz, zz, zz, zz, zz, zz, zz, zz, zz, zz, zz, zz, zz, zz, zz, zz, zz, zz, zz, zz, zz, zz, zz, zz, zz, zz, zz, zz, .int .i64 0]) (.t 5) (.t 6)), zm 2 7])
 .ret)))
theorem Try.known51 : Known Try.prog 51 Try.pc51 8 [2] := ⟨Try.f51, _, Try.func51, rfl, by kernel_rfl, rfl, rfl⟩
def Try.pc52 : PC :=
 (.seq (.ops [zo 3 (.bx 36 (.t 1)), zo 4 (.mov (.v (.bool false)))])
 (.seq (.seq (.quietR [0, 1, 3, 7, 0, 16, 0, 64, 240, 511, 1023, 2047, 2047, 0, 12287] 15 [zm 9 0, zo 10 (.nilc (.t 9)), zo 11 (.fa 1 (.t 10)), zo 12 (.ld (.t 11)), zo 13 (.fa 0 (.t 3)), zo 14 (.ldA 32 (.t 13)), zo 15 (.fa 32 (.t 3)), zo 16 (.ld (.t 15)), zo 17 (.build [zz, zz, zz, zz, zz, zz, zz, zz, zz, zz, zz, zz, zz, zz, zz, zz, zz, zz, zz, zz, zz, zz, zz, zz, zz, zz, zz, zz, zz, zz, zz, zz, .int .i64 0] [(0, 32, (.t 14)), (32, 1, (.t 16))]), zo 18 (.more (.other (.gen (.lookup 54 (.tmp 12) (.tmp 17) true)))), zm 8 18, zo 19 (.ext 0 (.t 8)), zo 20 (.ext 1 (.t 8)), zo 5 (.al 36 [zz, zz, zz, zz, zz, zz, zz, zz, zz, zz, zz, zz, zz, zz, zz, zz, zz, zz, zz, zz, zz, zz, zz, zz, zz, zz, zz, zz, zz, zz, zz, zz, .int .i64 0, .int .i64 0, zz, zz, zz, zz, zz, zz, zz, zz, zz, zz, zz, zz, zz, zz, zz, zz, zz, zz, zz, zz, zz, zz, zz, zz, zz, zz, zz, zz, zz, zz, zz, zz, .int .i64 0, zz, zz, zz, zz, zz, zz, zz, zz, zz, zz, zz, zz, zz, zz, zz, zz, zz, zz, zz, zz, zz, zz, zz, zz, zz, zz, zz, zz, zz, zz, zz, zz, .int .i64 0, .slice none 0 0, .slice none 0 0]), ⟨none, none, .st 102 (.t 5) (.t 19)⟩, zm 6 20])
 (.seq (.ops [zm 21 6])
 (.cond (.t 21) (.seq (.ops [zo 4 (.mov (.v (.bool true)))])
 .ret) .skip)))
 (.seq (.seq (.ops [zo 22 (.fa 100 (.t 3)), zo 23 (.ld (.t 22)), zo 24 (.lenS (.t 23)), zo 25 (.mov (.v (.int .i64 0)))])
 (.block 0 (.loop (.seq (.ops [zo 26 (.bin .lss (.t 25) (.t 24))])
 (.seq (.cond (.t 26) .skip (.exit 0))
 (.seq (.block 1 (.seq (.ops [zm 27 25, zm 7 27])
 (.seq (.ops [zm 28 0, zo 29 (.ldA 102 (.t 3)), zm 30 7, zo 31 (.call 58 [(.t 29), (.t 30)]), zo 32 (.call 56 [(.t 28), (.t 31)])])
 (.cond (.t 32) (.seq (.ops [zo 4 (.mov (.v (.bool true)))])
 .ret) .skip))))
 (.ops [zo 33 (.bin .add (.t 25) (.v (.int .i64 1))), zm 25 33])))))))
 (.seq (.ops [zo 4 (.mov (.v (.bool false)))])
 .ret))))
theorem Try.known52 : Known Try.prog 52 Try.pc52 34 [4] := ⟨Try.f52, _, Try.func52, rfl, by kernel_rfl, rfl, rfl⟩
def Try.pc53 : PC :=
 (.seq (.ops [zo 1 (.bx 36 (.t 0)), zo 2 (.mov (.v (.bool false)))])
 (.seq (.seq (.ops [zo 5 (.fa 101 (.t 1)), zo 6 (.ld (.t 5)), zo 7 (.lenS (.t 6)), zo 8 (.mov (.v (.int .i64 0)))])
 (.block 0 (.loop (.seq (.ops [zo 9 (.bin .lss (.t 8) (.t 7))])
 (.seq (.cond (.t 9) .skip (.exit 0))
 (.seq (.block 1 (.seq (.ops [zm 10 8, zo 11 (.ixS 33 (.t 6) (.t 8)), zo 12 (.ldA 33 (.t 11)), zo 4 (.al 32 [zz, zz, zz, zz, zz, zz, zz, zz, zz, zz, zz, zz, zz, zz, zz, zz, zz, zz, zz, zz, zz, zz, zz, zz, zz, zz, zz, zz, zz, zz, zz, zz, .int .i64 0]), zm 3 10, ⟨none, none, .st 33 (.t 4) (.t 12)⟩])
 (.seq (.quiet2 1 14 [zo 13 (.ldA 33 (.t 4)), zo 14 (.call 66 []), zo 15 (.more (.eqD false 32 [yy, yy, yy, yy, yy, yy, yy, yy, yy, yy, yy, yy, yy, yy, yy, yy, yy, yy, yy, yy, yy, yy, yy, yy, yy, yy, yy, yy, yy, yy, yy, yy, .int .i64] (.t 13) (.t 14))), zm 16 15, zg 17 16 false (.ldA 33 (.t 4)), zg 18 16 false (.call 65 []), zg 19 16 false (.more (.eqD false 32 [yy, yy, yy, yy, yy, yy, yy, yy, yy, yy, yy, yy, yy, yy, yy, yy, yy, yy, yy, yy, yy, yy, yy, yy, yy, yy, yy, yy, yy, yy, yy, yy, .int .i64] (.t 17) (.t 18))), zo 20 (.pick (.t 16) (.v (.bool true)) (.t 19)), zm 21 20, zg 22 21 false (.fa 101 (.t 1)), zg 23 21 false (.ld (.t 22)), zg 24 21 false (.mov (.t 3)), zg 25 21 false (.slS 33 (.t 23) none (some (.t 24))), zg 26 21 false (.ldA 33 (.t 4)), zg 27 21 false (.call 85 [(.t 25), (.t 26)]), zo 28 (.pick (.t 21) (.v (.bool true)) (.t 27))])
 (.cond (.t 28) (.seq (.ops [zo 2 (.mov (.v (.bool false)))])
 .ret) .skip))))
 (.ops [zo 29 (.bin .add (.t 8) (.v (.int .i64 1))), zm 8 29])))))))
 (.seq (.quiet2 6 13 [zo 30 (.fa 33 (.t 1)), zo 31 (.ld (.t 30)), zo 32 (.bin .geq (.t 31) (.v (.int .i64 0))), zm 33 32, zg 34 33 true (.fa 34 (.t 1)), zg 35 33 true (.ldA 33 (.t 34)), zg 36 33 true (.call 65 []), zg 37 33 true (.more (.eqD true 32 [yy, yy, yy, yy, yy, yy, yy, yy, yy, yy, yy, yy, yy, yy, yy, yy, yy, yy, yy, yy, yy, yy, yy, yy, yy, yy, yy, yy, yy, yy, yy, yy, .int .i64] (.t 35) (.t 36))), zo 38 (.pick (.t 33) (.t 37) (.v (.bool false))), zm 39 38, zg 40 39 true (.fa 67 (.t 1)), zg 41 39 true (.ldA 33 (.t 40)), zg 42 39 true (.call 66 []), zg 43 39 true (.more (.eqD true 32 [yy, yy, yy, yy, yy, yy, yy, yy, yy, yy, yy, yy, yy, yy, yy, yy, yy, yy, yy, yy, yy, yy, yy, yy, yy, yy, yy, yy, yy, yy, yy, yy, .int .i64] (.t 41) (.t 42))), zo 44 (.pick (.t 39) (.t 43) (.v (.bool false))), zm 2 44])
 .ret)))
theorem Try.known53 : Known Try.prog 53 Try.pc53 45 [2] := ⟨Try.f53, _, Try.func53, rfl, by kernel_rfl, rfl, rfl⟩
def Try.pc54 : PC :=
 (.seq (.ops [zo 4 (.mov (.v (.bool false)))])
 (.seq (.ops [zm 5 0, zm 6 1, zo 7 (.call 86 [(.t 5), (.t 6)]), zo 8 (.bin .geq (.t 7) (.v (.int .i64 0))), zm 4 8])
 .ret))
theorem Try.known54 : Known Try.prog 54 Try.pc54 9 [4] := ⟨Try.f54, _, Try.func54, rfl, by kernel_rfl, rfl, rfl⟩
def Try.pc55 : PC :=
 (.seq (.ops [zo 2 (.bx 32 (.t 0)), zo 3 (.mov (.v (.bool false)))])
 (.seq (.ops [zo 4 (.ld (.t 1)), zo 5 (.ldA 33 (.t 2)), zo 6 (.call 56 [(.t 4), (.t 5)]), zo 7 (.not (.t 6)), zm 3 7])
 .ret))
theorem Try.known55 : Known Try.prog 55 Try.pc55 8 [3] := ⟨Try.f55, _, Try.func55, rfl, by kernel_rfl, rfl, rfl⟩
def Try.pc56 : PC :=
 (.seq (.ops [zo 3 (.bx 32 (.t 1)), zo 4 (.mov (.v (.bool false)))])
 (.seq (.quietR [0, 1, 3, 7, 0, 31, 63, 127, 127, 0, 767] 11 [zm 8 0, zo 9 (.nilc (.t 8)), zo 10 (.fa 2 (.t 9)), zo 11 (.ld (.t 10)), zo 12 (.ldA 33 (.t 3)), zo 13 (.more (.other (.gen (.lookup 55 (.tmp 11) (.tmp 12) true)))), zm 7 13, zo 14 (.ext 0 (.t 7)), zo 15 (.ext 1 (.t 7)), zo 5 (.al 100 [.string ⟨#[]⟩, .int .i64 0, .int .i64 0, .slice none 0 0]), ⟨none, none, .st 4 (.t 5) (.t 14)⟩, zm 6 15])
 (.seq (.ops [zm 16 6, zm 4 16])
 .ret)))
theorem Try.known56 : Known Try.prog 56 Try.pc56 17 [4] := ⟨Try.f56, _, Try.func56, rfl, by kernel_rfl, rfl, rfl⟩
def Try.pc57 : PC :=
 (.seq (.ops [zo 2 (.mov (.v (.slice none 0 0)))])
 (.seq (.seq (.ops [zm 3 0, zo 4 (.more (.slNil false (.t 3)))])
 (.cond (.t 4) (.seq (.ops [zo 2 (.mov (.v (.slice none 0 0)))])
 .ret) .skip))
 (.seq (.ops [zo 5 (.bsl0 9), zm 6 0, zo 7 (.app 33 9 1 16 (.string ⟨#[]⟩) (.t 5) (.t 6)), zm 2 7])
 .ret)))
theorem Try.known57 : Known Try.prog 57 Try.pc57 8 [2] := ⟨Try.f57, _, Try.func57, rfl, by kernel_rfl, rfl, rfl⟩
def Try.pc58 : PC :=
 (.seq (.ops [zo 2 (.bx 36 (.t 0)), zo 4 (.al 32 [zz, zz, zz, zz, zz, zz, zz, zz, zz, zz, zz, zz, zz, zz, zz, zz, zz, zz, zz, zz, zz, zz, zz, zz, zz, zz, zz, zz, zz, zz, zz, zz, .int .i64 0])])
 (.seq (.ops [zo 5 (.fa 0 (.t 2)), zo 6 (.ldA 32 (.t 5)), zo 7 (.fa 33 (.t 2)), zo 8 (.ld (.t 7)), zm 9 1, zo 10 (.bin .add (.t 8) (.t 9)), zo 11 (.build [zz, zz, zz, zz, zz, zz, zz, zz, zz, zz, zz, zz, zz, zz, zz, zz, zz, zz, zz, zz, zz, zz, zz, zz, zz, zz, zz, zz, zz, zz, zz, zz, .int .i64 0] [(0, 32, (.t 6)), (32, 1, (.t 10))]), ⟨none, none, .st 33 (.t 4) (.t 11)⟩])
 .ret))
theorem Try.known58 : KnownC Try.prog 58 Try.pc58 12 4 (some 33) := ⟨Try.f58, _, _, Try.func58, rfl, by kernel_rfl, rfl, rfl, by kernel_rfl⟩
def Try.pc59 : PC :=
 (.seq (.ops [zo 4 (.bx 36 (.t 1))])
 (.seq (.seq (.ops [zo 9 (.fa 100 (.t 4)), zo 10 (.ld (.t 9)), zo 11 (.lenS (.t 10)), zo 12 (.bin .eql (.t 11) (.v (.int .i64 0)))])
 (.cond (.t 12) .ret .skip))
 (.seq (.ops [zo 13 (.fa 34 (.t 4)), zo 14 (.ldA 33 (.t 13)), zo 15 (.bsl 32 [zz, zz, zz, zz, zz, zz, zz, zz, zz, zz, zz, zz, zz, zz, zz, zz, zz, zz, zz, zz, zz, zz, zz, zz, zz, zz, zz, zz, zz, zz, zz, zz, .int .i64 0] 1 [(0, 33, (.t 14))]), zm 6 15])
 (.seq (.seq (.ops [zo 16 (.fa 100 (.t 4)), zo 17 (.ld (.t 16)), zo 18 (.lenS (.t 17)), zo 19 (.mov (.v (.int .i64 0)))])
 (.block 0 (.loop (.seq (.ops [zo 20 (.bin .lss (.t 19) (.t 18))])
 (.seq (.cond (.t 20) .skip (.exit 0))
 (.seq (.block 1 (.seq (.ops [zm 21 19, zm 7 21])
 (.ops [zm 22 6, zo 23 (.ldA 102 (.t 4)), zm 24 7, zo 25 (.call 58 [(.t 23), (.t 24)]), zo 26 (.bsl 32 [zz, zz, zz, zz, zz, zz, zz, zz, zz, zz, zz, zz, zz, zz, zz, zz, zz, zz, zz, zz, zz, zz, zz, zz, zz, zz, zz, zz, zz, zz, zz, zz, .int .i64 0] 1 [(0, 33, (.t 25))]), zo 27 (.app 34 32 33 40 (.agg #[zz, zz, zz, zz, zz, zz, zz, zz, zz, zz, zz, zz, zz, zz, zz, zz, zz, zz, zz, zz, zz, zz, zz, zz, zz, zz, zz, zz, zz, zz, zz, zz, .int .i64 0]) (.t 22) (.t 26)), zm 6 27])))
 (.ops [zo 28 (.bin .add (.t 19) (.v (.int .i64 1))), zm 19 28])))))))
 (.seq (.ops [zm 29 6, zo 30 (.fa 67 (.t 4)), zo 31 (.ldA 33 (.t 30)), zo 32 (.bsl 32 [zz, zz, zz, zz, zz, zz, zz, zz, zz, zz, zz, zz, zz, zz, zz, zz, zz, zz, zz, zz, zz, zz, zz, zz, zz, zz, zz, zz, zz, zz, zz, zz, .int .i64 0] 1 [(0, 33, (.t 31))]), zo 33 (.app 34 32 33 40 (.agg #[zz, zz, zz, zz, zz, zz, zz, zz, zz, zz, zz, zz, zz, zz, zz, zz, zz, zz, zz, zz, zz, zz, zz, zz, zz, zz, zz, zz, zz, zz, zz, zz, .int .i64 0]) (.t 29) (.t 32)), zm 6 33])
 (.seq (.ops [zo 8 (.mov (.v (.int .i64 1)))])
 (.block 2 (.loop (.seq (.seq (.ops [zm 34 8, zm 35 6, zo 36 (.lenS (.t 35)), zo 37 (.bin .lss (.t 34) (.t 36))])
 (.cond (.t 37) .skip (.exit 2)))
 (.seq (.block 3 (.quiet 11 [zm 40 0, zm 41 6, zm 42 8, zo 43 (.bin .sub (.t 42) (.v (.int .i64 1))), zo 44 (.ixS 33 (.t 41) (.t 43)), zo 45 (.ldA 33 (.t 44)), zm 46 6, zm 47 8, zo 48 (.ixS 33 (.t 46) (.t 47)), zo 49 (.ldA 33 (.t 48)), zm 50 2, zo 51 (.call 87 [(.t 40), (.t 45), (.t 49), (.t 50)])]))
 (.ops [zm 38 8, zo 39 (.bin .add (.t 38) (.v (.int .i64 1))), zm 8 39])))))))))))
theorem Try.known59 : Known Try.prog 59 Try.pc59 52 [] := ⟨Try.f59, _, Try.func59, rfl, by kernel_rfl, rfl, rfl⟩
def Try.pc60 : PC :=
 (.seq (.ops [zo 4 (.bx 36 (.t 1))])
 (.seq (.seq (.ops [zo 13 (.fa 34 (.t 4)), zo 14 (.ldA 33 (.t 13)), zo 15 (.fa 67 (.t 4)), zo 16 (.ldA 33 (.t 15)), zo 17 (.bsl 32 [zz, zz, zz, zz, zz, zz, zz, zz, zz, zz, zz, zz, zz, zz, zz, zz, zz, zz, zz, zz, zz, zz, zz, zz, zz, zz, zz, zz, zz, zz, zz, zz, .int .i64 0, zz, zz, zz, zz, zz, zz, zz, zz, zz, zz, zz, zz, zz, zz, zz, zz, zz, zz, zz, zz, zz, zz, zz, zz, zz, zz, zz, zz, zz, zz, zz, zz, .int .i64 0] 2 [(0, 33, (.t 14)), (33, 33, (.t 16))]), zo 18 (.fa 101 (.t 4)), zo 19 (.ld (.t 18)), zo 20 (.app 34 32 33 40 (.agg #[zz, zz, zz, zz, zz, zz, zz, zz, zz, zz, zz, zz, zz, zz, zz, zz, zz, zz, zz, zz, zz, zz, zz, zz, zz, zz, zz, zz, zz, zz, zz, zz, .int .i64 0]) (.t 17) (.t 19)), zo 21 (.lenS (.t 20)), zo 22 (.mov (.v (.int .i64 0)))])
 (.block 0 (.loop (.seq (.ops [zo 23 (.bin .lss (.t 22) (.t 21))])
 (.seq (.cond (.t 23) .skip (.exit 0))
 (.seq (.block 1 (.seq (.ops [zo 24 (.ixS 33 (.t 20) (.t 22)), zo 25 (.ldA 33 (.t 24)), zo 7 (.al 32 [zz, zz, zz, zz, zz, zz, zz, zz, zz, zz, zz, zz, zz, zz, zz, zz, zz, zz, zz, zz, zz, zz, zz, zz, zz, zz, zz, zz, zz, zz, zz, zz, .int .i64 0]), ⟨none, none, .st 33 (.t 7) (.t 25)⟩])
 (.seq (.quietR [0, 1, 3, 7, 0, 31, 63, 127, 127, 0, 767] 11 [zm 27 0, zo 28 (.nilc (.t 27)), zo 29 (.fa 2 (.t 28)), zo 30 (.ld (.t 29)), zo 31 (.ldA 33 (.t 7)), zo 32 (.more (.other (.gen (.lookup 55 (.tmp 30) (.tmp 31) true)))), zm 26 32, zo 33 (.ext 0 (.t 26)), zo 34 (.ext 1 (.t 26)), zo 8 (.al 100 [.string ⟨#[]⟩, .int .i64 0, .int .i64 0, .slice none 0 0]), ⟨none, none, .st 4 (.t 8) (.t 33)⟩, zm 9 34])
 (.seq (.ops [zm 35 9])
 (.cond (.t 35) (.seq (.ops [zo 36 (.fa 2 (.t 8)), zo 37 (.ld (.t 36)), zm 38 2, zo 39 (.bin .add (.t 37) (.t 38)), zo 40 (.fa 2 (.t 8)), ⟨none, none, .st 1 (.t 40) (.t 39)⟩])
 (.quiet 6 [zm 41 0, zo 42 (.nilc (.t 41)), zo 43 (.fa 2 (.t 42)), zo 44 (.ld (.t 43)), zo 45 (.ldA 33 (.t 7)), zo 46 (.ldA 4 (.t 8)), ⟨none, none, .more (.other (.gen (.mapUpdate 55 (.tmp 44) (.tmp 45) (.tmp 46))))⟩])) .skip)))))
 (.ops [zo 47 (.bin .add (.t 22) (.v (.int .i64 1))), zm 22 47])))))))
 (.seq (.ops [zo 48 (.fa 101 (.t 4)), zo 49 (.ld (.t 48)), zo 50 (.lenS (.t 49)), zo 51 (.mov (.v (.int .i64 0)))])
 (.block 2 (.loop (.seq (.ops [zo 52 (.bin .lss (.t 51) (.t 50))])
 (.seq (.cond (.t 52) .skip (.exit 2))
 (.seq (.block 3 (.seq (.ops [zo 53 (.ixS 33 (.t 49) (.t 51)), zo 54 (.ldA 33 (.t 53)), zo 11 (.al 32 [zz, zz, zz, zz, zz, zz, zz, zz, zz, zz, zz, zz, zz, zz, zz, zz, zz, zz, zz, zz, zz, zz, zz, zz, zz, zz, zz, zz, zz, zz, zz, zz, .int .i64 0]), ⟨none, none, .st 33 (.t 11) (.t 54)⟩])
 (.seq (.quiet 7 [zm 55 0, zo 56 (.nilc (.t 55)), zo 57 (.fa 2 (.t 56)), zo 58 (.ld (.t 57)), zo 59 (.ldA 33 (.t 11)), zo 60 (.more (.other (.gen (.lookup 55 (.tmp 58) (.tmp 59) false)))), zo 12 (.al 100 [.string ⟨#[]⟩, .int .i64 0, .int .i64 0, .slice none 0 0]), ⟨none, none, .st 4 (.t 12) (.t 60)⟩])
 (.seq (.ops [zo 61 (.fa 1 (.t 12)), zo 62 (.ld (.t 61)), zm 63 2, zo 64 (.bin .add (.t 62) (.t 63)), zo 65 (.fa 1 (.t 12)), ⟨none, none, .st 1 (.t 65) (.t 64)⟩])
 (.quiet 6 [zm 66 0, zo 67 (.nilc (.t 66)), zo 68 (.fa 2 (.t 67)), zo 69 (.ld (.t 68)), zo 70 (.ldA 33 (.t 11)), zo 71 (.ldA 4 (.t 12)), ⟨none, none, .more (.other (.gen (.mapUpdate 55 (.tmp 69) (.tmp 70) (.tmp 71))))⟩])))))
 (.ops [zo 72 (.bin .add (.t 51) (.v (.int .i64 1))), zm 51 72])))))))))
theorem Try.known60 : Known Try.prog 60 Try.pc60 73 [] := ⟨Try.f60, _, Try.func60, rfl, by kernel_rfl, rfl, rfl⟩
def Try.pc61 : PC :=
 (.seq (.ops [zo 2 (.mov (.v (.map none)))])
 (.seq (.ops [zm 9 0, zo 10 (.nilc (.t 9)), zo 11 (.fa 2 (.t 10)), zo 12 (.ld (.t 11)), zo 13 (.lenM (.t 12)), zo 14 (.more (.other (.gen (.makeMap 107 (some (.tmp 13)))))), zm 3 14])
 (.seq (.seq (.ops [zm 15 0, zo 16 (.nilc (.t 15)), zo 17 (.fa 2 (.t 16)), zo 18 (.ld (.t 17)), zo 19 (.more (.other (.gen (.range 55 (.tmp 18)))))])
 (.block 0 (.loop (.seq (.ops [zo 20 (.more (.other (.gen (.next (.tmp 19) false)))), zo 21 (.ext 0 (.t 20))])
 (.seq (.cond (.t 21) .skip (.exit 0))
 (.block 1 (.seq (.ops [zo 22 (.more (.other (.gen (.entry (.tmp 19))))), zo 23 (.ext 0 (.t 22)), zo 4 (.al 32 [zz, zz, zz, zz, zz, zz, zz, zz, zz, zz, zz, zz, zz, zz, zz, zz, zz, zz, zz, zz, zz, zz, zz, zz, zz, zz, zz, zz, zz, zz, zz, zz, .int .i64 0]), ⟨none, none, .st 33 (.t 4) (.t 23)⟩])
 (.quietR [0, 0, 3, 7, 3, 19] 6 [zm 24 3, zo 25 (.ldA 33 (.t 4)), zo 26 (.more (.other (.gen (.lookup 107 (.tmp 24) (.tmp 25) false)))), zo 27 (.bin .add (.t 26) (.v (.int .i64 0))), zo 28 (.more (.other (.gen (.mapEntry 107 (.tmp 24) (.tmp 25))))), zo 29 (.ext 1 (.t 28)), ⟨none, none, .more (.other (.gen (.entryStore 107 (.tmp 24) (.tmp 29) (.tmp 27))))⟩]))))))))
 (.seq (.seq (.ops [zm 30 0, zo 31 (.nilc (.t 30)), zo 32 (.fa 2 (.t 31)), zo 33 (.ld (.t 32)), zo 34 (.more (.other (.gen (.range 55 (.tmp 33)))))])
 (.block 2 (.loop (.seq (.ops [zo 35 (.more (.other (.gen (.next (.tmp 34) false)))), zo 36 (.ext 0 (.t 35))])
 (.seq (.cond (.t 36) .skip (.exit 2))
 (.block 3 (.seq (.ops [zo 37 (.more (.other (.gen (.entry (.tmp 34))))), zo 38 (.ext 1 (.t 37)), zo 6 (.al 100 [.string ⟨#[]⟩, .int .i64 0, .int .i64 0, .slice none 0 0]), ⟨none, none, .st 4 (.t 6) (.t 38)⟩])
 (.seq (.ops [zo 39 (.fa 3 (.t 6)), zo 40 (.ld (.t 39)), zo 41 (.lenS (.t 40)), zo 42 (.mov (.v (.int .i64 0)))])
 (.block 4 (.loop (.seq (.ops [zo 43 (.bin .lss (.t 42) (.t 41))])
 (.seq (.cond (.t 43) .skip (.exit 4))
 (.seq (.block 5 (.seq (.ops [zo 44 (.ixS 33 (.t 40) (.t 42)), zo 45 (.ldA 33 (.t 44)), zo 8 (.al 32 [zz, zz, zz, zz, zz, zz, zz, zz, zz, zz, zz, zz, zz, zz, zz, zz, zz, zz, zz, zz, zz, zz, zz, zz, zz, zz, zz, zz, zz, zz, zz, zz, .int .i64 0]), ⟨none, none, .st 33 (.t 8) (.t 45)⟩])
 (.quietR [0, 0, 3, 7, 3, 19] 6 [zm 46 3, zo 47 (.ldA 33 (.t 8)), zo 48 (.more (.other (.gen (.lookup 107 (.tmp 46) (.tmp 47) false)))), zo 49 (.bin .add (.t 48) (.v (.int .i64 1))), zo 50 (.more (.other (.gen (.mapEntry 107 (.tmp 46) (.tmp 47))))), zo 51 (.ext 1 (.t 50)), ⟨none, none, .more (.other (.gen (.entryStore 107 (.tmp 46) (.tmp 51) (.tmp 49))))⟩])))
 (.ops [zo 52 (.bin .add (.t 42) (.v (.int .i64 1))), zm 42 52]))))))))))))))
 (.seq (.ops [zm 53 3, zm 2 53])
 .ret)))))
theorem Try.known61 : Known Try.prog 61 Try.pc61 54 [2] := ⟨Try.f61, _, Try.func61, rfl, by kernel_rfl, rfl, rfl⟩
def Try.pc62 : PC :=
 (.seq (.ops [zm 4 0, zm 5 1, zo 6 (.more (.other (.gen (.call { callee := (.invoke (.tmp 4) "Push"), args := #[(.tmp 5)], argTypes := #[20] }))))])
 (.ops [zm 7 0, zm 8 0, zo 9 (.more (.other (.gen (.call { callee := (.invoke (.tmp 8) "Len"), args := #[], argTypes := #[] })))), zo 10 (.bin .sub (.t 9) (.v (.int .i64 1))), zo 11 (.call 88 [(.t 7), (.t 10)])]))
theorem Try.known62 : Known Try.prog 62 Try.pc62 12 [] := ⟨Try.f62, _, Try.func62, rfl, by kernel_rfl, rfl, rfl⟩
def Try.pc63 : PC :=
 (.seq (.ops [zo 2 (.mov (.v (.int .i64 0)))])
 (.seq (.ops [zm 3 0, zo 4 (.lenS (.t 3)), zm 2 4])
 .ret))
theorem Try.known63 : Known Try.prog 63 Try.pc63 5 [2] := ⟨Try.f63, _, Try.func63, rfl, by kernel_rfl, rfl, rfl⟩
def Try.pc64 : PC :=
 (.seq (.ops [zo 2 (.mov (.v .nilIface))])
 (.seq (.ops [zm 4 0, zo 5 (.more (.other (.gen (.call { callee := (.invoke (.tmp 4) "Len"), args := #[], argTypes := #[] })))), zo 6 (.bin .sub (.t 5) (.v (.int .i64 1))), zm 3 6])
 (.seq (.ops [zm 7 0, zm 8 3, zo 9 (.more (.other (.gen (.call { callee := (.invoke (.tmp 7) "Swap"), args := #[(.const (.int .i64 0)), (.tmp 8)], argTypes := #[3, 3] }))))])
 (.seq (.ops [zm 10 0, zm 11 3, zo 12 (.call 89 [(.t 10), (.v (.int .i64 0)), (.t 11)])])
 (.seq (.ops [zm 13 0, zo 14 (.more (.other (.gen (.call { callee := (.invoke (.tmp 13) "Pop"), args := #[], argTypes := #[] })))), zm 2 14])
 .ret)))))
theorem Try.known64 : Known Try.prog 64 Try.pc64 15 [2] := ⟨Try.f64, _, Try.func64, rfl, by kernel_rfl, rfl, rfl⟩
def Try.pc65 : PC :=
 (.seq (.ops [zo 0 (.al 32 [zz, zz, zz, zz, zz, zz, zz, zz, zz, zz, zz, zz, zz, zz, zz, zz, zz, zz, zz, zz, zz, zz, zz, zz, zz, zz, zz, zz, zz, zz, zz, zz, .int .i64 0])])
 (.seq (.ops [zo 1 (.build [zz, zz, zz, zz, zz, zz, zz, zz, zz, zz, zz, zz, zz, zz, zz, zz, zz, zz, zz, zz, zz, zz, zz, zz, zz, zz, zz, zz, zz, zz, zz, zz, .int .i64 0] [(32, 1, (.v (.int .i64 (-2))))]), ⟨none, none, .st 33 (.t 0) (.t 1)⟩])
 .ret))
theorem Try.known65 : KnownC Try.prog 65 Try.pc65 2 0 (some 33) := ⟨Try.f65, _, _, Try.func65, rfl, by kernel_rfl, rfl, rfl, by kernel_rfl⟩
def Try.pc66 : PC :=
 (.seq (.ops [zo 0 (.al 32 [zz, zz, zz, zz, zz, zz, zz, zz, zz, zz, zz, zz, zz, zz, zz, zz, zz, zz, zz, zz, zz, zz, zz, zz, zz, zz, zz, zz, zz, zz, zz, zz, .int .i64 0])])
 (.seq (.ops [zo 1 (.build [zz, zz, zz, zz, zz, zz, zz, zz, zz, zz, zz, zz, zz, zz, zz, zz, zz, zz, zz, zz, zz, zz, zz, zz, zz, zz, zz, zz, zz, zz, zz, zz, .int .i64 0] [(32, 1, (.v (.int .i64 (-1))))]), ⟨none, none, .st 33 (.t 0) (.t 1)⟩])
 .ret))
theorem Try.known66 : KnownC Try.prog 66 Try.pc66 2 0 (some 33) := ⟨Try.f66, _, _, Try.func66, rfl, by kernel_rfl, rfl, rfl, by kernel_rfl⟩
def Try.pc67 : PC :=
 (.seq (.ops [zo 3 (.bx 32 (.t 1)), zo 4 (.mov (.v (.slice none 0 0)))])
 (.seq (.seq (.quiet 2 [zo 5 (.ldA 33 (.t 3)), zo 6 (.call 66 []), zo 7 (.more (.eqD false 32 [yy, yy, yy, yy, yy, yy, yy, yy, yy, yy, yy, yy, yy, yy, yy, yy, yy, yy, yy, yy, yy, yy, yy, yy, yy, yy, yy, yy, yy, yy, yy, yy, .int .i64] (.t 5) (.t 6)))])
 (.cond (.t 7) (.seq (.ops [zm 8 0, zo 9 (.nilc (.t 8)), zo 10 (.fa 3 (.t 9)), zo 11 (.ld (.t 10)), zm 4 11])
 .ret) .skip))
 (.seq (.quiet 5 [zm 12 0, zo 13 (.nilc (.t 12)), zo 14 (.fa 2 (.t 13)), zo 15 (.ld (.t 14)), zo 16 (.ldA 33 (.t 3)), zo 17 (.more (.other (.gen (.lookup 55 (.tmp 15) (.tmp 16) false)))), zo 18 (.fld 3 (.t 17)), zm 4 18])
 .ret)))
theorem Try.known67 : Known Try.prog 67 Try.pc67 19 [4] := ⟨Try.f67, _, Try.func67, rfl, by kernel_rfl, rfl, rfl⟩
def Try.pc85 : PC :=
 (.seq (.ops [zo 3 (.bx 32 (.t 1)), zo 4 (.mov (.v (.bool false)))])
 (.seq (.ops [zm 5 0, zo 6 (.ldA 33 (.t 3)), zo 7 (.call 110 [(.t 5), (.t 6)]), zo 8 (.bin .geq (.t 7) (.v (.int .i64 0))), zm 4 8])
 .ret))
theorem Try.known85 : Known Try.prog 85 Try.pc85 9 [4] := ⟨Try.f85, _, Try.func85, rfl, by kernel_rfl, rfl, rfl⟩
def Try.pc86 : PC :=
 (.seq (.ops [zo 4 (.mov (.v (.int .i64 0)))])
 (.seq (.seq (.ops [zm 6 0, zo 7 (.lenS (.t 6)), zo 8 (.mov (.v (.int .i64 0)))])
 (.block 0 (.loop (.seq (.ops [zo 9 (.bin .lss (.t 8) (.t 7))])
 (.seq (.cond (.t 9) .skip (.exit 0))
 (.seq (.block 1 (.seq (.ops [zm 10 8, zm 5 10])
 (.seq (.ops [zm 11 1, zm 12 0, zm 13 5, zo 14 (.ixS 33 (.t 12) (.t 13)), zo 15 (.ldA 33 (.t 14)), zo 16 (.callv (.t 11) [(.t 15)])])
 (.cond (.t 16) (.seq (.ops [zm 17 5, zm 4 17])
 .ret) .skip))))
 (.ops [zo 18 (.bin .add (.t 8) (.v (.int .i64 1))), zm 8 18])))))))
 (.seq (.ops [zo 4 (.mov (.v (.int .i64 (-1))))])
 .ret)))
theorem Try.known86 : Known Try.prog 86 Try.pc86 19 [4] := ⟨Try.f86, _, Try.func86, rfl, by kernel_rfl, rfl, rfl⟩
def Try.pc87 : PC :=
 (.seq (.ops [zo 5 (.bx 32 (.t 1)), zo 6 (.bx 32 (.t 2))])
 (.seq (.ops [zm 11 0, zo 12 (.ldA 33 (.t 5)), zo 13 (.call 67 [(.t 11), (.t 12)]), zo 14 (.call 51 [(.t 13)]), zm 8 14])
 (.seq (.seq (.ops [zm 15 3])
 (.cond (.t 15) (.ops [zm 16 8, zo 17 (.ldA 33 (.t 6)), zo 18 (.bsl 32 [zz, zz, zz, zz, zz, zz, zz, zz, zz, zz, zz, zz, zz, zz, zz, zz, zz, zz, zz, zz, zz, zz, zz, zz, zz, zz, zz, zz, zz, zz, zz, zz, .int .i64 0] 1 [(0, 33, (.t 17))]), zo 19 (.app 34 32 33 40 (.agg #[zz, zz, zz, zz, zz, zz, zz, zz, zz, zz, zz, zz, zz, zz, zz, zz, zz, zz, zz, zz, zz, zz, zz, zz, zz, zz, zz, zz, zz, zz, zz, zz, .int .i64 0]) (.t 16) (.t 18)), zm 8 19]) (.seq (.ops [zm 20 8, zo 21 (.ldA 33 (.t 6)), zo 22 (.call 110 [(.t 20), (.t 21)]), zm 9 22])
 (.seq (.ops [zm 23 9, zo 24 (.bin .geq (.t 23) (.v (.int .i64 0)))])
 (.cond (.t 24) (.ops [zm 25 8, zm 26 9, zm 27 9, zo 28 (.bin .add (.t 27) (.v (.int .i64 1))), zo 29 (.call 111 [(.t 25), (.t 26), (.t 28)]), zm 8 29]) .skip)))))
 (.seq (.seq (.quiet 2 [zo 30 (.ldA 33 (.t 5)), zo 31 (.call 66 []), zo 32 (.more (.eqD false 32 [yy, yy, yy, yy, yy, yy, yy, yy, yy, yy, yy, yy, yy, yy, yy, yy, yy, yy, yy, yy, yy, yy, yy, yy, yy, yy, yy, yy, yy, yy, yy, yy, .int .i64] (.t 30) (.t 31)))])
 (.cond (.t 32) (.seq (.ops [zm 33 0, zm 34 8, zo 35 (.nilc (.t 33)), zo 36 (.fa 3 (.t 35)), ⟨none, none, .st 1 (.t 36) (.t 34)⟩])
 .ret) .skip))
 (.seq (.quiet 7 [zm 37 0, zo 38 (.nilc (.t 37)), zo 39 (.fa 2 (.t 38)), zo 40 (.ld (.t 39)), zo 41 (.ldA 33 (.t 5)), zo 42 (.more (.other (.gen (.lookup 55 (.tmp 40) (.tmp 41) false)))), zo 10 (.al 100 [.string ⟨#[]⟩, .int .i64 0, .int .i64 0, .slice none 0 0]), ⟨none, none, .st 4 (.t 10) (.t 42)⟩])
 (.seq (.ops [zm 43 8, zo 44 (.fa 3 (.t 10)), ⟨none, none, .st 1 (.t 44) (.t 43)⟩])
 (.quiet 6 [zm 45 0, zo 46 (.nilc (.t 45)), zo 47 (.fa 2 (.t 46)), zo 48 (.ld (.t 47)), zo 49 (.ldA 33 (.t 5)), zo 50 (.ldA 4 (.t 10)), ⟨none, none, .more (.other (.gen (.mapUpdate 55 (.tmp 48) (.tmp 49) (.tmp 50))))⟩])))))))
theorem Try.known87 : Known Try.prog 87 Try.pc87 51 [] := ⟨Try.f87, _, Try.func87, rfl, by kernel_rfl, rfl, rfl⟩
def Try.pc88 : PC :=
 (.block 0 (.loop (.block 1 (.seq (.ops [zm 5 1, zo 6 (.bin .sub (.t 5) (.v (.int .i64 1))), zo 7 (.bin .quo (.t 6) (.v (.int .i64 2))), zm 4 7])
 (.seq (.seq (.ops [zm 8 4, zm 9 1, zo 10 (.bin .eql (.t 8) (.t 9)), zm 11 10, zg 12 11 false (.mov (.t 0)), zg 13 11 false (.mov (.t 1)), zg 14 11 false (.mov (.t 4)), zg 15 11 false (.more (.other (.gen (.call { callee := (.invoke (.tmp 12) "Less"), args := #[(.tmp 13), (.tmp 14)], argTypes := #[3, 3] })))), zg 16 11 false (.not (.t 15)), zo 17 (.pick (.t 11) (.v (.bool true)) (.t 16))])
 (.cond (.t 17) (.exit 0) .skip))
 (.seq (.ops [zm 18 0, zm 19 4, zm 20 1, zo 21 (.more (.other (.gen (.call { callee := (.invoke (.tmp 18) "Swap"), args := #[(.tmp 19), (.tmp 20)], argTypes := #[3, 3] }))))])
 (.ops [zm 22 4, zm 1 22])))))))
theorem Try.known88 : Known Try.prog 88 Try.pc88 23 [] := ⟨Try.f88, _, Try.func88, rfl, by kernel_rfl, rfl, rfl⟩
def Try.pc89 : PC :=
 (.seq (.ops [zo 6 (.mov (.v (.bool false)))])
 (.seq (.ops [zm 11 1, zm 7 11])
 (.seq (.block 0 (.loop (.block 1 (.seq (.ops [zm 12 7, zo 13 (.bin .mul (.v (.int .i64 2)) (.t 12)), zo 14 (.bin .add (.t 13) (.v (.int .i64 1))), zm 8 14])
 (.seq (.seq (.ops [zm 15 8, zm 16 2, zo 17 (.bin .geq (.t 15) (.t 16)), zm 18 17, zg 19 18 false (.mov (.t 8)), zg 20 18 false (.bin .lss (.t 19) (.v (.int .i64 0))), zo 21 (.pick (.t 18) (.v (.bool true)) (.t 20))])
 (.cond (.t 21) (.exit 0) .skip))
 (.seq (.ops [zm 22 8, zm 9 22])
 (.seq (.seq (.ops [zm 23 8, zo 24 (.bin .add (.t 23) (.v (.int .i64 1))), zm 10 24])
 (.seq (.ops [zm 25 10, zm 26 2, zo 27 (.bin .lss (.t 25) (.t 26)), zm 28 27, zg 29 28 true (.mov (.t 0)), zg 30 28 true (.mov (.t 10)), zg 31 28 true (.mov (.t 8)), zg 32 28 true (.more (.other (.gen (.call { callee := (.invoke (.tmp 29) "Less"), args := #[(.tmp 30), (.tmp 31)], argTypes := #[3, 3] })))), zo 33 (.pick (.t 28) (.t 32) (.v (.bool false)))])
 (.cond (.t 33) (.ops [zm 34 10, zm 9 34]) .skip)))
 (.seq (.seq (.ops [zm 35 0, zm 36 9, zm 37 7, zo 38 (.more (.other (.gen (.call { callee := (.invoke (.tmp 35) "Less"), args := #[(.tmp 36), (.tmp 37)], argTypes := #[3, 3] })))), zo 39 (.not (.t 38))])
 (.cond (.t 39) (.exit 0) .skip))
 (.seq (.ops [zm 40 0, zm 41 7, zm 42 9, zo 43 (.more (.other (.gen (.call { callee := (.invoke (.tmp 40) "Swap"), args := #[(.tmp 41), (.tmp 42)], argTypes := #[3, 3] }))))])
 (.ops [zm 44 9, zm 7 44]))))))))))
 (.seq (.ops [zm 45 7, zm 46 1, zo 47 (.bin .gtr (.t 45) (.t 46)), zm 6 47])
 .ret))))
theorem Try.known89 : Known Try.prog 89 Try.pc89 48 [6] := ⟨Try.f89, _, Try.func89, rfl, by kernel_rfl, rfl, rfl⟩
def Try.pc109 : PC :=
 (.seq (.ops [zo 2 (.bx 32 (.t 0)), zo 3 (.bx 32 (.t 1)), zo 4 (.mov (.v (.int .i64 0)))])
 (.seq (.quiet 9 [zo 5 (.fa 0 (.t 2)), zo 6 (.slA 32 (.t 5)), zo 7 (.fa 0 (.t 3)), zo 8 (.slA 32 (.t 7)), zo 9 (.call 124 [(.t 6), (.t 8)]), zo 10 (.fa 32 (.t 2)), zo 11 (.ld (.t 10)), zo 12 (.fa 32 (.t 3)), zo 13 (.ld (.t 12)), zo 14 (.call 125 [(.t 11), (.t 13)]), zo 15 (.bsl 3 [.int .i64 0, .int .i64 0] 2 [(0, 1, (.t 9)), (1, 1, (.t 14))]), zo 16 (.call 123 [(.t 15)]), zm 4 16])
 .ret))
theorem Try.known109 : Known Try.prog 109 Try.pc109 17 [4] := ⟨Try.f109, _, Try.func109, rfl, by kernel_rfl, rfl, rfl⟩
def Try.pc110 : PC :=
 (.seq (.ops [zo 3 (.bx 32 (.t 1)), zo 4 (.mov (.v (.int .i64 0)))])
 (.seq (.seq (.ops [zm 6 0, zo 7 (.lenS (.t 6)), zo 8 (.mov (.v (.int .i64 0)))])
 (.block 0 (.loop (.seq (.ops [zo 9 (.bin .lss (.t 8) (.t 7))])
 (.seq (.cond (.t 9) .skip (.exit 0))
 (.seq (.block 1 (.seq (.ops [zm 10 8, zm 5 10])
 (.seq (.quiet 5 [zo 11 (.ldA 33 (.t 3)), zm 12 0, zm 13 5, zo 14 (.ixS 33 (.t 12) (.t 13)), zo 15 (.ldA 33 (.t 14)), zo 16 (.more (.eqD false 32 [yy, yy, yy, yy, yy, yy, yy, yy, yy, yy, yy, yy, yy, yy, yy, yy, yy, yy, yy, yy, yy, yy, yy, yy, yy, yy, yy, yy, yy, yy, yy, yy, .int .i64] (.t 11) (.t 15)))])
 (.cond (.t 16) (.seq (.ops [zm 17 5, zm 4 17])
 .ret) .skip))))
 (.ops [zo 18 (.bin .add (.t 8) (.v (.int .i64 1))), zm 8 18])))))))
 (.seq (.ops [zo 4 (.mov (.v (.int .i64 (-1))))])
 .ret)))
theorem Try.known110 : Known Try.prog 110 Try.pc110 19 [4] := ⟨Try.f110, _, Try.func110, rfl, by kernel_rfl, rfl, rfl⟩
def Try.pc111 : PC :=
 (.seq (.ops [zo 6 (.mov (.v (.slice none 0 0)))])
 (.seq (.ops [zm 8 0, zm 9 1, zm 10 2, zm 11 0, zo 12 (.lenS (.t 11)), zo 13 (.more (.other (.gen (.slice 34 (.tmp 8) (some (.tmp 9)) (some (.tmp 10)) (some (.tmp 12))))))])
 (.seq (.seq (.ops [zm 14 1, zm 15 2, zo 16 (.bin .eql (.t 14) (.t 15))])
 (.cond (.t 16) (.seq (.ops [zm 17 0, zm 6 17])
 .ret) .skip))
 (.seq (.ops [zm 18 0, zo 19 (.lenS (.t 18)), zm 7 19])
 (.seq (.quiet 6 [zm 20 0, zm 21 1, zo 22 (.slS 33 (.t 20) none (some (.t 21))), zm 23 0, zm 24 2, zo 25 (.slS 33 (.t 23) (some (.t 24)) none), zo 26 (.app 34 32 33 40 (.agg #[zz, zz, zz, zz, zz, zz, zz, zz, zz, zz, zz, zz, zz, zz, zz, zz, zz, zz, zz, zz, zz, zz, zz, zz, zz, zz, zz, zz, zz, zz, zz, zz, .int .i64 0]) (.t 22) (.t 25)), zm 0 26])
 (.seq (.ops [zm 27 0, zm 28 0, zo 29 (.lenS (.t 28)), zm 30 7, zo 31 (.slS 33 (.t 27) (some (.t 29)) (some (.t 30))), ⟨none, none, .more (.clr 32 33 (.agg #[zz, zz, zz, zz, zz, zz, zz, zz, zz, zz, zz, zz, zz, zz, zz, zz, zz, zz, zz, zz, zz, zz, zz, zz, zz, zz, zz, zz, zz, zz, zz, zz, .int .i64 0]) (.t 31))⟩])
 (.seq (.ops [zm 32 0, zm 6 32])
 .ret)))))))
theorem Try.known111 : Known Try.prog 111 Try.pc111 33 [6] := ⟨Try.f111, _, Try.func111, rfl, by kernel_rfl, rfl, rfl⟩
def Try.pc123 : PC :=
 (.seq (.ops [zo 2 (.mov (.v (.int .i64 0)))])
 (.seq (.ops [zo 3 (.mov (.v (.int .i64 0)))])
 (.seq (.seq (.ops [zm 6 0, zo 7 (.lenS (.t 6)), zo 8 (.mov (.v (.int .i64 0)))])
 (.block 0 (.loop (.seq (.ops [zo 9 (.bin .lss (.t 8) (.t 7))])
 (.seq (.cond (.t 9) .skip (.exit 0))
 (.seq (.block 1 (.seq (.ops [zo 10 (.ixS 1 (.t 6) (.t 8)), zo 11 (.ld (.t 10)), zm 5 11])
 (.seq (.ops [zm 12 5, zm 13 3, zo 14 (.bin .neq (.t 12) (.t 13))])
 (.cond (.t 14) (.seq (.ops [zm 15 5, zm 2 15])
 .ret) .skip))))
 (.ops [zo 16 (.bin .add (.t 8) (.v (.int .i64 1))), zm 8 16])))))))
 (.seq (.ops [zm 17 3, zm 2 17])
 .ret))))
theorem Try.known123 : Known Try.prog 123 Try.pc123 18 [2] := ⟨Try.f123, _, Try.func123, rfl, by kernel_rfl, rfl, rfl⟩
def Try.pc124 : PC :=
 (.seq (.ops [zo 4 (.mov (.v (.int .i64 0)))])
 (.seq (.ops [zm 5 0, zm 6 1, zo 7 (.more (.other (.xf 137 [(.t 5), (.t 6)]))), zm 4 7])
 .ret))
theorem Try.known124 : Known Try.prog 124 Try.pc124 8 [4] := ⟨Try.f124, _, Try.func124, rfl, by kernel_rfl, rfl, rfl⟩
def Try.pc125 : PC :=
 (.seq (.ops [zo 4 (.mov (.v (.int .i64 0)))])
 (.seq (.ops [zm 7 0, zo 8 (.call 138 [(.t 7)]), zm 5 8])
 (.seq (.ops [zm 9 1, zo 10 (.call 138 [(.t 9)]), zm 6 10])
 (.seq (.seq (.ops [zm 11 5])
 (.cond (.t 11) (.seq (.seq (.ops [zm 12 6])
 (.cond (.t 12) (.seq (.ops [zo 4 (.mov (.v (.int .i64 0)))])
 .ret) .skip))
 (.seq (.ops [zo 4 (.mov (.v (.int .i64 (-1))))])
 .ret)) .skip))
 (.seq (.seq (.ops [zm 13 6])
 (.cond (.t 13) (.seq (.ops [zo 4 (.mov (.v (.int .i64 1)))])
 .ret) .skip))
 (.seq (.seq (.ops [zm 14 0, zm 15 1, zo 16 (.bin .lss (.t 14) (.t 15))])
 (.cond (.t 16) (.seq (.ops [zo 4 (.mov (.v (.int .i64 (-1))))])
 .ret) .skip))
 (.seq (.seq (.ops [zm 17 0, zm 18 1, zo 19 (.bin .gtr (.t 17) (.t 18))])
 (.cond (.t 19) (.seq (.ops [zo 4 (.mov (.v (.int .i64 1)))])
 .ret) .skip))
 (.seq (.ops [zo 4 (.mov (.v (.int .i64 0)))])
 .ret))))))))
theorem Try.known125 : Known Try.prog 125 Try.pc125 20 [4] := ⟨Try.f125, _, Try.func125, rfl, by kernel_rfl, rfl, rfl⟩
def Try.pc138 : PC :=
 (.seq (.ops [zo 2 (.mov (.v (.bool false)))])
 (.seq (.ops [zm 3 0, zm 4 0, zo 5 (.bin .neq (.t 3) (.t 4)), zm 2 5])
 .ret))
theorem Try.known138 : Known Try.prog 138 Try.pc138 6 [2] := ⟨Try.f138, _, Try.func138, rfl, by kernel_rfl, rfl, rfl⟩
def Try.pc161 : PC :=
 (.seq (.ops [zo 6 (.mov (.v (.bool false)))])
 (.seq (.quiet 8 [zm 7 0, zm 8 1, zo 9 (.ixS 33 (.t 7) (.t 8)), zo 10 (.ldA 33 (.t 9)), zm 11 0, zm 12 2, zo 13 (.ixS 33 (.t 11) (.t 12)), zo 14 (.ldA 33 (.t 13)), zo 15 (.call 109 [(.t 10), (.t 14)]), zo 16 (.bin .lss (.t 15) (.v (.int .i64 0))), zm 6 16])
 .ret))
theorem Try.known161 : Known Try.prog 161 Try.pc161 17 [6] := ⟨Try.f161, _, Try.func161, rfl, by kernel_rfl, rfl, rfl⟩
def Try.pc162 : PC :=
 (.seq (.ops [zo 2 (.mov (.v .nilIface))])
 (.seq (.ops [zm 5 0, zo 6 (.nilc (.t 5)), zo 7 (.ld (.t 6)), zo 8 (.lenS (.t 7)), zo 9 (.bin .sub (.t 8) (.v (.int .i64 1))), zm 3 9])
 (.seq (.ops [zm 10 0, zo 11 (.nilc (.t 10)), zo 12 (.ld (.t 11)), zm 13 3, zo 14 (.ixS 33 (.t 12) (.t 13)), zo 15 (.ldA 33 (.t 14)), zo 4 (.al 32 [zz, zz, zz, zz, zz, zz, zz, zz, zz, zz, zz, zz, zz, zz, zz, zz, zz, zz, zz, zz, zz, zz, zz, zz, zz, zz, zz, zz, zz, zz, zz, zz, .int .i64 0]), ⟨none, none, .st 33 (.t 4) (.t 15)⟩])
 (.seq (.ops [zm 16 0, zm 17 0, zo 18 (.nilc (.t 17)), zo 19 (.ld (.t 18)), zm 20 3, zo 21 (.slS 33 (.t 19) none (some (.t 20))), zo 22 (.nilc (.t 16)), ⟨none, none, .st 1 (.t 22) (.t 21)⟩])
 (.seq (.ops [zo 23 (.ldA 33 (.t 4)), zo 24 (.more (.mkI 32 (.t 23))), zm 2 24])
 .ret)))))
theorem Try.known162 : Known Try.prog 162 Try.pc162 25 [2] := ⟨Try.f162, _, Try.func162, rfl, by kernel_rfl, rfl, rfl⟩
def Try.pc163 : PC :=
 (.seq (.ops [zm 7 1, zo 8 (.more (.other (.gen (.typeAssert (.tmp 7) 20 32 true)))), zm 6 8, zo 9 (.ext 0 (.t 6)), zo 10 (.ext 1 (.t 6)), zo 4 (.al 32 [zz, zz, zz, zz, zz, zz, zz, zz, zz, zz, zz, zz, zz, zz, zz, zz, zz, zz, zz, zz, zz, zz, zz, zz, zz, zz, zz, zz, zz, zz, zz, zz, .int .i64 0]), ⟨none, none, .st 33 (.t 4) (.t 9)⟩, zm 5 10])
 (.seq (.ops [zm 11 5])
 (.cond (.t 11) (.quiet 6 [zm 12 0, zm 13 0, zo 14 (.nilc (.t 13)), zo 15 (.ld (.t 14)), zo 16 (.ldA 33 (.t 4)), zo 17 (.bsl 32 [zz, zz, zz, zz, zz, zz, zz, zz, zz, zz, zz, zz, zz, zz, zz, zz, zz, zz, zz, zz, zz, zz, zz, zz, zz, zz, zz, zz, zz, zz, zz, zz, .int .i64 0] 1 [(0, 33, (.t 16))]), zo 18 (.app 110 32 33 40 (.agg #[zz, zz, zz, zz, zz, zz, zz, zz, zz, zz, zz, zz, zz, zz, zz, zz, zz, zz, zz, zz, zz, zz, zz, zz, zz, zz, zz, zz, zz, zz, zz, zz, .int .i64 0]) (.t 15) (.t 17)), zo 19 (.nilc (.t 12)), ⟨none, none, .st 1 (.t 19) (.t 18)⟩]) .skip)))
theorem Try.known163 : Known Try.prog 163 Try.pc163 20 [] := ⟨Try.f163, _, Try.func163, rfl, by kernel_rfl, rfl, rfl⟩
def Try.pc164 : PC :=
 (.quiet 12 [zm 6 0, zm 7 1, zm 8 0, zm 9 2, zm 10 0, zm 11 2, zo 12 (.ixS 33 (.t 10) (.t 11)), zo 13 (.ldA 33 (.t 12)), zm 14 0, zm 15 1, zo 16 (.ixS 33 (.t 14) (.t 15)), zo 17 (.ldA 33 (.t 16)), zo 18 (.ixS 33 (.t 6) (.t 7)), ⟨none, none, .st 33 (.t 18) (.t 13)⟩, zo 19 (.ixS 33 (.t 8) (.t 9)), ⟨none, none, .st 33 (.t 19) (.t 17)⟩])
theorem Try.known164 : Known Try.prog 164 Try.pc164 20 [] := ⟨Try.f164, _, Try.func164, rfl, by kernel_rfl, rfl, rfl⟩
end Go.Proofs


