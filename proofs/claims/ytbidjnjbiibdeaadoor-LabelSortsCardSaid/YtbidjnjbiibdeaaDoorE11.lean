/- Regions that draw their order, told: definitions. -/
import Derived.Test.YtbidjnjbiibdeaaDoorE10
set_option linter.unusedVariables false
set_option linter.unusedSimpArgs false
namespace Go.SL
open Go.RowKit

def MO.sort : MO → Nat
  | .neg _ | .mkI _ _ | .eqI _ _ | .eqJ _ _ _ _ | .slNil _ _ | .slAr _ _ _ _ _ | .eqD _ _ _ _ _ | .bldA _ _ => 0
  | _ => 2
/-- 0: looks at no memory; 1: looks at memory and turns none; 2: any other -/
def PO.sort : PO → Nat
  | .mov _ | .bin _ _ _ | .binB _ _ _ | .not _ | .cvt _ _ | .pick _ _ _ | .fa _ _ | .fld _ _ | .fldA _ _ _ | .ixS _ _ _ | .ixStr _ _ | .lenS _ | .lenStr _ | .slStr _ _ _ | .ext _ _ | .mnx _ _ | .eqA _ _ _ _ _ | .nilc _ | .eqP _ _ _ | .slA _ _ | .ixA _ _ _ _ | .mkF _ _ | .slS _ _ _ _ | .build _ _ => 0
  | .ld _ | .ldA _ _ | .lenM _ | .lookS _ _ _ _ | .strOf _ => 1
  | .more m => m.sort
  | _ => 2
def PI.loud (x : PI) : Bool := Nat.beq x.o.sort 2
def flatEq : Value → Value → Bool
  | .bool a, .bool b => a == b
  | .int k a, .int k' b => (if k = k' then true else false) && (if a = b then true else false)
  | .string a, .string b => strEq a b
  | .pointer none, .pointer none => true
  | .pointer (some a), .pointer (some b) => Nat.beq a.block b.block && Nat.beq a.off b.off && a.spot.isNone && b.spot.isNone
  | .slice none l c, .slice none l' c' => Nat.beq l l' && Nat.beq c c'
  | .slice (some a) l c, .slice (some b) l' c' => Nat.beq a.block b.block && Nat.beq a.off b.off && a.spot.isNone && b.spot.isNone && Nat.beq l l' && Nat.beq c c'
  | .map none, .map none => true
  | .map (some a), .map (some b) => Nat.beq a b
  | .nilFunc, .nilFunc => true
  | .nilIface, .nilIface => true
  | .chan none, .chan none => true
  | _, _ => false
def listEq : List Value → List Value → Bool
  | [], [] => true
  | a :: x, b :: y => flatEq a b && listEq x y
  | _, _ => false
def valEq : Value → Value → Bool
  | .agg a, .agg b => listEq a.toList b.toList
  | .tuple a, .tuple b => listEq a.toList b.toList
  | .iface t a, .iface u b => Nat.beq t u && flatEq a b
  | a, b => flatEq a b
theorem addr_eq {a b : Addr} (h : (Nat.beq a.block b.block && Nat.beq a.off b.off && a.spot.isNone && b.spot.isNone) = true) : a = b := by
  obtain ⟨x, y, z⟩ := a
  obtain ⟨x', y', z'⟩ := b
  simp only [Bool.and_eq_true, Option.isNone_iff_eq_none] at h
  obtain ⟨⟨⟨h1, h2⟩, h3⟩, h4⟩ := h
  try simp only at h3 h4
  rw [Nat.eq_of_beq_eq_true h1, Nat.eq_of_beq_eq_true h2, h3, h4]
theorem flatEq_eq {a b : Value} (h : flatEq a b = true) : a = b := by
  unfold flatEq at h
  split at h
  · rw [beq_iff_eq] at h; rw [h]
  · simp only [Bool.and_eq_true] at h
    obtain ⟨h1, h2⟩ := h
    split at h1
    · split at h2
      · rename_i e1 e2; rw [e1, e2]
      · cases h2
    · cases h1
  · rename_i x y
    rw [strEq_eq] at h
    have e := (Go.MapKept.bytes_beq x y).1 h
    rw [e]
  · rfl
  · rw [addr_eq h]
  · simp only [Bool.and_eq_true] at h; rw [Nat.eq_of_beq_eq_true h.1, Nat.eq_of_beq_eq_true h.2]
  · simp only [Bool.and_eq_true] at h
    obtain ⟨⟨⟨⟨⟨h1, h2⟩, h3⟩, h4⟩, h5⟩, h6⟩ := h
    rename_i x _ _ y _ _
    have e : x = y := addr_eq (by simp only [Bool.and_eq_true, Option.isNone_iff_eq_none]; exact ⟨⟨⟨h1, h2⟩, by simpa using h3⟩, by simpa using h4⟩)
    rw [e, Nat.eq_of_beq_eq_true h5, Nat.eq_of_beq_eq_true h6]
  · rfl
  · rw [Nat.eq_of_beq_eq_true h]
  · rfl
  · rfl
  · rfl
  · cases h
theorem listEq_eq : ∀ {a b : List Value}, listEq a b = true → a = b
  | [], [], _ => rfl
  | a :: x, b :: y, h => by
    simp only [listEq, Bool.and_eq_true] at h
    rw [flatEq_eq h.1, listEq_eq h.2]
  | [], b :: y, h => by cases h
  | a :: x, [], h => by cases h
theorem valEq_eq {a b : Value} (h : valEq a b = true) : a = b := by
  unfold valEq at h
  split at h
  · rw [Array.toList_inj.1 (listEq_eq h)]
  · rw [Array.toList_inj.1 (listEq_eq h)]
  · simp only [Bool.and_eq_true] at h; rw [Nat.eq_of_beq_eq_true h.1, flatEq_eq h.2]
  · exact flatEq_eq h
theorem evP_any {po : PO} {T : TT} {H : EH} {v : Value} {H' : EH} (h : (match evP po T with | some v => some (v, H) | none => none) = some (v, H')) : evP po T = some v ∧ H' = H := by
  split at h
  · rename_i w hw
    simp only [Option.some.injEq, Prod.mk.injEq] at h
    exact ⟨by rw [hw, h.1], h.2.symm⟩
  · cases h
theorem sort0 {po : PO} {T : TT} {H H' : EH} {v : Value} (hs : po.sort = 0) (h : evM po T H = some (v, H')) : H' = H ∧ ∀ H2, evM po T H2 = some (v, H2) := by
  cases po <;> simp only [PO.sort] at hs <;> (first | (cases hs; done) | skip)
  case build z ps =>
    simp only [evM] at h ⊢
    obtain ⟨hz, h⟩ := bif_some h
    split at h
    · rename_i c hc
      simp only [Option.some.injEq, Prod.mk.injEq] at h
      refine ⟨h.2.symm, fun H2 => ?_⟩
      rw [hz]
      simp [hc, h.1]
    · cases h
  case slA len x =>
    simp only [evM] at h ⊢
    split at h
    · rename_i a hx
      obtain ⟨hb, h⟩ := bif_some h
      simp only [Option.some.injEq, Prod.mk.injEq] at h
      refine ⟨h.2.symm, fun H2 => ?_⟩
      rw [hb]
      simp [h.1]
    · cases h
  case slS sz x lo hi =>
    simp only [evM] at h ⊢
    split at h
    · split at h
      · rename_i w hw
        simp only [Option.some.injEq, Prod.mk.injEq] at h
        exact ⟨h.2.symm, fun H2 => by simp [hw, h.1]⟩
      · cases h
    · cases h
  case more m =>
    cases m <;> simp only [MO.sort] at hs <;> (first | (cases hs; done) | skip)
    all_goals simp only [evM, evX] at h ⊢
    case bldA z ps =>
      obtain ⟨hz, h⟩ := bif_some h
      split at h
      · rename_i c hc
        simp only [Option.some.injEq, Prod.mk.injEq] at h
        refine ⟨h.2.symm, fun H2 => ?_⟩
        rw [hz]
        simp [hc, h.1]
      · cases h
    case eqJ neg tys x y =>
      split at h
      · rename_i tx k a ty k' b hx hy
        cases hb : Nat.beq tx ty with
        | true =>
          rw [hb] at h
          simp only [cond_true] at h
          split at h
          · rename_i hc
            simp only [Option.some.injEq, Prod.mk.injEq] at h
            refine ⟨h.2.symm, fun H2 => ?_⟩
            simp only [cond_true]
            rw [if_pos hc, h.1]
          · cases h
        | false =>
          rw [hb] at h
          simp only [cond_false, Option.some.injEq, Prod.mk.injEq] at h
          exact ⟨h.2.symm, fun H2 => by simp only [cond_false]; rw [h.1]⟩
      · cases h
    case slAr len sz x l hh =>
      split at h
      · obtain ⟨hb, h⟩ := bif_some h
        split at h
        · rename_i w hw
          simp only [Option.some.injEq, Prod.mk.injEq] at h
          exact ⟨h.2.symm, fun H2 => by rw [hb]; simp [hw, h.1]⟩
        · cases h
      · cases h
    all_goals (repeat (split at h))
    all_goals (first | (cases h; done) | skip)
    all_goals (simp only [Option.some.injEq, Prod.mk.injEq] at h; obtain ⟨rfl, rfl⟩ := h; exact ⟨rfl, fun H2 => by simp [*]⟩)
  all_goals
    simp only [evM] at h ⊢
    obtain ⟨h1, h2⟩ := evP_any h
    exact ⟨h2, fun H2 => by rw [h1]⟩
theorem sort_le (po : PO) : po.sort ≤ 2 := by
  cases po <;> simp [PO.sort]
  rename_i m; cases m <;> simp [MO.sort]
theorem sort1 {po : PO} {T : TT} {H H' : EH} {v : Value} (hs : po.sort = 1) (h : evM po T H = some (v, H')) : H' = H := by
  cases po <;> simp only [PO.sort] at hs <;> (first | (cases hs; done) | skip)
  case more m => cases m <;> simp [MO.sort] at hs
  all_goals simp only [evM] at h
  case lookS z ok m k =>
    split at h
    · obtain ⟨_, h⟩ := bif_some h
      split at h
      · split at h <;> (simp only [Option.some.injEq, Prod.mk.injEq] at h; exact h.2.symm)
      · cases h
    · cases h
  all_goals (repeat (split at h))
  all_goals (first | (cases h; done) | (simp only [Option.some.injEq, Prod.mk.injEq] at h; exact h.2.symm))
theorem sort_call {po : PO} {call : CallE} {T : TT} {H : EH} (hs : po.sort ≠ 2) : evO call po T H = evM po T H := by
  unfold evO
  split
  · exact absurd rfl hs
  · exact absurd rfl hs
  · rfl

/-! ### the head, in the text's order -/
def evH (call : CallE) : List PI → TT → EH → Option (List (TT × Value) × List EH × TT × EH)
  | [], T, H => some ([], [], T, H)
  | x :: r, T, H => match wantE T x.g with
    | some true => (match evO call x.o T H with
      | some (v, H') => (match evH call r (put x.d v T) H' with | some (tr, gs, T', H'') => some ((T, v) :: tr, (bif x.loud then H' :: gs else gs), T', H'') | none => none)
      | none => none)
    | some false => (match evH call r (put x.d undef T) H with | some (tr, gs, T', H'') => some ((T, undef) :: tr, (bif x.loud then H :: gs else gs), T', H'') | none => none)
    | none => none
def loudN (l : List PI) (i : Nat) : Bool := match l[i]? with | some x => x.loud | none => false
/-- how many loud ones are among the first m, of those that f takes -/
def lcl (l : List PI) (f : Nat → Bool) : Nat → Nat
  | 0 => 0
  | m + 1 => lcl l f m + (if loudN l m && f m then 1 else 0)
theorem lcl_cons (x : PI) (l : List PI) (m : Nat) : lcl (x :: l) (fun _ => true) (m + 1) = (if x.loud then 1 else 0) + lcl l (fun _ => true) m := by
  induction m with
  | zero => simp [lcl, loudN]
  | succ m ih =>
    rw [lcl, ih, lcl]
    have : loudN (x :: l) (m + 1) = loudN l m := by simp [loudN]
    rw [this]; omega
def OnOff (call : CallE) (x : PI) (T : TT) (H H' : EH) (v : Value) : Prop := (wantE T x.g = some true ∧ evO call x.o T H = some (v, H')) ∨ (wantE T x.g = some false ∧ v = undef ∧ H' = H)
theorem evH_spec {call : CallE} : ∀ {l : List PI} {T : TT} {H : EH} {tr : List (TT × Value)} {gs : List EH} {T' : TT} {H' : EH}, evH call l T H = some (tr, gs, T', H') →
    ∃ (Ts : Nat → TT) (Hs : Nat → EH) (vs : Nat → Value), Ts 0 = T ∧ Hs 0 = H ∧ Ts l.length = T' ∧ Hs l.length = H' ∧
      (∀ i x, l[i]? = some x → Ts (i + 1) = put x.d (vs i) (Ts i) ∧ tr[i]? = some (Ts i, vs i) ∧ OnOff call x (Ts i) (Hs i) (Hs (i + 1)) (vs i) ∧ (x.loud = false → Hs (i + 1) = Hs i)) ∧
      ∀ i, i ≤ l.length → (H :: gs)[lcl l (fun _ => true) i]? = some (Hs i)
  | [], T, H, tr, gs, T', H', h => by
    simp only [evH, Option.some.injEq, Prod.mk.injEq] at h
    obtain ⟨rfl, rfl, rfl, rfl⟩ := h
    refine ⟨fun _ => T, fun _ => H, fun _ => undef, rfl, rfl, rfl, rfl, fun i x hx => by simp at hx, fun i hi => ?_⟩
    have e : i = 0 := by simpa using hi
    subst e
    rfl
  | x :: l, T, H, tr, gs, T', H', h => by
    have quiet : x.loud = false → ∀ v H1, evO call x.o T H = some (v, H1) → H1 = H := by
      intro hq v H1 ho
      have hs2 : x.o.sort ≠ 2 := fun e => by rw [PI.loud, e] at hq; cases hq
      rw [sort_call hs2] at ho
      by_cases h0 : x.o.sort = 0
      · exact (sort0 h0 ho).1
      · by_cases h1 : x.o.sort = 1
        · exact sort1 h1 ho
        · exfalso
          have := sort_le x.o
          omega
    have main : ∀ (v : Value) (H1 : EH), OnOff call x T H H1 v → (x.loud = false → H1 = H) → ∀ tr1 gs1, evH call l (put x.d v T) H1 = some (tr1, gs1, T', H') → tr = (T, v) :: tr1 → gs = (bif x.loud then H1 :: gs1 else gs1) →
        ∃ (Ts : Nat → TT) (Hs : Nat → EH) (vs : Nat → Value), Ts 0 = T ∧ Hs 0 = H ∧ Ts (x :: l).length = T' ∧ Hs (x :: l).length = H' ∧
          (∀ i y, (x :: l)[i]? = some y → Ts (i + 1) = put y.d (vs i) (Ts i) ∧ tr[i]? = some (Ts i, vs i) ∧ OnOff call y (Ts i) (Hs i) (Hs (i + 1)) (vs i) ∧ (y.loud = false → Hs (i + 1) = Hs i)) ∧
          ∀ i, i ≤ (x :: l).length → (H :: gs)[lcl (x :: l) (fun _ => true) i]? = some (Hs i) := by
      intro v H1 hon hq tr1 gs1 hev htr hgs
      obtain ⟨Ts, Hs, vs, h1, h2, h3, h4, h5, h6⟩ := evH_spec hev
      refine ⟨fun | 0 => T | i + 1 => Ts i, fun | 0 => H | i + 1 => Hs i, fun | 0 => v | i + 1 => vs i, rfl, rfl, h3, h4, ?_, ?_⟩
      · intro i y hy
        cases i with
        | zero =>
          simp at hy
          subst hy
          refine ⟨h1, by rw [htr]; rfl, by simp only [h2]; exact hon, fun e => by simp only [h2]; exact hq e⟩
        | succ i =>
          have := h5 i y (by simpa using hy)
          refine ⟨this.1, by rw [htr]; simpa using this.2.1, this.2.2⟩
      · intro i hi
        cases i with
        | zero => rfl
        | succ i =>
          have := h6 i (by simpa using hi)
          rw [lcl_cons]
          cases hl : x.loud with
          | false =>
            rw [hgs, hl]
            simp only [Bool.false_eq_true, if_false, Nat.zero_add, cond_false]
            rw [hq hl] at this
            exact this
          | true =>
            rw [hgs, hl]
            simp only [if_true, cond_true]
            rw [Nat.add_comm 1, List.getElem?_cons_succ]
            exact this
    simp only [evH] at h
    split at h
    · rename_i hw
      split at h
      · rename_i v H1 ho
        split at h
        · rename_i tr1 gs1 T2 H2 hr
          simp only [Option.some.injEq, Prod.mk.injEq] at h
          obtain ⟨rfl, rfl, rfl, rfl⟩ := h
          exact main v H1 (.inl ⟨hw, ho⟩) (fun e => quiet e v H1 ho) _ _ hr rfl rfl
        · cases h
      · cases h
    · rename_i hw
      split at h
      · rename_i tr1 gs1 T2 H2 hr
        simp only [Option.some.injEq, Prod.mk.injEq] at h
        obtain ⟨rfl, rfl, rfl, rfl⟩ := h
        exact main undef H (.inr ⟨hw, rfl, rfl⟩) (fun e => rfl) _ _ hr rfl rfl
      · cases h
    · cases h

/-! ### what is asked of the order -/
def pairsB (b : List Nat) (l : List PI) : Bool := (List.range l.length).all fun j => !loudN l j || (List.range j).all fun i => !loudN l i || behind b j i
def mayAt (b : List Nat) (l : List PI) (i g : Nat) : Bool := (List.range l.length).all fun c => !loudN l c || ((!behind b i c || Nat.blt (lcl l (fun _ => true) c) g) && (!behind b c i || Nat.ble g (lcl l (fun _ => true) c)))
def readB (b : List Nat) (l : List PI) (tr : List (TT × Value)) (G : List EH) : Bool :=
  (List.range l.length).all fun i => match l[i]?, tr[i]? with
    | some x, some (T, v) => !Nat.beq x.o.sort 1 || (match wantE T x.g with
      | some true => (List.range G.length).all fun g => !mayAt b l i g || (match G[g]? with | some Hg => (match evM x.o T Hg with | some (v', _) => valEq v' v | none => false) | none => false)
      | _ => true)
    | _, _ => false
def evD (call : CallE) (b : List Nat) (k : Nat) (l : List PI) (T : TT) (H : EH) : Option (TT × EH) :=
  match evH call (l.take k) T H with
  | some (tr, gs, T', H') => bif pairsB b (l.take k) && (gs.isEmpty || readB b (l.take k) tr (H :: gs)) then evL call (l.drop k) T' H' else none
  | none => none
end Go.SL
