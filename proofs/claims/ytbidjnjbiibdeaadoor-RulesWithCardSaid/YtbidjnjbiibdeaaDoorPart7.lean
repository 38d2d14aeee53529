/- Walks and plain facts for the laws of this seat: what each function answers, for every input. -/
import Derived.Test.YtbidjnjbiibdeaaDoorPart6

set_option linter.unusedVariables false
set_option linter.unusedSimpArgs false
namespace Go.SL
open Go.RowKit
section
variable {P : Program} {w0 : World} {n : Nat} {T : TT} {S : SS}
inductive HK where
  | loud
  | dep
  | free
  deriving DecidableEq
abbrev CE := Nat × PI × TT × HK
def LCF (P : Program) (w0 : World) (n : Nat) (base : SS) (post : TT → SS → Prop) : List CE → TT → SS → Prop
  | [], Tl, S => post Tl S
  | (i, c, T, .loud) :: r, Tl, S => c.g = none ∧ ∀ F, OW P w0 n c.o (Tl ++ T) (F ++ S) (fun v S' => ∃ S1, (F ++ S1).Perm S' ∧ Over base S1 ∧ LCF P w0 n base post r (put c.d v Tl) S1)
  | (i, c, T, .dep) :: r, Tl, S => c.g = none ∧ ∃ v, evalP c.o (Tl ++ T) = some v ∧ LCF P w0 n base post r (put c.d v Tl) S
  | (i, c, T, .free) :: r, Tl, S => c.g = none ∧ ∃ E z, c.o = .al E z ∧ ∀ rr, LCF P w0 n base post r (put c.d (.pointer (some ⟨rr, 0, none⟩)) Tl) ([(rr, .cells z E z.length)] :: S)
def mkCh (hs : HL) (ks : List (Nat × HK)) : List CE := ks.filterMap fun p => (hs[p.1]?).map fun x => (x.1, x.2.1, x.2.2, p.2)
def okKs (m : Nat) (ks : List (Nat × HK)) : Bool := ((List.range m).all fun j => ks.any fun p => Nat.beq p.1 j) && decide (ks.map (·.1)).Nodup
def ordQ (b : List Nat) : List (Nat × HK) → Bool
  | [] => true
  | x :: r => (r.all fun y => decide (y.2 = .free) || (Nat.blt x.1 y.1 && (decide (x.2 = .dep) || Nat.beq (b.getD y.1 0 / 2 ^ x.1 % 2) 1))) && ordQ b r
theorem ordQ_spec {b : List Nat} : ∀ {hs : List (Nat × HK)}, ordQ b hs = true → ∀ (i j : Nat) (x y : Nat × HK), i < j → hs[i]? = some x → hs[j]? = some y → y.2 ≠ .free → x.1 < y.1 ∧ (x.2 ≠ .dep → (b.getD y.1 0).testBit x.1 = true)
  | [], _, i, j, x, y, _, hx, _, _ => by simp at hx
  | z :: r, h, i, j, x, y, hij, hx, hy, hyf => by
    simp only [ordQ, Bool.and_eq_true] at h
    cases j with
    | zero => omega
    | succ j =>
      simp at hy
      cases i with
      | zero =>
        simp at hx
        subst hx
        have := List.all_eq_true.1 h.1 y (List.mem_of_getElem? hy)
        simp only [Bool.or_eq_true, decide_eq_true_eq, Bool.and_eq_true] at this
        rcases this with h1 | ⟨h1, h2⟩
        · exact absurd h1 hyf
        · refine ⟨by have h9 : Nat.ble (z.1 + 1) y.1 = true := h1; exact Nat.le_of_ble_eq_true h9, fun hd => ?_⟩
          have h3 := Nat.eq_of_beq_eq_true (h2.resolve_left hd)
          rw [Nat.testBit_eq_decide_div_mod_eq, h3]; rfl
      | succ i => simp at hx; exact ordQ_spec h.2 i j x y (by omega) hx hy hyf
def kindB (ch : List CE) : Bool := ch.all fun x => match x.2.2.2 with
  | .loud => true
  | .dep => x.2.1.g.isNone
  | .free => x.2.1.g.isNone && (match x.2.1.o with | .al _ _ => true | _ => false)
def noMovC (ch : List CE) : Bool := (match ch with | [] => true | x :: _ => decide (x.2.2.2 ≠ .dep)) && ch.all fun x => match x.2.1.o with | .mov _ => decide (x.2.2.2 = .dep) | _ => true
theorem Rep.permS {w : World} {S' : SS} (h : Rep w0 S w) (hp : S.Perm S') : Rep w0 S' w :=
  h.sub (fun p hx => hp.flatten.mem_iff.2 hx) ((hp.flatten.map _).nodup_iff.1 h.nodup)
def vsC (ch : List CE) (vals : List Value) (us : Nat → Value) (i : Nat) : Value := match ch.findIdx? fun x => x.1 == i with | some j => us j | none => vals.getD i undef
/-- a fresh block that came early -/
def fseg (ch : List CE) (us : Nat → Value) (j : Nat) : Seg := match ch[j]?, us j with
  | some x, .pointer (some a) => (match x.2.1.o with | .al E z => [(a.block, .cells z E z.length)] | _ => [])
  | _, _ => []
structure PhG (P : Program) (w0 : World) (n : Nat) (base : SS) (post : TT → SS → Prop) (ch : List CE) (lst : Nat → Bool) (us : Nat → Value) (Sx : SS) (Tl : TT) (C : Nat) (js : List Nat) : Prop where
  le : C ≤ ch.length
  loud : ∀ j x, ch[j]? = some x → x.2.2.2 = .loud → (lst x.1 = true ↔ j < C)
  free : ∀ j x, ch[j]? = some x → x.2.2.2 = .free → (lst x.1 = true ↔ (j < C ∨ j ∈ js))
  dep : ∀ j x, ch[j]? = some x → x.2.2.2 = .dep → lst x.1 = true → j < C
  jge : ∀ j ∈ js, C ≤ j
  jnd : js.Nodup
  jfr : ∀ j ∈ js, ∃ x rr, ch[j]? = some x ∧ x.2.2.2 = .free ∧ us j = .pointer (some ⟨rr, 0, none⟩)
  lc : LCF P w0 n base post (ch.drop C) Tl Sx
  ss : Over base Sx
  tl : ∀ d v, look Tl d = some v → ∃ j x, j < C ∧ ch[j]? = some x ∧ x.2.1.d = some d ∧ v = us j
  deps : ∀ j x, j < C → ch[j]? = some x → x.2.2.2 = .dep → ∃ Tl', (∀ d v, look Tl' d = some v → ∃ j' x', j' < j ∧ ch[j']? = some x' ∧ x'.2.1.d = some d ∧ v = us j') ∧ evalP x.2.1.o (Tl' ++ x.2.2.1) = some (us j)
/-- what stands next waits for its turn -/
def Cur (ch : List CE) (C : Nat) (js : List Nat) : Prop := ∀ x, ch[C]? = some x → x.2.2.2 = .loud ∨ (x.2.2.2 = .free ∧ C ∉ js)
theorem put_tl {ch : List CE} {us us' : Nat → Value} {Tl : TT} {C : Nat} {x : CE} (hx : ch[C]? = some x) (hag : ∀ j, j < C → us' j = us j) (h : ∀ d v, look Tl d = some v → ∃ j y, j < C ∧ ch[j]? = some y ∧ y.2.1.d = some d ∧ v = us j) :
    ∀ d v, look (put x.2.1.d (us' C) Tl) d = some v → ∃ j y, j < C + 1 ∧ ch[j]? = some y ∧ y.2.1.d = some d ∧ v = us' j := by
  intro d v hv
  have hold : look Tl d = some v → ∃ j y, j < C + 1 ∧ ch[j]? = some y ∧ y.2.1.d = some d ∧ v = us' j := by
    intro hv
    obtain ⟨j, y, h1, h2, h3, h4⟩ := h d v hv
    exact ⟨j, y, by omega, h2, h3, by rw [hag j h1]; exact h4⟩
  cases hxd : x.2.1.d with
  | none => rw [hxd] at hv; exact hold hv
  | some dd =>
    rw [hxd] at hv
    by_cases e : dd = d
    · subst e
      simp only [SL.put, look_put_same] at hv
      obtain rfl := Option.some.inj hv
      exact ⟨C, x, by omega, hx, hxd, rfl⟩
    · simp only [SL.put] at hv
      rw [look_cons_ne _ _ e] at hv
      exact hold hv
theorem deps_mono {ch : List CE} {us us' : Nat → Value} {C : Nat} (hag : ∀ j, j < C → us' j = us j)
    (h : ∀ j x, j < C → ch[j]? = some x → x.2.2.2 = .dep → ∃ Tl', (∀ d v, look Tl' d = some v → ∃ j' x', j' < j ∧ ch[j']? = some x' ∧ x'.2.1.d = some d ∧ v = us j') ∧ evalP x.2.1.o (Tl' ++ x.2.2.1) = some (us j)) :
    ∀ j x, j < C → ch[j]? = some x → x.2.2.2 = .dep → ∃ Tl', (∀ d v, look Tl' d = some v → ∃ j' x', j' < j ∧ ch[j']? = some x' ∧ x'.2.1.d = some d ∧ v = us' j') ∧ evalP x.2.1.o (Tl' ++ x.2.2.1) = some (us' j) := by
  intro j x hj hx hd
  obtain ⟨Tl', h1, h2⟩ := h j x hj hx hd
  refine ⟨Tl', fun d v hv => ?_, by rw [hag j hj]; exact h2⟩
  obtain ⟨j', x', g1, g2, g3, g4⟩ := h1 d v hv
  exact ⟨j', x', g1, g2, g3, by rw [hag j' (by omega)]; exact g4⟩
theorem drop_at {ch : List CE} {C : Nat} {x : CE} (hx : ch[C]? = some x) : ch.drop C = x :: ch.drop (C + 1) := by
  rw [List.drop_eq_getElem_cons (List.getElem?_eq_some_iff.1 hx).1]
  congr 1
  exact (List.getElem?_eq_some_iff.1 hx).2
theorem fseg_congr {ch : List CE} {us us' : Nat → Value} {js : List Nat} (h : ∀ j ∈ js, us' j = us j) : js.map (fseg ch us') = js.map (fseg ch us) := by
  apply List.map_congr_left
  intro j hj
  unfold fseg
  rw [h j hj]
theorem PhG.advance {base : SS} {post : TT → SS → Prop} {ch : List CE} {lst : Nat → Bool} (m : Nat) : ∀ {us : Nat → Value} {Sx : SS} {Tl : TT} {C : Nat} {js : List Nat} {w : World}, ch.length - C ≤ m → PhG P w0 n base post ch lst us Sx Tl C js → Rep w0 (js.map (fseg ch us) ++ Sx) w →
    ∃ us' Sx' Tl' C' js', PhG P w0 n base post ch lst us' Sx' Tl' C' js' ∧ Cur ch C' js' ∧ Rep w0 (js'.map (fseg ch us') ++ Sx') w ∧ (∀ j x, ch[j]? = some x → lst x.1 = true → us' j = us j) := by
  induction m with
  | zero =>
    intro us Sx Tl C js w hm h hr
    refine ⟨us, Sx, Tl, C, js, h, fun x hx => ?_, hr, fun _ _ _ _ => rfl⟩
    have := (List.getElem?_eq_some_iff.1 hx).1
    have := h.le
    omega
  | succ m ih =>
    intro us Sx Tl C js w hm h hr
    cases hx : ch[C]? with
    | none => exact ⟨us, Sx, Tl, C, js, h, fun x hx2 => (by rw [hx] at hx2; cases hx2), hr, fun _ _ _ _ => rfl⟩
    | some x =>
      have hlt := (List.getElem?_eq_some_iff.1 hx).1
      obtain ⟨i, c, T0, kd⟩ := x
      have hLC := h.lc
      rw [drop_at hx] at hLC
      cases kd with
      | loud => exact ⟨us, Sx, Tl, C, js, h, fun y hy => (by rw [hx] at hy; obtain rfl := Option.some.inj hy; exact .inl rfl), hr, fun _ _ _ _ => rfl⟩
      | dep =>
        obtain ⟨hg, v, hv, hrest⟩ := hLC
        let us' : Nat → Value := fun j => if j = C then v else us j
        have hag : ∀ j, j < C → us' j = us j := fun j hj => by simp only [us']; rw [if_neg (by omega)]
        have hC : us' C = v := by simp [us']
        have hCj : C ∉ js := fun hj => by obtain ⟨y, rr, h1, h2, _⟩ := h.jfr C hj; rw [hx] at h1; obtain rfl := Option.some.inj h1; cases h2
        have hjs : ∀ j ∈ js, us' j = us j := fun j hj => by
          show (if j = C then v else us j) = us j
          rw [if_neg]
          rintro rfl
          exact hCj hj
        have hph : PhG P w0 n base post ch lst us' Sx (put c.d v Tl) (C + 1) js := by
          refine ⟨hlt, fun j y hy hk => ?_, fun j y hy hk => ?_, fun j y hy hk hl => by have := h.dep j y hy hk hl; omega, fun j hj => ?_, h.jnd, fun j hj => ?_, hrest, h.ss, ?_, ?_⟩
          · rw [h.loud j y hy hk]
            constructor
            · intro h; omega
            · intro h2
              rcases Nat.lt_or_ge j C with h3 | h3
              · exact h3
              · obtain rfl : j = C := by omega
                rw [hx] at hy; obtain rfl := Option.some.inj hy; cases hk
          · rw [h.free j y hy hk]
            constructor
            · rintro (h | h)
              · exact .inl (by omega)
              · exact .inr h
            · rintro (h2 | h2)
              · rcases Nat.lt_or_ge j C with h3 | h3
                · exact .inl h3
                · obtain rfl : j = C := by omega
                  rw [hx] at hy; obtain rfl := Option.some.inj hy; cases hk
              · exact .inr h2
          · have h1 := h.jge j hj
            rcases Nat.lt_or_ge C j with h3 | h3
            · exact h3
            · exact absurd ((by omega : j = C) ▸ hj) hCj
          · obtain ⟨y, rr, h1, h2, h3⟩ := h.jfr j hj
            exact ⟨y, rr, h1, h2, by rw [hjs j hj]; exact h3⟩
          · have := put_tl (us' := us') hx hag h.tl
            rw [hC] at this
            exact this
          · intro j y hj hy hk
            rcases Nat.lt_or_ge j C with h3 | h3
            · exact deps_mono hag h.deps j y h3 hy hk
            · obtain rfl : j = C := by omega
              rw [hx] at hy; obtain rfl := Option.some.inj hy
              refine ⟨Tl, fun d u hu => ?_, by rw [hC]; exact hv⟩
              obtain ⟨j', y', g1, g2, g3, g4⟩ := h.tl d u hu
              exact ⟨j', y', g1, g2, g3, by rw [hag j' g1]; exact g4⟩
        obtain ⟨u2, S2, T2, C2, j2, g1, g2, g3, g4⟩ := ih (by omega) hph (by rw [fseg_congr hjs]; exact hr)
        refine ⟨u2, S2, T2, C2, j2, g1, g2, g3, fun j y hy hl => ?_⟩
        rw [g4 j y hy hl]
        simp only [us']
        rw [if_neg]
        rintro rfl
        rw [hx] at hy; obtain rfl := Option.some.inj hy
        have := h.dep j _ hx rfl hl
        omega
      | free =>
        by_cases hj : C ∈ js
        · obtain ⟨hg, E, z, ho, hrest⟩ := hLC
          obtain ⟨y, rr, h1, h2, h3⟩ := h.jfr C hj
          have hsegC : fseg ch us C = [(rr, .cells z E z.length)] := by unfold fseg; rw [hx, h3]; simp [ho]
          have hph : PhG P w0 n base post ch lst us ([(rr, .cells z E z.length)] :: Sx) (put c.d (.pointer (some ⟨rr, 0, none⟩)) Tl) (C + 1) (js.erase C) := by
            refine ⟨hlt, fun j y hy hk => ?_, fun j y hy hk => ?_, fun j y hy hk hl => by have := h.dep j y hy hk hl; omega, fun j hj => ?_, h.jnd.erase _, fun j hj => h.jfr j (List.mem_of_mem_erase hj), hrest rr, h.ss.cons, ?_, ?_⟩
            · rw [h.loud j y hy hk]
              constructor
              · intro h; omega
              · intro h2
                rcases Nat.lt_or_ge j C with h3 | h3
                · exact h3
                · obtain rfl : j = C := by omega
                  rw [hx] at hy; obtain rfl := Option.some.inj hy; cases hk
            · rw [h.free j y hy hk, h.jnd.mem_erase_iff]
              constructor
              · rintro (h | h)
                · exact .inl (by omega)
                · by_cases e : j = C
                  · exact .inl (by omega)
                  · exact .inr ⟨e, h⟩
              · rintro (h2 | h2)
                · rcases Nat.lt_or_ge j C with h3 | h3
                  · exact .inl h3
                  · obtain rfl : j = C := by omega
                    exact .inr hj
                · exact .inr h2.2
            · rw [h.jnd.mem_erase_iff] at hj
              have := h.jge j hj.2
              omega
            · have := put_tl (us' := us) hx (fun _ _ => rfl) h.tl
              rw [h3] at this
              exact this
            · intro j y hj hy hk
              rcases Nat.lt_or_ge j C with h3 | h3
              · exact h.deps j y h3 hy hk
              · obtain rfl : j = C := by omega
                rw [hx] at hy; obtain rfl := Option.some.inj hy; cases hk
          refine ih (by omega) hph (hr.permS ?_)
          have hp : js.Perm (C :: js.erase C) := List.perm_cons_erase hj
          have hp2 := (hp.map (fseg ch us)).append_right Sx
          rw [List.map_cons, hsegC] at hp2
          refine hp2.trans ?_
          rw [List.cons_append]
          exact (List.perm_middle (a := [(rr, AO.cells z E z.length)]) (l₁ := (js.erase C).map (fseg ch us)) (l₂ := Sx)).symm
        · exact ⟨us, Sx, Tl, C, js, h, fun y hy => (by rw [hx] at hy; obtain rfl := Option.some.inj hy; exact .inr ⟨rfl, hj⟩), hr, fun _ _ _ _ => rfl⟩
set_option maxHeartbeats 8000000 in
theorem PW.quietRF {b0 : List Nat} {k : Nat} {l : List PI} {base : SS} {Q : Exit → TT → SS → Prop} {T2 : TT} {vals : List Value} {hs0 : HL} {ks : List (Nat × HK)} (hm : P.follows .mixedOrders = true) (hq : QM P w0 n (Over base) 0 (l.take k) T T2 vals hs0)
    (hdi : distB (l.take k) hs0 = true) (hno : noMovC (mkCh hs0 ks) = true) {m0 : Nat} (hml : hs0.length = m0) (hks : okKs m0 ks = true) {hp : List (Nat × HK)} (hmap : (mkCh hs0 ks).map (fun x => (x.1, x.2.2.2)) = hp) (hord : ordQ b0 hp = true) (hkb : kindB (mkCh hs0 ks) = true) (hSs : Over base S)
    (hch : LCF P w0 n base (fun Tl S' => OL P w0 n (l.drop k) (Tl ++ T2) S' (Q .normal)) (mkCh hs0 ks) [] S) : PW P w0 n (.quietR b0 k l) T S Q := by
  intro c hc a w hs hr
  cases c
  case region id ops dr =>
    cases dr with
    | false => simp [cC] at hc
    | true =>
      simp only [cC] at hc
      split at hc
      case isFalse => simp at hc
      rename_i hcond
      simp only [Bool.and_eq_true] at hcond
      obtain ⟨⟨⟨hap, hback⟩, hsel⟩, hhoist⟩ := hcond
      simp only [Option.map_eq_some_iff] at hc
      obtain ⟨l', hcis, hmk⟩ := hc
      obtain ⟨rfl, rfl, hb0⟩ := mkQ_quietR hmk
      obtain ⟨hhead, hkle⟩ := headOf_spec ops (hoists ops) ops.size (Nat.le_refl _)
      change headB ops ((hoists ops).filter (· < quietAt ops)) (quietAt ops) = true at hhead
      change quietAt ops ≤ ops.size at hkle
      generalize hk : quietAt ops = k at *
      generalize hH : (hoists ops).filter (· < k) = Hs at *
      have hHk : ∀ i ∈ Hs, i < k := fun i hi => by rw [← hH] at hi; simpa using (List.mem_filter.1 hi).2
      have hsplit : List.range ops.size = List.range' 0 k ++ List.range' k (ops.size - k) := by
        rw [List.range_eq_range']
        have := List.range'_append (s := 0) (m := k) (n := ops.size - k) (step := 1)
        simp only [Nat.one_mul, Nat.zero_add] at this
        rw [this]
        congr 1
        omega
      rw [hsplit] at hcis
      obtain ⟨hc1, hc2⟩ := cIs_append hcis
      simp only [List.length_range'] at hc1 hc2
      have hlen : (l'.take k).length = k := by simpa using cIs_length hc1
      obtain ⟨hql, hqi, hqp⟩ := hq.lt
      simp only [Nat.zero_add, Nat.sub_zero, hlen] at hqi
      rw [hlen] at hql
      generalize hce : mkCh hs0 ks = ch at *
      have hcm : ∀ x : Nat × PI × TT, x ∈ hs0 ↔ ∃ kd, (x.1, x.2.1, x.2.2, kd) ∈ ch := by
        intro x
        rw [← hce]
        unfold mkCh
        simp only [List.mem_filterMap, Option.map_eq_some_iff]
        simp only [okKs, Bool.and_eq_true, List.all_eq_true, List.mem_range, List.any_eq_true, decide_eq_true_eq] at hks
        constructor
        · intro hx
          obtain ⟨j, hj⟩ := List.getElem?_of_mem hx
          have hjl := (List.getElem?_eq_some_iff.1 hj).1
          obtain ⟨p, hp1, hp2⟩ := hks.1 j (by omega)
          have := Nat.eq_of_beq_eq_true hp2
          exact ⟨p.2, p, hp1, x, by rw [this]; exact hj, rfl⟩
        · rintro ⟨kd, p, hp1, y, hy, he⟩
          have e1 := congrArg (fun z : CE => (z.1, z.2.1, z.2.2.1)) he
          have : y = x := e1
          rw [← this]
          exact List.mem_of_getElem? hy
      have hcnd : (ch.map (·.1)).Nodup := by
        rw [← hce]
        simp only [okKs, Bool.and_eq_true, decide_eq_true_eq] at hks
        have hk2 := hks.2
        clear hks hce hmap hch
        induction ks with
        | nil => simp [mkCh]
        | cons p ks ih =>
          rw [List.map_cons, List.nodup_cons] at hk2
          have ih' := ih hk2.2
          unfold mkCh at ih' ⊢
          rw [List.filterMap_cons]
          cases hp : hs0[p.1]? with
          | none => simpa [hp] using ih'
          | some x =>
            simp only [Option.map_some, List.map_cons, List.nodup_cons]
            refine ⟨fun hm => ?_, ih'⟩
            obtain ⟨y, hy, hye⟩ := List.mem_map.1 hm
            obtain ⟨q, hq1, hq2⟩ := List.mem_filterMap.1 hy
            obtain ⟨z, hz, rfl⟩ := Option.map_eq_some_iff.1 hq2
            have hze : z.1 = x.1 := hye
            obtain ⟨h1, e1⟩ := List.getElem?_eq_some_iff.1 hp
            obtain ⟨h2, e2⟩ := List.getElem?_eq_some_iff.1 hz
            have hpq : q.1 = p.1 := by
              rcases Nat.lt_trichotomy q.1 p.1 with h | h | h
              · have := List.pairwise_iff_getElem.1 hqp q.1 p.1 (by simpa using h2) (by simpa using h1) h
                simp only [List.getElem_map, e1, e2] at this; omega
              · exact h
              · have := List.pairwise_iff_getElem.1 hqp p.1 q.1 (by simpa using h1) (by simpa using h2) h
                simp only [List.getElem_map, e1, e2] at this; omega
            exact hk2.1 (List.mem_map.2 ⟨q, hq1, hpq⟩)
      have hci : ∀ (j : Nat) (x : CE), ch[j]? = some x → (x.1, x.2.1, x.2.2.1) ∈ hs0 := fun j x hx => (hcm _).2 ⟨x.2.2.2, List.mem_of_getElem? hx⟩
      have hcat : ∀ x ∈ hs0, ∃ (j : Nat) (kd : HK), ch[j]? = some (x.1, x.2.1, x.2.2, kd) := fun x hx => by
        obtain ⟨kd, hm⟩ := (hcm x).1 hx
        obtain ⟨j, hj⟩ := List.getElem?_of_mem hm
        exact ⟨j, kd, hj⟩
      have hcix : ∀ (j : Nat) (x : CE), ch[j]? = some x → ch.findIdx? (fun y => y.1 == x.1) = some j := by
        intro j x hx
        rw [List.findIdx?_eq_some_iff_getElem]
        obtain ⟨hj, he⟩ := List.getElem?_eq_some_iff.1 hx
        refine ⟨hj, by simp [he], fun i hi => ?_⟩
        have hne : (ch.map (·.1))[i]'(by simp; omega) ≠ (ch.map (·.1))[j]'(by simpa using hj) := fun e => by
          have := (List.getElem_inj hcnd).1 e
          omega
        simp only [List.getElem_map, he] at hne
        simpa using hne
      let vs : (Nat → Value) → Nat → Value := fun us i => vsC ch vals us i
      have hvq : ∀ us j, (∀ x ∈ hs0, x.1 ≠ j) → vs us j = vals.getD j undef := fun us j h => by
        show vsC ch vals us j = _
        unfold vsC
        have : ch.findIdx? (fun x => x.1 == j) = none := by
          rw [List.findIdx?_eq_none_iff]
          intro x hx
          have := h _ ((hcm (x.1, x.2.1, x.2.2.1)).2 ⟨x.2.2.2, hx⟩)
          simpa using this
        rw [this]
      have hvh : ∀ (us : Nat → Value) (j : Nat) (x : CE), ch[j]? = some x → vs us x.1 = us j := fun us j x h => by
        show vsC ch vals us x.1 = _
        unfold vsC
        rw [hcix j x h]
      have htr := fun us => hq.trace (vs us) (fun j hj hx => by rw [Nat.zero_add] at hx ⊢; exact hvq us j hx) a (by rw [hlen]; exact hc1) hs
      simp only [hlen, Nat.zero_add, Nat.sub_zero] at htr
      have hgives : ∀ us S', Over base S' → ∀ i, i < k → (∀ x ∈ hs0, x.1 ≠ i) → GivesAt P w0 S' ops i (vs us i) (runA ops (vs us) 0 i a) := by
        intro us S' hS' i hi hne
        rw [hvq us i hne]
        exact (htr us).2.1 i hi hne S' hS'
      have hdst : ∀ i o, i < k → ops[i]? = some o → dstOk n o.dst = true := fun i o hi ho => (htr fun _ => undef).2.2.2.1 i o hi ho
      have hslot : ∀ (us : Nat → Value) (x : Nat × PI × TT), x ∈ hs0 → ∀ d, x.2.1.d = some d → ∀ m, x.1 < m → m ≤ k → (runA ops (vs us) 0 m a).tmps[d]? = some (vs us x.1) := by
        intro us x hx d hd m h1 h2
        obtain ⟨_, hxk, hxl⟩ := hqi x hx
        have hda : dstAt ops x.1 = some d := by rw [← (htr us).2.2.2.2 x.1 hxk x.2.1 hxl, hd]
        have hdn : d < a.tmps.size := by
          rw [hs.size]
          have hxs : x.1 < ops.size := by omega
          have := hdst x.1 ops[x.1] hxk (by simp [hxs])
          have e : ops[x.1].dst = some d := by simpa [dstAt, hxs] using hda
          rw [e] at this
          simpa [dstOk] using this
        refine runA_slot hda hdn (fun j hj hne => ?_) m h1 h2
        have hjl : j < (l'.take k).length := by rw [hlen]; exact hj
        have e : (l'.take k)[j]? = some (l'.take k)[j] := List.getElem?_eq_getElem hjl
        rw [← (htr us).2.2.2.2 j hj _ e]
        exact distB_spec hdi hx hd hjl hne e
      have hholes : ∀ (i : Nat), (∃ (j : Nat) (x : CE), ch[j]? = some x ∧ x.1 = i) ∨ ∀ x ∈ hs0, x.1 ≠ i := by
        intro i
        by_cases h : ∃ x ∈ hs0, x.1 = i
        · obtain ⟨x, hx, rfl⟩ := h
          obtain ⟨j, kd, hj⟩ := hcat x hx
          exact .inl ⟨j, _, hj, rfl⟩
        · exact .inr fun x hx e => h ⟨x, hx, e⟩
      have hck : ∀ (j : Nat) (x : CE), ch[j]? = some x → x.1 < k := fun j x hx => (hqi _ (hci j x hx)).2.1
      have hordc : ∀ (i j : Nat) (x y : CE), i < j → ch[i]? = some x → ch[j]? = some y → y.2.2.2 ≠ .free → x.1 < y.1 ∧ (x.2.2.2 ≠ .dep → behind (reach ops) y.1 x.1 = true) := by
        intro i j x y hij hx hy hyf
        have h1 := ordQ_spec hord i j (x.1, x.2.2.2) (y.1, y.2.2.2) hij (by rw [← hmap]; simp [hx]) (by rw [← hmap]; simp [hy]) hyf
        refine ⟨h1.1, fun hd => ?_⟩
        have h2 := h1.2 hd
        have hyk := hck j y hy
        rw [hb0, List.getD_eq_getElem?_getD, List.getElem?_take_of_lt hyk, ← List.getD_eq_getElem?_getD] at h2
        exact h2
      have hsatL : ∀ us c Tl, (∀ d v, look Tl d = some v → ∃ (j : Nat) (x : CE), j < c ∧ ch[j]? = some x ∧ x.2.1.d = some d ∧ v = us j) → ∀ T0 m, m ≤ k → (∀ (j : Nat) (x : CE), j < c → ch[j]? = some x → x.1 < m) → Sat n T0 (runA ops (vs us) 0 m a) → Sat n (Tl ++ T0) (runA ops (vs us) 0 m a) := by
        intro us c Tl htl T0 m hmk hpos h0
        refine ⟨h0.size, h0.defers, fun i v hv => ?_⟩
        rw [look_app] at hv
        cases e : look Tl i with
        | none => rw [e] at hv; exact h0.get i v hv
        | some v' =>
          rw [e] at hv
          obtain rfl := Option.some.inj hv
          obtain ⟨j, x, hj, hx, hd, rfl⟩ := htl i _ e
          rw [← hvh us j x hx]
          exact hslot us _ (hci j x hx) i hd m (hpos j x hj hx) hmk
      have hdepg : ∀ {j : Nat} (x : CE), ch[j]? = some x → x.2.2.2 = .dep → x.2.1.g = none := by
        intro j x hx hk
        have := List.all_eq_true.1 hkb x (List.mem_of_getElem? hx)
        rw [hk] at this
        simpa using this
      have hfree : ∀ {j : Nat} (x : CE), ch[j]? = some x → x.2.2.2 = .free → ∃ E z, x.2.1.o = .al E z ∧ x.2.1.g = none := by
        intro j x hx hk
        have := List.all_eq_true.1 hkb x (List.mem_of_getElem? hx)
        rw [hk] at this
        simp only [Bool.and_eq_true, Option.isNone_iff_eq_none] at this
        obtain ⟨h1, h2⟩ := this
        cases ho : x.2.1.o <;> rw [ho] at h2 <;> (first | cases h2 | skip)
        exact ⟨_, _, rfl, h1⟩
      -- ordered pairs
      have hpair : ∀ i j, i < j → j < ops.size → ∀ oi oj, ops[i]? = some oi → ops[j]? = some oj → behind (reach ops) j i = true ∨ oi.apart ops oj = true := by
        intro i j hij hj oi oj hoi hoj
        have := List.all_eq_true.1 (List.all_eq_true.1 hap j (List.mem_range.2 hj)) i (List.mem_range.2 hij)
        simpa [hoi, hoj] using this
      have htail : ∀ t i, k ≤ t → t < ops.size → i < t → i ∉ Hs → behind (reach ops) t i = true := by
        intro t i hkt ht hi hnH
        have := List.all_eq_true.1 hhead t (List.mem_range.2 ht)
        simp only [Bool.or_eq_true, decide_eq_true_eq] at this
        rcases this with h | h
        · omega
        · have := List.all_eq_true.1 h i (List.mem_range.2 hi)
          simpa [hnH] using this
      have hreadyX : ∀ (listed : Array Bool) i, (∀ j o, ops[j]? = some o → listed.getD j true = true → ∀ e ∈ o.after, Region.binds .any e = true → listed.getD e.on true = true) → i ∈ Region.ready .any ops listed →
          ∀ j, j < ops.size → behind (reach ops) i j = true → j ≠ i → listed.getD j true = true := by
        intro listed i hcl hi j hj hb hne
        obtain ⟨hun, o, ho, hall⟩ := mem_ready.1 hi
        have hX : Closed ops (fun x => listed.getD x true = true ∨ x = i) := by
          rintro x ox hox (hx | rfl) e he hbd
          · exact .inl (hcl x ox hox hx e he hbd)
          · obtain rfl : o = ox := by rw [ho] at hox; exact Option.some.inj hox
            have := hall e he hbd
            left
            cases hlt : listed[e.on]? with
            | none => simp [hlt] at this
            | some b => simpa [hlt] using this
        rcases behind_spec hX (Array.getElem?_eq_some_iff.1 ho).1 hb (.inr rfl) with h | h
        · exact h
        · exact absurd h hne
      have horder : ∀ (listed : Array Bool) i o, (∀ j o, ops[j]? = some o → listed.getD j true = true → ∀ e ∈ o.after, Region.binds .any e = true → listed.getD e.on true = true) → i ∈ Region.ready .any ops listed → ops[i]? = some o → i < k →
          ∀ x, (x ∈ o.looksAt ops ∨ o.dst = some x) → ∀ j, j < k → j ≠ i → dstAt ops j = some x → decide (j < i) = listed.getD j true := by
        intro listed i o hcl hi ho hik x hx j hj hne hdj
        obtain ⟨hun, o', ho', hpre⟩ := mem_ready.1 hi
        have hilt : i < ops.size := (Array.getElem?_eq_some_iff.1 ho).1
        have hjlt : j < ops.size := by omega
        have hoj : ops[j]? = some ops[j] := by simp [hjlt]
        have hdj' : ops[j].dst = some x := by simpa [dstAt, hoj] using hdj
        rcases Nat.lt_or_gt_of_ne hne with h | h
        · rcases hpair j i h hilt _ _ hoj ho with hb' | hap'
          · rw [hreadyX listed i hcl hi j hjlt hb' hne]
            simp [h]
          · obtain ⟨e1, e2, e3⟩ := Oper.apart_spec hap'
            rcases hx with hx | hx
            · exact absurd hx (e1 x hdj')
            · exact absurd hx (e2 x hdj')
        · rcases hpair i j h hjlt _ _ ho hoj with hb' | hap'
          · have hnl : listed.getD j true = false := by
              cases hlj : listed.getD j true with
              | false => rfl
              | true =>
                exfalso
                have hX : Closed ops (fun x => listed.getD x true = true) := fun x ox hox hx e he hbd => hcl x ox hox hx e he hbd
                have := behind_spec hX hjlt hb' hlj
                rw [hun] at this
                cases this
            rw [hnl]
            simp; omega
          · obtain ⟨e1, e2, e3⟩ := Oper.apart_spec hap'
            rcases hx with hx | hx
            · exact absurd hx (e3 x hdj')
            · exact absurd hdj' (e2 x hx)
      have hgetset : ∀ (listed : Array Bool) i, listed.size = ops.size → i < ops.size → (listed.setIfInBounds i true).getD i true = true := by
        intro listed i h1 h2
        have : i < listed.size := by omega
        simp [this]
      have hput : ∀ u (listed : Array Bool) i o, listed.size = ops.size → (∀ j o, ops[j]? = some o → listed.getD j true = true → ∀ e ∈ o.after, Region.binds .any e = true → listed.getD e.on true = true) → i ∈ Region.ready .any ops listed → ops[i]? = some o → i < k →
          (foldF ops (vs u) (fun j => listed.getD j true) k a).put o.dst (vs u i) = foldF ops (vs u) (fun j => (listed.setIfInBounds i true).getD j true) k a := by
        intro u listed i o hsz hcl hi ho hik
        have hilt : i < ops.size := (Array.getElem?_eq_some_iff.1 ho).1
        have hdo : dstOk n o.dst = true := hdst i o hik ho
        have hda : dstAt ops i = o.dst := by simp [dstAt, ho]
        have hgi := hgetset listed i hsz hilt
        have hgj : ∀ j, j ≠ i → (listed.setIfInBounds i true).getD j true = listed.getD j true := fun j hj => getD_set_ne true (Ne.symm hj)
        have szs : ∀ f, (foldF ops (vs u) f k a).tmps.size = a.tmps.size := fun f => (foldF_size ops (vs u) f k a).1
        have dfs : ∀ f, (foldF ops (vs u) f k a).defers = a.defers := fun f => (foldF_size ops (vs u) f k a).2
        refine act_ext ?_ ?_ fun x => ?_
        · cases o.dst <;> simp [Act.put, szs]
        · cases o.dst <;> simp [Act.put, dfs]
        · by_cases hx : o.dst = some x
          · have e1 : (foldF ops (vs u) (fun j => (listed.setIfInBounds i true).getD j true) k a).tmps[x]? = (foldF ops (vs u) (fun j => decide (j < i + 1)) k a).tmps[x]? := by
              refine foldF_agree ops (vs u) _ _ k a x fun j hj hdj => ?_
              by_cases e : j = i
              · subst e; rw [hgi]; simp
              · rw [hgj j e, ← horder listed i o hcl hi ho hik x (.inr hx) j hj e hdj]
                by_cases h : j < i
                · have : j < i + 1 := by omega
                  simp [h, this]
                · have : ¬ j < i + 1 := by omega
                  simp [h, this]
            rw [e1, foldF_runA ops (vs u) (i + 1) k a (by omega)]
            have e2 : runA ops (vs u) 0 (i + 1) a = (runA ops (vs u) 0 i a).put (dstAt ops i) (vs u i) := by
              simp [runA, List.range'_concat]
            rw [e2, hda, hx]
            simp only [Act.put]
            have hxn : x < a.tmps.size := by rw [hs.size]; simpa [dstOk, hx] using hdo
            have hsz1 : (runA ops (vs u) 0 i a).tmps.size = a.tmps.size := by rw [← foldF_runA ops (vs u) i k a (by omega)]; exact szs _
            rw [Array.getElem?_setIfInBounds_self_of_lt (by rw [szs]; exact hxn), Array.getElem?_setIfInBounds_self_of_lt (by rw [hsz1]; exact hxn)]
          · have e1 : (foldF ops (vs u) (fun j => (listed.setIfInBounds i true).getD j true) k a).tmps[x]? = (foldF ops (vs u) (fun j => listed.getD j true) k a).tmps[x]? := by
              refine foldF_agree ops (vs u) _ _ k a x fun j hj hdj => ?_
              by_cases e : j = i
              · subst e; rw [hda] at hdj; exact absurd hdj hx
              · exact hgj j e
            rw [e1]
            cases hd : o.dst with
            | none => rfl
            | some y =>
              have : y ≠ x := fun e => hx (by rw [hd, e])
              simp [Act.put, Array.getElem?_setIfInBounds_ne this]
      have hagree : ∀ u (listed : Array Bool) i o, (∀ j o, ops[j]? = some o → listed.getD j true = true → ∀ e ∈ o.after, Region.binds .any e = true → listed.getD e.on true = true) → i ∈ Region.ready .any ops listed → ops[i]? = some o → i < k →
          ∀ x, x ∈ o.looksAt ops → (runA ops (vs u) 0 i a).tmps[x]? = (foldF ops (vs u) (fun j => listed.getD j true) k a).tmps[x]? := by
        intro u listed i o hcl hi ho hik x hx
        rw [← foldF_runA ops (vs u) i k a (by omega)]
        refine foldF_agree ops (vs u) _ _ k a x fun j hj hdj => ?_
        by_cases e : j = i
        · subst e
          have hun := (mem_ready.1 hi).1
          rw [hun]; simp
        · exact horder listed i o hcl hi ho hik x (.inl hx) j hj e hdj
      have hclset : ∀ (listed : Array Bool) i o, listed.size = ops.size → (∀ j o, ops[j]? = some o → listed.getD j true = true → ∀ e ∈ o.after, Region.binds .any e = true → listed.getD e.on true = true) → i ∈ Region.ready .any ops listed → ops[i]? = some o →
          (∀ j o, ops[j]? = some o → (listed.setIfInBounds i true).getD j true = true → ∀ e ∈ o.after, Region.binds .any e = true → (listed.setIfInBounds i true).getD e.on true = true) := by
        intro listed i o hsz hcl hi ho j oj hoj hj e he hbd
        have hilt : i < ops.size := (Array.getElem?_eq_some_iff.1 ho).1
        obtain ⟨hun, o', ho', hpre⟩ := mem_ready.1 hi
        obtain rfl : o = o' := by rw [ho] at ho'; exact Option.some.inj ho'
        have hgj : ∀ j, j ≠ i → (listed.setIfInBounds i true).getD j true = listed.getD j true := fun j hj => getD_set_ne true (Ne.symm hj)
        by_cases e1 : e.on = i
        · rw [e1]; exact hgetset listed i hsz hilt
        · rw [hgj _ e1]
          by_cases e2 : j = i
          · subst e2
            obtain rfl : o = oj := by rw [ho] at hoj; exact Option.some.inj hoj
            have := hpre e he hbd
            cases hlt : listed[e.on]? with
            | none => simp [hlt] at this
            | some bb => simpa [hlt] using this
          · rw [hgj _ e2] at hj
            exact hcl j oj hoj hj e he hbd
      have hcntset : ∀ (listed : Array Bool) i, listed.size = ops.size → i ∈ Region.ready .any ops listed → i < ops.size → cnt (fun j => listed.getD j true) ops.size = cnt (fun j => (listed.setIfInBounds i true).getD j true) ops.size + 1 := by
        intro listed i hsz hi hilt
        have := cnt_set (f := fun j => listed.getD j true) (g := fun j => (listed.setIfInBounds i true).getD j true) (i := i) (mem_ready.1 hi).1 (hgetset listed i hsz hilt) (fun j hj => getD_set_ne true (Ne.symm hj)) ops.size
        simpa [hilt] using this
      refine wp_mono (Q := fun e a' w' => e = .normal ∧ ∃ T' S', Sat n T' a' ∧ Rep w0 S' w' ∧ Q e T' S') ?_ (fun e a' w' h => h.2)
      refine wp_region_any hm ?_
      have key : ∀ (fuel : Nat) (listed : Array Bool) (b : Act) (w' : World), listed.size = ops.size →
          (∀ j o, ops[j]? = some o → listed.getD j true = true → ∀ e ∈ o.after, Region.binds .any e = true → listed.getD e.on true = true) → (∀ i ∈ Hs, listed.getD i true = true) →
          (∀ t, k ≤ t → t < ops.size → listed.getD t true = false) → (∃ u Sx Tl c js, PhG P w0 n base (fun Tl S' => OL P w0 n (l'.drop k) (Tl ++ T2) S' (Q .normal)) ch (fun j => listed.getD j true) u Sx Tl c js ∧ Cur ch c js ∧ b = foldF ops (vs u) (fun j => listed.getD j true) k a ∧ Rep w0 (js.map (fseg ch u) ++ Sx) w') → cnt (fun j => listed.getD j true) ops.size = fuel →
          wpAny P .any ops (fun e a' w' => e = .normal ∧ ∃ T' S', Sat n T' a' ∧ Rep w0 S' w' ∧ Q e T' S') fuel listed b w' := by
        intro fuel
        induction fuel with
        | zero =>
          intro listed b w' hsz hcl hHl htl ⟨u, Sx, Tl, c, js, hph, hcur, hb, hr'⟩ hcnt
          have hall : ∀ j, j < ops.size → listed.getD j true = true := by
            intro j hj
            cases hx : listed.getD j true with
            | true => rfl
            | false =>
              exfalso
              have : ∀ m, j < m → 0 < cnt (fun j => listed.getD j true) m := by
                intro m
                induction m with
                | zero => intro h; omega
                | succ m ih =>
                  intro h
                  simp only [cnt]
                  by_cases e : j = m
                  · subst e; simp [hx]
                  · have := ih (by omega); omega
              have := this ops.size hj
              omega
          have hcl2 : c = ch.length := by
            have := hph.le
            rcases Nat.lt_or_ge c ch.length with h | h
            · have he : ch[c]? = some ch[c] := List.getElem?_eq_getElem h
              have hl1 := hall ch[c].1 (by have := hck c _ he; omega)
              rcases hcur _ he with h1 | ⟨h1, h2⟩
              · have := (hph.loud c _ he h1).1 hl1
                omega
              · rcases (hph.free c _ he h1).1 hl1 with h3 | h3
                · omega
                · exact absurd h3 h2
            · omega
          have hjs0 : js = [] := by
            cases hj : js with
            | nil => rfl
            | cons j0 r0 =>
              exfalso
              have hm : j0 ∈ js := by rw [hj]; simp
              have h1 := hph.jge j0 hm
              obtain ⟨y, _, h2, _⟩ := hph.jfr j0 hm
              have := (List.getElem?_eq_some_iff.1 h2).1
              omega
          rw [hjs0] at hr'
          have hr' : Rep w0 Sx w' := hr'
          have hfin : OL P w0 n (l'.drop k) (Tl ++ T2) Sx (Q .normal) := by
            have := hph.lc
            rw [hcl2, List.drop_length] at this
            exact this
          have hsat' : Sat n (Tl ++ T2) (runA ops (vs u) 0 k a) := hsatL u c Tl hph.tl T2 k (Nat.le_refl _) (fun j x _ hx => hck j x hx) (htr u).1
          have hkeq : k = ops.size := by
            rcases Nat.lt_or_ge k ops.size with h | h
            · have h1 := htl k (Nat.le_refl _) h
              have h2 := hall k h
              rw [h1] at h2
              cases h2
            · omega
          have hbt : b = runA ops (vs u) 0 k a := by
            rw [hb, ← foldF_runA ops (vs u) k k a (Nat.le_refl _)]
            unfold foldF
            refine foldl_ext' _ _ _ _ fun b j hj => ?_
            have hj' := List.mem_range.1 hj
            simp [hall j (by omega), hj']
          refine ⟨?_, ?_⟩
          · unfold Region.ready
            rw [List.filter_eq_nil_iff]
            intro i hi
            rw [hall i (List.mem_range.1 hi)]
            simp
          · have := hfin ops [] b w' (fun e a' w' => e = .normal ∧ ∃ T' S', Sat n T' a' ∧ Rep w0 S' w' ∧ Q e T' S') (by
              rw [hkeq, Nat.sub_self] at hc2
              rw [hkeq]
              simpa using hc2) (hbt ▸ hsat') hr' (fun a' w' T' S' h3 h4 h5 => ⟨rfl, T', S', h3, h4, h5⟩)
            simpa [wpOps] using this
        | succ fuel ih =>
          intro listed b w' hsz hcl hHl htl ⟨u, Sx, Tl, c, js, hph, hcur, hb, hr'⟩ hcnt
          by_cases hall : ∀ j, j < k → listed.getD j true = true
          · -- the head is done
            have hcl2 : c = ch.length := by
              have := hph.le
              rcases Nat.lt_or_ge c ch.length with h | h
              · have he : ch[c]? = some ch[c] := List.getElem?_eq_getElem h
                have hl1 := hall ch[c].1 (hck c _ he)
                rcases hcur _ he with h1 | ⟨h1, h2⟩
                · have := (hph.loud c _ he h1).1 hl1
                  omega
                · rcases (hph.free c _ he h1).1 hl1 with h3 | h3
                  · omega
                  · exact absurd h3 h2
              · omega
            have hjs0 : js = [] := by
              cases hj : js with
              | nil => rfl
              | cons j0 r0 =>
                exfalso
                have hm : j0 ∈ js := by rw [hj]; simp
                have h1 := hph.jge j0 hm
                obtain ⟨y, _, h2, _⟩ := hph.jfr j0 hm
                have := (List.getElem?_eq_some_iff.1 h2).1
                omega
            rw [hjs0] at hr'
            have hr' : Rep w0 Sx w' := hr'
            have hfin : OL P w0 n (l'.drop k) (Tl ++ T2) Sx (Q .normal) := by
              have := hph.lc
              rw [hcl2, List.drop_length] at this
              exact this
            have hsat' : Sat n (Tl ++ T2) (runA ops (vs u) 0 k a) := hsatL u c Tl hph.tl T2 k (Nat.le_refl _) (fun j x _ hx => hck j x hx) (htr u).1
            have hexact : ∀ j, j < ops.size → listed.getD j true = decide (j < k) := by
              intro j hj
              by_cases h : j < k
              · rw [hall j h]; simp [h]
              · rw [htl j (by omega) hj]; simp [h]
            have hbt : b = runA ops (vs u) 0 k a := by
              rw [hb, ← foldF_runA ops (vs u) k k a (Nat.le_refl _)]
              unfold foldF
              refine foldl_ext' _ _ _ _ fun b j hj => ?_
              have hj' := List.mem_range.1 hj
              simp [hall j hj', hj']
            have hfuel : fuel + 1 = ops.size - k := by
              rw [← hcnt, cnt_congr ops.size hexact, cnt_below]
            rw [hfuel]
            have htl2 : ∀ listed' : Array Bool, ∀ t s', k ≤ s' → s' < t → t < ops.size → (∀ j, j < ops.size → listed'.getD j true = decide (j < s')) → listed'.size = ops.size → t ∉ Region.ready .any ops listed' := by
              intro l'' t s' h1 h2 h3 h4 h5 hmem
              have := hreadyX l'' t (fun j o ho hj e he hbd => by
                have hlt := backB_spec hback ho he hbd
                have hjs : j < ops.size := (Array.getElem?_eq_some_iff.1 ho).1
                rw [h4 j hjs] at hj
                rw [h4 e.on (by omega)]
                simp only [decide_eq_true_eq] at hj ⊢
                omega) hmem s' (by omega) (htail t s' (by omega) h3 h2 (fun hm' => by have := hHk s' hm'; omega)) (by omega)
              rw [h4 s' (by omega)] at this
              simp at this
            refine wpAny_tail hback (ops.size - k) k listed b w' (by omega) hsz hexact (fun t i h1 h2 h3 h4 h5 => htl2 listed t k (Nat.le_refl _) h1 h2 hexact hsz) htl2 ?_
            exact hfin ops _ b w' _ hc2 (hbt ▸ hsat') hr' (fun a' w' T' S' h3 h4 h5 => ⟨rfl, T', S', h3, h4, h5⟩)
          · refine ⟨fun h0 => ?_, fun i hi => ?_⟩
            · exfalso
              obtain ⟨i, hi1, hi2, hi3⟩ := cnt_pos ops.size (by rw [hcnt]; omega : 0 < cnt (fun j => listed.getD j true) ops.size)
              have : i ∈ Region.ready .any ops listed := by
                rw [mem_ready]
                refine ⟨hi2, ops[i], by simp [hi1], fun e he hbd => ?_⟩
                have hlt := backB_spec hback (show ops[i]? = some ops[i] by simp [hi1]) he hbd
                have h3 := hi3 e.on hlt
                have : e.on < listed.size := by omega
                simpa [this] using h3
              rw [h0] at this
              simp at this
            · have hmem := mem_ready.1 hi
              obtain ⟨hun, o, ho, hpre⟩ := hmem
              have hilt : i < ops.size := (Array.getElem?_eq_some_iff.1 ho).1
              have hik : i < k := by
                rcases Nat.lt_or_ge i k with h | h
                · exact h
                · exfalso
                  refine hall fun j hj => ?_
                  by_cases hjH : j ∈ Hs
                  · exact hHl j hjH
                  · exact hreadyX listed i hcl hi j (by omega) (htail i j h hilt (by omega) hjH) (by omega)
              have hdo : dstOk n o.dst = true := hdst i o hik ho
              have hagree' := hagree u listed i o hcl hi ho hik
              rw [← hb] at hagree'
              have hev : execOp (runA ops (vs u) 0 i a).eval o = execOp b.eval o :=
                execOp_congr o (fun cs bb hh => Region.noSelect_spec hsel i o cs bb ho hh) fun x hx => eval_agree fun t ht => hagree' t (looks_op (ht ▸ hx))
              have hwan := wanted_agree (ops := ops) (o := o) (a := runA ops (vs u) 0 i a) (b := b) hagree'
              have hgj : ∀ j, j ≠ i → (listed.setIfInBounds i true).getD j true = listed.getD j true := fun j hj => getD_set_ne true (Ne.symm hj)
              have hnext : ∀ u2 S2 Tl2 c2 js2 w'' b2, PhG P w0 n base (fun Tl S' => OL P w0 n (l'.drop k) (Tl ++ T2) S' (Q .normal)) ch (fun j => (listed.setIfInBounds i true).getD j true) u2 S2 Tl2 c2 js2 → b2 = foldF ops (vs u2) (fun j => (listed.setIfInBounds i true).getD j true) k a → Rep w0 (js2.map (fseg ch u2) ++ S2) w'' → wpAny P .any ops (fun e a' w' => e = .normal ∧ ∃ T' S', Sat n T' a' ∧ Rep w0 S' w' ∧ Q e T' S') fuel (listed.setIfInBounds i true) b2 w'' := by
                intro u2 S2 Tl2 c2 js2 w'' b2 hp2 hb2 hr''
                obtain ⟨u3, S3, Tl3, c3, js3, hp3, hcur3, hr3, hag3⟩ := PhG.advance (ch.length - c2) (Nat.le_refl _) hp2 hr''
                refine ih _ _ w'' (by simpa using hsz) (hclset listed i o hsz hcl hi ho) ?_ ?_ ⟨u3, S3, Tl3, c3, js3, hp3, hcur3, ?_, hr3⟩ ?_
                · intro j hj
                  by_cases e : j = i
                  · subst e; exact hgetset listed j hsz hilt
                  · rw [hgj j e]; exact hHl j hj
                · intro t h3 h4'
                  rw [hgj t (by omega)]
                  exact htl t h3 h4'
                · rw [hb2]
                  unfold foldF
                  refine foldl_ext' _ _ _ _ fun b j hj => ?_
                  by_cases hjl : (listed.setIfInBounds i true).getD j true = true
                  · have : vs u2 j = vs u3 j := by
                      rcases hholes j with ⟨jy, y, hjy, rfl⟩ | hq0
                      · rw [hvh _ jy y hjy, hvh _ jy y hjy]
                        exact (hag3 jy y hjy hjl).symm
                      · rw [hvq _ _ hq0, hvq _ _ hq0]
                    rw [this]
                  · simp [hjl]
                · have := hcntset listed i hsz hi hilt
                  omega
              have hsz1 : (runA ops (vs u) 0 i a).tmps.size = n := by rw [← foldF_runA ops (vs u) i k a (by omega), (foldF_size ops (vs u) _ k a).1, hs.size]
              have hsz2 : b.tmps.size = n := by rw [hb, (foldF_size ops (vs u) _ k a).1, hs.size]
              have hdf : (runA ops (vs u) 0 i a).defers = [] := by rw [← foldF_runA ops (vs u) i k a (by omega), (foldF_size ops (vs u) _ k a).2, hs.defers]
              have hputu := fun u2 => hput u2 listed i o hsz hcl hi ho hik
              unfold wpOp
              simp only [ho]
              rcases hholes i with ⟨jx, x, hjx, hxi⟩ | hip
              · subst hxi
                have hxm := hci jx x hjx
                have hxk := hck jx x hjx
                have hwait : x.2.2.2 ≠ .free → jx ≤ c := by
                  intro hnf
                  rcases Nat.lt_or_ge c jx with h | h
                  · exfalso
                    have hclt : c < ch.length := Nat.lt_trans h (List.getElem?_eq_some_iff.1 hjx).1
                    have hcx : ch[c]? = some ch[c] := List.getElem?_eq_getElem hclt
                    have hc3 := hcur _ hcx
                    have hnd : ch[c].2.2.2 ≠ .dep := by rcases hc3 with h1 | ⟨h1, _⟩ <;> rw [h1] <;> simp
                    have h1 := hordc c jx _ x h hcx hjx hnf
                    have h2 := hreadyX listed x.1 hcl hi ch[c].1 (by have := hck c _ hcx; omega) (h1.2 hnd) (by have := h1.1; omega)
                    rcases hc3 with h3 | ⟨h3, h4⟩
                    · have := (hph.loud c _ hcx h3).1 h2
                      omega
                    · rcases (hph.free c _ hcx h3).1 h2 with h5 | h5
                      · omega
                      · exact h4 h5
                  · exact h
                obtain ⟨oc, hoc, hpoc, hdstc, hgdc⟩ := cIs_pos hc1 hxk (hqi _ hxm).2.2
                obtain rfl : oc = o := by rw [hoc] at ho; exact Option.some.inj ho
                have hwt0 : x.2.1.g = none → Region.wanted oc (yielded ops b.tmps) = true := by
                  intro hcg
                  rcases hgdc with ⟨hgn, _⟩ | ⟨j, b', s', hgn, hj, he⟩
                  · simp [Region.wanted, hgn]
                  · rw [hcg] at he; cases he
                have hT := (htr u).2.2.1 _ hxm
                cases hkd : x.2.2.2 with
                | loud =>
                  have hjc : jx = c := by
                    have h1 := hwait (by rw [hkd]; simp)
                    rcases Nat.lt_or_ge jx c with h | h
                    · have this : listed.getD x.1 true = true := (hph.loud jx x hjx hkd).2 h
                      rw [hun] at this
                      cases this
                    · omega
                  subst hjc
                  have hLC := hph.lc
                  rw [drop_at hjx] at hLC
                  obtain ⟨xi, xc, xT, xk⟩ := x
                  simp only at hkd
                  subst hkd
                  obtain ⟨hcg, hOW⟩ := hLC
                  rw [if_pos (hwt0 hcg)]
                  left
                  have hsC := hsatL u jx Tl hph.tl xT xi (by simp only at hxk; omega) (fun j y hj hy => (hordc j jx y _ hj hy hjx (by simp)).1) hT
                  have hl2 := hOW (js.map (fseg ch u)) oc _ w' (fun _ _ _ => False) hpoc hsC hr'
                  refine Oper.wp_mono ?_ (wp_transfer_any hev (by rw [hsz1, hsz2]) (by rw [hsz1]; exact hdo) hdf hl2)
                  rintro b' w'' ⟨v2, S2, rfl, hr2, S1, hperm, hss2, hk2⟩
                  let us' : Nat → Value := fun j => if j = jx then v2 else u j
                  have hag : ∀ j, j ≠ jx → us' j = u j := fun j hj => by simp only [us']; rw [if_neg hj]
                  have hjs : ∀ j ∈ js, us' j = u j := fun j hj => hag j fun e => by
                    obtain ⟨y, rr, h1, h2, _⟩ := hph.jfr j hj
                    rw [e, hjx] at h1; obtain rfl := Option.some.inj h1; cases h2
                  have hjC : jx ∉ js := fun hj => by
                    obtain ⟨y, rr, h1, h2, _⟩ := hph.jfr jx hj
                    rw [hjx] at h1; obtain rfl := Option.some.inj h1; cases h2
                  let x : CE := (xi, xc, xT, .loud)
                  have hjx : ch[jx]? = some x := hjx
                  have hlst : ∀ (j : Nat) (y : CE), ch[j]? = some y → j ≠ jx → (listed.setIfInBounds x.1 true).getD y.1 true = listed.getD y.1 true := by
                    intro j y hy hne
                    refine hgj _ fun e => hne ?_
                    have h1 := hcix j y hy
                    rw [e, hcix jx x hjx] at h1
                    exact (Option.some.inj h1).symm
                  refine hnext us' S1 (put xc.d v2 Tl) (jx + 1) js w'' _ ⟨(List.getElem?_eq_some_iff.1 hjx).1, ?_, ?_, ?_, ?_, hph.jnd, ?_, hk2, hss2, ?_, ?_⟩ ?_ (by rw [fseg_congr hjs]; exact hr2.permS hperm.symm)
                  · intro j y hy hk
                    by_cases e : j = jx
                    · subst e
                      obtain rfl : x = y := by rw [hjx] at hy; exact Option.some.inj hy
                      simp [x, hgetset listed _ hsz hilt]
                    · show (listed.setIfInBounds x.1 true).getD y.1 true = true ↔ _
                      rw [hlst j y hy e]
                      have := hph.loud j y hy hk
                      exact this.trans (by omega)
                  · intro j y hy hk
                    have e : j ≠ jx := by rintro rfl; rw [hjx] at hy; obtain rfl := Option.some.inj hy; cases hk
                    show (listed.setIfInBounds x.1 true).getD y.1 true = true ↔ _
                    rw [hlst j y hy e]
                    have := hph.free j y hy hk
                    refine this.trans ⟨fun h => h.imp (fun h => by omega) (fun h => h), fun h => h.imp (fun h => by omega) (fun h => h)⟩
                  · intro j y hy hk hl
                    have e : j ≠ jx := by rintro rfl; rw [hjx] at hy; obtain rfl := Option.some.inj hy; cases hk
                    have hl : (listed.setIfInBounds x.1 true).getD y.1 true = true := hl
                    rw [hlst j y hy e] at hl
                    have := hph.dep j y hy hk hl
                    omega
                  · intro j hj
                    have h1 := hph.jge j hj
                    have : j ≠ jx := fun e => hjC (e ▸ hj)
                    omega
                  · intro j hj
                    obtain ⟨y, rr, h1, h2, h3⟩ := hph.jfr j hj
                    exact ⟨y, rr, h1, h2, by rw [hjs j hj]; exact h3⟩
                  · have := put_tl (us' := us') hjx (fun j hj => hag j (by omega)) hph.tl
                    rw [show us' jx = v2 by simp [us']] at this
                    exact this
                  · intro j y hj hy hk
                    have e : j ≠ jx := by rintro rfl; rw [hjx] at hy; obtain rfl := Option.some.inj hy; cases hk
                    exact deps_mono (fun j hj => hag j (by omega)) hph.deps j y (by omega) hy hk
                  · have h7 := hputu us'
                    have h8 : vs us' x.1 = v2 := by rw [hvh _ jx x hjx]; simp [us']
                    rw [h8] at h7
                    rw [← h7, hb]
                    congr 1
                    unfold foldF
                    refine foldl_ext' _ _ _ _ fun b j hj => ?_
                    by_cases hjl : listed.getD j true = true
                    · have : vs u j = vs us' j := by
                        rcases hholes j with ⟨jy, y, hjy, rfl⟩ | hq0
                        · rw [hvh _ jy y hjy, hvh _ jy y hjy]
                          simp only [us']
                          rw [if_neg]
                          rintro rfl
                          rw [hjx] at hjy
                          obtain rfl := Option.some.inj hjy
                          rw [hun] at hjl
                          cases hjl
                        · rw [hvq _ _ hq0, hvq _ _ hq0]
                      rw [this]
                    · simp [hjl]
                | dep =>
                  have hjc : jx < c := by
                    have h1 := hwait (by rw [hkd]; simp)
                    rcases Nat.lt_or_ge jx c with h | h
                    · exact h
                    · obtain rfl : jx = c := by omega
                      rcases hcur x hjx with h3 | ⟨h3, _⟩ <;> rw [hkd] at h3 <;> cases h3
                  obtain ⟨Tl', htl', hval⟩ := hph.deps jx x hjc hjx hkd
                  have hcg : x.2.1.g = none := hdepg _ hjx hkd
                  rw [if_pos (hwt0 hcg)]
                  left
                  have hsC := hsatL u jx Tl' htl' x.2.2.1 x.1 (by omega) (fun j y hj hy => (hordc j jx y x hj hy hjx (by rw [hkd]; simp)).1) hT
                  have hl2 := (OW.of_yields (P := P) (w0 := w0) (n := n) (S := js.map (fseg ch u) ++ Sx) (Yields.pure hval)) oc _ w' (fun _ _ _ => False) hpoc hsC hr'
                  refine Oper.wp_mono ?_ (wp_transfer_any hev (by rw [hsz1, hsz2]) (by rw [hsz1]; exact hdo) hdf hl2)
                  rintro b' w'' ⟨v2, S2, rfl, hr2, rfl, rfl⟩
                  have hlst : ∀ (j : Nat) (y : CE), ch[j]? = some y → j ≠ jx → (listed.setIfInBounds x.1 true).getD y.1 true = listed.getD y.1 true := by
                    intro j y hy hne
                    refine hgj _ fun e => hne ?_
                    have h1 := hcix j y hy
                    rw [e, hcix jx x hjx] at h1
                    exact (Option.some.inj h1).symm
                  refine hnext u Sx Tl c js w'' _ ⟨hph.le, ?_, ?_, ?_, hph.jge, hph.jnd, hph.jfr, hph.lc, hph.ss, hph.tl, hph.deps⟩ ?_ hr2
                  · intro j y hy hk
                    have e : j ≠ jx := by rintro rfl; rw [hjx] at hy; obtain rfl := Option.some.inj hy; rw [hkd] at hk; cases hk
                    show (listed.setIfInBounds x.1 true).getD y.1 true = true ↔ _
                    rw [hlst j y hy e]
                    exact hph.loud j y hy hk
                  · intro j y hy hk
                    have e : j ≠ jx := by rintro rfl; rw [hjx] at hy; obtain rfl := Option.some.inj hy; rw [hkd] at hk; cases hk
                    show (listed.setIfInBounds x.1 true).getD y.1 true = true ↔ _
                    rw [hlst j y hy e]
                    exact hph.free j y hy hk
                  · intro j y hy hk hl
                    by_cases e : j = jx
                    · rw [e]; exact hjc
                    · have hl : (listed.setIfInBounds x.1 true).getD y.1 true = true := hl
                      rw [hlst j y hy e] at hl
                      exact hph.dep j y hy hk hl
                  · have h7 := hputu u
                    rw [hvh _ jx x hjx] at h7
                    rw [hb]; exact h7
                | free =>
                  have hcj : c ≤ jx ∧ jx ∉ js := by
                    have h1 := hph.free jx x hjx hkd
                    simp only [hun, Bool.false_eq_true, false_iff, not_or] at h1
                    exact ⟨by omega, h1.2⟩
                  obtain ⟨E, z, ho2, hcg⟩ : ∃ E z, x.2.1.o = .al E z ∧ x.2.1.g = none := hfree _ hjx hkd
                  rw [if_pos (hwt0 hcg)]
                  left
                  rw [ho2] at hpoc
                  have hl2 := (OW.al (P := P) (w0 := w0) (n := n) (T := x.2.2.1) (S := js.map (fseg ch u) ++ Sx) (E := E) (zero := z)) oc _ w' (fun _ _ _ => False) hpoc hT hr'
                  refine Oper.wp_mono ?_ (wp_transfer_any hev (by rw [hsz1, hsz2]) (by rw [hsz1]; exact hdo) hdf hl2)
                  rintro b' w'' ⟨v2, S2, rfl, hr2, rr, rfl, rfl⟩
                  let us' : Nat → Value := fun j => if j = jx then .pointer (some ⟨rr, 0, none⟩) else u j
                  have hag : ∀ j, j ≠ jx → us' j = u j := fun j hj => by simp only [us']; rw [if_neg hj]
                  have hjs : ∀ j ∈ js, us' j = u j := fun j hj => hag j fun e => hcj.2 (e ▸ hj)
                  have hujx : us' jx = .pointer (some ⟨rr, 0, none⟩) := by simp [us']
                  have hlst : ∀ (j : Nat) (y : CE), ch[j]? = some y → j ≠ jx → (listed.setIfInBounds x.1 true).getD y.1 true = listed.getD y.1 true := by
                    intro j y hy hne
                    refine hgj _ fun e => hne ?_
                    have h1 := hcix j y hy
                    rw [e, hcix jx x hjx] at h1
                    exact (Option.some.inj h1).symm
                  have hfo : (foldF ops (vs u) (fun j => listed.getD j true) k a).put oc.dst (.pointer (some ⟨rr, 0, none⟩)) = foldF ops (vs us') (fun j => (listed.setIfInBounds x.1 true).getD j true) k a := by
                    have h7 := hputu us'
                    rw [hvh _ jx x hjx, hujx] at h7
                    rw [← h7]
                    congr 1
                    unfold foldF
                    refine foldl_ext' _ _ _ _ fun b j hj => ?_
                    by_cases hjl : listed.getD j true = true
                    · have : vs u j = vs us' j := by
                        rcases hholes j with ⟨jy, y, hjy, rfl⟩ | hq0
                        · rw [hvh _ jy y hjy, hvh _ jy y hjy]
                          refine (hag jy ?_).symm
                          rintro rfl
                          rw [hjx] at hjy
                          obtain rfl := Option.some.inj hjy
                          rw [hun] at hjl
                          cases hjl
                        · rw [hvq _ _ hq0, hvq _ _ hq0]
                      rw [this]
                    · simp [hjl]
                  have hL : ∀ (cc : Nat), cc ≤ jx → ∀ j y, ch[j]? = some y → y.2.2.2 = .loud → ((listed.setIfInBounds x.1 true).getD y.1 true = true ↔ j < c) := by
                    intro cc _ j y hy hk
                    have e : j ≠ jx := by rintro rfl; rw [hjx] at hy; obtain rfl := Option.some.inj hy; rw [hkd] at hk; cases hk
                    rw [hlst j y hy e]
                    exact hph.loud j y hy hk
                  have hD : ∀ j y, ch[j]? = some y → y.2.2.2 = .dep → (listed.setIfInBounds x.1 true).getD y.1 true = true → j < c := by
                    intro j y hy hk hl
                    have e : j ≠ jx := by rintro rfl; rw [hjx] at hy; obtain rfl := Option.some.inj hy; rw [hkd] at hk; cases hk
                    rw [hlst j y hy e] at hl
                    exact hph.dep j y hy hk hl
                  by_cases hjc : jx = c
                  · subst hjc
                    have hLC := hph.lc
                    rw [drop_at hjx] at hLC
                    have hrest : LCF P w0 n base (fun Tl S' => OL P w0 n (l'.drop k) (Tl ++ T2) S' (Q .normal)) (ch.drop (jx + 1)) (put x.2.1.d (.pointer (some ⟨rr, 0, none⟩)) Tl) ([(rr, .cells z E z.length)] :: Sx) := by
                      obtain ⟨xi, xc, xT, xk⟩ := x
                      simp only at hkd
                      subst hkd
                      obtain ⟨_, E', z', ho3, hr3⟩ := hLC
                      simp only at ho2
                      rw [ho2] at ho3
                      cases ho3
                      exact hr3 rr
                    refine hnext us' ([(rr, .cells z E z.length)] :: Sx) (put x.2.1.d (.pointer (some ⟨rr, 0, none⟩)) Tl) (jx + 1) js w'' _ ⟨(List.getElem?_eq_some_iff.1 hjx).1, ?_, ?_, fun j y hy hk hl => by have := hD j y hy hk hl; omega, ?_, hph.jnd, ?_, hrest, hph.ss.cons, ?_, ?_⟩ (by rw [hb]; exact hfo) ?_
                    · intro j y hy hk
                      refine (hL jx (Nat.le_refl _) j y hy hk).trans ⟨fun h => by omega, fun h => ?_⟩
                      rcases Nat.lt_or_ge j jx with h3 | h3
                      · exact h3
                      · obtain rfl : j = jx := by omega
                        rw [hjx] at hy; obtain rfl := Option.some.inj hy; rw [hkd] at hk; cases hk
                    · intro j y hy hk
                      by_cases e : j = jx
                      · subst e
                        obtain rfl : x = y := by rw [hjx] at hy; exact Option.some.inj hy
                        simp [hgetset listed _ hsz hilt]
                      · show (listed.setIfInBounds x.1 true).getD y.1 true = true ↔ _
                        rw [hlst j y hy e]
                        have := hph.free j y hy hk
                        exact this.trans ⟨fun h => h.imp (fun h => by omega) (fun h => h), fun h => h.imp (fun h => by omega) (fun h => h)⟩
                    · intro j hj
                      have h1 := hph.jge j hj
                      have : j ≠ jx := fun e => hcj.2 (e ▸ hj)
                      omega
                    · intro j hj
                      obtain ⟨y, r3, h1, h2, h3⟩ := hph.jfr j hj
                      exact ⟨y, r3, h1, h2, by rw [hjs j hj]; exact h3⟩
                    · have := put_tl (us' := us') hjx (fun j hj => hag j (by omega)) hph.tl
                      rw [hujx] at this
                      exact this
                    · intro j y hj hy hk
                      have e : j ≠ jx := by rintro rfl; rw [hjx] at hy; obtain rfl := Option.some.inj hy; rw [hkd] at hk; cases hk
                      exact deps_mono (fun j hj => hag j (by omega)) hph.deps j y (by omega) hy hk
                    · rw [fseg_congr hjs]
                      exact hr2.permS (List.perm_middle (a := [(rr, AO.cells z E z.length)]) (l₁ := js.map (fseg ch u)) (l₂ := Sx)).symm
                  · have hjc2 : c < jx := by omega
                    refine hnext us' Sx Tl c (jx :: js) w'' _ ⟨hph.le, hL c hcj.1, ?_, hD, ?_, List.nodup_cons.2 ⟨hcj.2, hph.jnd⟩, ?_, hph.lc, hph.ss, ?_, ?_⟩ (by rw [hb]; exact hfo) ?_
                    · intro j y hy hk
                      by_cases e : j = jx
                      · subst e
                        obtain rfl : x = y := by rw [hjx] at hy; exact Option.some.inj hy
                        simp [hgetset listed _ hsz hilt]
                      · show (listed.setIfInBounds x.1 true).getD y.1 true = true ↔ _
                        rw [hlst j y hy e]
                        have := hph.free j y hy hk
                        exact this.trans ⟨fun h => h.imp (fun h => h) (fun h => List.mem_cons_of_mem _ h), fun h => h.imp (fun h => h) (fun h => (List.mem_cons.1 h).resolve_left e)⟩
                    · intro j hj
                      rcases List.mem_cons.1 hj with rfl | hj
                      · exact hcj.1
                      · exact hph.jge j hj
                    · intro j hj
                      rcases List.mem_cons.1 hj with rfl | hj
                      · exact ⟨x, rr, hjx, hkd, hujx⟩
                      · obtain ⟨y, r3, h1, h2, h3⟩ := hph.jfr j hj
                        exact ⟨y, r3, h1, h2, by rw [hjs j hj]; exact h3⟩
                    · intro d v hv
                      obtain ⟨j, y, g1, g2, g3, g4⟩ := hph.tl d v hv
                      exact ⟨j, y, g1, g2, g3, by rw [hag j (by omega)]; exact g4⟩
                    · exact deps_mono (fun j hj => hag j (by omega)) hph.deps
                    · rw [List.map_cons, fseg_congr hjs]
                      have : fseg ch us' jx = [(rr, .cells z E z.length)] := by unfold fseg; rw [hjx, hujx]; simp [ho2]
                      rw [this]
                      exact hr2
              · have hph2 : PhG P w0 n base (fun Tl S' => OL P w0 n (l'.drop k) (Tl ++ T2) S' (Q .normal)) ch (fun j => (listed.setIfInBounds i true).getD j true) u Sx Tl c js := by
                  have hne : ∀ (j : Nat) (y : CE), ch[j]? = some y → (listed.setIfInBounds i true).getD y.1 true = listed.getD y.1 true := fun j y hy => hgj y.1 (hip _ (hci j y hy))
                  refine ⟨hph.le, ?_, ?_, ?_, hph.jge, hph.jnd, hph.jfr, hph.lc, hph.ss, hph.tl, hph.deps⟩
                  · intro j y hy hk
                    show (listed.setIfInBounds i true).getD y.1 true = true ↔ _
                    rw [hne j y hy]; exact hph.loud j y hy hk
                  · intro j y hy hk
                    show (listed.setIfInBounds i true).getD y.1 true = true ↔ _
                    rw [hne j y hy]; exact hph.free j y hy hk
                  · intro j y hy hk hl
                    have hl : (listed.setIfInBounds i true).getD y.1 true = true := hl
                    rw [hne j y hy] at hl; exact hph.dep j y hy hk hl
                have hover : Over base (js.map (fseg ch u) ++ Sx) := fun q hq => by
                  rw [List.flatten_append, List.mem_append]; exact .inr (hph.ss q hq)
                rcases hgives u _ hover i hik hip o ho with ⟨hw1, hw2⟩ | ⟨hw1, hw2⟩
                · rw [hwan] at hw1
                  rw [if_pos hw1]
                  left
                  refine Oper.wp_mono ?_ (wp_transfer hev (by rw [hsz1, hsz2]) (by rw [hsz1]; exact hdo) hdf (hw2 w' hr'))
                  rintro b' w'' ⟨rfl, hr''⟩
                  exact hnext u Sx Tl c js w'' _ hph2 (by rw [hb]; exact hputu u) hr''
                · rw [hwan] at hw1
                  rw [hw1]
                  simp only [Bool.false_eq_true, if_false]
                  have h9 := hputu u
                  rw [hw2] at h9
                  exact hnext u Sx Tl c js w' _ hph2 (by rw [hb]; exact h9) hr'
      -- the moves first
      let us0 : Nat → Value := fun _ => undef
      have hstart : ∀ (listed : Array Bool) (b : Act) (w' : World), (∀ x ∈ hs0, listed.getD x.1 true = false) → b = foldF ops (vs us0) (fun j => listed.getD j true) k a → Rep w0 S w' →
          ∃ u Sx Tl c js, PhG P w0 n base (fun Tl S' => OL P w0 n (l'.drop k) (Tl ++ T2) S' (Q .normal)) ch (fun j => listed.getD j true) u Sx Tl c js ∧ Cur ch c js ∧ b = foldF ops (vs u) (fun j => listed.getD j true) k a ∧ Rep w0 (js.map (fseg ch u) ++ Sx) w' := by
        intro listed b w' hnp hb hr'
        have hnl : ∀ (j : Nat) (x : CE), ch[j]? = some x → listed.getD x.1 true = false := fun j x hx => hnp _ (hci j x hx)
        have h0 : PhG P w0 n base (fun Tl S' => OL P w0 n (l'.drop k) (Tl ++ T2) S' (Q .normal)) ch (fun j => listed.getD j true) us0 S [] 0 [] := by
          refine ⟨Nat.zero_le _, fun j x hx _ => by simp [hnl j x hx], fun j x hx _ => by simp [hnl j x hx], fun j x hx _ h => ?_, by simp, List.nodup_nil, by simp, hch, hSs, fun d v h => by simp [look] at h, fun j x h => by omega⟩
          have h : listed.getD x.1 true = true := h
          rw [hnl j x hx] at h; cases h
        obtain ⟨u3, S3, Tl3, c3, js3, hp3, hcur3, hr3, hag3⟩ := PhG.advance ch.length (w := w') (by omega) h0 hr'
        refine ⟨u3, S3, Tl3, c3, js3, hp3, hcur3, ?_, hr3⟩
        rw [hb]
        unfold foldF
        refine foldl_ext' _ _ _ _ fun b j hj => ?_
        by_cases hjl : listed.getD j true = true
        · have : vs us0 j = vs u3 j := by
            rcases hholes j with ⟨jy, y, hjy, rfl⟩ | hq0
            · rw [hnl jy y hjy] at hjl; cases hjl
            · rw [hvq _ _ hq0, hvq _ _ hq0]
          rw [this]
        · simp [hjl]
      have phase0 : ∀ (Hr : List Nat) (listed : Array Bool) (b : Act) (w' : World), hoistB ops Hr listed = true → (∀ i ∈ Hr, i < k) → listed.size = ops.size →
          (∀ j o, ops[j]? = some o → listed.getD j true = true → ∀ e ∈ o.after, Region.binds .any e = true → listed.getD e.on true = true) → (∀ i ∈ Hs, listed.getD i true = true ∨ i ∈ Hr) →
          (∀ t, k ≤ t → t < ops.size → listed.getD t true = false) → (∀ x ∈ hs0, listed.getD x.1 true = false) → b = foldF ops (vs us0) (fun j => listed.getD j true) k a → Rep w0 S w' →
          wpAny P .any ops (fun e a' w' => e = .normal ∧ ∃ T' S', Sat n T' a' ∧ Rep w0 S' w' ∧ Q e T' S') (cnt (fun j => listed.getD j true) ops.size) listed b w' := by
        intro Hr
        induction Hr with
        | nil =>
          intro listed b w' _ _ hsz hcl hHl htl hnp hb hr'
          exact key _ listed b w' hsz hcl (fun i hi => (hHl i hi).resolve_right (by simp)) htl (hstart listed b w' hnp hb hr') rfl
        | cons i Hr ih =>
          intro listed b w' hh hlt hsz hcl hHl htl hnp hb hr'
          simp only [hoistB, Bool.and_eq_true] at hh
          obtain ⟨⟨⟨hho, hfree⟩, hready⟩, hrest⟩ := hh
          have hi : i ∈ Region.ready .any ops listed := by simpa using hready
          obtain ⟨hun, o, ho, hpre⟩ := mem_ready.1 hi
          have hilt : i < ops.size := (Array.getElem?_eq_some_iff.1 ho).1
          have hik : i < k := hlt i (by simp)
          have hgj : ∀ j, j ≠ i → (listed.setIfInBounds i true).getD j true = listed.getD j true := fun j hj => getD_set_ne true (Ne.symm hj)
          rw [hcntset listed i hsz hi hilt]
          simp only [hoistable?, ho, hoistable, Bool.and_eq_true] at hho
          obtain ⟨hgn, hmv⟩ := hho
          have hgn' : o.guard = none := by simpa using hgn
          have hwant : ∀ t : Array Value, Region.wanted o (yielded ops t) = true := fun t => by simp [Region.wanted, hgn']
          have hagree' := hagree us0 listed i o hcl hi ho hik
          rw [← hb] at hagree'
          have hdo : dstOk n o.dst = true := hdst i o hik ho
          have hsz1 : (runA ops (vs us0) 0 i a).tmps.size = n := by rw [← foldF_runA ops (vs us0) i k a (by omega), (foldF_size ops (vs us0) _ k a).1, hs.size]
          have hmove : ∃ x, (o.op = .move x ∨ o.op = .assign x) := by
            cases hop : o.op <;> rw [hop] at hmv <;> simp at hmv
            · exact ⟨_, .inl rfl⟩
            · exact ⟨_, .inr rfl⟩
          obtain ⟨x, hx⟩ := hmove
          have hip : ∀ x ∈ hs0, x.1 ≠ i := by
            intro y hy e; subst e
            obtain ⟨_, hyk, hyl⟩ := hqi y hy
            obtain ⟨oc, hoc, hpoc, hdstc, hgdc⟩ := cIs_pos hc1 hyk hyl
            obtain rfl : oc = o := by rw [hoc] at ho; exact Option.some.inj ho
            have : y.2.1.o = .mov (cV x) := by
              have h5 : cOp P oc = some (.mov (cV x)) := by unfold cOp cOp0; rcases hx with hx | hx <;> simp [hx]
              rw [h5] at hpoc
              exact (Option.some.inj hpoc).symm
            obtain ⟨jy, kd, hjy⟩ := hcat y hy
            unfold noMovC at hno
            simp only [Bool.and_eq_true] at hno
            have h6 := List.all_eq_true.1 hno.2 _ (List.mem_of_getElem? hjy)
            simp only [this, decide_eq_true_eq] at h6
            cases hc0 : ch with
            | nil => rw [hc0] at hjy; simp at hjy
            | cons c0 r0 =>
              have h7 := hno.1
              rw [hc0] at h7
              simp only [decide_eq_true_eq] at h7
              have h00 : ch[0]? = some c0 := by rw [hc0]; rfl
              have hj0 : 0 < jy := by
                rcases Nat.eq_zero_or_pos jy with e | e
                · subst e
                  rw [h00] at hjy
                  obtain rfl := Option.some.inj hjy
                  exact absurd h6 h7
                · exact e
              have h8 := hordc 0 jy c0 _ hj0 h00 hjy (by simp [h6])
              have h9 := hreadyX listed y.1 hcl hi c0.1 (by have := hck 0 c0 h00; omega) (h8.2 h7) (by have := h8.1; simp only at this; omega)
              rw [hnp _ (hci 0 c0 h00)] at h9
              cases h9
          have hexec : ∀ ρ, execOp ρ o = pure (.value (ρ x)) := by
            intro ρ
            rcases hx with hx | hx <;> simp [execOp, hx]
          have hval : b.eval x = vs us0 i ∨ o.dst = none := by
            rcases hgives us0 S hSs i hik hip o ho with ⟨_, hw2⟩ | ⟨hw1, _⟩
            · have := hw2 w' hr'
              unfold Oper.wp at this
              rw [hexec] at this
              simp only [Sem.run_pure, Oper.upon] at this
              have hev : (runA ops (vs us0) 0 i a).eval x = b.eval x := eval_agree fun t ht => hagree' t (looks_op (by rcases hx with hx | hx <;> simp [hx, Op.operands, ht]))
              cases hd : o.dst with
              | none => exact .inr rfl
              | some d =>
                left
                rw [hd] at this hdo
                have h3 := congrArg (fun c : Act => c.tmps[d]?) this.1
                have hdn : d < n := by simpa [dstOk] using hdo
                simp [Act.put, hsz1, hdn] at h3
                rw [← hev]; exact h3
            · rw [hwant] at hw1; cases hw1
          refine wpAny_take (oi := o) (v := b.eval x) ho hsel hfree hready (fun c a w hq => by simp at hq) (.inl ⟨hwant _, fun w => by rw [hexec]; rfl⟩) ?_
          have hbput : b.put o.dst (b.eval x) = foldF ops (vs us0) (fun j => (listed.setIfInBounds i true).getD j true) k a := by
            rw [← hput us0 listed i o hsz hcl hi ho hik, ← hb]
            rcases hval with h | h
            · rw [h]
            · rw [h]; rfl
          rw [hbput]
          refine ih _ _ w' hrest (fun j hj => hlt j (by simp [hj])) (by simpa using hsz) (hclset listed i o hsz hcl hi ho) ?_ ?_ (fun x hx => by rw [hgj _ (hip x hx)]; exact hnp x hx) rfl hr'
          · intro j hj
            by_cases e : j = i
            · subst e; exact .inl (hgetset listed j hsz hilt)
            · rw [hgj j e]
              rcases hHl j hj with h | h
              · exact .inl h
              · rcases List.mem_cons.1 h with h | h
                · exact absurd h e
                · exact .inr h
          · intro t h3 h4
            rw [hgj t (by omega)]
            exact htl t h3 h4
      have hcnt0 : cnt (fun j => (Array.replicate ops.size false).getD j true) ops.size = ops.size := by
        rw [cnt_congr (g := fun j => decide (j < 0)) ops.size (fun j hj => by simp [hj]), cnt_below]
        omega
      have := phase0 Hs (Array.replicate ops.size false) a { w with drawn := w.drawn + 1 } hhoist hHk (by simp) ?_ (fun i hi => .inr hi) ?_ (fun x hx => by have := (hqi x hx).2.1; have : x.1 < ops.size := (by omega); simp [this]) ?_ ?_
      · rwa [hcnt0] at this
      · intro j o ho hj
        exfalso
        have hlt : j < ops.size := (Array.getElem?_eq_some_iff.1 ho).1
        simp [hlt] at hj
      · intro t _ ht
        simp [ht]
      · have : ∀ j, j < k → (Array.replicate ops.size false).getD j true = decide (j < 0) := by
          intro j hj
          have : j < ops.size := by omega
          simp [this]
        have h0 : foldF ops (vs us0) (fun j => (Array.replicate ops.size false).getD j true) k a = foldF ops (vs us0) (fun j => decide (j < 0)) k a := by
          unfold foldF
          refine foldl_ext' _ _ _ _ fun b j hj => ?_
          simp only [this j (List.mem_range.1 hj)]
        rw [h0, foldF_runA ops (vs us0) 0 k a (Nat.zero_le _)]
        rfl
      · exact hr.same ((Below.refl _ w).drew) (fun _ _ => rfl)
  all_goals (first | (simp [cC] at hc; done) | (simp only [cC] at hc; split at hc <;> simp at hc; done))
end
end Go.SL

set_option linter.unusedVariables false
set_option linter.unusedSimpArgs false
namespace Go.SL
open Go.RowKit
section
variable {P : Program} {w0 : World} {n : Nat} {T : TT} {S : SS}
theorem PW.quietRFK {b : List Nat} {k m : Nat} {l : List PI} {base : SS} {ks hp : List (Nat × HK)} {Q : Exit → TT → SS → Prop} (hm : P.follows .mixedOrders = true) (hks : okKs m ks = true) (ho : ordQ b hp = true) (hS : Over base S)
    (h : QN P w0 n base 0 (l.take k) T (fun T2 hs => distB (l.take k) hs = true ∧ noMovC (mkCh hs ks) = true ∧ hs.length = m ∧ (mkCh hs ks).map (fun x => (x.1, x.2.2.2)) = hp ∧ kindB (mkCh hs ks) = true ∧ LCF P w0 n base (fun Tl S' => OL P w0 n (l.drop k) (Tl ++ T2) S' (Q .normal)) (mkCh hs ks) [] S)) : PW P w0 n (.quietR b k l) T S Q :=
  let ⟨_, _, _, h1, h2, h3, h4, h5, h6, h7⟩ := h; PW.quietRF hm h1 h2 h3 h4 hks h5 ho h6 hS h7
/-- a call that leaves what it meets behind what it makes -/
theorem OW.frameCall {f : FuncId} {args : List PV} {vs : List Value} {F : SS} {K : Value → SS → Prop} (hv : valsP T args = some vs) (h : FC P w0 f vs (F ++ S) (fun v S' => ∃ seg, S' = seg :: (F ++ S) ∧ K v (seg :: S))) :
    OW P w0 n (.call f args) T (F ++ S) (fun v S' => ∃ S1, (F ++ S1).Perm S' ∧ K v S1) := by
  refine (OW.call hv h).mono ?_
  rintro v S' ⟨seg, rfl, hk⟩
  exact ⟨seg :: S, List.perm_middle, hk⟩
theorem OW.frameSt {sz : Nat} {x v : PV} {b o E tot k : Nat} {F : SS} {c : List Value} {u : Value} (hx : x.val T = some (.pointer (some ⟨b, o, none⟩))) (hv : v.val T = some u)
    (hk : S[k]? = some [(b, .cells c E tot)]) (hsz : u.cells.size = sz) (hb : o + sz ≤ c.length) (h1 : u.cells.toList.all (·.oneCell') = true) :
    OW P w0 n (.st sz x v) T (F ++ S) (fun _ S' => ∃ S1, (F ++ S1).Perm S' ∧ S1 = S.set k [(b, .cells (setAt c o u.cells.toList) E tot)]) := by
  refine (OW.st (k := F.length + k) hx hv (by rw [List.getElem?_append_right (by omega)]; simpa using hk) hsz hb h1).mono ?_
  rintro _ S' rfl
  refine ⟨_, ?_, rfl⟩
  rw [List.set_append_right _ _ (by omega)]
  simp
end
end Go.SL

set_option linter.unusedVariables false
set_option linter.unusedSimpArgs false
namespace Go.SL
open Go.RowKit
section
variable {P : Program} {w0 : World} {n : Nat} {T Tc : TT} {S : SS} {ρ : Rho} {H : EH} {L : LL} {r : Value × EH}
theorem capOf_cut {t o e l sz : Nat} (h : e % 4 = 1 ∨ (e = 4 * sz ∧ 0 < sz) ∨ (e = 2 ∧ sz = 1)) : capOf t (o + l * sz) (if e % 4 = 1 then 4 * (e / 4 - l) + 1 else e) = capOf t o e - l := by
  rcases h with h | ⟨rfl, hs⟩ | ⟨rfl, rfl⟩
  · rw [if_pos h]
    have h1 : (4 * (e / 4 - l) + 1) % 4 = 1 := by omega
    have h2 : (4 * (e / 4 - l) + 1) / 4 = e / 4 - l := by omega
    unfold capOf
    rw [h1, h]
    exact h2
  · have h1 : 4 * sz % 4 = 0 := Nat.mul_mod_right 4 sz
    have h2 : 4 * sz / 4 = sz := Nat.mul_div_cancel_left sz (by omega)
    rw [if_neg (by omega)]
    unfold capOf
    rw [h1]
    simp only [h2]
    rw [show t - (o + l * sz) = t - o - sz * l by rw [Nat.mul_comm sz l]; omega, Nat.sub_mul_div]
  · simp [capOf]; omega
theorem capFit_cut {t e l : Nat} (h : capFit t e) : capFit t (if e % 4 = 1 then 4 * (e / 4 - l) + 1 else e) := by
  split
  · exact ⟨by omega, fun e => by omega⟩
  · exact h
theorem snd_slS {sz : Nat} {x : PV} {lo hi : Option PV} (hT : TR ρ T Tc) (hH : HR w0 ρ H L) (h : evM (.slS sz x lo hi) T H = some r) : Snd P w0 n S (.slS sz x lo hi) Tc ρ L r := by
  simp only [evM] at h
  split at h
  · rename_i A len e l hh hx hl hh'
    split at h
    · rename_i v hv
      obtain rfl := Option.some.inj h
      obtain ⟨u, h1, h2⟩ := hT.ev hx
      have h3 := ovE_spec hT hl
      have h4 := ovE_spec hT hh'
      unfold evM.slE at hv
      split at hv
      · rename_i hc
        obtain ⟨c1, c2, c3⟩ := hc
        have el : l = some (((l.getD 0).toNat : Nat) : Int) ∨ (l = none ∧ (l.getD 0).toNat = 0) := by
          cases l with
          | none => exact .inr ⟨rfl, rfl⟩
          | some z => left; simp at c1 ⊢; omega
        have eh : hh = some (((hh.getD len).toNat : Nat) : Int) ∨ (hh = none ∧ (hh.getD len).toNat = len) := by
          cases hh with
          | none => right; simp
          | some z => left; simp at c1 c2 ⊢; omega
        generalize hlz : l.getD 0 = lz at *
        generalize hhz : hh.getD len = hz at *
        have cut : ∀ {A' : Option Addr} {cap : Nat}, x.val Tc = some (.slice A' len cap) → hz.toNat ≤ cap → Yields P w0 n (.slS sz x lo hi) Tc (cs L S) (cutV A' cap sz lz.toNat hz.toNat) := fun hx' hle => Yields.slS hx' h3 h4 el eh (by omega) hle
        split at hv
        · obtain ⟨rfl, rfl, rfl⟩ := h2.slice_nil_inv
          obtain rfl := Option.some.inj hv
          have := cut h1 (by omega)
          rw [show lz.toNat = 0 by omega, show hz.toNat = 0 by omega, cutV0] at this
          exact Snd.det this (.flat rfl) hH
        · rename_i a
          rcases h2.slice_inv with ⟨i, b, t, ha, rfl, hi, hf, hc⟩ | ⟨rfl, rfl, rfl, a', cp, rfl⟩
          · rcases beq_cases e 3 with ⟨rfl, e3⟩ | ⟨_, e3⟩
            · exact absurd rfl hf.1
            · rw [e3] at hv
              simp only [cond_false] at hv
              have hy := cut h1 (by omega)
              split at hv
              · rename_i hl0
                obtain rfl := Option.some.inj hv
                rw [show lz.toNat = 0 by omega, cutV0] at hy
                rw [ha]
                exact Snd.det hy (VR.slice hi hf (by omega)) hH
              · split at hv
                · rename_i hne hlh
                  obtain rfl := Option.some.inj hv
                  unfold cutV at hy
                  rw [show hz.toNat - lz.toNat = 0 by omega] at hy
                  split at hy
                  · exact Snd.det hy .empty hH
                  · exact Snd.det hy .empty hH
                · rename_i hne hlh
                  have hcl : ¬ capOf t a.off e = lz.toNat := by omega
                  unfold cutV at hy
                  rw [if_neg hcl] at hy
                  simp only [Option.map_some] at hy
                  rw [Addr.add_lit] at hy
                  have fin : (e % 4 = 1 ∨ (e = 4 * sz ∧ 0 < sz) ∨ (e = 2 ∧ sz = 1)) → VR ρ (.slice (some ⟨a.block, a.off + lz.toNat * sz, none⟩) (hz.toNat - lz.toNat) (if e % 4 = 1 then 4 * (e / 4 - lz.toNat) + 1 else e)) (.slice (some ⟨b, a.off + lz.toNat * sz, none⟩) (hz.toNat - lz.toNat) (capOf t a.off e - lz.toNat)) := by
                    intro hk
                    have hb := congrArg Addr.block ha
                    simp only at hb
                    rw [hb, ← capOf_cut hk]
                    exact VR.slice hi (capFit_cut hf) (by rw [capOf_cut hk]; omega)
                  rcases beq_cases (e % 4) 1 with ⟨e4, e4'⟩ | ⟨e4, e4'⟩
                  · rw [e4'] at hv
                    simp only [cond_true, Option.some.injEq] at hv
                    subst hv
                    have := fin (.inl e4)
                    rw [if_pos e4] at this
                    exact Snd.det hy this hH
                  · rw [e4'] at hv
                    simp only [cond_false] at hv
                    obtain ⟨hk, hv⟩ := bif_some hv
                    obtain rfl := Option.some.inj hv
                    have hk' : e % 4 = 1 ∨ (e = 4 * sz ∧ 0 < sz) ∨ (e = 2 ∧ sz = 1) := by
                      simp only [Bool.or_eq_true, Bool.and_eq_true] at hk
                      rcases hk with ⟨k1, k2⟩ | ⟨k1, k2⟩
                      · exact .inr (.inl ⟨Nat.eq_of_beq_eq_true k1, by rwa [Nat.blt_eq] at k2⟩)
                      · exact .inr (.inr ⟨Nat.eq_of_beq_eq_true k1, Nat.eq_of_beq_eq_true k2⟩)
                    have := fin hk'
                    rw [if_neg e4] at this
                    exact Snd.det hy this hH
          · simp only [show Nat.beq 3 3 = true from rfl, cond_true, Option.some.injEq] at hv
            subst hv
            have hy := cut h1 (by omega)
            rw [show lz.toNat = 0 by omega, show hz.toNat = 0 by omega, cutV0] at hy
            exact Snd.det hy .empty hH
      · cases hv
    · cases h
  · cases h
theorem slice_cap {v u : Value} (h : VR ρ v u) {A : Option Addr} {m e : Nat} (hv : v = .slice A m e) : ∃ A' c, u = .slice A' m c ∧ m ≤ c := by
  subst hv
  cases A with
  | none => obtain ⟨rfl, rfl, rfl⟩ := h.slice_nil_inv; exact ⟨_, _, rfl, Nat.le_refl _⟩
  | some a =>
    rcases h.slice_inv with ⟨i, b, t, ha, rfl, hi, hf, hc⟩ | ⟨rfl, rfl, rfl, a', cp, rfl⟩
    · exact ⟨_, _, rfl, hc⟩
    · exact ⟨_, _, rfl, Nat.zero_le _⟩
theorem snd_app {t E sz bytes : Nat} {z : Value} {s x : PV} (hT : TR ρ T Tc) (hH : HR w0 ρ H L) (h : evM (.app t E sz bytes z s x) T H = some r) : Snd P w0 n S (.app t E sz bytes z s x) Tc ρ L r := by
  simp only [evM] at h
  split at h
  · rename_i sv y hs hx
    obtain ⟨u, h1, h2⟩ := hT.ev hs
    obtain ⟨u', h3, h4⟩ := hT.ev hx
    split at h
    · rename_i q news hn
      obtain ⟨A, cp, us, rfl, g1, g2, g3, g4⟩ := shown_spec (S := S) hH h4 hn
      rcases beq_cases q 0 with ⟨rfl, e0⟩ | ⟨hq, e0⟩
      · rw [e0] at h
        simp only [cond_true] at h
        split at h
        · rename_i A' m e
          obtain rfl := Option.some.inj h
          obtain ⟨A2, c2, rfl, hle⟩ := slice_cap h2 rfl
          exact Snd.det (Yields.app0 h1 h3 hle) h2 hH
        · cases h
      · rw [e0] at h
        simp only [cond_false] at h
        obtain ⟨hc, h⟩ := bif_some h
        simp only [Bool.and_eq_true] at hc
        obtain ⟨⟨⟨k1, k2⟩, k3⟩, k4⟩ := hc
        rw [Nat.blt_eq] at k2
        have k3 := Nat.le_of_ble_eq_true k3
        have k4 := Nat.le_of_ble_eq_true k4
        cases A with
        | none => exact absurd (g4 rfl).1 hq
        | some a =>
          refine grow_spec hH h2 h k2 (by omega) g2 fun S0 m k xs seg0 hown hm hsub => ?_
          subst hm
          exact OW.appG h1 hown h3 (by rw [← g2.1]; exact g1) (fun j v hj => (g3.at hj).mono hsub) (by rw [g2.one]; exact k1) k3 (by unfold maxLen; omega)
    · cases h
  · cases h
theorem snd_appStr {t u E bytes : Nat} {z : Value} {s x : PV} (hT : TR ρ T Tc) (hH : HR w0 ρ H L) (h : evM (.appStr t u E bytes z s x) T H = some r) : Snd P w0 n S (.appStr t u E bytes z s x) Tc ρ L r := by
  simp only [evM] at h
  split at h
  · rename_i sv y hs hx
    obtain ⟨v, h1, h2⟩ := hT.ev hs
    obtain ⟨u', h3, h4⟩ := hT.ev hx
    obtain rfl := h4.str_inv
    obtain ⟨hc, h9⟩ := bif_some h
    clear h
    simp only [Bool.and_eq_true] at hc
    obtain ⟨⟨k1, k2⟩, k3⟩ := hc
    rw [Nat.blt_eq] at k1
    obtain rfl := Nat.eq_of_beq_eq_true k2
    have k3 := Nat.le_of_ble_eq_true k3
    split at h9
    · refine grow_spec hH h2 h9 (by omega) k1 (VRL.flat (bytesC_flat _)) fun S0 m k xs seg0 hown hm hsub => ?_
      subst hm
      have := OW.appStrG (t := t) (u := u) (x := x) h1 hown h3 (by rw [strL_length] at k3; omega) (P := P) (w0 := w0) (n := n)
      rw [strL_length]
      exact this
    · cases h9
  · cases h
theorem snd_cpy {E sz : Nat} {d s : PV} (hT : TR ρ T Tc) (hH : HR w0 ρ H L) (h : evM (.cpy E sz d s) T H = some r) : Snd P w0 n S (.cpy E sz d s) Tc ρ L r := by
  simp only [evM] at h
  split at h
  · rename_i a dl e y hd hs
    obtain ⟨hb, h8⟩ := bif_some h
    clear h
    simp only [Bool.and_eq_true, Bool.not_eq_true'] at hb
    obtain ⟨b1, b2⟩ := hb
    obtain rfl := Nat.eq_of_beq_eq_true b1
    obtain ⟨u, h1, h2⟩ := hT.ev hd
    obtain ⟨u', h3, h4⟩ := hT.ev hs
    split at h8
    · rename_i q c dd E' hsh ho
      obtain ⟨hc, h9⟩ := bif_some h8
      clear h8
      simp only [Bool.and_eq_true] at hc
      obtain ⟨hle0, h1c⟩ := hc
      have hle := Nat.le_of_ble_eq_true hle0
      obtain rfl := Option.some.inj h9
      obtain ⟨A, cp, us, rfl, g1, g2, g3, g4⟩ := shown_spec (S := S) hH h4 hsh
      obtain ⟨i, hi1, hi2, hi3⟩ := EH.obj_spec ho
      rw [hi2]
      obtain ⟨b, t, o', k, p1, ⟨c', p2, rfl⟩, p3, p4⟩ := hH.own hi3 (by simp) S
      rcases h2.slice_inv with ⟨i', b', t', ha, rfl, hi', hf, hcap⟩ | ⟨rfl, _⟩
      · have hbl := congrArg Addr.block ha
        simp only at hbl
        obtain rfl : i' = i := by omega
        rw [p1] at hi'
        obtain ⟨rfl, rfl⟩ : b = b' ∧ t = t' := by simpa using hi'
        have hlt : k < L.length := (List.getElem?_eq_some_iff.1 p3).1
        have hmin : Nat.min q dl ≤ q := Nat.min_le_left _ _
        have hul : us.length = q := by rw [← g2.1]; omega
        have hnl : (us.take (Nat.min q dl)).length = Nat.min q dl := by rw [List.length_take]; omega
        have hw := OW.cpy (P := P) (w0 := w0) (n := n) (E := E) h1 h3 p4 hnl (g3.pre (List.take_prefix _ _)) (by rw [hnl, ← p2.1]; exact hle) (by rw [(g2.take _).one]; exact h1c)
        rw [hnl] at hw
        refine hw.mono ?_
        rintro w S' ⟨rfl, rfl⟩
        exact ⟨ρ, L.set k (i', _), List.prefix_refl _, .flat rfl, cs_set (x := (i', _)) hlt, hH.upd p1 p3 ⟨_, p2.setAt _ (g2.take _), rfl⟩⟩
      · exfalso
        have : ownB = 1099511627776 := rfl
        simp only at hi1
        omega
    · cases h8
  · cases h
theorem eqL_VR : ∀ {sh : List CK} {a b a' b' : List Value} {r : Bool}, eqL sh a b = some r → VRL ρ a a' → VRL ρ b b' → eqL sh a' b' = some r
  | [], a, b, a', b', r, h, ha, hb => by
    obtain ⟨l1, l2⟩ := eqL_len h
    have e1 : a = [] := List.eq_nil_of_length_eq_zero l1
    have e2 : b = [] := List.eq_nil_of_length_eq_zero l2
    subst e1; subst e2
    obtain rfl := ha.nil_left
    obtain rfl := hb.nil_left
    exact h
  | c :: sh, a, b, a', b', r, h, ha, hb => by
    obtain ⟨x, xs', y, ys', p, q, rfl, rfl, h1, h2, rfl⟩ := eqL_cons h
    obtain ⟨x', a', rfl, hx, ha⟩ := ha.cons_left
    obtain ⟨y', b', rfl, hy, hb⟩ := hb.cons_left
    simp only [eqL]
    rw [eqCell_VR h1 hx hy, eqL_VR h2 ha hb]
theorem snd_X {m : MO} (hT : TR ρ T Tc) (hH : HR w0 ρ H L) (h : evX m T H = some r) : Snd P w0 n S (.more m) Tc ρ L r := by
  cases m <;> simp only [evX] at h
  case neg x =>
    split at h
    · rename_i k z hx
      obtain ⟨u, h1, h2⟩ := hT.ev hx
      obtain rfl := h2.int_inv
      obtain rfl := Option.some.inj h
      exact Snd.det (Yields.neg h1) (.flat rfl) hH
    · cases h
  case mkI t x =>
    split at h
    · rename_i v hx
      obtain ⟨u, h1, h2⟩ := hT.ev hx
      obtain rfl := Option.some.inj h
      exact Snd.det (Yields.mkI h1) (.iface h2) hH
    · cases h
  case eqI neg x =>
    split at h
    · rename_i v hx
      split at h
      · rename_i b hb
        obtain ⟨u, h1, h2⟩ := hT.ev hx
        obtain rfl := Option.some.inj h
        have hb' : isNilI u = some b := by cases h2 <;> exact hb
        exact Snd.det (Yields.eqI h1 hb') (.flat rfl) hH
      · cases h
    · cases h
  case slNil neg x =>
    split at h
    · rename_i A l e hx
      obtain ⟨u, h1, h2⟩ := hT.ev hx
      obtain rfl := Option.some.inj h
      have : ∃ A' c, u = .slice A' l c ∧ A'.isSome = A.isSome ∧ A'.isNone = A.isNone := by
        cases A with
        | none => obtain ⟨rfl, rfl, rfl⟩ := h2.slice_nil_inv; exact ⟨none, 0, rfl, rfl, rfl⟩
        | some a =>
          rcases h2.slice_inv with ⟨i, b, t, ha, rfl, _⟩ | ⟨_, rfl, _, a', c, rfl⟩
          · exact ⟨_, _, rfl, rfl, rfl⟩
          · exact ⟨_, _, rfl, rfl, rfl⟩
      obtain ⟨A', c, rfl, e1, e2⟩ := this
      have := Yields.slNil (P := P) (w0 := w0) (n := n) (S := cs L S) (neg := neg) h1
      rw [e1, e2] at this
      exact Snd.det this (.flat rfl) hH
    · cases h
  case slAr len sz x lo hi =>
    split at h
    · rename_i a l hh hx hl hh'
      obtain ⟨hb, h⟩ := bif_some h
      have hb := Nat.le_of_ble_eq_true hb
      split at h
      · rename_i v hv
        obtain rfl := Option.some.inj h
        obtain ⟨u, h1, h2⟩ := hT.ev hx
        have h3 := ovE_spec hT hl
        have h4 := ovE_spec hT hh'
        unfold evX.slArE at hv
        split at hv
        · rename_i hc
          obtain ⟨c1, c2, c3⟩ := hc
          obtain rfl := Option.some.inj hv
          have el : l = some (((l.getD 0).toNat : Nat) : Int) ∨ (l = none ∧ (l.getD 0).toNat = 0) := by
            cases l with
            | none => exact .inr ⟨rfl, rfl⟩
            | some z => left; simp at c1 ⊢; omega
          have eh : hh = some (((hh.getD len).toNat : Nat) : Int) ∨ (hh = none ∧ (hh.getD len).toNat = len) := by
            cases hh with
            | none => right; simp
            | some z => left; simp at c1 c2 ⊢; omega
          generalize l.getD 0 = lz at *
          generalize hh.getD len = hz at *
          obtain ⟨a', rfl, p1, p2, p3, p4⟩ := h2.ptr_inv
          rcases p4 with ⟨p4, _⟩ | ⟨i, t, p4, p5⟩
          · omega
          · have ea : a' = ⟨a'.block, a.off, none⟩ := by rw [p3, ← p2]
            have hy := Yields.slAr (P := P) (w0 := w0) (n := n) (S := cs L S) (sz := sz) h1 h3 h4 el eh (by omega) (by omega)
            have hcap : ∀ o, capOf t o (4 * (len - lz.toNat) + 1) = len - lz.toNat := by
              intro o
              have h1 : (4 * (len - lz.toNat) + 1) % 4 = 1 := by omega
              have h2 : (4 * (len - lz.toNat) + 1) / 4 = len - lz.toNat := by omega
              unfold capOf
              rw [h1]
              exact h2
            have hv : ∀ o, VR ρ (.slice (some ⟨a.block, o, none⟩) (hz.toNat - lz.toNat) (4 * (len - lz.toNat) + 1)) (.slice (some ⟨a'.block, o, none⟩) (hz.toNat - lz.toNat) (len - lz.toNat)) := by
              intro o
              have := VR.slice (l := hz.toNat - lz.toNat) (o := o) (e := 4 * (len - lz.toNat) + 1) p5 ⟨by omega, fun e => by omega⟩ (by rw [hcap]; omega)
              rw [hcap] at this
              rw [p4]
              exact this
            by_cases e : lz = len
            · rw [if_pos (by omega)] at hy
              rw [if_pos e]
              rw [ea] at hy
              exact Snd.det hy (hv _) hH
            · rw [if_neg (by omega)] at hy
              rw [if_neg e]
              rw [ea, Addr.add_lit] at hy
              exact Snd.det hy (hv _) hH
        · cases hv
      · cases h
    · cases h
  case cvS x =>
    split at h
    · rename_i a l e hx
      rcases beq_cases e 3 with ⟨_, e3⟩ | ⟨hne, e3⟩
      · rw [e3] at h; cases h
      · rw [e3] at h
        simp only [cond_false] at h
        split at h
        · rename_i c E ho
          obtain rfl := Option.some.inj h
          obtain ⟨u, h1, h2⟩ := hT.ev hx
          obtain ⟨i, hi1, hi2, hi3⟩ := EH.obj_spec ho
          rw [hi2]
          obtain ⟨b, t, o', k, p1, ⟨c', p2, rfl⟩, p3, p4⟩ := hH.own hi3 (by simp) S
          rcases h2.slice_inv with ⟨i', b', t', ha, rfl, hi', hf, hcap⟩ | ⟨_, _, rfl, _⟩
          · have hbl := congrArg Addr.block ha
            simp only at hbl
            obtain rfl : i' = i := by omega
            rw [p1] at hi'
            obtain ⟨rfl, rfl⟩ : b = b' ∧ t = t' := by simpa using hi'
            have hlt : k < L.length := (List.getElem?_eq_some_iff.1 p3).1
            refine (OW.cvS h1 p4).mono ?_
            rintro w S' ⟨rfl, rfl⟩
            exact ⟨ρ, L.set k (i', _), List.prefix_refl _, h2, cs_set (x := (i', _)) hlt, hH.upd p1 p3 ⟨c', p2, rfl⟩⟩
          · exact absurd rfl hne
        · cases h
    · cases h
  case rngS x =>
    split at h
    · rename_i s hx
      obtain ⟨hr, h⟩ := bif_some h
      obtain rfl := Option.some.inj h
      obtain ⟨u, h1, h2⟩ := hT.ev hx
      obtain rfl := h2.str_inv
      refine Snd.new (F := fun r u o' t => t = 0 ∧ u = .pointer (some ⟨r, 0, none⟩) ∧ o' = .obj (.stringIter s 0)) (room_lt hr) hH ((OW.rngS h1).mono ?_) ?_
      · rintro u S' ⟨r, rfl, rfl⟩
        exact ⟨r, _, _, ⟨rfl, rfl, rfl⟩, rfl⟩
      · rintro r u o' t ⟨rfl, rfl, rfl⟩
        exact ⟨new_ptr hH, rfl⟩
    · cases h
  case nxtS x =>
    split at h
    · rename_i a hx
      split at h
      · rename_i s p ho
        obtain ⟨hoff, h⟩ := bif_some h
        have hoff := Nat.eq_of_beq_eq_true hoff
        obtain ⟨u, h1, h2⟩ := hT.ev hx
        obtain ⟨a', rfl, q1, q2, q3, q4⟩ := h2.ptr_inv
        obtain ⟨i, hi1, hi2, hi3⟩ := EH.obj_spec ho
        rw [hi2] at h
        obtain ⟨b, t, o', k, p1, p2, p3, p4⟩ := hH.own hi3 (by simp) S
        obtain rfl : o' = .obj (.stringIter s p) := p2
        have hb : a'.block = b := by
          rcases q4 with ⟨q4, _⟩ | ⟨i', t', q4, q5⟩
          · omega
          · obtain rfl : i' = i := by omega
            rw [p1] at q5
            simp only [Option.some.injEq, Prod.mk.injEq] at q5
            exact q5.1.symm
        have ea : a' = ⟨b, 0, none⟩ := by rw [← hb, ← hoff, q3, ← q2]
        rw [ea] at h1
        cases hp : Nat.blt p (strL s).length with
        | true =>
          rw [hp] at h
          simp only [cond_true, Option.some.injEq] at h
          subst h
          rw [Nat.blt_eq, strL_length] at hp
          have hlt : k < L.length := (List.getElem?_eq_some_iff.1 p3).1
          refine (OW.nxtS h1 p4 hp).mono ?_
          rintro w S' ⟨rfl, rfl⟩
          exact ⟨ρ, L.set k (i, _), List.prefix_refl _, .tuple (cs := [_, _, _]) (cs' := [_, _, _]) rfl (VRL.cons (.flat rfl) (VRL.cons (.flat rfl) (VRL.cons (.flat rfl) .nil))).2, cs_set (x := (i, _)) hlt, hH.upd p1 p3 rfl⟩
        | false =>
          rw [hp] at h
          simp only [cond_false, Option.some.injEq] at h
          subst h
          have hp' : ¬ p < s.size := fun hc => by
            rw [← strL_length] at hc
            have : Nat.blt p (strL s).length = true := by rw [Nat.blt_eq]; exact hc
            rw [hp] at this; cases this
          exact Snd.det (OW.nxtS_end h1 p4 hp') (.tuple (cs := [_]) (cs' := [_]) rfl (VRL.cons (.flat rfl) .nil).2) hH
      · cases h
    · cases h
  case bldA zero parts =>
    obtain ⟨hz, h⟩ := bif_some h
    split at h
    · rename_i c hc
      obtain rfl := Option.some.inj h
      obtain ⟨d, h1, h2⟩ := fillE_spec hT hc (VRL.flat hz)
      exact Snd.det (Yields.bldA h1) (.agg h2.1 h2.2) hH
    · cases h
  case eqD neg t sh x y =>
    split at h
    · rename_i a b hx hy
      split at h
      · rename_i r hr
        obtain ⟨u, h1, h2⟩ := hT.ev hx
        obtain ⟨u', h3, h4⟩ := hT.ev hy
        obtain ⟨us, rfl, h5⟩ := h2.agg_inv
        obtain ⟨us', rfl, h6⟩ := h4.agg_inv
        obtain rfl := Option.some.inj h
        exact Snd.det (Yields.eqD h1 h3 (by simpa using eqL_VR hr h5 h6)) (.flat rfl) hH
      · cases h
    · cases h
  case eqJ neg tys x y =>
    split at h
    · rename_i tx k a ty k' b hx hy
      obtain ⟨u, h1, h2⟩ := hT.ev hx
      obtain ⟨u', h3, h4⟩ := hT.ev hy
      have e2 : u = .iface tx (.int k a) := by
        cases h2 with
        | flat h => simp [flatV] at h
        | iface h => obtain rfl := h.int_inv; rfl
      have e4 : u' = .iface ty (.int k' b) := by
        cases h4 with
        | flat h => simp [flatV] at h
        | iface h => obtain rfl := h.int_inv; rfl
      subst e2; subst e4
      rcases beq_cases tx ty with ⟨e, e0⟩ | ⟨e, e0⟩
      · rw [e0] at h
        simp only [cond_true] at h
        split at h
        · rename_i hc
          obtain rfl := Option.some.inj h
          obtain ⟨hk, hm⟩ := hc
          obtain ⟨p, hp, hq⟩ := List.any_eq_true.1 hm
          simp only [Bool.and_eq_true, decide_eq_true_eq] at hq
          have hp' : (tx, k) ∈ tys := by
            have e1 := Nat.eq_of_beq_eq_true hq.1
            obtain ⟨p1, p2⟩ := p
            simp only at e1 hq
            rw [← e1, ← hq.2]; exact hp
          exact Snd.det (Yields.eqJ h1 h3 (.inr ⟨e, hk, hp', rfl⟩)) (.flat rfl) hH
        · cases h
      · rw [e0] at h
        simp only [cond_false, Option.some.injEq] at h
        subst h
        have := Yields.eqJ (P := P) (w0 := w0) (n := n) (S := cs L S) (neg := neg) (tys := tys) h1 h3 (.inl ⟨e, rfl⟩)
        have e5 : (if neg then !false else false) = neg := by cases neg <;> rfl
        rw [e5] at this
        exact Snd.det this (.flat rfl) hH
    · cases h
  case usd x =>
    split at h
    · rename_i a l e hx
      obtain ⟨hc, h9⟩ := bif_some h
      simp only [Bool.and_eq_true] at hc
      obtain ⟨⟨b1, b2⟩, b3⟩ := hc
      rw [Nat.blt_eq] at b1
      have b2 := Nat.le_of_ble_eq_true b2
      obtain rfl := Option.some.inj h9
      obtain ⟨u, h1, h2⟩ := hT.ev hx
      rcases h2.slice_inv with ⟨i', b', t', ha, rfl, hi', hf, hcap⟩ | ⟨ha, _⟩
      · refine Snd.det (Yields.usd h1 (by omega)) ?_ hH
        rw [ha]
        exact .ptr hi'
      · exfalso
        have : ownB = 1099511627776 := rfl
        simp only [ha] at b2
        omega
    · cases h
  case uss e x y =>
    split at h
    · rename_i a m hx hy
      split at h
      · rename_i c E ho
        obtain ⟨hc, h9⟩ := bif_some h
        clear h
        simp only [Bool.and_eq_true, decide_eq_true_eq] at hc
        obtain ⟨⟨⟨⟨b1, b2⟩, b3⟩, b4⟩, b5⟩ := hc
        obtain rfl := Nat.eq_of_beq_eq_true b1
        have b2 := Nat.eq_of_beq_eq_true b2
        have b4 := Nat.le_of_ble_eq_true b4
        have b5 := Nat.le_of_ble_eq_true b5
        split at h9
        · rename_i l hl
          obtain rfl := Option.some.inj h9
          obtain ⟨u, h1, h2⟩ := hT.ev hx
          obtain ⟨u', h3, h4⟩ := hT.ev hy
          obtain rfl := h4.int_inv
          obtain ⟨a', rfl, q1, q2, q3, q4⟩ := h2.ptr_inv
          obtain ⟨i, hi1, hi2, hi3⟩ := EH.obj_spec ho
          rw [hi2]
          obtain ⟨b, t, o', k, p1, ⟨c', p2, rfl⟩, p3, p4⟩ := hH.own hi3 (by simp) S
          have hb : a'.block = b := by
            rcases q4 with ⟨q4, _⟩ | ⟨i', t', q4, q5⟩
            · omega
            · obtain rfl : i' = i := by omega
              rw [p1] at q5
              simp only [Option.some.injEq, Prod.mk.injEq] at q5
              exact q5.1.symm
          have ea : a' = ⟨b, 0, none⟩ := by rw [← hb, ← b2, q3, ← q2]
          rw [ea] at h1
          have hcl : c'.length = c.length := p2.1.symm
          have hbs := toB_spec (p2.take m.toNat) hl
          have hlen : l.length = m.toNat := by
            have := congrArg List.length hbs
            rw [bytesC_length, List.length_take] at this
            omega
          have hsplit : c' = bytesC l ++ c'.drop m.toNat := by rw [← hbs, List.take_append_drop]
          have hlt : k < L.length := (List.getElem?_eq_some_iff.1 p3).1
          rw [hsplit] at p4
          have em : m = (l.length : Int) := by rw [hlen]; exact (Int.toNat_of_nonneg (Int.le_of_lt b3)).symm
          rw [em] at h3
          refine (OW.uss (P := P) (w0 := w0) (n := n) h1 (l := l) h3 p4 (by intro e; subst e; simp at hlen; omega) (by unfold maxLen; omega)).mono ?_
          rintro w S' ⟨rfl, rfl⟩
          exact ⟨ρ, L.set k (i, []), List.prefix_refl _, .flat rfl, cs_set (x := (i, [])) hlt, hH.drop p3⟩
        · cases h9
      · cases h
    · cases h
  case clr E sz z x =>
    split at h
    · rename_i a l e hx
      split at h
      · rename_i c E' ho
        obtain ⟨hc, h9⟩ := bif_some h
        clear h
        simp only [Bool.and_eq_true, Bool.not_eq_true'] at hc
        obtain ⟨⟨⟨⟨⟨⟨b1, b2⟩, b3⟩, b4⟩, b5⟩, b6⟩, b7⟩ := hc
        rw [Nat.blt_eq] at b1 b4
        have b3 := Nat.eq_of_beq_eq_true b3
        have b5 := Nat.le_of_ble_eq_true b5
        obtain rfl := Option.some.inj h9
        obtain ⟨u, h1, h2⟩ := hT.ev hx
        obtain ⟨i, hi1, hi2, hi3⟩ := EH.obj_spec ho
        rw [hi2]
        obtain ⟨b, t, o', k, p1, ⟨c', p2, rfl⟩, p3, p4⟩ := hH.own hi3 (by simp) S
        rcases h2.slice_inv with ⟨i', b', t', ha, rfl, hi', hf, hcap⟩ | ⟨rfl, _⟩
        · have hbl := congrArg Addr.block ha
          simp only at hbl
          obtain rfl : i' = i := by omega
          rw [p1] at hi'
          obtain ⟨rfl, rfl⟩ : b = b' ∧ t = t' := by simpa using hi'
          have hlt : k < L.length := (List.getElem?_eq_some_iff.1 p3).1
          have hzs : z.cells.size = sz := by simpa using b3
          have hnl : (madeL z.cells.toList (l * sz)).length = l * sz := by simp [madeL]
          have hfl : VRL ρ (madeL z.cells.toList (l * sz)) (madeL z.cells.toList (l * sz)) := VRL.flat (all_flat_made b6 (by rw [b3]; exact b4) _)
          refine (OW.clr (P := P) (w0 := w0) (n := n) (E := E) (z := z) h1 p4 b1 (by omega) (by rw [hzs]) (by rw [hnl, ← p2.1]; exact b5) b7).mono ?_
          rintro w S' ⟨rfl, rfl⟩
          exact ⟨ρ, L.set k (i', _), List.prefix_refl _, .tuple (cs := []) (cs' := []) rfl (fun j v u h => by simp at h), cs_set (x := (i', _)) hlt, hH.upd p1 p3 ⟨_, p2.setAt _ hfl, rfl⟩⟩
        · exfalso
          have : ownB = 1099511627776 := rfl
          simp only at hi1
          omega
      · cases h
    · cases h
  case xc row xs =>
    split at h
    · rename_i vs hv
      split at h
      · rename_i v hx
        obtain rfl := Option.some.inj h
        obtain ⟨us, h1, h2⟩ := evs_spec hT hv
        have h0 : (Extern.allNextRows.lookup "").isNone = true := by kernel_rfl
        unfold evX.xcE at hx
        split at hx
        · rename_i s c
          obtain rfl := Option.some.inj hx
          obtain ⟨_, _, rfl, e1, h2⟩ := h2.cons_left
          obtain ⟨_, _, rfl, e2, h2⟩ := h2.cons_left
          obtain rfl := h2.nil_left
          obtain rfl := e1.str_inv
          obtain rfl := e2.int_inv
          exact Snd.det (Yields.xc (e := Extern.BytealgIndexByte.indexByte) h1 (by kernel_rfl) h0 (fun fn hn => by unfold Extern.find; rw [hn]; kernel_rfl) (fun w => run_indexByte_string s c w)) (.flat rfl) hH
        · rename_i s c
          obtain rfl := Option.some.inj hx
          obtain ⟨_, _, rfl, e1, h2⟩ := h2.cons_left
          obtain ⟨_, _, rfl, e2, h2⟩ := h2.cons_left
          obtain rfl := h2.nil_left
          obtain rfl := e1.str_inv
          obtain rfl := e2.int_inv
          exact Snd.det (Yields.xc (e := Extern.BytealgCount.count) h1 (by kernel_rfl) h0 (fun fn hn => by unfold Extern.find; rw [hn]; kernel_rfl) (fun w => rfl)) (.flat rfl) hH
        · rename_i s t
          obtain rfl := Option.some.inj hx
          obtain ⟨_, _, rfl, e1, h2⟩ := h2.cons_left
          obtain ⟨_, _, rfl, e2, h2⟩ := h2.cons_left
          obtain rfl := h2.nil_left
          obtain rfl := e1.str_inv
          obtain rfl := e2.str_inv
          exact Snd.det (Yields.xc (e := Extern.BytealgCompare.compare) h1 (by kernel_rfl) h0 (fun fn hn => by unfold Extern.find; rw [hn]; kernel_rfl) (fun w => rfl)) (.flat rfl) hH
        · cases hx
      · cases h
    · cases h
  all_goals cases h
theorem snd_pure {po : PO} {v : Value} (hT : TR ρ T Tc) (hH : HR w0 ρ H L) (h : evP po T = some v) : Snd P w0 n S po Tc ρ L (v, H) := by
  obtain ⟨u, h1, h2⟩ := evP_snd (P := P) (w0 := w0) (n := n) (S := cs L S) hT h
  exact Snd.det h1 h2 hH
/-- what the evaluator tells of an operation is so -/
theorem evM_snd {po : PO} (hT : TR ρ T Tc) (hH : HR w0 ρ H L) (h : evM po T H = some r) : Snd P w0 n S po Tc ρ L r := by
  cases po
  case ld => exact snd_ld hT hH h
  case ldA => exact snd_ldA hT hH h
  case st => exact snd_st hT hH h
  case build => exact snd_build hT hH h
  case bsl => exact snd_bsl hT hH h
  case bsl0 => exact snd_bsl0 hH h
  case al => exact snd_al hH h
  case bx => exact snd_bx hT hH h
  case mkM => exact snd_mkM hH h
  case mkS => exact snd_mkS hT hH h
  case lenM => exact snd_lenM hT hH h
  case lookS => exact snd_lookS hT hH h
  case updS => exact snd_updS hT hH h
  case slS => exact snd_slS hT hH h
  case slA => exact snd_slA hT hH h
  case app => exact snd_app hT hH h
  case appStr => exact snd_appStr hT hH h
  case strOf => exact snd_strOf hT hH h
  case bytesOf => exact snd_bytesOf hT hH h
  case cpy => exact snd_cpy hT hH h
  case more => exact snd_X hT hH (by simpa only [evM] using h)
  all_goals
    simp only [evM] at h
    split at h
    · rename_i v hv
      obtain rfl := Option.some.inj h
      exact snd_pure hT hH hv
    · cases h
end
end Go.SL

set_option linter.unusedVariables false
set_option linter.unusedSimpArgs false
namespace Go.SL
open Go.RowKit
def MO.pvs : MO → List PV
  | .other _ => []
  | .neg x | .mkI _ x | .eqI _ x | .slNil _ x | .cvS x | .rngS x | .nxtS x | .clr _ _ _ x | .usd x => [x]
  | .slAr _ _ x l h => x :: (l.toList ++ h.toList)
  | .xc _ xs => xs
  | .eqD _ _ _ x y | .eqJ _ _ x y | .uss _ x y => [x, y]
  | .bldA _ ps => ps.map (·.2.2)
/-- the operands -/
def PO.pvs : PO → List PV
  | .mov x | .not x | .cvt _ x | .ld x | .ldA _ x | .fa _ x | .fld _ x | .fldA _ _ x | .lenS x | .lenStr x | .lenM x | .ext _ x | .bx _ x | .nilc x | .strOf x | .bytesOf _ x | .slA _ x => [x]
  | .bin _ x y | .binB _ x y | .st _ x y | .ixS _ x y | .ixStr x y | .lookS _ _ x y | .app _ _ _ _ _ x y | .eqA _ _ _ x y | .eqP _ x y | .appStr _ _ _ _ _ x y | .ixA _ _ x y | .mkS _ _ _ _ _ x y | .cpy _ _ x y => [x, y]
  | .pick a b c | .updS a b c => [a, b, c]
  | .slS _ x l h | .slStr x l h => x :: (l.toList ++ h.toList)
  | .build _ ps => ps.map (·.2.2)
  | .bsl _ _ _ ps => ps.map (·.2.2)
  | .mnx _ xs => xs
  | .call _ xs => xs
  | .callv f xs => f :: xs
  | .mkF _ xs => xs
  | .mkM | .al _ _ | .bsl0 _ => []
  | .more m => m.pvs
abbrev CallE := FuncId → List Value → EH → Option (Value × EH)
def evO (call : CallE) (po : PO) (T : TT) (H : EH) : Option (Value × EH) :=
  match po with
  | .call f xs => match evP.evs T xs with | some vs => call f vs H | none => none
  | .callv f xs => match f.ev T, evP.evs T xs with | some (.func (.func g) fi ca), some vs => call g (fi.toList ++ vs ++ ca.toList) H | _, _ => none
  | po => evM po T H
def wantE (T : TT) : Option (Nat × Bool) → Option Bool
  | none => some true
  | some (s, b) => match look T s with | some (.bool c) => some (c == b) | some _ => some false | none => none
def evL (call : CallE) : List PI → TT → EH → Option (TT × EH)
  | [], T, H => some (T, H)
  | ⟨d, g, o⟩ :: r, T, H => match wantE T g with
    | some true => (match evO call o T H with | some (v, H') => evL call r (put d v T) H' | none => none)
    | some false => evL call r (put d undef T) H
    | none => none
section
variable {P : Program} {w0 : World} {n : Nat} {T Tc : TT} {S : SS} {ρ : Rho} {H : EH} {L : LL} {r : Value × EH}
/-- what calls tell is so -/
def CallOk (P : Program) (w0 : World) (call : CallE) : Prop := ∀ f vs H r, call f vs H = some r → fnOk P f = true ∧ ∀ ρ L S us, VRL ρ vs us → HR w0 ρ H L →
  FC P w0 f us (cs L S) (fun u S' => ∃ ρ' L', ρ <+: ρ' ∧ VR ρ' r.1 u ∧ S' = cs L' S ∧ HR w0 ρ' r.2 L')
theorem evO_snd {call : CallE} {po : PO} (hc : CallOk P w0 call) (hT : TR ρ T Tc) (hH : HR w0 ρ H L) (h : evO call po T H = some r) : Snd P w0 n S po Tc ρ L r := by
  unfold evO at h
  split at h
  · split at h
    · rename_i vs hv
      obtain ⟨us, h1, h2⟩ := evs_spec hT hv
      exact OW.call h1 ((hc _ _ _ _ h).2 ρ L S us h2 hH)
    · cases h
  · split at h
    · rename_i f xs g fi ca vs hf hv
      obtain ⟨us, h1, h2⟩ := evs_spec hT hv
      obtain ⟨u, h3, h4⟩ := hT.ev hf
      obtain ⟨fi', ca', rfl, h5, h6⟩ := h4.func_inv
      obtain ⟨hok, hfc⟩ := hc _ _ _ _ h
      exact OW.callv h3 hok h1 (hfc ρ L S _ ((h5.append h2).append h6) hH)
    · cases h
  · exact evM_snd hT hH h
theorem VR.boolOf {v u : Value} (h : VR ρ v u) : boolOf u = boolOf v := by cases h <;> rfl
theorem want_on (hT : TR ρ T Tc) {g : Option (Nat × Bool)} (h : wantE T g = some true) : gOk Tc g := by
  cases g with
  | none => trivial
  | some p =>
    obtain ⟨s, b⟩ := p
    simp only [wantE] at h
    split at h
    · rename_i c hl
      simp only [Option.some.injEq, beq_iff_eq] at h
      subst h
      obtain ⟨u, h1, h2⟩ := hT s _ hl
      obtain rfl := h2.bool_inv
      exact h1
    · cases h
    · cases h
theorem want_off (hT : TR ρ T Tc) {g : Option (Nat × Bool)} (h : wantE T g = some false) : ∃ s b u, g = some (s, b) ∧ look Tc s = some u ∧ (boolOf u == some b) = false := by
  cases g with
  | none => simp [wantE] at h
  | some p =>
    obtain ⟨s, b⟩ := p
    simp only [wantE] at h
    split at h
    · rename_i c hl
      simp only [Option.some.injEq] at h
      obtain ⟨u, h1, h2⟩ := hT s _ hl
      obtain rfl := h2.bool_inv
      refine ⟨s, b, _, rfl, h1, ?_⟩
      simp only [boolOf]
      cases c <;> cases b <;> simp at h ⊢
    · rename_i v hnb hl
      obtain ⟨u, h1, h2⟩ := hT s _ hl
      refine ⟨s, b, u, rfl, h1, ?_⟩
      rw [h2.boolOf]
      cases v with
      | bool c => exact absurd rfl (hnb c)
      | _ => rfl
    · cases h
def StR (w0 : World) (ρ : Rho) (S : SS) (T' : TT) (H' : EH) : TT → SS → Prop := fun Tc' S' => ∃ ρ' L', ρ <+: ρ' ∧ TR ρ' T' Tc' ∧ S' = cs L' S ∧ HR w0 ρ' H' L'
theorem undef_VR : VR ρ undef undef := .tuple (cs := []) (cs' := []) rfl (fun j v u h => by simp at h)
theorem evL_ol {call : CallE} (hc : CallOk P w0 call) : ∀ {l : List PI} {T Tc : TT} {ρ : Rho} {H : EH} {L : LL} {T' : TT} {H' : EH}, TR ρ T Tc → HR w0 ρ H L → evL call l T H = some (T', H') → OL P w0 n l Tc (cs L S) (StR w0 ρ S T' H')
  | [], T, Tc, ρ, H, L, T', H', hT, hH, h => by
    simp only [evL, Option.some.injEq, Prod.mk.injEq] at h
    obtain ⟨rfl, rfl⟩ := h
    exact OL.nil ⟨ρ, L, List.prefix_refl _, hT, rfl, hH⟩
  | ⟨d, g, o⟩ :: l, T, Tc, ρ, H, L, T', H', hT, hH, h => by
    simp only [evL] at h
    split at h
    · rename_i hw
      split at h
      · rename_i v H1 ho
        refine OL.cons (want_on hT hw) (evO_snd hc hT hH ho) ?_
        rintro u S' ⟨ρ1, L1, hp, hv, rfl, hH1⟩
        have := evL_ol hc ((hT.mono hp).put hv d) hH1 h
        exact fun ops is a w Q hcs hs hr hq => this ops is a w Q hcs hs hr fun a' w' T2 S2 q1 q2 ⟨ρ2, L2, p1, p2⟩ => hq a' w' T2 S2 q1 q2 ⟨ρ2, L2, hp.trans p1, p2⟩
      · cases h
    · rename_i hw
      obtain ⟨s, b, u, rfl, h1, h2⟩ := want_off hT hw
      exact OL.off h1 h2 (evL_ol hc (hT.put undef_VR d) hH h)
    · cases h
def Agree (T T' : TT) (l : List PV) : Prop := ∀ x ∈ l, PV.ev T x = PV.ev T' x
theorem evs_congr {T T' : TT} : ∀ {xs : List PV}, Agree T T' xs → evP.evs T xs = evP.evs T' xs
  | [], h => rfl
  | x :: xs, h => by
    simp only [evP.evs]
    rw [h x (by simp), evs_congr (fun y hy => h y (by simp [hy]))]
theorem ovE_congr {T T' : TT} {x : Option PV} (h : Agree T T' x.toList) : evP.ovE x T = evP.ovE x T' := by
  cases x with
  | none => rfl
  | some x => simp only [evP.ovE]; rw [h x (by simp)]
theorem fillE_congr {T T' : TT} : ∀ {ps : List (Nat × Nat × PV)} {c : List Value}, Agree T T' (ps.map (·.2.2)) → fillE T c ps = fillE T' c ps
  | [], c, h => rfl
  | (off, size, x) :: r, c, h => by
    simp only [fillE]
    rw [h x (by simp)]
    have : ∀ c, fillE T c r = fillE T' c r := fun c => fillE_congr fun y hy => h y (by simp at hy ⊢; exact .inr hy)
    simp only [this]
theorem Agree.app {T T' : TT} {a b : List PV} (h : Agree T T' (a ++ b)) : Agree T T' a ∧ Agree T T' b := ⟨fun x hx => h x (by simp [hx]), fun x hx => h x (by simp [hx])⟩
theorem evP_congr {po : PO} {T T' : TT} (h : Agree T T' po.pvs) : evP po T = evP po T' := by
  cases po
  case mnx mx xs =>
    have e : ∀ T, evP (.mnx mx xs) T = match xs with | [x, y] => (match x.ev T, y.ev T with | some (.int k a), some (.int _ b) => some (.int k (if mx then (if b > a then b else a) else (if b < a then b else a))) | _, _ => none) | _ => none := by
      intro T
      rcases xs with _ | ⟨x, _ | ⟨y, _ | ⟨z, xs⟩⟩⟩ <;> rfl
    rw [e, e]
    rcases xs with _ | ⟨x, _ | ⟨y, _ | ⟨z, xs⟩⟩⟩ <;> try rfl
    simp only [h x (by simp [PO.pvs]), h y (by simp [PO.pvs])]
  case slStr x l hh =>
    have h1 := h x (by simp [PO.pvs])
    have h2 : Agree T T' (l.toList ++ hh.toList) := fun y hy => h y (by simp only [PO.pvs]; exact List.mem_cons_of_mem _ hy)
    simp only [evP, h1, ovE_congr h2.app.1, ovE_congr h2.app.2]
  case mkF f xs => simp only [evP, evs_congr (xs := xs) h]
  all_goals (try rfl)
  all_goals (simp only [Agree, PO.pvs, List.mem_cons, List.not_mem_nil, or_false, forall_eq_or_imp, forall_eq] at h)
  all_goals simp only [evP, h]
theorem evX_congr {m : MO} {T T' : TT} (h : Agree T T' m.pvs) : evX m T H = evX m T' H := by
  cases m
  case slAr len sz x l hh =>
    have h1 := h x (by simp [MO.pvs])
    have h2 : Agree T T' (l.toList ++ hh.toList) := fun y hy => h y (by simp only [MO.pvs]; exact List.mem_cons_of_mem _ hy)
    simp only [evX, h1, ovE_congr h2.app.1, ovE_congr h2.app.2]
  case xc row xs => simp only [evX, evs_congr (xs := xs) h]
  case bldA z ps => simp only [evX, fillE_congr (ps := ps) h]
  all_goals (try rfl)
  all_goals (simp only [Agree, MO.pvs, List.mem_cons, List.not_mem_nil, or_false, forall_eq_or_imp, forall_eq] at h)
  all_goals (first | (simp only [evX, h]; done) | rfl)
theorem evM_congr {po : PO} {T T' : TT} (h : Agree T T' po.pvs) : evM po T H = evM po T' H := by
  have hp := evP_congr h
  cases po
  case build z ps => simp only [evM, fillE_congr (ps := ps) h]
  case bsl E z len ps => simp only [evM, fillE_congr (ps := ps) h]
  case more m => simp only [evM]; exact evX_congr h
  case slS sz x l hh =>
    have h1 := h x (by simp [PO.pvs])
    have h2 : Agree T T' (l.toList ++ hh.toList) := fun y hy => h y (by simp only [PO.pvs]; exact List.mem_cons_of_mem _ hy)
    simp only [evM, h1, ovE_congr h2.app.1, ovE_congr h2.app.2]
  all_goals (first | rfl | (simp only [evM, hp]; done) | skip)
  all_goals (simp only [Agree, PO.pvs, List.mem_cons, List.not_mem_nil, or_false, forall_eq_or_imp, forall_eq] at h)
  all_goals simp only [evM, h]
theorem evO_congr {call : CallE} {po : PO} {T T' : TT} (h : Agree T T' po.pvs) : evO call po T H = evO call po T' H := by
  unfold evO
  split
  · rename_i f xs; rw [evs_congr (xs := xs) h]
  · rename_i f xs
    rw [h f (by simp [PO.pvs]), evs_congr (xs := xs) fun y hy => h y (by simp [PO.pvs, hy])]
  · exact evM_congr h
theorem wantE_congr {T T' : TT} {g : Option (Nat × Bool)} (h : ∀ s b, g = some (s, b) → look T s = look T' s) : wantE T g = wantE T' g := by
  cases g with
  | none => rfl
  | some p => simp only [wantE]; rw [h p.1 p.2 rfl]
theorem cV_t {x : Operand} {t : Nat} (h : cV x = .t t) : x = .tmp t := by cases x <;> simp [cV] at h; rw [h]
theorem parts_mem {place : Nat → Option (Nat × Nat)} : ∀ {qs : List (Nat × Operand)} {ps : List (Nat × Nat × PV)}, partsAt place qs = some ps → ∀ x ∈ ps.map (·.2.2), ∃ y ∈ qs.map (·.2), x = cV y
  | [], ps, h => by simp [partsAt] at h; subst h; simp
  | (i, q) :: qs, ps, h => by
    simp only [partsAt, List.mapM_cons, Option.bind_eq_bind, Option.bind_eq_some_iff, Option.map_eq_some_iff] at h
    obtain ⟨p, ⟨q', h1, rfl⟩, l, h2, h3⟩ := h
    simp at h3
    subst h3
    intro x hx
    simp only [List.map_cons, List.mem_cons] at hx ⊢
    rcases hx with rfl | hx
    · exact ⟨q, .inl rfl, rfl⟩
    · obtain ⟨y, h4, h5⟩ := parts_mem (qs := qs) h2 x hx
      exact ⟨y, .inr h4, h5⟩
theorem call_operands {c : Call} : c.operands = (match c.callee with | .value f => #[f] | .invoke r _ => #[r] | .builtin _ => #[]) ++ c.args := by
  unfold Call.operands
  cases c.callee <;> rfl
set_option maxHeartbeats 2000000 in
theorem pvs_op {o : Oper} {po : PO} (h : cOp P o = some po) : ∀ x ∈ po.pvs, ∀ t, x = .t t → Operand.tmp t ∈ o.op.operands := by
  have hs := cOp_spec P h
  intro x hx t ht
  subst ht
  have key : ∀ {y : Operand}, PV.t t = cV y → Operand.tmp t = y := fun {y} e => (cV_t e.symm).symm
  cases po <;> simp only [Spec] at hs <;> simp only [PO.pvs, List.mem_cons, List.not_mem_nil, or_false, List.mem_append] at hx
  case mov => rcases hs with ⟨y, ho, rfl⟩ | ⟨y, ho, rfl⟩ <;> rw [ho] <;> simp [Op.operands, key hx]
  case bin => obtain ⟨_, a, b, _, ho, rfl, rfl, _⟩ := hs; rw [ho]; rcases hx with hx | hx <;> simp [Op.operands, key hx]
  case binB => obtain ⟨_, a, b, _, ho, rfl, rfl, _⟩ := hs; rw [ho]; rcases hx with hx | hx <;> simp [Op.operands, key hx]
  case not => obtain ⟨_, a, ho, rfl⟩ := hs; rw [ho]; simp [Op.operands, key hx]
  case cvt => obtain ⟨_, _, a, _, ho, rfl, _⟩ := hs; rw [ho]; simp [Op.operands, key hx]
  case pick => obtain ⟨_, _, _, ho, rfl, rfl, rfl⟩ := hs; rw [ho]; rcases hx with hx | hx | hx <;> simp [Op.operands, key hx]
  case ld => obtain ⟨_, a, ho, rfl, _⟩ := hs; rw [ho]; simp [Op.operands, key hx]
  case ldA => obtain ⟨_, a, ho, rfl, _⟩ := hs; rw [ho]; simp [Op.operands, key hx]
  case st => obtain ⟨_, a, b, _, ho, rfl, rfl, _⟩ := hs; rw [ho]; rcases hx with hx | hx <;> simp [Op.operands, key hx]
  case fa => obtain ⟨_, a, _, _, _, _, ho, rfl, _⟩ := hs; rw [ho]; simp [Op.operands, key hx]
  case fld => obtain ⟨_, a, _, _, _, ho, rfl, _⟩ := hs; rw [ho]; simp [Op.operands, key hx]
  case fldA => obtain ⟨_, a, _, _, _, ho, rfl, _⟩ := hs; rw [ho]; simp [Op.operands, key hx]
  case ixS => obtain ⟨_, a, b, _, _, ho, rfl, rfl, _⟩ := hs; rw [ho]; rcases hx with hx | hx <;> simp [Op.operands, key hx]
  case ixStr => obtain ⟨_, a, b, ho, rfl, rfl, _⟩ := hs; rw [ho]; rcases hx with hx | hx <;> simp [Op.operands, key hx]
  case lenS => obtain ⟨_, _, a, c, ho, hc, _, ha, rfl, _⟩ := hs; rw [ho]; simp [Op.operands, call_operands, key hx, Array.mem_of_getElem? ha]
  case lenStr => obtain ⟨_, a, c, ho, hc, _, ha, rfl, _⟩ := hs; rw [ho]; simp [Op.operands, call_operands, key hx, Array.mem_of_getElem? ha]
  case lenM => obtain ⟨_, _, _, a, c, ho, hc, _, ha, rfl, _⟩ := hs; rw [ho]; simp [Op.operands, call_operands, key hx, Array.mem_of_getElem? ha]
  case slS =>
    obtain ⟨_, a, l, hh, _, _, ho, rfl, rfl, rfl, _⟩ := hs
    rw [ho]
    rcases hx with hx | hx | hx
    · simp [Op.operands, key hx]
    · obtain ⟨y, hy, e⟩ : ∃ y, l = some y ∧ PV.t t = cV y := by cases l <;> simp at hx; exact ⟨_, rfl, hx⟩
      simp [Op.operands, key e, hy]
    · obtain ⟨y, hy, e⟩ : ∃ y, hh = some y ∧ PV.t t = cV y := by cases hh <;> simp at hx; exact ⟨_, rfl, hx⟩
      simp [Op.operands, key e, hy]
  case slStr =>
    obtain ⟨_, a, l, hh, ho, rfl, rfl, rfl, _⟩ := hs
    rw [ho]
    rcases hx with hx | hx | hx
    · simp [Op.operands, key hx]
    · obtain ⟨y, hy, e⟩ : ∃ y, l = some y ∧ PV.t t = cV y := by cases l <;> simp at hx; exact ⟨_, rfl, hx⟩
      simp [Op.operands, key e, hy]
    · obtain ⟨y, hy, e⟩ : ∃ y, hh = some y ∧ PV.t t = cV y := by cases hh <;> simp at hx; exact ⟨_, rfl, hx⟩
      simp [Op.operands, key e, hy]
  case build =>
    obtain ⟨_, qs, _, _, _, _, ho, _, _, _, _, _, hp⟩ := hs
    obtain ⟨y, hy, e⟩ := parts_mem hp _ hx
    rw [ho, key e]
    simpa [Op.operands] using hy
  case bsl =>
    obtain ⟨_, qs, _, _, ho, _, _, _, _, _, _, hp⟩ := hs
    obtain ⟨y, hy, e⟩ := parts_mem hp _ hx
    rw [ho, key e]
    simpa [Op.operands] using hy
  case mkS => obtain ⟨a, b, _, ho, rfl, rfl, _⟩ := hs; rw [ho]; rcases hx with hx | hx <;> simp [Op.operands, key hx]
  case lookS => obtain ⟨_, a, b, _, _, _, ho, rfl, rfl, _⟩ := hs; rw [ho]; rcases hx with hx | hx <;> simp [Op.operands, key hx]
  case updS => obtain ⟨_, a, b, c, _, _, ho, rfl, rfl, rfl, _⟩ := hs; rw [ho]; rcases hx with hx | hx | hx <;> simp [Op.operands, key hx]
  case ext => obtain ⟨a, ho, rfl⟩ := hs; rw [ho]; simp [Op.operands, key hx]
  case app => obtain ⟨a, b, c, _, ho, hc, _, ha, rfl, rfl, _⟩ := hs; rw [ho]; rcases hx with hx | hx <;> simp [Op.operands, call_operands, ha, key hx]
  case mnx =>
    obtain ⟨c, ho, hc, rfl⟩ := hs
    obtain ⟨y, hy, e⟩ := List.mem_map.1 hx
    rw [ho, key e.symm]
    simp only [Op.operands, call_operands]
    exact Array.mem_append_right _ (by simpa using hy)
  case call =>
    obtain ⟨c, ho, hc, rfl, _⟩ := hs
    obtain ⟨y, hy, e⟩ := List.mem_map.1 hx
    rw [ho, key e.symm]
    simp only [Op.operands, call_operands]
    exact Array.mem_append_right _ (by simpa using hy)
  case eqA => obtain ⟨a, b, _, ho, rfl, rfl, _⟩ := hs; rw [ho]; rcases hx with hx | hx <;> simp [Op.operands, key hx]
  case bx => obtain ⟨a, ho, rfl⟩ := hs; rw [ho]; simp [Op.operands, key hx]
  case nilc => obtain ⟨a, ho, rfl⟩ := hs; rw [ho]; simp [Op.operands, key hx]
  case eqP => obtain ⟨_, a, b, _, ho, rfl, rfl, _⟩ := hs; rw [ho]; rcases hx with hx | hx <;> simp [Op.operands, key hx]
  case strOf => obtain ⟨_, _, a, _, ho, rfl, _⟩ := hs; rw [ho]; simp [Op.operands, key hx]
  case bytesOf => obtain ⟨_, _, a, ho, rfl, _⟩ := hs; rw [ho]; simp [Op.operands, key hx]
  case appStr => obtain ⟨a, b, c, _, ho, hc, _, ha, rfl, rfl, _⟩ := hs; rw [ho]; rcases hx with hx | hx <;> simp [Op.operands, call_operands, ha, key hx]
  case slA => obtain ⟨_, a, _, _, ho, rfl, _⟩ := hs; rw [ho]; simp [Op.operands, key hx]
  case ixA => obtain ⟨_, a, b, _, _, ho, rfl, rfl, _⟩ := hs; rw [ho]; rcases hx with hx | hx <;> simp [Op.operands, key hx]
  case callv =>
    obtain ⟨c, y, ho, hc, rfl, rfl⟩ := hs
    rw [ho]
    rcases hx with hx | hx
    · simp [Op.operands, call_operands, hc, key hx]
    · obtain ⟨z, hz, e⟩ := List.mem_map.1 hx
      rw [key e.symm]
      simp only [Op.operands, call_operands]
      exact Array.mem_append_right _ (by simpa using hz)
  case mkF =>
    obtain ⟨fi, c, ho, _, rfl⟩ := hs
    obtain ⟨y, hy, e⟩ := List.mem_map.1 hx
    rw [ho, key e.symm]
    simp only [Op.operands]
    exact Array.mem_append_right _ (by simpa using hy)
  case more m =>
    cases m <;> simp only [Spec] at hs <;> simp only [MO.pvs, List.mem_cons, List.not_mem_nil, or_false, List.mem_append] at hx
    case neg => obtain ⟨_, a, ho, rfl⟩ := hs; rw [ho]; simp [Op.operands, key hx]
    case mkI => obtain ⟨a, _, ho, rfl, _⟩ := hs; rw [ho]; simp [Op.operands, key hx]
    case eqI => obtain ⟨_, a, b, _, _, ho, rfl, _⟩ := hs; rw [ho]; simp [Op.operands, key hx]
    case eqJ => obtain ⟨_, a, b, _, _, ho, rfl, rfl, _⟩ := hs; rw [ho]; rcases hx with hx | hx <;> simp [Op.operands, key hx]
    case slNil => obtain ⟨_, a, b, _, _, ho, rfl, _⟩ := hs; rw [ho]; simp [Op.operands, key hx]
    case cvS => obtain ⟨_, _, a, _, ho, rfl, _⟩ := hs; rw [ho]; simp [Op.operands, key hx]
    case rngS => obtain ⟨_, a, ho, rfl, _⟩ := hs; rw [ho]; simp [Op.operands, key hx]
    case nxtS => obtain ⟨a, ho, rfl⟩ := hs; rw [ho]; simp [Op.operands, key hx]
    case clr => obtain ⟨_, a, c, _, ho, hc, _, ha, rfl, _⟩ := hs; rw [ho]; simp [Op.operands, call_operands, ha, key hx]
    case usd => obtain ⟨c, a, ho, hc, ha, rfl⟩ := hs; rw [ho]; simp [Op.operands, call_operands, ha, key hx]
    case uss => obtain ⟨_, _, c, a, b, ho, hc, _, ha, rfl, rfl, _⟩ := hs; rw [ho]; rcases hx with hx | hx <;> simp [Op.operands, call_operands, ha, key hx]
    case bldA =>
      obtain ⟨_, qs, _, _, _, _, _, ho, _, _, _, _, _, hp⟩ := hs
      obtain ⟨y, hy, e⟩ := parts_mem hp _ hx
      rw [ho, key e]
      simpa [Op.operands] using hy
    case eqD => obtain ⟨a, b, _, ho, rfl, rfl, _⟩ := hs; rw [ho]; rcases hx with hx | hx <;> simp [Op.operands, key hx]
    case slAr =>
      obtain ⟨_, a, l, hh, _, _, ho, rfl, rfl, rfl, _⟩ := hs
      rw [ho]
      rcases hx with hx | hx | hx
      · simp [Op.operands, key hx]
      · obtain ⟨y, hy, e⟩ : ∃ y, l = some y ∧ PV.t t = cV y := by cases l <;> simp at hx; exact ⟨_, rfl, hx⟩
        simp [Op.operands, key e, hy]
      · obtain ⟨y, hy, e⟩ : ∃ y, hh = some y ∧ PV.t t = cV y := by cases hh <;> simp at hx; exact ⟨_, rfl, hx⟩
        simp [Op.operands, key e, hy]
    case xc =>
      obtain ⟨c, _, _, ho, hc, rfl, _⟩ := hs
      obtain ⟨y, hy, e⟩ := List.mem_map.1 hx
      rw [ho, key e.symm]
      simp only [Op.operands, call_operands]
      exact Array.mem_append_right _ (by simpa using hy)
  case cpy => obtain ⟨_, _, a, b, c, _, ho, hc, _, ha, rfl, rfl, _⟩ := hs; rw [ho]; rcases hx with hx | hx <;> simp [Op.operands, call_operands, ha, key hx]
end
end Go.SL

set_option linter.unusedVariables false
set_option linter.unusedSimpArgs false
namespace Go.SL
open Go.RowKit
def MO.sort : MO → Nat
  | .neg _ | .mkI _ _ | .eqI _ _ | .eqJ _ _ _ _ | .slNil _ _ | .slAr _ _ _ _ _ | .eqD _ _ _ _ _ | .bldA _ _ => 0
  | _ => 2
/-- 0: looks at no memory; 1: looks at memory and turns none; 2: any other -/
def PO.sort : PO → Nat
  | .mov _ | .bin _ _ _ | .binB _ _ _ | .not _ | .cvt _ _ | .pick _ _ _ | .fa _ _ | .fld _ _ | .fldA _ _ _ | .ixS _ _ _ | .ixStr _ _ | .lenS _ | .lenStr _ | .slStr _ _ _ | .ext _ _ | .mnx _ _ | .eqA _ _ _ _ _ | .nilc _ | .eqP _ _ _ | .slA _ _ | .ixA _ _ _ _ | .mkF _ _ | .slS _ _ _ _ | .build _ _ => 0
  | .ld _ | .ldA _ _ | .lenM _ | .lookS _ _ _ _ | .strOf _ => 1
  | .more m => m.sort
  | _ => 2
def PI.loud (x : PI) : Bool := Nat.beq x.o.sort 2
def flatEq : Value → Value → Bool
  | .bool a, .bool b => a == b
  | .int k a, .int k' b => (if k = k' then true else false) && (if a = b then true else false)
  | .string a, .string b => strEq a b
  | .pointer none, .pointer none => true
  | .pointer (some a), .pointer (some b) => Nat.beq a.block b.block && Nat.beq a.off b.off && a.spot.isNone && b.spot.isNone
  | .slice none l c, .slice none l' c' => Nat.beq l l' && Nat.beq c c'
  | .slice (some a) l c, .slice (some b) l' c' => Nat.beq a.block b.block && Nat.beq a.off b.off && a.spot.isNone && b.spot.isNone && Nat.beq l l' && Nat.beq c c'
  | .map none, .map none => true
  | .map (some a), .map (some b) => Nat.beq a b
  | .nilFunc, .nilFunc => true
  | .nilIface, .nilIface => true
  | .chan none, .chan none => true
  | _, _ => false
def listEq : List Value → List Value → Bool
  | [], [] => true
  | a :: x, b :: y => flatEq a b && listEq x y
  | _, _ => false
def valEq : Value → Value → Bool
  | .agg a, .agg b => listEq a.toList b.toList
  | .tuple a, .tuple b => listEq a.toList b.toList
  | .iface t a, .iface u b => Nat.beq t u && flatEq a b
  | a, b => flatEq a b
theorem addr_eq {a b : Addr} (h : (Nat.beq a.block b.block && Nat.beq a.off b.off && a.spot.isNone && b.spot.isNone) = true) : a = b := by
  obtain ⟨x, y, z⟩ := a
  obtain ⟨x', y', z'⟩ := b
  simp only [Bool.and_eq_true, Option.isNone_iff_eq_none] at h
  obtain ⟨⟨⟨h1, h2⟩, h3⟩, h4⟩ := h
  try simp only at h3 h4
  rw [Nat.eq_of_beq_eq_true h1, Nat.eq_of_beq_eq_true h2, h3, h4]
theorem flatEq_eq {a b : Value} (h : flatEq a b = true) : a = b := by
  unfold flatEq at h
  split at h
  · rw [beq_iff_eq] at h; rw [h]
  · simp only [Bool.and_eq_true] at h
    obtain ⟨h1, h2⟩ := h
    split at h1
    · split at h2
      · rename_i e1 e2; rw [e1, e2]
      · cases h2
    · cases h1
  · rename_i x y
    rw [strEq_eq] at h
    have e := (Go.MapKept.bytes_beq x y).1 h
    rw [e]
  · rfl
  · rw [addr_eq h]
  · simp only [Bool.and_eq_true] at h; rw [Nat.eq_of_beq_eq_true h.1, Nat.eq_of_beq_eq_true h.2]
  · simp only [Bool.and_eq_true] at h
    obtain ⟨⟨⟨⟨⟨h1, h2⟩, h3⟩, h4⟩, h5⟩, h6⟩ := h
    rename_i x _ _ y _ _
    have e : x = y := addr_eq (by simp only [Bool.and_eq_true, Option.isNone_iff_eq_none]; exact ⟨⟨⟨h1, h2⟩, by simpa using h3⟩, by simpa using h4⟩)
    rw [e, Nat.eq_of_beq_eq_true h5, Nat.eq_of_beq_eq_true h6]
  · rfl
  · rw [Nat.eq_of_beq_eq_true h]
  · rfl
  · rfl
  · rfl
  · cases h
theorem listEq_eq : ∀ {a b : List Value}, listEq a b = true → a = b
  | [], [], _ => rfl
  | a :: x, b :: y, h => by
    simp only [listEq, Bool.and_eq_true] at h
    rw [flatEq_eq h.1, listEq_eq h.2]
  | [], b :: y, h => by cases h
  | a :: x, [], h => by cases h
theorem valEq_eq {a b : Value} (h : valEq a b = true) : a = b := by
  unfold valEq at h
  split at h
  · rw [Array.toList_inj.1 (listEq_eq h)]
  · rw [Array.toList_inj.1 (listEq_eq h)]
  · simp only [Bool.and_eq_true] at h; rw [Nat.eq_of_beq_eq_true h.1, flatEq_eq h.2]
  · exact flatEq_eq h
theorem evP_any {po : PO} {T : TT} {H : EH} {v : Value} {H' : EH} (h : (match evP po T with | some v => some (v, H) | none => none) = some (v, H')) : evP po T = some v ∧ H' = H := by
  split at h
  · rename_i w hw
    simp only [Option.some.injEq, Prod.mk.injEq] at h
    exact ⟨by rw [hw, h.1], h.2.symm⟩
  · cases h
theorem sort0 {po : PO} {T : TT} {H H' : EH} {v : Value} (hs : po.sort = 0) (h : evM po T H = some (v, H')) : H' = H ∧ ∀ H2, evM po T H2 = some (v, H2) := by
  cases po <;> simp only [PO.sort] at hs <;> (first | (cases hs; done) | skip)
  case build z ps =>
    simp only [evM] at h ⊢
    obtain ⟨hz, h⟩ := bif_some h
    split at h
    · rename_i c hc
      simp only [Option.some.injEq, Prod.mk.injEq] at h
      refine ⟨h.2.symm, fun H2 => ?_⟩
      rw [hz]
      simp [hc, h.1]
    · cases h
  case slA len x =>
    simp only [evM] at h ⊢
    split at h
    · rename_i a hx
      obtain ⟨hb, h⟩ := bif_some h
      simp only [Option.some.injEq, Prod.mk.injEq] at h
      refine ⟨h.2.symm, fun H2 => ?_⟩
      rw [hb]
      simp [h.1]
    · cases h
  case slS sz x lo hi =>
    simp only [evM] at h ⊢
    split at h
    · split at h
      · rename_i w hw
        simp only [Option.some.injEq, Prod.mk.injEq] at h
        exact ⟨h.2.symm, fun H2 => by simp [hw, h.1]⟩
      · cases h
    · cases h
  case more m =>
    cases m <;> simp only [MO.sort] at hs <;> (first | (cases hs; done) | skip)
    all_goals simp only [evM, evX] at h ⊢
    case bldA z ps =>
      obtain ⟨hz, h⟩ := bif_some h
      split at h
      · rename_i c hc
        simp only [Option.some.injEq, Prod.mk.injEq] at h
        refine ⟨h.2.symm, fun H2 => ?_⟩
        rw [hz]
        simp [hc, h.1]
      · cases h
    case eqJ neg tys x y =>
      split at h
      · rename_i tx k a ty k' b hx hy
        cases hb : Nat.beq tx ty with
        | true =>
          rw [hb] at h
          simp only [cond_true] at h
          split at h
          · rename_i hc
            simp only [Option.some.injEq, Prod.mk.injEq] at h
            refine ⟨h.2.symm, fun H2 => ?_⟩
            simp only [cond_true]
            rw [if_pos hc, h.1]
          · cases h
        | false =>
          rw [hb] at h
          simp only [cond_false, Option.some.injEq, Prod.mk.injEq] at h
          exact ⟨h.2.symm, fun H2 => by simp only [cond_false]; rw [h.1]⟩
      · cases h
    case slAr len sz x l hh =>
      split at h
      · obtain ⟨hb, h⟩ := bif_some h
        split at h
        · rename_i w hw
          simp only [Option.some.injEq, Prod.mk.injEq] at h
          exact ⟨h.2.symm, fun H2 => by rw [hb]; simp [hw, h.1]⟩
        · cases h
      · cases h
    all_goals (repeat (split at h))
    all_goals (first | (cases h; done) | skip)
    all_goals (simp only [Option.some.injEq, Prod.mk.injEq] at h; obtain ⟨rfl, rfl⟩ := h; exact ⟨rfl, fun H2 => by simp [*]⟩)
  all_goals
    simp only [evM] at h ⊢
    obtain ⟨h1, h2⟩ := evP_any h
    exact ⟨h2, fun H2 => by rw [h1]⟩
theorem sort_le (po : PO) : po.sort ≤ 2 := by
  cases po <;> simp [PO.sort]
  rename_i m; cases m <;> simp [MO.sort]
theorem sort1 {po : PO} {T : TT} {H H' : EH} {v : Value} (hs : po.sort = 1) (h : evM po T H = some (v, H')) : H' = H := by
  cases po <;> simp only [PO.sort] at hs <;> (first | (cases hs; done) | skip)
  case more m => cases m <;> simp [MO.sort] at hs
  all_goals simp only [evM] at h
  case lookS z ok m k =>
    split at h
    · obtain ⟨_, h⟩ := bif_some h
      split at h
      · split at h <;> (simp only [Option.some.injEq, Prod.mk.injEq] at h; exact h.2.symm)
      · cases h
    · cases h
  all_goals (repeat (split at h))
  all_goals (first | (cases h; done) | (simp only [Option.some.injEq, Prod.mk.injEq] at h; exact h.2.symm))
theorem sort_call {po : PO} {call : CallE} {T : TT} {H : EH} (hs : po.sort ≠ 2) : evO call po T H = evM po T H := by
  unfold evO
  split
  · exact absurd rfl hs
  · exact absurd rfl hs
  · rfl
def evH (call : CallE) : List PI → TT → EH → Option (List (TT × Value) × List EH × TT × EH)
  | [], T, H => some ([], [], T, H)
  | x :: r, T, H => match wantE T x.g with
    | some true => (match evO call x.o T H with
      | some (v, H') => (match evH call r (put x.d v T) H' with | some (tr, gs, T', H'') => some ((T, v) :: tr, (bif x.loud then H' :: gs else gs), T', H'') | none => none)
      | none => none)
    | some false => (match evH call r (put x.d undef T) H with | some (tr, gs, T', H'') => some ((T, undef) :: tr, (bif x.loud then H :: gs else gs), T', H'') | none => none)
    | none => none
def loudN (l : List PI) (i : Nat) : Bool := match l[i]? with | some x => x.loud | none => false
/-- how many loud ones are among the first m, of those that f takes -/
def lcl (l : List PI) (f : Nat → Bool) : Nat → Nat
  | 0 => 0
  | m + 1 => lcl l f m + (if loudN l m && f m then 1 else 0)
theorem lcl_cons (x : PI) (l : List PI) (m : Nat) : lcl (x :: l) (fun _ => true) (m + 1) = (if x.loud then 1 else 0) + lcl l (fun _ => true) m := by
  induction m with
  | zero => simp [lcl, loudN]
  | succ m ih =>
    rw [lcl, ih, lcl]
    have : loudN (x :: l) (m + 1) = loudN l m := by simp [loudN]
    rw [this]; omega
def OnOff (call : CallE) (x : PI) (T : TT) (H H' : EH) (v : Value) : Prop := (wantE T x.g = some true ∧ evO call x.o T H = some (v, H')) ∨ (wantE T x.g = some false ∧ v = undef ∧ H' = H)
theorem evH_spec {call : CallE} : ∀ {l : List PI} {T : TT} {H : EH} {tr : List (TT × Value)} {gs : List EH} {T' : TT} {H' : EH}, evH call l T H = some (tr, gs, T', H') →
    ∃ (Ts : Nat → TT) (Hs : Nat → EH) (vs : Nat → Value), Ts 0 = T ∧ Hs 0 = H ∧ Ts l.length = T' ∧ Hs l.length = H' ∧
      (∀ i x, l[i]? = some x → Ts (i + 1) = put x.d (vs i) (Ts i) ∧ tr[i]? = some (Ts i, vs i) ∧ OnOff call x (Ts i) (Hs i) (Hs (i + 1)) (vs i) ∧ (x.loud = false → Hs (i + 1) = Hs i)) ∧
      ∀ i, i ≤ l.length → (H :: gs)[lcl l (fun _ => true) i]? = some (Hs i)
  | [], T, H, tr, gs, T', H', h => by
    simp only [evH, Option.some.injEq, Prod.mk.injEq] at h
    obtain ⟨rfl, rfl, rfl, rfl⟩ := h
    refine ⟨fun _ => T, fun _ => H, fun _ => undef, rfl, rfl, rfl, rfl, fun i x hx => by simp at hx, fun i hi => ?_⟩
    have e : i = 0 := by simpa using hi
    subst e
    rfl
  | x :: l, T, H, tr, gs, T', H', h => by
    have quiet : x.loud = false → ∀ v H1, evO call x.o T H = some (v, H1) → H1 = H := by
      intro hq v H1 ho
      have hs2 : x.o.sort ≠ 2 := fun e => by rw [PI.loud, e] at hq; cases hq
      rw [sort_call hs2] at ho
      by_cases h0 : x.o.sort = 0
      · exact (sort0 h0 ho).1
      · by_cases h1 : x.o.sort = 1
        · exact sort1 h1 ho
        · exfalso
          have := sort_le x.o
          omega
    have main : ∀ (v : Value) (H1 : EH), OnOff call x T H H1 v → (x.loud = false → H1 = H) → ∀ tr1 gs1, evH call l (put x.d v T) H1 = some (tr1, gs1, T', H') → tr = (T, v) :: tr1 → gs = (bif x.loud then H1 :: gs1 else gs1) →
        ∃ (Ts : Nat → TT) (Hs : Nat → EH) (vs : Nat → Value), Ts 0 = T ∧ Hs 0 = H ∧ Ts (x :: l).length = T' ∧ Hs (x :: l).length = H' ∧
          (∀ i y, (x :: l)[i]? = some y → Ts (i + 1) = put y.d (vs i) (Ts i) ∧ tr[i]? = some (Ts i, vs i) ∧ OnOff call y (Ts i) (Hs i) (Hs (i + 1)) (vs i) ∧ (y.loud = false → Hs (i + 1) = Hs i)) ∧
          ∀ i, i ≤ (x :: l).length → (H :: gs)[lcl (x :: l) (fun _ => true) i]? = some (Hs i) := by
      intro v H1 hon hq tr1 gs1 hev htr hgs
      obtain ⟨Ts, Hs, vs, h1, h2, h3, h4, h5, h6⟩ := evH_spec hev
      refine ⟨fun | 0 => T | i + 1 => Ts i, fun | 0 => H | i + 1 => Hs i, fun | 0 => v | i + 1 => vs i, rfl, rfl, h3, h4, ?_, ?_⟩
      · intro i y hy
        cases i with
        | zero =>
          simp at hy
          subst hy
          refine ⟨h1, by rw [htr]; rfl, by simp only [h2]; exact hon, fun e => by simp only [h2]; exact hq e⟩
        | succ i =>
          have := h5 i y (by simpa using hy)
          refine ⟨this.1, by rw [htr]; simpa using this.2.1, this.2.2⟩
      · intro i hi
        cases i with
        | zero => rfl
        | succ i =>
          have := h6 i (by simpa using hi)
          rw [lcl_cons]
          cases hl : x.loud with
          | false =>
            rw [hgs, hl]
            simp only [Bool.false_eq_true, if_false, Nat.zero_add, cond_false]
            rw [hq hl] at this
            exact this
          | true =>
            rw [hgs, hl]
            simp only [if_true, cond_true]
            rw [Nat.add_comm 1, List.getElem?_cons_succ]
            exact this
    simp only [evH] at h
    split at h
    · rename_i hw
      split at h
      · rename_i v H1 ho
        split at h
        · rename_i tr1 gs1 T2 H2 hr
          simp only [Option.some.injEq, Prod.mk.injEq] at h
          obtain ⟨rfl, rfl, rfl, rfl⟩ := h
          exact main v H1 (.inl ⟨hw, ho⟩) (fun e => quiet e v H1 ho) _ _ hr rfl rfl
        · cases h
      · cases h
    · rename_i hw
      split at h
      · rename_i tr1 gs1 T2 H2 hr
        simp only [Option.some.injEq, Prod.mk.injEq] at h
        obtain ⟨rfl, rfl, rfl, rfl⟩ := h
        exact main undef H (.inr ⟨hw, rfl, rfl⟩) (fun e => rfl) _ _ hr rfl rfl
      · cases h
    · cases h
def pairsB (b : List Nat) (l : List PI) : Bool := (List.range l.length).all fun j => !loudN l j || (List.range j).all fun i => !loudN l i || behind b j i
def mayAt (b : List Nat) (l : List PI) (i g : Nat) : Bool := (List.range l.length).all fun c => !loudN l c || ((!behind b i c || Nat.blt (lcl l (fun _ => true) c) g) && (!behind b c i || Nat.ble g (lcl l (fun _ => true) c)))
def readB (b : List Nat) (l : List PI) (tr : List (TT × Value)) (G : List EH) : Bool :=
  (List.range l.length).all fun i => match l[i]?, tr[i]? with
    | some x, some (T, v) => !Nat.beq x.o.sort 1 || (match wantE T x.g with
      | some true => (List.range G.length).all fun g => !mayAt b l i g || (match G[g]? with | some Hg => (match evM x.o T Hg with | some (v', _) => valEq v' v | none => false) | none => false)
      | _ => true)
    | _, _ => false
def evD (call : CallE) (b : List Nat) (k : Nat) (l : List PI) (T : TT) (H : EH) : Option (TT × EH) :=
  match evH call (l.take k) T H with
  | some (tr, gs, T', H') => bif pairsB b (l.take k) && (gs.isEmpty || readB b (l.take k) tr (H :: gs)) then evL call (l.drop k) T' H' else none
  | none => none
end Go.SL

set_option linter.unusedVariables false
set_option linter.unusedSimpArgs false
namespace Go.SL
open Go.RowKit
section
variable {P : Program} {w0 : World} {n : Nat} {S : SS}
def foldT (ds : Nat → Option Nat) (vs : Nat → Value) (T : TT) (f : Nat → Bool) : Nat → TT
  | 0 => T
  | m + 1 => if f m then put (ds m) (vs m) (foldT ds vs T f m) else foldT ds vs T f m
theorem look_put {d : Option Nat} {v : Value} {T : TT} {x : Nat} : look (put d v T) x = if d = some x then some v else look T x := by
  cases d with
  | none => simp [put]
  | some d =>
    simp only [put]
    by_cases e : d = x
    · subst e; rw [look_put_same]; simp
    · rw [look_cons_ne _ _ e]; simp [e]
theorem foldT_agree {ds : Nat → Option Nat} {vs : Nat → Value} {T : TT} {f g : Nat → Bool} {x : Nat} : ∀ m, (∀ j, j < m → ds j = some x → f j = g j) → look (foldT ds vs T f m) x = look (foldT ds vs T g m) x
  | 0, _ => rfl
  | m + 1, h => by
    have ih := foldT_agree (ds := ds) (vs := vs) (T := T) (f := f) (g := g) (x := x) m fun j hj => h j (by omega)
    simp only [foldT]
    by_cases hd : ds m = some x
    · rw [h m (by omega) hd]
      split
      · rw [look_put, look_put, if_pos hd, if_pos hd]
      · exact ih
    · split <;> split <;> (try rw [look_put, if_neg hd]) <;> (try rw [look_put, if_neg hd]) <;> exact ih
theorem foldT_all {ds : Nat → Option Nat} {vs : Nat → Value} {T : TT} {f g : Nat → Bool} : ∀ m, (∀ j, j < m → f j = g j) → foldT ds vs T f m = foldT ds vs T g m
  | 0, _ => rfl
  | m + 1, h => by simp only [foldT]; rw [h m (by omega), foldT_all m fun j hj => h j (by omega)]
theorem foldT_below {ds : Nat → Option Nat} {vs : Nat → Value} {T : TT} {Ts : Nat → TT} (h0 : Ts 0 = T) {i : Nat} : ∀ m, i ≤ m → (∀ j, j < m → Ts (j + 1) = put (ds j) (vs j) (Ts j)) → foldT ds vs T (fun j => decide (j < i)) m = Ts i
  | 0, hi, _ => by obtain rfl : i = 0 := by omega
                   exact h0.symm
  | m + 1, hi, h => by
    simp only [foldT]
    by_cases hm : m < i
    · obtain rfl : i = m + 1 := by omega
      simp only [hm, decide_true, if_true]
      rw [h m (by omega)]
      congr 1
      rw [foldT_all m (g := fun j => decide (j < m)) (fun j hj => by simp; omega)]
      exact foldT_below h0 m (Nat.le_refl _) fun j hj => h j (by omega)
    · simp only [hm, decide_false, Bool.false_eq_true, if_false]
      exact foldT_below h0 m (by omega) fun j hj => h j (by omega)
theorem lcl_congr {l : List PI} {f g : Nat → Bool} : ∀ m, (∀ j, j < m → loudN l j = true → f j = g j) → lcl l f m = lcl l g m
  | 0, _ => rfl
  | m + 1, h => by
    simp only [lcl]
    rw [lcl_congr m fun j hj => h j (by omega)]
    cases hl : loudN l m with
    | false => simp
    | true => rw [h m (by omega) hl]
theorem lcl_none {l : List PI} {f : Nat → Bool} {c : Nat} : ∀ m, c ≤ m → (∀ j, c ≤ j → j < m → loudN l j = true → f j = false) → lcl l f m = lcl l f c
  | 0, hc, _ => by obtain rfl : c = 0 := by omega
                   rfl
  | m + 1, hc, h => by
    by_cases e : c = m + 1
    · subst e; rfl
    · simp only [lcl]
      rw [lcl_none m (by omega) fun j h1 h2 => h j h1 (by omega)]
      cases hl : loudN l m with
      | false => simp
      | true => rw [h m (by omega) (by omega) hl]; simp
theorem lcl_mono {l : List PI} {f : Nat → Bool} {a b : Nat} (h : a ≤ b) : lcl l f a ≤ lcl l f b := by
  induction b with
  | zero => obtain rfl : a = 0 := by omega
            exact Nat.le_refl _
  | succ b ih =>
    by_cases e : a = b + 1
    · subst e; exact Nat.le_refl _
    · simp only [lcl]; have := ih (by omega); omega
theorem lcl_le {l : List PI} {f : Nat → Bool} : ∀ m, lcl l f m ≤ lcl l (fun _ => true) m
  | 0 => Nat.le_refl _
  | m + 1 => by
    simp only [lcl]
    have := lcl_le (l := l) (f := f) m
    cases loudN l m <;> cases f m <;> simp <;> omega
theorem loudN_take {l : List PI} {k i : Nat} (h : i < k) : loudN (l.take k) i = loudN l i := by unfold loudN; rw [List.getElem?_take_of_lt h]
set_option maxHeartbeats 2000000 in
theorem drawn_wp {call : CallE} (hm : P.follows .mixedOrders = true) (hcall : CallOk P w0 call) {ops : Array Oper} {id k : Nat} {l : List PI}
    (hcond : (apartB ops && backB ops && Region.noSelect ops && hoistB ops ((hoists ops).filter (· < quietAt ops)) (Array.replicate ops.size false)) = true)
    (hcis : cIs P n ops (List.range ops.size) = some l) (hk : quietAt ops = k) {T Tc : TT} {ρ : Rho} {H : EH} {L : LL} {T' : TT} {H' : EH} (hT : TR ρ T Tc) (hH : HR w0 ρ H L) (h : evD call (reach ops) k l T H = some (T', H')) :
    ∀ a w, Sat n Tc a → Rep w0 (cs L S) w → (Code.region id ops true).wp P (fun e a' w' => e = .normal ∧ ∃ T2 S2, Sat n T2 a' ∧ Rep w0 S2 w' ∧ StR w0 ρ S T' H' T2 S2) a w := by
  intro a w hs hr
  simp only [Bool.and_eq_true] at hcond
  obtain ⟨⟨⟨hap, hback⟩, hsel⟩, hhoist⟩ := hcond
  obtain ⟨hhead, hkle⟩ := headOf_spec ops (hoists ops) ops.size (Nat.le_refl _)
  change headB ops ((hoists ops).filter (· < quietAt ops)) (quietAt ops) = true at hhead
  change quietAt ops ≤ ops.size at hkle
  rw [hk] at hhead hkle hhoist
  generalize hH0 : (hoists ops).filter (· < k) = Hs0 at *
  have hHk : ∀ i ∈ Hs0, i < k := fun i hi => by rw [← hH0] at hi; simpa using (List.mem_filter.1 hi).2
  -- the parts of the telling
  unfold evD at h
  split at h
  case h_2 => cases h
  rename_i tr gs Tm Hm hev
  obtain ⟨hchk, htail'⟩ := bif_some h
  simp only [Bool.and_eq_true, Bool.or_eq_true] at hchk
  obtain ⟨hpairs, hreads⟩ := hchk
  have hsplit : List.range ops.size = List.range' 0 k ++ List.range' k (ops.size - k) := by
    rw [List.range_eq_range']
    have := List.range'_append (s := 0) (m := k) (n := ops.size - k) (step := 1)
    simp only [Nat.one_mul, Nat.zero_add] at this
    rw [this]
    congr 1
    omega
  have hcis0 := hcis
  rw [hsplit] at hcis
  obtain ⟨hc1, hc2⟩ := cIs_append hcis
  simp only [List.length_range'] at hc1 hc2
  have hlen : (l.take k).length = k := by simpa using cIs_length hc1
  obtain ⟨Ts, Hs, vs, hTs0, hHs0, hTsk, hHsk, hstep, hG⟩ := evH_spec hev
  rw [hlen] at hTsk hHsk hG
  have hlk : k ≤ l.length := by rw [List.length_take] at hlen; omega
  -- the small forms
  have hpi : ∀ i o, i < k → ops[i]? = some o → ∃ x, l[i]? = some x ∧ (l.take k)[i]? = some x ∧ cOp P o = some x.o ∧ dstOk n o.dst = true ∧ o.dst = x.d ∧ ((o.guard = none ∧ x.g = none) ∨ ∃ j b s, o.guard = some (j, b) ∧ (ops[j]?).bind (·.dst) = some s ∧ x.g = some (s, b)) := by
    intro i o hi ho
    have hx : l[i]? = some l[i] := List.getElem?_eq_getElem (by omega)
    have key : ∀ (is : List Nat) (l : List PI) (j q : Nat) (x : PI), cIs P n ops is = some l → is[j]? = some q → l[j]? = some x → cI P n ops q = some x := by
      intro is
      induction is with
      | nil => intro l j q x _ hq; simp at hq
      | cons i0 is ih =>
        intro l j q x hcs hq hx
        cases l with
        | nil => simp at hx
        | cons y l =>
          obtain ⟨i', r, he, h1, h2⟩ := cIs_cons hcs
          simp only [List.cons.injEq] at he
          obtain ⟨rfl, rfl⟩ := he
          cases j with
          | zero => simp at hq hx; subst hq; subst hx; exact h1
          | succ j => exact ih l j q x h2 (by simpa using hq) (by simpa using hx)
    have hci := key (List.range ops.size) l i i l[i] hcis0 (by rw [List.getElem?_range (by have := (Array.getElem?_eq_some_iff.1 ho).1; exact this)]) hx
    obtain ⟨o', ho', h1, h2, h3, h4⟩ := cI_spec hci
    obtain rfl : o = o' := by rw [ho] at ho'; exact Option.some.inj ho'
    exact ⟨l[i], hx, by rw [List.getElem?_take_of_lt hi]; exact hx, h1, h2, h3, h4⟩
  generalize hds : (fun i : Nat => dstAt ops i) = ds at *
  have hds' : ∀ i, ds i = dstAt ops i := fun i => by rw [← hds]
  have hTs : ∀ j, j < k → Ts (j + 1) = put (ds j) (vs j) (Ts j) := by
    intro j hj
    have hjo : j < ops.size := by omega
    obtain ⟨x, _, hx2, _, _, hd, _⟩ := hpi j ops[j] hj (by simp [hjo])
    rw [(hstep j x hx2).1, hds', dstAt]
    simp [hjo, hd]
  have hdst : ∀ (j : Nat) o, j < k → ops[j]? = some o → dstOk n o.dst = true := fun j o hj ho => by obtain ⟨x, _, _, _, h2, _⟩ := hpi j o hj ho; exact h2
  -- ordered pairs
  have hpair : ∀ i j, i < j → j < ops.size → ∀ oi oj, ops[i]? = some oi → ops[j]? = some oj → behind (reach ops) j i = true ∨ oi.apart ops oj = true := by
    intro i j hij hj oi oj hoi hoj
    have := List.all_eq_true.1 (List.all_eq_true.1 hap j (List.mem_range.2 hj)) i (List.mem_range.2 hij)
    simpa [hoi, hoj] using this
  have htail : ∀ t i, k ≤ t → t < ops.size → i < t → i ∉ Hs0 → behind (reach ops) t i = true := by
    intro t i hkt ht hi hnH
    have := List.all_eq_true.1 hhead t (List.mem_range.2 ht)
    simp only [Bool.or_eq_true, decide_eq_true_eq] at this
    rcases this with h | h
    · omega
    · have := List.all_eq_true.1 h i (List.mem_range.2 hi)
      simpa [hnH] using this
  have hreadyX : ∀ (listed : Array Bool) i, (∀ j o, ops[j]? = some o → listed.getD j true = true → ∀ e ∈ o.after, Region.binds .any e = true → listed.getD e.on true = true) → i ∈ Region.ready .any ops listed →
      ∀ j, j < ops.size → behind (reach ops) i j = true → j ≠ i → listed.getD j true = true := by
    intro listed i hcl hi j hj hb hne
    obtain ⟨hun, o, ho, hall⟩ := mem_ready.1 hi
    have hX : Closed ops (fun x => listed.getD x true = true ∨ x = i) := by
      rintro x ox hox (hx | rfl) e he hbd
      · exact .inl (hcl x ox hox hx e he hbd)
      · obtain rfl : o = ox := by rw [ho] at hox; exact Option.some.inj hox
        have := hall e he hbd
        left
        cases hlt : listed[e.on]? with
        | none => simp [hlt] at this
        | some b => simpa [hlt] using this
    rcases behind_spec hX (Array.getElem?_eq_some_iff.1 ho).1 hb (.inr rfl) with h | h
    · exact h
    · exact absurd h hne
  have hclX : ∀ (listed : Array Bool), (∀ j o, ops[j]? = some o → listed.getD j true = true → ∀ e ∈ o.after, Region.binds .any e = true → listed.getD e.on true = true) → ∀ i j, i < ops.size → behind (reach ops) i j = true → listed.getD i true = true → listed.getD j true = true := by
    intro listed hcl i j hi hb hl
    exact behind_spec (X := fun x => listed.getD x true = true) (fun x ox hox hx e he hbd => hcl x ox hox hx e he hbd) hi hb hl
  have horder : ∀ (listed : Array Bool) i o, (∀ j o, ops[j]? = some o → listed.getD j true = true → ∀ e ∈ o.after, Region.binds .any e = true → listed.getD e.on true = true) → i ∈ Region.ready .any ops listed → ops[i]? = some o → i < k →
      ∀ x, (x ∈ o.looksAt ops ∨ o.dst = some x) → ∀ j, j < k → j ≠ i → dstAt ops j = some x → decide (j < i) = listed.getD j true := by
    intro listed i o hcl hi ho hik x hx j hj hne hdj
    obtain ⟨hun, o', ho', hpre⟩ := mem_ready.1 hi
    have hilt : i < ops.size := (Array.getElem?_eq_some_iff.1 ho).1
    have hjlt : j < ops.size := by omega
    have hoj : ops[j]? = some ops[j] := by simp [hjlt]
    have hdj' : ops[j].dst = some x := by simpa [dstAt, hoj] using hdj
    rcases Nat.lt_or_gt_of_ne hne with h | h
    · rcases hpair j i h hilt _ _ hoj ho with hb' | hap'
      · rw [hreadyX listed i hcl hi j hjlt hb' hne]
        simp [h]
      · obtain ⟨e1, e2, e3⟩ := Oper.apart_spec hap'
        rcases hx with hx | hx
        · exact absurd hx (e1 x hdj')
        · exact absurd hx (e2 x hdj')
    · rcases hpair i j h hjlt _ _ ho hoj with hb' | hap'
      · have hnl : listed.getD j true = false := by
          cases hlj : listed.getD j true with
          | false => rfl
          | true =>
            exfalso
            have := hclX listed hcl j i hjlt hb' hlj
            rw [hun] at this
            cases this
        rw [hnl]
        simp; omega
      · obtain ⟨e1, e2, e3⟩ := Oper.apart_spec hap'
        rcases hx with hx | hx
        · exact absurd hx (e3 x hdj')
        · exact absurd hdj' (e2 x hx)
  have hgetset : ∀ (listed : Array Bool) i, listed.size = ops.size → i < ops.size → (listed.setIfInBounds i true).getD i true = true := by
    intro listed i h1 h2
    have : i < listed.size := by omega
    simp [this]
  have hclset : ∀ (listed : Array Bool) i o, listed.size = ops.size → (∀ j o, ops[j]? = some o → listed.getD j true = true → ∀ e ∈ o.after, Region.binds .any e = true → listed.getD e.on true = true) → i ∈ Region.ready .any ops listed → ops[i]? = some o →
      (∀ j o, ops[j]? = some o → (listed.setIfInBounds i true).getD j true = true → ∀ e ∈ o.after, Region.binds .any e = true → (listed.setIfInBounds i true).getD e.on true = true) := by
    intro listed i o hsz hcl hi ho j oj hoj hj e he hbd
    have hilt : i < ops.size := (Array.getElem?_eq_some_iff.1 ho).1
    obtain ⟨hun, o', ho', hpre⟩ := mem_ready.1 hi
    obtain rfl : o = o' := by rw [ho] at ho'; exact Option.some.inj ho'
    have hgj : ∀ j, j ≠ i → (listed.setIfInBounds i true).getD j true = listed.getD j true := fun j hj => getD_set_ne true (Ne.symm hj)
    by_cases e1 : e.on = i
    · rw [e1]; exact hgetset listed i hsz hilt
    · rw [hgj _ e1]
      by_cases e2 : j = i
      · subst e2
        obtain rfl : o = oj := by rw [ho] at hoj; exact Option.some.inj hoj
        have := hpre e he hbd
        cases hlt : listed[e.on]? with
        | none => simp [hlt] at this
        | some bb => simpa [hlt] using this
      · rw [hgj _ e2] at hj
        exact hcl j oj hoj hj e he hbd
  have hcntset : ∀ (listed : Array Bool) i, listed.size = ops.size → i ∈ Region.ready .any ops listed → i < ops.size → cnt (fun j => listed.getD j true) ops.size = cnt (fun j => (listed.setIfInBounds i true).getD j true) ops.size + 1 := by
    intro listed i hsz hi hilt
    have := cnt_set (f := fun j => listed.getD j true) (g := fun j => (listed.setIfInBounds i true).getD j true) (i := i) (mem_ready.1 hi).1 (hgetset listed i hsz hilt) (fun j hj => getD_set_ne true (Ne.symm hj)) ops.size
    simpa [hilt] using this
  -- the loud ones come one behind the other
  have hloudpair : ∀ i j, i < j → j < k → loudN l i = true → loudN l j = true → behind (reach ops) j i = true := by
    intro i j hij hj hi hlj
    have := List.all_eq_true.1 hpairs j (by rw [hlen]; exact List.mem_range.2 hj)
    rw [loudN_take hj, hlj] at this
    simp only [Bool.not_true, Bool.false_or] at this
    have := List.all_eq_true.1 this i (List.mem_range.2 hij)
    rw [loudN_take (by omega), hi] at this
    simpa using this
  have hnotloud : ∀ (listed : Array Bool) i, (∀ j o, ops[j]? = some o → listed.getD j true = true → ∀ e ∈ o.after, Region.binds .any e = true → listed.getD e.on true = true) → i < k → loudN l i = true → listed.getD i true = false → ∀ j, i ≤ j → j < k → loudN l j = true → listed.getD j true = false := by
    intro listed i hcl hik hli hni j hij hjk hlj
    by_cases e : i = j
    · subst e; exact hni
    · cases hlj2 : listed.getD j true with
      | false => rfl
      | true =>
        exfalso
        have := hclX listed hcl j i (by omega) (hloudpair i j (by omega) hjk hli hlj) hlj2
        rw [hni] at this
        cases this
  have hallloud : ∀ (listed : Array Bool) i, (∀ j o, ops[j]? = some o → listed.getD j true = true → ∀ e ∈ o.after, Region.binds .any e = true → listed.getD e.on true = true) → i < k → loudN l i = true → listed.getD i true = true → lcl (l.take k) (fun j => listed.getD j true) i = lcl (l.take k) (fun _ => true) i := by
    intro listed i hcl hik hli hi
    refine lcl_congr i fun j hj hlj => ?_
    rw [loudN_take (by omega)] at hlj
    exact hclX listed hcl i j (by omega) (hloudpair j i hj hik hlj hli) hi
  have hmay : ∀ (listed : Array Bool) i o, (∀ j o, ops[j]? = some o → listed.getD j true = true → ∀ e ∈ o.after, Region.binds .any e = true → listed.getD e.on true = true) → i ∈ Region.ready .any ops listed → ops[i]? = some o → i < k → loudN l i = false →
      mayAt (reach ops) (l.take k) i (lcl (l.take k) (fun j => listed.getD j true) k) = true := by
    intro listed i o hcl hi ho hik hli
    have hun := (mem_ready.1 hi).1
    simp only [mayAt, List.all_eq_true, List.mem_range, Bool.or_eq_true, Bool.and_eq_true, Bool.not_eq_true']
    intro c hc
    rw [hlen] at hc
    rw [loudN_take hc]
    cases hlc : loudN l c with
    | false => exact .inl rfl
    | true =>
      right
      have hci : c ≠ i := fun e => by subst e; rw [hlc] at hli; cases hli
      constructor
      · cases hb : behind (reach ops) i c with
        | false => exact .inl rfl
        | true =>
          right
          rw [Nat.blt_eq]
          have hcl2 := hreadyX listed i hcl hi c (by omega) hb hci
          have e1 := hallloud listed c hcl hc hlc hcl2
          have e2 : lcl (l.take k) (fun j => listed.getD j true) (c + 1) = lcl (l.take k) (fun j => listed.getD j true) c + 1 := by
            simp only [lcl, loudN_take hc, hlc, hcl2]; rfl
          have e3 := lcl_mono (l := l.take k) (f := fun j => listed.getD j true) (show c + 1 ≤ k by omega)
          omega
      · cases hb : behind (reach ops) c i with
        | false => exact .inl rfl
        | true =>
          right
          have hnc : listed.getD c true = false := by
            cases hx : listed.getD c true with
            | false => rfl
            | true =>
              exfalso
              have := hclX listed hcl c i (by omega) hb hx
              rw [hun] at this
              cases this
          have e1 : lcl (l.take k) (fun j => listed.getD j true) k = lcl (l.take k) (fun j => listed.getD j true) c := lcl_none k (by omega) fun j h1 h2 h3 => by
            rw [loudN_take h2] at h3
            exact hnotloud listed c hcl hc hlc hnc j h1 h2 h3
          rw [e1]
          exact Nat.ble_eq_true_of_le (lcl_le c)
  -- the state that goes with what is listed
  generalize hInv : (fun (listed : Array Bool) (b : Act) (w' : World) => ∃ (ρ' : Rho) (L' : LL) (Tc' : TT) (G : EH), (H :: gs)[lcl (l.take k) (fun j => listed.getD j true) k]? = some G ∧ ρ <+: ρ' ∧ HR w0 ρ' G L' ∧ Rep w0 (cs L' S) w' ∧ Sat n Tc' b ∧ TR ρ' (foldT ds vs T (fun j => listed.getD j true) k) Tc') = Inv at *
  have hInvE : ∀ listed b w', Inv listed b w' ↔ ∃ (ρ' : Rho) (L' : LL) (Tc' : TT) (G : EH), (H :: gs)[lcl (l.take k) (fun j => listed.getD j true) k]? = some G ∧ ρ <+: ρ' ∧ HR w0 ρ' G L' ∧ Rep w0 (cs L' S) w' ∧ Sat n Tc' b ∧ TR ρ' (foldT ds vs T (fun j => listed.getD j true) k) Tc' := fun listed b w' => by rw [← hInv]
  have hgo : ∀ (listed : Array Bool) i o (b : Act) (w' : World), listed.size = ops.size → (∀ j o, ops[j]? = some o → listed.getD j true = true → ∀ e ∈ o.after, Region.binds .any e = true → listed.getD e.on true = true) → i ∈ Region.ready .any ops listed → ops[i]? = some o → i < k → Inv listed b w' →
      (Region.wanted o (yielded ops b.tmps) = true ∧ ∀ Q, o.wp P b w' (fun a' w'' => ∃ u, a' = b.put o.dst u ∧ Inv (listed.setIfInBounds i true) a' w'') Q) ∨ (Region.wanted o (yielded ops b.tmps) = false ∧ Inv (listed.setIfInBounds i true) (b.put o.dst undef) w') := by
    intro listed i o b w' hsz hcl hi ho hik hinv
    rw [hInvE] at hinv
    obtain ⟨ρ', L', Tc', G, hGi, hpre, hHR, hrep, hsat, hTR⟩ := hinv
    have hun := (mem_ready.1 hi).1
    have hilt : i < ops.size := (Array.getElem?_eq_some_iff.1 ho).1
    obtain ⟨x, hx, hx2, hco, hdok, hdd, hgd⟩ := hpi i o hik ho
    obtain ⟨hst1, hst2, hst3, hst4⟩ := hstep i x hx2
    have hgi := hgetset listed i hsz hilt
    have hgj : ∀ j, j ≠ i → (listed.setIfInBounds i true).getD j true = listed.getD j true := fun j hj => getD_set_ne true (Ne.symm hj)
    have hloud : loudN l i = x.loud := by simp [loudN, hx]
    have hTi : foldT ds vs T (fun j => decide (j < i)) k = Ts i := foldT_below hTs0 k (by omega) hTs
    have hagree : ∀ y, y ∈ o.looksAt ops → look (foldT ds vs T (fun j => listed.getD j true) k) y = look (Ts i) y := by
      intro y hy
      rw [← hTi]
      refine foldT_agree k fun j hj hdj => ?_
      rw [hds'] at hdj
      by_cases e : j = i
      · subst e; rw [hun]; simp
      · exact (horder listed i o hcl hi ho hik y (.inl hy) j hj e hdj).symm
    have hag : Agree (foldT ds vs T (fun j => listed.getD j true) k) (Ts i) x.o.pvs := by
      intro y hy
      cases y with
      | v z => rfl
      | t t => exact hagree t (looks_op (pvs_op hco _ hy t rfl))
    have hwantE : wantE (foldT ds vs T (fun j => listed.getD j true) k) x.g = wantE (Ts i) x.g := wantE_congr fun s b hg => by
      rcases hgd with ⟨_, hg2⟩ | ⟨j, b', s', hg1, hj, hg2⟩
      · rw [hg2] at hg; cases hg
      · rw [hg2] at hg
        simp only [Option.some.injEq, Prod.mk.injEq] at hg
        obtain ⟨rfl, rfl⟩ := hg
        refine hagree s' ?_
        unfold Oper.looksAt
        rw [List.mem_append]
        right
        simp [hg1, hj]
    -- the new state's slots
    have hTRnew : ∀ (ρ2 : Rho) (u : Value), ρ' <+: ρ2 → VR ρ2 (vs i) u → TR ρ2 (foldT ds vs T (fun j => (listed.setIfInBounds i true).getD j true) k) (put o.dst u Tc') := by
      intro ρ2 u hp hv y z hz
      rw [look_put]
      by_cases hdy : o.dst = some y
      · rw [if_pos hdy]
        refine ⟨u, rfl, ?_⟩
        have e1 : look (foldT ds vs T (fun j => (listed.setIfInBounds i true).getD j true) k) y = look (foldT ds vs T (fun j => decide (j < i + 1)) k) y := by
          refine foldT_agree k fun j hj hdj => ?_
          rw [hds'] at hdj
          by_cases e : j = i
          · subst e; rw [hgi]; simp
          · rw [hgj j e, ← horder listed i o hcl hi ho hik y (.inr hdy) j hj e hdj]
            by_cases h : j < i
            · have : j < i + 1 := by omega
              simp [h, this]
            · have : ¬ j < i + 1 := by omega
              simp [h, this]
        rw [e1, foldT_below hTs0 k (by omega) hTs, hst1, look_put, ← hdd, if_pos hdy] at hz
        obtain rfl := Option.some.inj hz
        exact hv
      · rw [if_neg hdy]
        have e1 : look (foldT ds vs T (fun j => (listed.setIfInBounds i true).getD j true) k) y = look (foldT ds vs T (fun j => listed.getD j true) k) y := by
          refine foldT_agree k fun j hj hdj => ?_
          by_cases e : j = i
          · subst e; rw [hds', dstAt, ho] at hdj; exact absurd hdj hdy
          · exact hgj j e
        rw [e1] at hz
        exact (hTR.mono hp) y z hz
    -- the count
    have hcntQ : x.loud = false → lcl (l.take k) (fun j => (listed.setIfInBounds i true).getD j true) k = lcl (l.take k) (fun j => listed.getD j true) k := fun hq => lcl_congr k fun j hj hlj => by
      rw [loudN_take hj] at hlj
      have : j ≠ i := fun e => by subst e; rw [hloud, hq] at hlj; cases hlj
      exact hgj j this
    have hbefore : x.loud = true → ∀ j, j < i → loudN l j = true → listed.getD j true = true := fun hq j hj hlj => hreadyX listed i hcl hi j (by omega) (hloudpair j i hj hik hlj (by rw [hloud, hq])) (by omega)
    have hafter : x.loud = true → ∀ j, i ≤ j → j < k → loudN l j = true → listed.getD j true = false := fun hq => hnotloud listed i hcl hik (by rw [hloud, hq]) hun
    have hcntL : x.loud = true → lcl (l.take k) (fun j => listed.getD j true) k = lcl (l.take k) (fun _ => true) i := fun hq => by
      rw [lcl_none (c := i) k (by omega) fun j h1 h2 h3 => by rw [loudN_take h2] at h3; exact hafter hq j h1 h2 h3]
      exact lcl_congr i fun j hj hlj => by rw [loudN_take (by omega)] at hlj; exact hbefore hq j hj hlj
    have hcntL2 : x.loud = true → lcl (l.take k) (fun j => (listed.setIfInBounds i true).getD j true) k = lcl (l.take k) (fun _ => true) (i + 1) := fun hq => by
      rw [lcl_none (c := i + 1) k (by omega) fun j h1 h2 h3 => by rw [loudN_take h2] at h3; rw [hgj j (by omega)]; exact hafter hq j (by omega) h2 h3]
      exact lcl_congr (i + 1) fun j hj hlj => by
        rw [loudN_take (by omega)] at hlj
        by_cases e : j = i
        · subst e; exact hgi
        · rw [hgj j e]; exact hbefore hq j (by omega) hlj
    -- what the operation tells at this state, and which memory stands behind it
    have htell : ∃ G', OnOff call x (foldT ds vs T (fun j => listed.getD j true) k) G G' (vs i) ∧ (H :: gs)[lcl (l.take k) (fun j => (listed.setIfInBounds i true).getD j true) k]? = some G' := by
      rcases hst3 with ⟨hw, hev1⟩ | ⟨hw, hv, hHe⟩
      · cases hq : x.loud with
        | true =>
          have hGe : G = Hs i := by
            rw [hcntL hq, hG i (by omega)] at hGi
            exact (Option.some.inj hGi).symm
          refine ⟨Hs (i + 1), .inl ⟨by rw [hwantE]; exact hw, by rw [evO_congr hag, hGe]; exact hev1⟩, ?_⟩
          rw [hcntL2 hq]
          exact hG (i + 1) (by omega)
        | false =>
          have hs2 : x.o.sort ≠ 2 := fun e => by rw [PI.loud, e] at hq; cases hq
          rw [sort_call hs2] at hev1
          refine ⟨G, .inl ⟨by rw [hwantE]; exact hw, ?_⟩, by rw [hcntQ hq]; exact hGi⟩
          rw [evO_congr hag, sort_call hs2]
          by_cases h0 : x.o.sort = 0
          · exact (sort0 h0 hev1).2 G
          · have h1 : x.o.sort = 1 := by
              have := sort_le x.o
              omega
            rcases hreads with hemp | hreads
            · have hgs : gs = [] := by simpa using hemp
              subst hgs
              have e1 : G = H := by
                have hlt1 : lcl (l.take k) (fun j => listed.getD j true) k < 1 := (List.getElem?_eq_some_iff.1 hGi).1
                have h0 : lcl (l.take k) (fun j => listed.getD j true) k = 0 := by omega
                rw [h0] at hGi
                exact (Option.some.inj hGi).symm
              have e2 : Hs i = H := by
                have hgi2 := hG i (by omega)
                have hlt1 : lcl (l.take k) (fun _ => true) i < 1 := (List.getElem?_eq_some_iff.1 hgi2).1
                have h0 : lcl (l.take k) (fun _ => true) i = 0 := by omega
                rw [h0] at hgi2
                exact (Option.some.inj hgi2).symm
              have e3 := sort1 h1 hev1
              rw [e1]
              rw [e2] at hev1 e3
              rw [e3] at hev1
              exact hev1
            · have h2 := List.all_eq_true.1 hreads i (by rw [hlen]; exact List.mem_range.2 hik)
              rw [hx2, hst2] at h2
              simp only [h1, show Nat.beq 1 1 = true from rfl, Bool.not_true, Bool.false_or, hw] at h2
              have hgl := (List.getElem?_eq_some_iff.1 hGi).1
              have h3 := List.all_eq_true.1 h2 _ (List.mem_range.2 hgl)
              rw [hmay listed i o hcl hi ho hik (by rw [hloud, hq]), hGi] at h3
              simp only [Bool.not_true, Bool.false_or] at h3
              split at h3
              · rename_i v' H2 hev2
                rw [valEq_eq h3] at hev2
                rw [sort1 h1 hev2] at hev2
                exact hev2
              · cases h3
      · refine ⟨G, .inr ⟨by rw [hwantE]; exact hw, hv, rfl⟩, ?_⟩
        cases hq : x.loud with
        | true =>
          have hGe : G = Hs i := by
            rw [hcntL hq, hG i (by omega)] at hGi
            exact (Option.some.inj hGi).symm
          rw [hcntL2 hq, hG (i + 1) (by omega), hGe, hHe]
        | false => rw [hcntQ hq]; exact hGi
    obtain ⟨G', hon, hGn⟩ := htell
    rcases hon with ⟨hw, hev⟩ | ⟨hw, hv, hGe⟩
    · left
      have hgo := want_on hTR hw
      refine ⟨?_, fun Q => ?_⟩
      · rcases hgd with ⟨hg, _⟩ | ⟨j, bb, s', hg, hj, he⟩
        · simp [Region.wanted, hg]
        · rw [he] at hgo
          simp [Region.wanted, hg, hsat.yielded hj hgo]
      · refine Oper.wp_mono ?_ (evO_snd (S := S) (n := n) hcall hTR hHR hev o b w' Q hco hsat hrep)
        rintro a' w'' ⟨u, S', rfl, hrep', ρ2, L2, hp2, hv2, rfl, hHR2⟩
        refine ⟨u, rfl, ?_⟩
        rw [hInvE]
        exact ⟨ρ2, L2, put o.dst u Tc', G', hGn, hpre.trans hp2, hHR2, hrep', hsat.put hdok u, hTRnew ρ2 u hp2 hv2⟩
    · right
      obtain ⟨s', bb, u, hg2, hlk2, hb⟩ := want_off hTR hw
      refine ⟨?_, ?_⟩
      · rcases hgd with ⟨_, hg⟩ | ⟨j, b', s2, hg, hj, he⟩
        · rw [hg] at hg2; cases hg2
        · rw [hg2] at he
          simp only [Option.some.injEq, Prod.mk.injEq] at he
          obtain ⟨rfl, rfl⟩ := he
          simp only [Region.wanted, hg, hsat.yieldedV hj hlk2]
          exact hb
      · rw [hInvE]
        subst hGe
        exact ⟨ρ', L', put o.dst undef Tc', G', hGn, hpre, hHR, hrep, hsat.put hdok undef, hTRnew ρ' undef (List.prefix_refl _) (by rw [hv]; exact undef_VR)⟩
  refine wp_region_any hm ?_
  have key : ∀ (fuel : Nat) (listed : Array Bool) (b : Act) (w' : World), listed.size = ops.size →
      (∀ j o, ops[j]? = some o → listed.getD j true = true → ∀ e ∈ o.after, Region.binds .any e = true → listed.getD e.on true = true) → (∀ i ∈ Hs0, listed.getD i true = true) →
      (∀ t, k ≤ t → t < ops.size → listed.getD t true = false) → Inv listed b w' → cnt (fun j => listed.getD j true) ops.size = fuel →
      wpAny P .any ops (fun e a' w' => e = .normal ∧ ∃ T2 S2, Sat n T2 a' ∧ Rep w0 S2 w' ∧ StR w0 ρ S T' H' T2 S2) fuel listed b w' := by
    -- the head is done
    have done : ∀ (listed : Array Bool) (b : Act) (w' : World), (∀ j, j < k → listed.getD j true = true) → Inv listed b w' → ∃ (ρ' : Rho) (L' : LL) (Tc' : TT), ρ <+: ρ' ∧ HR w0 ρ' Hm L' ∧ Rep w0 (cs L' S) w' ∧ Sat n Tc' b ∧ TR ρ' Tm Tc' := by
      intro listed b w' hall hinv
      rw [hInvE] at hinv
      obtain ⟨ρ', L', Tc', G, hGi, hpre, hHR, hrep, hsat, hTR⟩ := hinv
      have e1 : lcl (l.take k) (fun j => listed.getD j true) k = lcl (l.take k) (fun _ => true) k := lcl_congr k fun j hj _ => hall j hj
      rw [e1, hG k (Nat.le_refl _), hHsk] at hGi
      obtain rfl := Option.some.inj hGi
      refine ⟨ρ', L', Tc', hpre, hHR, hrep, hsat, ?_⟩
      have e2 : foldT ds vs T (fun j => listed.getD j true) k = Tm := by
        rw [foldT_all k (g := fun j => decide (j < k)) (fun j hj => by rw [hall j hj]; simp [hj]), foldT_below hTs0 k (Nat.le_refl _) hTs, hTsk]
      rw [e2] at hTR
      exact hTR
    intro fuel
    induction fuel with
    | zero =>
      intro listed b w' hsz hcl hHl htl hinv hcnt
      have hall : ∀ j, j < ops.size → listed.getD j true = true := by
        intro j hj
        cases hx : listed.getD j true with
        | true => rfl
        | false =>
          exfalso
          have : ∀ m, j < m → 0 < cnt (fun j => listed.getD j true) m := by
            intro m
            induction m with
            | zero => intro h; omega
            | succ m ih =>
              intro h
              simp only [cnt]
              by_cases e : j = m
              · subst e; simp [hx]
              · have := ih (by omega); omega
          have := this ops.size hj
          omega
      have hkeq : k = ops.size := by
        rcases Nat.lt_or_ge k ops.size with h | h
        · have h1 := htl k (Nat.le_refl _) h
          have h2 := hall k h
          rw [h1] at h2
          cases h2
        · omega
      obtain ⟨ρ', L', Tc', hpre, hHR, hrep, hsat, hTR⟩ := done listed b w' (fun j hj => hall j (by omega)) hinv
      refine ⟨?_, ?_⟩
      · unfold Region.ready
        rw [List.filter_eq_nil_iff]
        intro i hi
        rw [hall i (List.mem_range.1 hi)]
        simp
      · have hc3 : cIs P n ops [] = some (l.drop k) := by
          rw [hkeq, Nat.sub_self] at hc2
          rw [hkeq]
          simpa using hc2
        have := evL_ol (S := S) (n := n) hcall hTR hHR htail' ops [] b w' (fun e a' w' => e = .normal ∧ ∃ T2 S2, Sat n T2 a' ∧ Rep w0 S2 w' ∧ StR w0 ρ S T' H' T2 S2) hc3 hsat hrep (fun a' w' T2 S2 h3 h4 ⟨ρ2, L2, p1, p2⟩ => ⟨rfl, T2, S2, h3, h4, ρ2, L2, hpre.trans p1, p2⟩)
        simpa [wpOps] using this
    | succ fuel ih =>
      intro listed b w' hsz hcl hHl htl hinv hcnt
      by_cases hall : ∀ j, j < k → listed.getD j true = true
      · have hexact : ∀ j, j < ops.size → listed.getD j true = decide (j < k) := by
          intro j hj
          by_cases h : j < k
          · rw [hall j h]; simp [h]
          · rw [htl j (by omega) hj]; simp [h]
        obtain ⟨ρ', L', Tc', hpre, hHR, hrep, hsat, hTR⟩ := done listed b w' hall hinv
        have hfuel : fuel + 1 = ops.size - k := by
          rw [← hcnt, cnt_congr ops.size hexact, cnt_below]
        rw [hfuel]
        have htl2 : ∀ listed' : Array Bool, ∀ t s', k ≤ s' → s' < t → t < ops.size → (∀ j, j < ops.size → listed'.getD j true = decide (j < s')) → listed'.size = ops.size → t ∉ Region.ready .any ops listed' := by
          intro l'' t s' h1 h2 h3 h4 h5 hmem
          have := hreadyX l'' t (fun j o ho hj e he hbd => by
            have hlt := backB_spec hback ho he hbd
            have hjs : j < ops.size := (Array.getElem?_eq_some_iff.1 ho).1
            rw [h4 j hjs] at hj
            rw [h4 e.on (by omega)]
            simp only [decide_eq_true_eq] at hj ⊢
            omega) hmem s' (by omega) (htail t s' (by omega) h3 h2 (fun hm' => by have := hHk s' hm'; omega)) (by omega)
          rw [h4 s' (by omega)] at this
          simp at this
        refine wpAny_tail hback (ops.size - k) k listed b w' (by omega) hsz hexact (fun t i h1 h2 h3 h4 h5 => htl2 listed t k (Nat.le_refl _) h1 h2 hexact hsz) htl2 ?_
        exact evL_ol (S := S) (n := n) hcall hTR hHR htail' ops _ b w' _ hc2 hsat hrep (fun a' w' T2 S2 h3 h4 ⟨ρ2, L2, p1, p2⟩ => ⟨rfl, T2, S2, h3, h4, ρ2, L2, hpre.trans p1, p2⟩)
      · refine ⟨fun h0 => ?_, fun i hi => ?_⟩
        · exfalso
          obtain ⟨i, hi1, hi2, hi3⟩ := cnt_pos ops.size (by rw [hcnt]; omega : 0 < cnt (fun j => listed.getD j true) ops.size)
          have : i ∈ Region.ready .any ops listed := by
            rw [mem_ready]
            refine ⟨hi2, ops[i], by simp [hi1], fun e he hbd => ?_⟩
            have hlt := backB_spec hback (show ops[i]? = some ops[i] by simp [hi1]) he hbd
            have h3 := hi3 e.on hlt
            have : e.on < listed.size := by omega
            simpa [this] using h3
          rw [h0] at this
          simp at this
        · have hmem := mem_ready.1 hi
          obtain ⟨hun, o, ho, hpre⟩ := hmem
          have hilt : i < ops.size := (Array.getElem?_eq_some_iff.1 ho).1
          have hik : i < k := by
            rcases Nat.lt_or_ge i k with h | h
            · exact h
            · exfalso
              refine hall fun j hj => ?_
              by_cases hjH : j ∈ Hs0
              · exact hHl j hjH
              · exact hreadyX listed i hcl hi j (by omega) (htail i j h hilt (by omega) hjH) (by omega)
          have hnext : ∀ (b' : Act) (w'' : World), Inv (listed.setIfInBounds i true) b' w'' → wpAny P .any ops (fun e a' w' => e = .normal ∧ ∃ T2 S2, Sat n T2 a' ∧ Rep w0 S2 w' ∧ StR w0 ρ S T' H' T2 S2) fuel (listed.setIfInBounds i true) b' w'' := by
            intro b' w'' hinv'
            have hgj : ∀ j, j ≠ i → (listed.setIfInBounds i true).getD j true = listed.getD j true := fun j hj => getD_set_ne true (Ne.symm hj)
            refine ih _ _ w'' (by simpa using hsz) (hclset listed i o hsz hcl hi ho) ?_ ?_ hinv' ?_
            · intro j hj
              by_cases e : j = i
              · subst e; exact hgetset listed j hsz hilt
              · rw [hgj j e]; exact hHl j hj
            · intro t h3 h4
              rw [hgj t (by omega)]
              exact htl t h3 h4
            · have := hcntset listed i hsz hi hilt
              omega
          unfold wpOp
          simp only [ho]
          rcases hgo listed i o b w' hsz hcl hi ho hik hinv with ⟨hw1, hw2⟩ | ⟨hw1, hw2⟩
          · rw [if_pos hw1]
            left
            refine Oper.wp_mono ?_ (hw2 _)
            rintro b' w'' ⟨u, rfl, hinv'⟩
            exact hnext _ w'' hinv'
          · rw [hw1]
            simp only [Bool.false_eq_true, if_false]
            exact hnext _ w' hw2
  -- the moves first
  have phase0 : ∀ (Hr : List Nat) (listed : Array Bool) (b : Act) (w' : World), hoistB ops Hr listed = true → (∀ i ∈ Hr, i < k) → listed.size = ops.size →
      (∀ j o, ops[j]? = some o → listed.getD j true = true → ∀ e ∈ o.after, Region.binds .any e = true → listed.getD e.on true = true) → (∀ i ∈ Hs0, listed.getD i true = true ∨ i ∈ Hr) →
      (∀ t, k ≤ t → t < ops.size → listed.getD t true = false) → Inv listed b w' →
      wpAny P .any ops (fun e a' w' => e = .normal ∧ ∃ T2 S2, Sat n T2 a' ∧ Rep w0 S2 w' ∧ StR w0 ρ S T' H' T2 S2) (cnt (fun j => listed.getD j true) ops.size) listed b w' := by
    intro Hr
    induction Hr with
    | nil =>
      intro listed b w' _ _ hsz hcl hHl htl hinv
      exact key _ listed b w' hsz hcl (fun i hi => (hHl i hi).resolve_right (by simp)) htl hinv rfl
    | cons i Hr ih =>
      intro listed b w' hh hlt hsz hcl hHl htl hinv
      simp only [hoistB, Bool.and_eq_true] at hh
      obtain ⟨⟨⟨hho, hfree⟩, hready⟩, hrest⟩ := hh
      have hi : i ∈ Region.ready .any ops listed := by simpa using hready
      obtain ⟨hun, o, ho, hpre⟩ := mem_ready.1 hi
      have hilt : i < ops.size := (Array.getElem?_eq_some_iff.1 ho).1
      have hik : i < k := hlt i (by simp)
      have hgj : ∀ j, j ≠ i → (listed.setIfInBounds i true).getD j true = listed.getD j true := fun j hj => getD_set_ne true (Ne.symm hj)
      rw [hcntset listed i hsz hi hilt]
      simp only [hoistable?, ho, hoistable, Bool.and_eq_true] at hho
      obtain ⟨hgn, hmv⟩ := hho
      have hgn' : o.guard = none := by simpa using hgn
      have hwant : ∀ t : Array Value, Region.wanted o (yielded ops t) = true := fun t => by simp [Region.wanted, hgn']
      have hmove : ∃ x, (o.op = .move x ∨ o.op = .assign x) := by
        cases hop : o.op <;> rw [hop] at hmv <;> simp at hmv
        · exact ⟨_, .inl rfl⟩
        · exact ⟨_, .inr rfl⟩
      obtain ⟨x, hx⟩ := hmove
      have hexec : ∀ ρ, execOp ρ o = pure (.value (ρ x)) := by
        intro ρ
        rcases hx with hx | hx <;> simp [execOp, hx]
      rcases hgo listed i o b w' hsz hcl hi ho hik hinv with ⟨_, hw2⟩ | ⟨hw1, _⟩
      · have h2 := hw2 (fun _ _ _ => False)
        unfold Oper.wp at h2
        rw [hexec] at h2
        simp only [Sem.run_pure, Oper.upon] at h2
        obtain ⟨u, hu, hinv'⟩ := h2
        refine wpAny_take (oi := o) (v := b.eval x) ho hsel hfree hready (fun c a w hq => by simp at hq) (.inl ⟨hwant _, fun w => by rw [hexec]; rfl⟩) ?_
        refine ih _ _ w' hrest (fun j hj => hlt j (by simp [hj])) (by simpa using hsz) (hclset listed i o hsz hcl hi ho) ?_ ?_ hinv'
        · intro j hj
          by_cases e : j = i
          · subst e; exact .inl (hgetset listed j hsz hilt)
          · rw [hgj j e]
            rcases hHl j hj with h | h
            · exact .inl h
            · rcases List.mem_cons.1 h with h | h
              · exact absurd h e
              · exact .inr h
        · intro t h3 h4
          rw [hgj t (by omega)]
          exact htl t h3 h4
      · rw [hwant] at hw1; cases hw1
  have hcnt0 : cnt (fun j => (Array.replicate ops.size false).getD j true) ops.size = ops.size := by
    rw [cnt_congr (g := fun j => decide (j < 0)) ops.size (fun j hj => by simp [hj]), cnt_below]
    omega
  have hr0 : Rep w0 (cs L S) { w with drawn := w.drawn + 1 } := hr.same ((Below.refl _ w).drew) (fun _ _ => rfl)
  have hrep0 : ∀ j, j < k → (Array.replicate ops.size false).getD j true = decide (j < 0) := by
    intro j hj
    have : j < ops.size := by omega
    simp [this]
  have := phase0 Hs0 (Array.replicate ops.size false) a { w with drawn := w.drawn + 1 } hhoist hHk (by simp) ?_ (fun i hi => .inr hi) ?_ ?_
  · rwa [hcnt0] at this
  · intro j o ho hj
    exfalso
    have hlt : j < ops.size := (Array.getElem?_eq_some_iff.1 ho).1
    simp [hlt] at hj
  · intro t _ ht
    simp [ht]
  · rw [hInvE]
    refine ⟨ρ, L, Tc, H, ?_, List.prefix_refl _, hH, hr0, hs, ?_⟩
    · rw [lcl_none (c := 0) k (Nat.zero_le _) (fun j _ hj _ => by rw [hrep0 j hj]; simp)]
      rfl
    · rw [foldT_all k (g := fun j => decide (j < 0)) (fun j hj => by rw [hrep0 j hj]), foldT_below hTs0 k (Nat.zero_le _) hTs, hTs0]
      exact hT
end
end Go.SL
