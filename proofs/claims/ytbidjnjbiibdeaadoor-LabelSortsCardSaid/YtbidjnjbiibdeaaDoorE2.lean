/- The evaluator's operations, and that they tell what the operations do. -/
import Derived.Test.YtbidjnjbiibdeaaDoorE1
set_option linter.unusedVariables false
set_option linter.unusedSimpArgs false
namespace Go.SL
open Go.RowKit

def PV.ev (T : TT) : PV → Option Value
  | .v x => bif litV x then some x else none
  | .t n => look T n
/-- the values of the slots are those -/
def TR (ρ : Rho) (T Tc : TT) : Prop := ∀ (i : Nat) (v : Value), look T i = some v → ∃ u, look Tc i = some u ∧ VR ρ v u
theorem TR.mono {ρ ρ' : Rho} {T Tc : TT} (hp : ρ <+: ρ') (h : TR ρ T Tc) : TR ρ' T Tc := fun i v hv => let ⟨u, h1, h2⟩ := h i v hv; ⟨u, h1, h2.mono hp⟩
theorem TR.put {ρ : Rho} {T Tc : TT} (h : TR ρ T Tc) {v u : Value} (hv : VR ρ v u) (d : Option Nat) : TR ρ (put d v T) (put d u Tc) := by
  cases d with
  | none => exact h
  | some d =>
    intro i x hx
    simp only [SL.put] at hx ⊢
    by_cases e : d = i
    · subst e
      rw [look_put_same] at hx ⊢
      obtain rfl := Option.some.inj hx
      exact ⟨u, rfl, hv⟩
    · rw [look_cons_ne _ _ e] at hx ⊢
      exact h i x hx
theorem TR.ev {ρ : Rho} {T Tc : TT} (h : TR ρ T Tc) {x : PV} {v : Value} (hx : x.ev T = some v) : ∃ u, x.val Tc = some u ∧ VR ρ v u := by
  cases x with
  | t n => exact h n v hx
  | v y =>
    simp only [PV.ev] at hx
    cases hl : litV y with
    | false => rw [hl] at hx; simp at hx
    | true =>
      rw [hl] at hx
      simp at hx
      subst hx
      exact ⟨y, rfl, VR.lit hl⟩

/-! ### shapes -/
section inv
variable {ρ : Rho} {u : Value}
theorem VR.int_inv {k : IntKind} {n : Int} (h : VR ρ (.int k n) u) : u = .int k n := by cases h; rfl
theorem VR.bool_inv {b : Bool} (h : VR ρ (.bool b) u) : u = .bool b := by cases h; rfl
theorem VR.str_inv {s : ByteArray} (h : VR ρ (.string s) u) : u = .string s := by cases h; rfl
theorem VR.agg_inv {cs : Array Value} (h : VR ρ (.agg cs) u) : ∃ cs' : List Value, u = .agg cs'.toArray ∧ VRL ρ cs.toList cs' := by
  cases h with
  | flat h => simp [flatV] at h
  | agg h1 h2 => exact ⟨_, rfl, h1, h2⟩
theorem VR.tuple_inv {cs : Array Value} (h : VR ρ (.tuple cs) u) : ∃ cs' : List Value, u = .tuple cs'.toArray ∧ VRL ρ cs.toList cs' := by
  cases h with
  | flat h => simp [flatV] at h
  | tuple h1 h2 => exact ⟨_, rfl, h1, h2⟩
theorem VR.iface_inv {t : TypeId} {v : Value} (h : VR ρ (.iface t v) u) : ∃ v', u = .iface t v' ∧ VR ρ v v' := by
  cases h with
  | flat h => simp [flatV] at h
  | iface h => exact ⟨_, rfl, h⟩
/-- the place is that one -/
def AR (ρ : Rho) (a a' : Addr) : Prop := a.spot = none ∧ a'.spot = none ∧ a.off = a'.off ∧ ((a.block < ownB ∧ a'.block = a.block) ∨ ∃ i t, a.block = ownB + i ∧ ρ[i]? = some (a'.block, t))
theorem VR.ptr_inv {a : Addr} (h : VR ρ (.pointer (some a)) u) : ∃ a', u = .pointer (some a') ∧ AR ρ a a' := by
  cases h with
  | flat h =>
    simp only [flatV, Bool.and_eq_true, Option.isNone_iff_eq_none] at h
    exact ⟨a, rfl, h.2, h.2, rfl, .inl ⟨by have := h.1; rwa [Nat.blt_eq] at this, rfl⟩⟩
  | @ptr i o b t h => exact ⟨⟨b, o, none⟩, rfl, rfl, rfl, rfl, .inr ⟨i, t, rfl, h⟩⟩
theorem AR.ptr {a a' : Addr} (h : AR ρ a a') : VR ρ (.pointer (some a)) (.pointer (some a')) := by
  obtain ⟨b, o, s⟩ := a
  obtain ⟨b', o', s'⟩ := a'
  obtain ⟨h1, h2, h3, h4⟩ := h
  simp only at h1 h2 h3 h4
  subst h1 h2 h3
  rcases h4 with ⟨h4, h5⟩ | ⟨i, t, h4, h5⟩
  · subst h5; exact .flat (by simp [flatV]; exact h4)
  · subst h4; exact .ptr h5
theorem AR.add {a a' : Addr} (h : AR ρ a a') (k : Nat) : AR ρ ⟨a.block, a.off + k, none⟩ (a'.add k) := by
  obtain ⟨b', o', s'⟩ := a'
  obtain ⟨h1, h2, h3, h4⟩ := h
  simp only at h2 h3 h4
  subst h2
  rw [Addr.add_lit]
  exact ⟨rfl, rfl, by simp [h3], h4⟩
theorem VR.nilptr_inv (h : VR ρ (.pointer none) u) : u = .pointer none := by cases h; rfl
theorem VR.map_inv {b : Nat} (h : VR ρ (.map (some b)) u) : ∃ i b' t, b = ownB + i ∧ u = .map (some b') ∧ ρ[i]? = some (b', t) := by
  cases h with
  | flat h => simp [flatV] at h
  | @map i b' t h => exact ⟨i, b', t, rfl, rfl, h⟩
theorem VR.slice_nil_inv {l e : Nat} (h : VR ρ (.slice none l e) u) : l = 0 ∧ e = 0 ∧ u = .slice none 0 0 := by
  cases h with
  | flat h =>
    cases l <;> cases e <;> simp [flatV] at h
    exact ⟨rfl, rfl, rfl⟩
theorem VR.slice_inv {a : Addr} {l e : Nat} (h : VR ρ (.slice (some a) l e) u) : (∃ i b t, a = ⟨ownB + i, a.off, none⟩ ∧ u = .slice (some ⟨b, a.off, none⟩) l (capOf t a.off e) ∧ ρ[i]? = some (b, t) ∧ capFit t e ∧ l ≤ capOf t a.off e) ∨
    (a = ⟨0, 0, none⟩ ∧ l = 0 ∧ e = 3 ∧ ∃ a' c, u = .slice (some a') 0 c) := by
  cases h with
  | flat h => cases l <;> cases e <;> simp [flatV] at h
  | @slice i o b t l e h hf hc => exact .inl ⟨i, b, t, rfl, rfl, h, hf, hc⟩
  | @empty a c => exact .inr ⟨rfl, rfl, rfl, a, c, rfl⟩
theorem VR.func_inv {f : Fn} {fi ca : Array Value} (h : VR ρ (.func f fi ca) u) : ∃ fi' ca' : List Value, u = .func f fi'.toArray ca'.toArray ∧ VRL ρ fi.toList fi' ∧ VRL ρ ca.toList ca' := by
  cases h with
  | flat h => simp [flatV] at h
  | func h1 h2 h3 h4 => exact ⟨_, _, rfl, ⟨h1, h2⟩, ⟨h3, h4⟩⟩
theorem VR.cells {v : Value} (h : VR ρ v u) : VRL ρ v.cells.toList u.cells.toList := by
  cases h with
  | agg h1 h2 => exact ⟨h1, h2⟩
  | flat h =>
    have : u.cells = #[u] := by cases u <;> simp [flatV] at h <;> rfl
    rw [this]; exact VRL.cons (.flat h) .nil
  | ptr h => exact VRL.cons (.ptr h) .nil
  | slice h hf hc => exact VRL.cons (.slice h hf hc) .nil
  | empty => exact VRL.cons .empty .nil
  | map h => exact VRL.cons (.map h) .nil
  | func h1 h2 h3 h4 => exact VRL.cons (.func h1 h2 h3 h4) .nil
  | tuple h1 h2 => exact VRL.cons (.tuple h1 h2) .nil
  | iface h => exact VRL.cons (.iface h) .nil
  | opq => exact VRL.cons .opq .nil
theorem VR.one {v : Value} (h : VR ρ v u) : u.oneCell' = v.oneCell' := by cases h <;> rfl
theorem VRL.one {a b : List Value} (h : VRL ρ a b) : b.all (·.oneCell') = a.all (·.oneCell') := by
  induction a generalizing b with
  | nil => rw [h.nil_left]
  | cons v a ih =>
    obtain ⟨u, b, rfl, h1, h2⟩ := h.cons_left
    simp only [List.all_cons, h1.one, ih h2]
end inv

/-! ### cells -/
def EH.cellsOf (H : EH) (b : Nat) : Option (List Value) :=
  bif Nat.ble ownB b then (match H.tr.get (b - ownB) with | some (.cells c _) => some c | some (.ro c) => some c | some (.ext c) => some c | _ => none)
  else H.g.lookup b
def EH.row (H : EH) (a : Addr) (m : Nat) : Option (List Value) :=
  match H.cellsOf a.block with
  | some c => bif Nat.ble (a.off + m) c.length then some ((c.drop a.off).take m) else none
  | none => none
def EH.cell (H : EH) (a : Addr) : Option Value := match H.cellsOf a.block with | some c => c[a.off]? | none => none
section
variable {P : Program} {w0 : World} {n : Nat} {T Tc : TT} {S : SS} {ρ : Rho} {H : EH} {L : LL}
theorem ownB_ble {b : Nat} : (Nat.ble ownB b = true ∧ ownB ≤ b) ∨ (Nat.ble ownB b = false ∧ b < ownB) := by
  cases h : Nat.ble ownB b with
  | true => exact .inl ⟨rfl, Nat.le_of_ble_eq_true h⟩
  | false => exact .inr ⟨rfl, by rcases Nat.lt_or_ge b ownB with h' | h'; exact h'; rw [Nat.ble_eq_true_of_le h'] at h; cases h⟩
theorem lookup_mem {l : List (Nat × List Value)} {b : Nat} {c : List Value} (h : l.lookup b = some c) : (b, c) ∈ l := by
  induction l with
  | nil => simp at h
  | cons p l ih =>
    obtain ⟨x, y⟩ := p
    rw [List.lookup_cons] at h
    split at h
    · rename_i hx
      obtain rfl := Option.some.inj h
      have : b = x := by simpa using hx
      subst this; simp
    · exact List.mem_cons_of_mem _ (ih h)
theorem HR.cellsOf (h : HR w0 ρ H L) {b b' : Nat} (hb : (b < ownB ∧ b' = b) ∨ ∃ i t, b = ownB + i ∧ ρ[i]? = some (b', t)) {c : List Value} (hc : H.cellsOf b = some c) {j : Nat} {v : Value} (hj : c[j]? = some v) : ∃ u, Cell w0 (cs L S) ⟨b', j, none⟩ u ∧ VR ρ v u := by
  unfold EH.cellsOf at hc
  rcases hb with ⟨hb, rfl⟩ | ⟨i, t, rfl, hi⟩
  · rcases ownB_ble (b := b') with ⟨e, h1⟩ | ⟨e, h1⟩
    · omega
    · rw [e] at hc
      simp only [cond_false] at hc
      obtain ⟨u, h2, h3⟩ := h.glob _ (lookup_mem hc) j v hj
      exact ⟨u, .inl h2, h3⟩
  · rcases ownB_ble (b := ownB + i) with ⟨e, h1⟩ | ⟨e, h1⟩
    · rw [e] at hc
      simp only [cond_true, Nat.add_sub_cancel_left] at hc
      have key : ∀ o, H.tr.get i = some o → (o = .ext c ∨ (∃ E, o = .cells c E) ∨ o = .ro c) → ∃ u, Cell w0 (cs L S) ⟨b', j, none⟩ u ∧ VR ρ v u := by
        intro o ho hoc
        rcases hoc with rfl | ⟨E, rfl⟩ | rfl
        · obtain ⟨_, b2, t2, h2, ⟨c', h3, h4⟩ | ⟨o', h3, _⟩⟩ := h.at_ i _ ho
          · cases h3
            rw [hi] at h2
            obtain ⟨rfl, rfl⟩ : b' = b2 ∧ t = t2 := by simpa using h2
            obtain ⟨u, h5, h6⟩ := h4 j v hj
            exact ⟨u, .inl h5, h6⟩
          · exact h3.elim
        · obtain ⟨b2, t2, o', k, h2, ⟨c', h3, rfl⟩, _, h5⟩ := h.own ho (by simp) S
          rw [hi] at h2
          obtain ⟨rfl, rfl⟩ : b' = b2 ∧ t = t2 := by simpa using h2
          obtain ⟨u, h6, h7⟩ := h3.get hj
          exact ⟨u, .inr (.inl ⟨c', E, t, List.mem_flatten.2 ⟨_, List.mem_of_getElem? h5, by simp⟩, rfl, h6⟩), h7⟩
        · obtain ⟨b2, t2, o', k, h2, ⟨c', h3, rfl⟩, _, h5⟩ := h.own ho (by simp) S
          rw [hi] at h2
          obtain ⟨rfl, rfl⟩ : b' = b2 ∧ t = t2 := by simpa using h2
          obtain ⟨u, h6, h7⟩ := h3.get hj
          exact ⟨u, .inr (.inr ⟨c', List.mem_flatten.2 ⟨_, List.mem_of_getElem? h5, by simp⟩, rfl, h6⟩), h7⟩
      cases ho : H.tr.get i with
      | none => rw [ho] at hc; simp at hc
      | some o =>
        rw [ho] at hc
        refine key o ho ?_
        cases o <;> simp at hc
        · subst hc; exact .inr (.inl ⟨_, rfl⟩)
        · subst hc; exact .inr (.inr rfl)
        · subst hc; exact .inl rfl
    · omega
theorem HR.cell (h : HR w0 ρ H L) {a a' : Addr} (ha : AR ρ a a') {v : Value} (hc : H.cell a = some v) : ∃ u, Cell w0 (cs L S) a' u ∧ VR ρ v u := by
  unfold EH.cell at hc
  cases e : H.cellsOf a.block with
  | none => rw [e] at hc; simp at hc
  | some c =>
    rw [e] at hc
    obtain ⟨h1, h2, h3, h4⟩ := ha
    obtain ⟨u, h5, h6⟩ := h.cellsOf (S := S) h4 e hc
    refine ⟨u, ?_, h6⟩
    have : a' = ⟨a'.block, a.off, none⟩ := by rw [h3, ← h2]
    rw [this]; exact h5
theorem choose_list {Q : Nat → Value → Prop} : ∀ (xs : List Value) (s : Nat), (∀ (j : Nat) (v : Value), xs[j]? = some v → ∃ u, Q (s + j) u ∧ VR ρ v u) → ∃ us, VRL ρ xs us ∧ ∀ (j : Nat) (u : Value), us[j]? = some u → Q (s + j) u
  | [], s, h => ⟨[], .nil, fun j u hu => by simp at hu⟩
  | x :: xs, s, h => by
    obtain ⟨u, h1, h2⟩ := h 0 x rfl
    obtain ⟨us, h3, h4⟩ := choose_list xs (s + 1) fun j v hj => by
      obtain ⟨u, h5, h6⟩ := h (j + 1) v (by simpa using hj)
      exact ⟨u, by rw [show s + 1 + j = s + (j + 1) by omega]; exact h5, h6⟩
    refine ⟨u :: us, VRL.cons h2 h3, fun j w hw => ?_⟩
    cases j with
    | zero => simp at hw; subst hw; exact h1
    | succ j => have := h4 j w (by simpa using hw); rwa [show s + 1 + j = s + (j + 1) by omega] at this
theorem HR.row (h : HR w0 ρ H L) {a a' : Addr} (ha : AR ρ a a') {m : Nat} {c : List Value} (hc : H.row a m = some c) : c.length = m ∧ ∃ us, VRL ρ c us ∧ ∀ (j : Nat) (u : Value), us[j]? = some u → Cell w0 (cs L S) (a'.add j) u := by
  unfold EH.row at hc
  cases e : H.cellsOf a.block with
  | none => rw [e] at hc; simp at hc
  | some d =>
    rw [e] at hc
    simp only at hc
    cases hb : Nat.ble (a.off + m) d.length with
    | false => rw [hb] at hc; simp at hc
    | true =>
      rw [hb] at hc
      simp only [cond_true, Option.some.injEq] at hc
      have hle := Nat.le_of_ble_eq_true hb
      subst hc
      refine ⟨by simp; omega, ?_⟩
      obtain ⟨h1, h2, h3, h4⟩ := ha
      have := choose_list (ρ := ρ) (Q := fun j u => Cell w0 (cs L S) (a'.add j) u) ((d.drop a.off).take m) 0 fun j v hj => by
        have hj' : d[a.off + j]? = some v := by
          rw [List.getElem?_take] at hj
          split at hj
          · rwa [List.getElem?_drop] at hj
          · cases hj
        obtain ⟨u, h5, h6⟩ := h.cellsOf (S := S) h4 e hj'
        refine ⟨u, ?_, h6⟩
        have e2 : a'.add (0 + j) = ⟨a'.block, a.off + j, none⟩ := by
          obtain ⟨b', o', s'⟩ := a'
          simp only at h2 h3
          subst h2
          rw [Nat.zero_add, Addr.add_lit, h3]
        rw [e2]; exact h5
      obtain ⟨us, h5, h6⟩ := this
      exact ⟨us, h5, fun j u hu => by have := h6 j u hu; rwa [Nat.zero_add] at this⟩

/-! ### what an operation's telling says -/
def Snd (P : Program) (w0 : World) (n : Nat) (S : SS) (po : PO) (Tc : TT) (ρ : Rho) (L : LL) (r : Value × EH) : Prop :=
  OW P w0 n po Tc (cs L S) (fun u S' => ∃ ρ' L', ρ <+: ρ' ∧ VR ρ' r.1 u ∧ S' = cs L' S ∧ HR w0 ρ' r.2 L')
theorem Snd.det {po : PO} {v u : Value} (h : Yields P w0 n po Tc (cs L S) u) (hv : VR ρ v u) (hH : HR w0 ρ H L) : Snd P w0 n S po Tc ρ L (v, H) :=
  (OW.of_yields h).mono fun _ _ ⟨h1, h2⟩ => ⟨ρ, L, List.prefix_refl _, h1 ▸ hv, h2, hH⟩
theorem Snd.new {po : PO} {v : Value} {o : EO} {F : Nat → Value → AO → Nat → Prop} (hn : H.nx < bigN) (hH : HR w0 ρ H L)
    (h : OW P w0 n po Tc (cs L S) (fun u S' => ∃ r o' t, F r u o' t ∧ S' = [(r, o')] :: cs L S)) (hF : ∀ r u o' t, F r u o' t → VR (ρ ++ [(r, t)]) v u ∧ OR (ρ ++ [(r, t)]) t o o') : Snd P w0 n S po Tc ρ L (v, H.push o) :=
  h.mono fun u S' ⟨r, o', t, h1, h2⟩ => ⟨ρ ++ [(r, t)], (H.nx, [(r, o')]) :: L, List.prefix_append _ _, (hF r u o' t h1).1, by rw [h2]; rfl, hH.push hn (hF r u o' t h1).2⟩
theorem nx_get (hH : HR w0 ρ H L) (x : Nat × Nat) : (ρ ++ [x])[H.nx]? = some x := by rw [hH.nx]; simp
end
end Go.SL
