/- An evaluator of small code on values whose own blocks bear made-up numbers: what its states say of a world. -/
import Derived.Test.YtbidjnjbiibdeaaDoorSl18
set_option linter.unusedVariables false
set_option linter.unusedSimpArgs false
namespace Go.SL
open Go.RowKit

/-- numbers of the walk's own blocks begin here -/
def ownB : Nat := 1099511627776
/-- for each own block: where it lies, and how many cells it has -/
abbrev Rho := List (Nat × Nat)
def capOf (t o e : Nat) : Nat := match e % 4 with | 0 => (t - o) / (e / 4) | 1 => e / 4 | _ => t - o
def capFit (t e : Nat) : Prop := e % 4 ≠ 3 ∧ (e % 4 = 0 → (e = 0 ∧ t = 0) ∨ (0 < e / 4 ∧ t = t / (e / 4) * (e / 4) ∧ t / (e / 4) ≤ maxLen))

def flatV : Value → Bool
  | .bool _ | .int _ _ | .string _ | .pointer none | .slice none 0 0 | .map none | .nilFunc | .nilIface => true
  | .pointer (some a) => Nat.blt a.block ownB && a.spot.isNone
  | _ => false

inductive VR (ρ : Rho) : Value → Value → Prop
  | flat {v : Value} (h : flatV v = true) : VR ρ v v
  | ptr {i o b t : Nat} (h : ρ[i]? = some (b, t)) : VR ρ (.pointer (some ⟨ownB + i, o, none⟩)) (.pointer (some ⟨b, o, none⟩))
  | slice {i o b t l e : Nat} (h : ρ[i]? = some (b, t)) (hf : capFit t e) (hc : l ≤ capOf t o e) : VR ρ (.slice (some ⟨ownB + i, o, none⟩) l e) (.slice (some ⟨b, o, none⟩) l (capOf t o e))
  | empty {a : Addr} {c : Nat} : VR ρ (.slice (some ⟨0, 0, none⟩) 0 3) (.slice (some a) 0 c)
  | map {i b t : Nat} (h : ρ[i]? = some (b, t)) : VR ρ (.map (some (ownB + i))) (.map (some b))
  | func {f : Fn} {fi ca fi' ca' : List Value} (h1 : fi.length = fi'.length) (h2 : ∀ (j : Nat) (v u : Value), fi[j]? = some v → fi'[j]? = some u → VR ρ v u)
      (h3 : ca.length = ca'.length) (h4 : ∀ (j : Nat) (v u : Value), ca[j]? = some v → ca'[j]? = some u → VR ρ v u) : VR ρ (.func f fi.toArray ca.toArray) (.func f fi'.toArray ca'.toArray)
  | agg {cs cs' : List Value} (h1 : cs.length = cs'.length) (h2 : ∀ (j : Nat) (v u : Value), cs[j]? = some v → cs'[j]? = some u → VR ρ v u) : VR ρ (.agg cs.toArray) (.agg cs'.toArray)
  | tuple {cs cs' : List Value} (h1 : cs.length = cs'.length) (h2 : ∀ (j : Nat) (v u : Value), cs[j]? = some v → cs'[j]? = some u → VR ρ v u) : VR ρ (.tuple cs.toArray) (.tuple cs'.toArray)
  | iface {t : TypeId} {v v' : Value} (h : VR ρ v v') : VR ρ (.iface t v) (.iface t v')
  | opq {k : Option Nat} {a : Addr} : VR ρ (.chan k) (.pointer (some a))

def VRL (ρ : Rho) (cs cs' : List Value) : Prop := cs.length = cs'.length ∧ ∀ (j : Nat) (v u : Value), cs[j]? = some v → cs'[j]? = some u → VR ρ v u

theorem rho_mono {ρ ρ' : Rho} (h : ρ <+: ρ') {i : Nat} {x : Nat × Nat} (hi : ρ[i]? = some x) : ρ'[i]? = some x := by
  obtain ⟨r, rfl⟩ := h
  rw [List.getElem?_append_left (List.getElem?_eq_some_iff.1 hi).1]; exact hi
theorem VR.mono {ρ ρ' : Rho} (hp : ρ <+: ρ') {v u : Value} (h : VR ρ v u) : VR ρ' v u := by
  induction h with
  | flat h => exact .flat h
  | ptr h => exact .ptr (rho_mono hp h)
  | slice h hf hc => exact .slice (rho_mono hp h) hf hc
  | empty => exact .empty
  | map h => exact .map (rho_mono hp h)
  | func h1 _ h3 _ i2 i4 => exact .func h1 i2 h3 i4
  | agg h1 _ i2 => exact .agg h1 i2
  | tuple h1 _ i2 => exact .tuple h1 i2
  | iface _ ih => exact .iface ih
  | opq => exact .opq
theorem VRL.mono {ρ ρ' : Rho} (hp : ρ <+: ρ') {v u : List Value} (h : VRL ρ v u) : VRL ρ' v u := ⟨h.1, fun j a b h1 h2 => (h.2 j a b h1 h2).mono hp⟩
theorem VRL.nil {ρ : Rho} : VRL ρ [] [] := ⟨rfl, fun j v u h => by simp at h⟩
theorem VRL.cons {ρ : Rho} {v u : Value} {cs cs' : List Value} (h : VR ρ v u) (k : VRL ρ cs cs') : VRL ρ (v :: cs) (u :: cs') :=
  ⟨by simp [k.1], fun j a b h1 h2 => by
    cases j with
    | zero => simp at h1 h2; subst h1; subst h2; exact h
    | succ j => exact k.2 j a b (by simpa using h1) (by simpa using h2)⟩
theorem VRL.tail {ρ : Rho} {v u : Value} {cs cs' : List Value} (h : VRL ρ (v :: cs) (u :: cs')) : VR ρ v u ∧ VRL ρ cs cs' :=
  ⟨h.2 0 v u rfl rfl, by simpa using h.1, fun j a b h1 h2 => h.2 (j + 1) a b (by simpa using h1) (by simpa using h2)⟩
theorem VRL.cons_left {ρ : Rho} {v : Value} {cs us : List Value} (h : VRL ρ (v :: cs) us) : ∃ u cs', us = u :: cs' ∧ VR ρ v u ∧ VRL ρ cs cs' := by
  cases us with
  | nil => exact absurd h.1 (by simp)
  | cons u cs' => exact ⟨u, cs', rfl, h.tail.1, h.tail.2⟩
theorem VRL.nil_left {ρ : Rho} {us : List Value} (h : VRL ρ [] us) : us = [] := List.eq_nil_of_length_eq_zero (by have := h.1; simp at this; omega)
theorem VRL.get {ρ : Rho} {cs cs' : List Value} (h : VRL ρ cs cs') {j : Nat} {v : Value} (hj : cs[j]? = some v) : ∃ u, cs'[j]? = some u ∧ VR ρ v u := by
  have hl : j < cs'.length := by rw [← h.1]; exact (List.getElem?_eq_some_iff.1 hj).1
  exact ⟨cs'[j], by simp [hl], h.2 j v _ hj (by simp [hl])⟩
theorem VRL.append {ρ : Rho} {a b a' b' : List Value} (h : VRL ρ a a') (k : VRL ρ b b') : VRL ρ (a ++ b) (a' ++ b') := by
  refine ⟨by simp [h.1, k.1], fun j v u h1 h2 => ?_⟩
  by_cases hj : j < a.length
  · rw [List.getElem?_append_left hj] at h1
    rw [List.getElem?_append_left (by rw [← h.1]; exact hj)] at h2
    exact h.2 j v u h1 h2
  · rw [List.getElem?_append_right (by omega)] at h1
    rw [List.getElem?_append_right (by rw [← h.1]; omega), ← h.1] at h2
    exact k.2 _ v u h1 h2
theorem VRL.take {ρ : Rho} {a a' : List Value} (h : VRL ρ a a') (k : Nat) : VRL ρ (a.take k) (a'.take k) :=
  ⟨by simp [h.1], fun j v u h1 h2 => by
    rw [List.getElem?_take] at h1 h2
    split at h1
    · rename_i hj; rw [if_pos hj] at h2; exact h.2 j v u h1 h2
    · cases h1⟩
theorem VRL.drop {ρ : Rho} {a a' : List Value} (h : VRL ρ a a') (k : Nat) : VRL ρ (a.drop k) (a'.drop k) :=
  ⟨by simp [h.1], fun j v u h1 h2 => by rw [List.getElem?_drop] at h1 h2; exact h.2 _ v u h1 h2⟩
theorem VRL.setAt {ρ : Rho} : ∀ {a a' : List Value} (k : Nat) {b b' : List Value}, VRL ρ a a' → VRL ρ b b' → VRL ρ (setAt a k b) (setAt a' k b')
  | [], a', k, b, b', h, hb => by
    obtain rfl := h.nil_left
    rcases b with _ | ⟨v, b⟩ <;> rcases b' with _ | ⟨u, b'⟩ <;> cases k <;> simp [SL.setAt] <;> exact h
  | c :: a, a', k, b, b', h, hb => by
    obtain ⟨c', a', rfl, hc, ha⟩ := h.cons_left
    cases k with
    | zero =>
      cases b with
      | nil => obtain rfl := hb.nil_left; simpa [SL.setAt] using h
      | cons v b => obtain ⟨u, b', rfl, hv, hb'⟩ := hb.cons_left; simpa [SL.setAt] using VRL.cons hv (VRL.setAt 0 ha hb')
    | succ k => simpa [SL.setAt] using VRL.cons hc (VRL.setAt k ha hb)
theorem VRL.flat {ρ : Rho} {cs : List Value} (h : cs.all flatV = true) : VRL ρ cs cs :=
  ⟨rfl, fun j v u h1 h2 => by rw [h1] at h2; obtain rfl := Option.some.inj h2; exact .flat (List.all_eq_true.1 h v (List.mem_of_getElem? h1))⟩

/-- constants of a text -/
def litV : Value → Bool
  | .func (.func _) fi ca => fi.toList.all flatV && ca.toList.all flatV
  | .agg cs => cs.toList.all flatV
  | .iface _ v => flatV v
  | v => flatV v
theorem VR.lit {ρ : Rho} {v : Value} (h : litV v = true) : VR ρ v v := by
  cases v with
  | func f fi ca =>
    cases f with
    | func f =>
      simp only [litV, Bool.and_eq_true] at h
      have h1 := VRL.flat (ρ := ρ) h.1
      have h2 := VRL.flat (ρ := ρ) h.2
      have := VR.func (ρ := ρ) (f := .func f) h1.1 h1.2 h2.1 h2.2
      simpa using this
    | _ => simp [litV, flatV] at h
  | agg cs =>
    have h1 := VRL.flat (ρ := ρ) (cs := cs.toList) h
    have := VR.agg (ρ := ρ) h1.1 h1.2
    simpa using this
  | iface t v => exact .iface (.flat h)
  | _ => exact .flat h

/-! ### what is known of blocks -/
inductive EO where
  | cells (c : List Value) (E : TypeId)
  | ro (c : List Value)
  | map (es : List (ByteArray × Value))
  | iter (s : ByteArray) (pos : Nat)
  | ext (c : List Value)
inductive Tr where
  | leaf
  | node (v : Option EO) (l r : Tr)
def Tr.get : Tr → Nat → Option EO
  | .leaf, _ => none
  | .node v l r, n => bif Nat.beq n 0 then v else bif Nat.beq (n % 2) 1 then l.get (n / 2) else r.get (n / 2 - 1)
def Tr.set : Nat → Tr → Nat → Option EO → Tr
  | 0, t, _, _ => t
  | f + 1, .leaf, n, o => bif Nat.beq n 0 then .node o .leaf .leaf else bif Nat.beq (n % 2) 1 then .node none (Tr.set f .leaf (n / 2) o) .leaf else .node none .leaf (Tr.set f .leaf (n / 2 - 1) o)
  | f + 1, .node v l r, n, o => bif Nat.beq n 0 then .node o l r else bif Nat.beq (n % 2) 1 then .node v (Tr.set f l (n / 2) o) r else .node v l (Tr.set f r (n / 2 - 1) o)
theorem beq_cases (n m : Nat) : (n = m ∧ Nat.beq n m = true) ∨ (n ≠ m ∧ Nat.beq n m = false) := by
  by_cases h : n = m
  · exact .inl ⟨h, by subst h; exact Nat.beq_refl n⟩
  · refine .inr ⟨h, ?_⟩
    cases e : Nat.beq n m with
    | false => rfl
    | true => exact absurd (Nat.eq_of_beq_eq_true e) h
theorem Tr.get_leaf (n : Nat) : Tr.leaf.get n = none := by cases n <;> rfl
theorem Tr.get_set (f : Nat) : ∀ (t : Tr) (n m : Nat) (o : Option EO), n + 1 < 2 ^ f → (Tr.set f t n o).get m = if m = n then o else t.get m := by
  induction f with
  | zero => intro t n m o h; simp at h
  | succ f ih =>
    intro t n m o h
    have hp : 2 ^ (f + 1) = 2 * 2 ^ f := by rw [Nat.pow_succ, Nat.mul_comm]
    cases t with
    | leaf =>
      simp only [Tr.set]
      rcases beq_cases n 0 with ⟨rfl, e⟩ | ⟨hn, e⟩
      · rw [e]; simp only [cond_true, Tr.get]
        rcases beq_cases m 0 with ⟨rfl, e2⟩ | ⟨hm, e2⟩ <;> rw [e2] <;> simp [Tr.get_leaf, *]
      · rw [e]; simp only [cond_false]
        rcases beq_cases (n % 2) 1 with ⟨h1, e1⟩ | ⟨h1, e1⟩
        · rw [e1]; simp only [cond_true, Tr.get]
          rcases beq_cases m 0 with ⟨rfl, e2⟩ | ⟨hm, e2⟩ <;> rw [e2] <;> simp only [cond_true, cond_false]
          · rw [if_neg (by omega)]
          · rcases beq_cases (m % 2) 1 with ⟨h3, e3⟩ | ⟨h3, e3⟩ <;> rw [e3] <;> simp only [cond_true, cond_false]
            · rw [ih _ _ _ _ (by omega)]
              by_cases hc : m = n
              · rw [if_pos hc, if_pos (by omega)]
              · rw [if_neg hc, if_neg (by omega)]; try simp [Tr.get_leaf]
            · rw [if_neg (by omega)]; try simp [Tr.get_leaf]
        · rw [e1]; simp only [cond_false, Tr.get]
          rcases beq_cases m 0 with ⟨rfl, e2⟩ | ⟨hm, e2⟩ <;> rw [e2] <;> simp only [cond_true, cond_false]
          · rw [if_neg (by omega)]
          · rcases beq_cases (m % 2) 1 with ⟨h3, e3⟩ | ⟨h3, e3⟩ <;> rw [e3] <;> simp only [cond_true, cond_false]
            · rw [if_neg (by omega)]; try simp [Tr.get_leaf]
            · rw [ih _ _ _ _ (by omega)]
              by_cases hc : m = n
              · rw [if_pos hc, if_pos (by omega)]
              · rw [if_neg hc, if_neg (by omega)]; try simp [Tr.get_leaf]
    | node v l r =>
      simp only [Tr.set]
      rcases beq_cases n 0 with ⟨rfl, e⟩ | ⟨hn, e⟩
      · rw [e]; simp only [cond_true, Tr.get]
        rcases beq_cases m 0 with ⟨rfl, e2⟩ | ⟨hm, e2⟩ <;> rw [e2] <;> simp [*]
      · rw [e]; simp only [cond_false]
        rcases beq_cases (n % 2) 1 with ⟨h1, e1⟩ | ⟨h1, e1⟩
        · rw [e1]; simp only [cond_true, Tr.get]
          rcases beq_cases m 0 with ⟨rfl, e2⟩ | ⟨hm, e2⟩ <;> rw [e2] <;> simp only [cond_true, cond_false]
          · rw [if_neg (by omega)]
          · rcases beq_cases (m % 2) 1 with ⟨h3, e3⟩ | ⟨h3, e3⟩ <;> rw [e3] <;> simp only [cond_true, cond_false]
            · rw [ih _ _ _ _ (by omega)]
              by_cases hc : m = n
              · rw [if_pos hc, if_pos (by omega)]
              · rw [if_neg hc, if_neg (by omega)]
            · rw [if_neg (by omega)]
        · rw [e1]; simp only [cond_false, Tr.get]
          rcases beq_cases m 0 with ⟨rfl, e2⟩ | ⟨hm, e2⟩ <;> rw [e2] <;> simp only [cond_true, cond_false]
          · rw [if_neg (by omega)]
          · rcases beq_cases (m % 2) 1 with ⟨h3, e3⟩ | ⟨h3, e3⟩ <;> rw [e3] <;> simp only [cond_true, cond_false]
            · rw [if_neg (by omega)]
            · rw [ih _ _ _ _ (by omega)]
              by_cases hc : m = n
              · rw [if_pos hc, if_pos (by omega)]
              · rw [if_neg hc, if_neg (by omega)]

structure EH where
  nx : Nat
  tr : Tr
  g : List (Nat × List Value)
def bigN : Nat := 1000000000000
def EH.push (H : EH) (o : EO) : EH := ⟨H.nx + 1, Tr.set 50 H.tr H.nx (some o), H.g⟩
def EH.upd (H : EH) (i : Nat) (o : EO) : EH := ⟨H.nx, Tr.set 50 H.tr i (some o), H.g⟩
def EH.del (H : EH) (i : Nat) : EH := ⟨H.nx, Tr.set 50 H.tr i none, H.g⟩

def mapR (ρ : Rho) (es : List (ByteArray × Value)) (es' : List (ByteArray × Value)) : Prop := es.map Prod.fst = es'.map Prod.fst ∧ VRL ρ (es.map Prod.snd) (es'.map Prod.snd)
/-- the block that is known so holds that -/
def OR (ρ : Rho) (t : Nat) : EO → AO → Prop
  | .cells c E, o => ∃ c', VRL ρ c c' ∧ o = .cells c' E t
  | .ro c, o => ∃ c', VRL ρ c c' ∧ o = .ro c'
  | .map es, o => ∃ es', mapR ρ es es' ∧ o = .map (skey es')
  | .iter s p, o => o = .obj (.stringIter s p)
  | .ext _, _ => False
abbrev LL := List (Nat × Seg)
def cs (L : LL) (S : SS) : SS := L.map Prod.snd ++ S
def extR (w0 : World) (ρ : Rho) (b : Nat) (c : List Value) : Prop := ∀ (j : Nat) (v : Value), c[j]? = some v → ∃ u, w0.cell? ⟨b, j, none⟩ = some u ∧ VR ρ v u
structure HR (w0 : World) (ρ : Rho) (H : EH) (L : LL) : Prop where
  nx : H.nx = ρ.length
  big : H.nx ≤ bigN
  nodup : (L.map Prod.fst).Nodup
  lt : ∀ p ∈ L, p.1 < H.nx
  at_ : ∀ i o, H.tr.get i = some o → i < H.nx ∧ ∃ b t, ρ[i]? = some (b, t) ∧ ((∃ c, o = .ext c ∧ extR w0 ρ b c) ∨ ∃ o', OR ρ t o o' ∧ (i, [(b, o')]) ∈ L)
  glob : ∀ p ∈ H.g, extR w0 ρ p.1 p.2

theorem nodup_set_new {xs : List Nat} {k x : Nat} (h : xs.Nodup) (hx : x ∉ xs) : (xs.set k x).Nodup := by
  induction xs generalizing k with
  | nil => simp
  | cons a xs ih =>
    rw [List.nodup_cons] at h
    cases k with
    | zero => rw [List.set_cons_zero, List.nodup_cons]; exact ⟨fun hm => hx (by simp [hm]), h.2⟩
    | succ k =>
      rw [List.set_cons_succ, List.nodup_cons]
      refine ⟨fun hm => ?_, ih h.2 fun hm => hx (by simp [hm])⟩
      rcases List.mem_or_eq_of_mem_set hm with hm | hm
      · exact h.1 hm
      · exact hx (by simp [hm])
theorem mapR.mono {ρ ρ' : Rho} (hp : ρ <+: ρ') {a b : List (ByteArray × Value)} (h : mapR ρ a b) : mapR ρ' a b := ⟨h.1, h.2.mono hp⟩
theorem OR.mono {ρ ρ' : Rho} (hp : ρ <+: ρ') {t : Nat} {o : EO} {o' : AO} (h : OR ρ t o o') : OR ρ' t o o' := by
  cases o with
  | cells c E => obtain ⟨c', h1, h2⟩ := h; exact ⟨c', h1.mono hp, h2⟩
  | ro c => obtain ⟨c', h1, h2⟩ := h; exact ⟨c', h1.mono hp, h2⟩
  | map es => obtain ⟨es', h1, h2⟩ := h; exact ⟨es', h1.mono hp, h2⟩
  | iter s p => exact h
  | ext c => exact h
theorem extR.mono {w0 : World} {ρ ρ' : Rho} (hp : ρ <+: ρ') {b : Nat} {c : List Value} (h : extR w0 ρ b c) : extR w0 ρ' b c :=
  fun j v hj => let ⟨u, h1, h2⟩ := h j v hj; ⟨u, h1, h2.mono hp⟩
section
variable {w0 : World} {ρ : Rho} {H : EH} {L : LL}
theorem HR.own (h : HR w0 ρ H L) {i : Nat} {o : EO} (hi : H.tr.get i = some o) (he : ∀ c, o ≠ .ext c) (S : SS) : ∃ (b t : Nat) (o' : AO) (k : Nat), ρ[i]? = some (b, t) ∧ OR ρ t o o' ∧ L[k]? = some (i, [(b, o')]) ∧ (cs L S)[k]? = some [(b, o')] := by
  obtain ⟨_, b, t, h1, ⟨c, h2, _⟩ | ⟨o', h2, h3⟩⟩ := h.at_ i o hi
  · exact absurd h2 (he c)
  · obtain ⟨k, hk⟩ := List.getElem?_of_mem h3
    refine ⟨b, t, o', k, h1, h2, hk, ?_⟩
    have hl : k < L.length := (List.getElem?_eq_some_iff.1 hk).1
    unfold cs
    rw [List.getElem?_append_left (by simpa using hl), List.getElem?_map, hk]
    rfl
theorem HR.push (h : HR w0 ρ H L) {o : EO} {o' : AO} {r t : Nat} (hn : H.nx < bigN) (ho : OR (ρ ++ [(r, t)]) t o o') : HR w0 (ρ ++ [(r, t)]) (H.push o) ((H.nx, [(r, o')]) :: L) := by
  have hp : ρ <+: ρ ++ [(r, t)] := List.prefix_append _ _
  refine ⟨by simp [EH.push, h.nx], by simp [EH.push]; omega, ?_, ?_, ?_, fun p hpm => (h.glob p hpm).mono hp⟩
  · simp only [List.map_cons, List.nodup_cons]
    refine ⟨fun hm => ?_, h.nodup⟩
    obtain ⟨p, hpm, he⟩ := List.mem_map.1 hm
    have := h.lt p hpm
    omega
  · intro p hpm
    simp only [EH.push]
    rcases List.mem_cons.1 hpm with rfl | hpm
    · simp
    · have := h.lt p hpm; omega
  · intro i x hi
    simp only [EH.push] at hi ⊢
    have hb : bigN = 1000000000000 := rfl
    rw [Tr.get_set 50 _ _ _ _ (by rw [hb] at hn; omega)] at hi
    split at hi
    · rename_i he
      subst he
      obtain rfl := Option.some.inj hi
      refine ⟨by omega, r, t, by rw [h.nx]; simp, .inr ⟨o', ho, by simp⟩⟩
    · obtain ⟨hlt, b, t', h1, h2⟩ := h.at_ i x hi
      refine ⟨by omega, b, t', rho_mono hp h1, ?_⟩
      rcases h2 with ⟨c, h2, h3⟩ | ⟨o'', h2, h3⟩
      · exact .inl ⟨c, h2, h3.mono hp⟩
      · exact .inr ⟨o'', h2.mono hp, by simp [h3]⟩
theorem HR.upd (h : HR w0 ρ H L) {o : EO} {o' o2 : AO} {i k b t : Nat} (hr : ρ[i]? = some (b, t)) (hk : L[k]? = some (i, [(b, o2)])) (ho : OR ρ t o o') : HR w0 ρ (H.upd i o) (L.set k (i, [(b, o')])) := by
  have hkl : k < L.length := (List.getElem?_eq_some_iff.1 hk).1
  have hfst : (L.set k (i, [(b, o')])).map Prod.fst = L.map Prod.fst := by
    rw [List.map_set]
    apply List.ext_getElem? 
    intro j
    by_cases e : k = j
    · subst e; rw [List.getElem?_set_self (by simpa using hkl)]; simp [hk]
    · rw [List.getElem?_set_ne e]
  have hil : i < H.nx := by have := h.lt _ (List.mem_of_getElem? hk); exact this
  refine ⟨h.nx, h.big, by rw [hfst]; exact h.nodup, ?_, ?_, h.glob⟩
  · intro p hp
    rcases List.mem_or_eq_of_mem_set hp with hp | rfl
    · exact h.lt p hp
    · exact hil
  · intro j x hj
    simp only [EH.upd] at hj ⊢
    have hb : bigN = 1000000000000 := rfl
    have := h.big
    rw [Tr.get_set 50 _ _ _ _ (by omega)] at hj
    split at hj
    · rename_i he
      subst he
      obtain rfl := Option.some.inj hj
      exact ⟨hil, b, t, hr, .inr ⟨o', ho, List.mem_set hkl _⟩⟩
    · rename_i he
      obtain ⟨hlt, b', t', h1, h2⟩ := h.at_ j x hj
      refine ⟨hlt, b', t', h1, ?_⟩
      rcases h2 with h2 | ⟨o'', h2, h3⟩
      · exact .inl h2
      · refine .inr ⟨o'', h2, ?_⟩
        obtain ⟨q, hq⟩ := List.getElem?_of_mem h3
        have : k ≠ q := fun e => by subst e; rw [hk] at hq; simp only [Option.some.injEq, Prod.mk.injEq] at hq; omega
        exact List.mem_of_getElem? (by rw [List.getElem?_set_ne this]; exact hq)
/-- an own block that grows: another one in its place -/
theorem HR.swap (h : HR w0 ρ H L) {o : EO} {i k r t : Nat} {seg : Seg} {o' : AO} (hn : H.nx < bigN) (hk : L[k]? = some (i, seg)) (ho : OR (ρ ++ [(r, t)]) t o o') : HR w0 (ρ ++ [(r, t)]) ((H.del i).push o) (L.set k (H.nx, [(r, o')])) := by
  have hp : ρ <+: ρ ++ [(r, t)] := List.prefix_append _ _
  have hkl : k < L.length := (List.getElem?_eq_some_iff.1 hk).1
  have hb : bigN = 1000000000000 := rfl
  have hil : i < H.nx := by have := h.lt _ (List.mem_of_getElem? hk); exact this
  refine ⟨by simp [EH.push, EH.del, h.nx], by simp [EH.push, EH.del]; omega, ?_, ?_, ?_, fun p hpm => (h.glob p hpm).mono hp⟩
  · rw [List.map_set]
    refine nodup_set_new h.nodup fun hm => ?_
    obtain ⟨p, hpm, he⟩ := List.mem_map.1 hm
    have := h.lt p hpm
    omega
  · intro p hpm
    simp only [EH.push, EH.del]
    rcases List.mem_or_eq_of_mem_set hpm with hpm | rfl
    · have := h.lt p hpm; omega
    · simp
  · intro j x hj
    simp only [EH.push, EH.del] at hj ⊢
    rw [Tr.get_set 50 _ _ _ _ (by omega)] at hj
    split at hj
    · rename_i he
      subst he
      obtain rfl := Option.some.inj hj
      exact ⟨by omega, r, t, by rw [h.nx]; simp, .inr ⟨o', ho, List.mem_set hkl _⟩⟩
    · rw [Tr.get_set 50 _ _ _ _ (by omega)] at hj
      split at hj
      · cases hj
      · rename_i he1 he2
        obtain ⟨hlt, b', t', h1, h2⟩ := h.at_ j x hj
        refine ⟨by omega, b', t', rho_mono hp h1, ?_⟩
        rcases h2 with ⟨c, h2, h3⟩ | ⟨o'', h2, h3⟩
        · exact .inl ⟨c, h2, h3.mono hp⟩
        · refine .inr ⟨o'', h2.mono hp, ?_⟩
          obtain ⟨q, hq⟩ := List.getElem?_of_mem h3
          have : k ≠ q := fun e => by subst e; rw [hk] at hq; simp only [Option.some.injEq, Prod.mk.injEq] at hq; omega
          exact List.mem_of_getElem? (by rw [List.getElem?_set_ne this]; exact hq)
theorem HR.del (h : HR w0 ρ H L) {i : Nat} (hi : i < H.nx) : HR w0 ρ (H.del i) L := by
  refine ⟨h.nx, h.big, h.nodup, h.lt, fun j x hj => ?_, h.glob⟩
  have hb : bigN = 1000000000000 := rfl
  have := h.big
  simp only [EH.del] at hj ⊢
  rw [Tr.get_set 50 _ _ _ _ (by omega)] at hj
  split at hj
  · cases hj
  · exact h.at_ j x hj
theorem HR.drop (h : HR w0 ρ H L) {i k : Nat} {seg : Seg} (hk : L[k]? = some (i, seg)) : HR w0 ρ (H.del i) (L.set k (i, [])) := by
  have hkl : k < L.length := (List.getElem?_eq_some_iff.1 hk).1
  have hfst : (L.set k (i, [])).map Prod.fst = L.map Prod.fst := by
    rw [List.map_set]
    apply List.ext_getElem? 
    intro j
    by_cases e : k = j
    · subst e; rw [List.getElem?_set_self (by simpa using hkl)]; simp [hk]
    · rw [List.getElem?_set_ne e]
  have hil : i < H.nx := by have := h.lt _ (List.mem_of_getElem? hk); exact this
  refine ⟨h.nx, h.big, by rw [hfst]; exact h.nodup, ?_, ?_, h.glob⟩
  · intro p hp
    rcases List.mem_or_eq_of_mem_set hp with hp | rfl
    · exact h.lt p hp
    · exact hil
  · intro j x hj
    simp only [EH.del] at hj ⊢
    have hb : bigN = 1000000000000 := rfl
    have := h.big
    rw [Tr.get_set 50 _ _ _ _ (by omega)] at hj
    split at hj
    · cases hj
    · rename_i he
      obtain ⟨hlt, b', t', h1, h2⟩ := h.at_ j x hj
      refine ⟨hlt, b', t', h1, ?_⟩
      rcases h2 with h2 | ⟨o'', h2, h3⟩
      · exact .inl h2
      · refine .inr ⟨o'', h2, ?_⟩
        obtain ⟨q, hq⟩ := List.getElem?_of_mem h3
        have : k ≠ q := fun e => by subst e; rw [hk] at hq; simp only [Option.some.injEq, Prod.mk.injEq] at hq; omega
        exact List.mem_of_getElem? (by rw [List.getElem?_set_ne this]; exact hq)
theorem cs_set {S : SS} {k : Nat} {x : Nat × Seg} (hk : k < L.length) : (cs L S).set k x.2 = cs (L.set k x) S := by
  unfold cs
  rw [List.set_append_left _ _ (by simpa using hk), List.map_set]
end
end Go.SL
