/- Walks. -/
import Derived.Test.YtbejcoeajlhmcaaPart2
import Derived.DeepKeys5
set_option linter.unusedVariables false
set_option linter.unusedSimpArgs false
set_option linter.unusedSectionVars false

namespace Go.HP
variable {α : Type} [Inhabited α]
def swapL (l : List α) (i j : Nat) : List α := (l.set i l[j]!).set j l[i]!
theorem swapL_len (l : List α) (i j : Nat) : (swapL l i j).length = l.length := by simp [swapL]
theorem swapL_get {l : List α} {i j : Nat} (hi : i < l.length) (hj : j < l.length) (k : Nat) : (swapL l i j)[k]! = if k = j then l[i]! else if k = i then l[j]! else l[k]! := by
 unfold swapL
 simp only [List.getElem!_eq_getElem?_getD]
 by_cases h1 : k = j
 ·subst h1
  rw [if_pos rfl, List.getElem?_set_self (by simpa using hj)]
  rfl
 rw [if_neg h1, List.getElem?_set_ne (fun e => h1 e.symm)]
 by_cases h2 : k = i
 ·subst h2
  rw [if_pos rfl, List.getElem?_set_self hi]
  rfl
 rw [if_neg h2, List.getElem?_set_ne (fun e => h2 e.symm)]
theorem swapL_perm {l : List α} {i j : Nat} (hi : i < l.length) (hj : j < l.length) : (swapL l i j).Perm l := by
 unfold swapL
 rw [getElem!_pos l i hi, getElem!_pos l j hj]
 exact List.set_set_perm hi hj
variable (lt : α -> α -> Bool)
def upL : Nat -> List α -> Nat -> List α
 | 0, l, _ => l
 | f + 1, l, j => if j = 0 then l else if lt l[j]! l[(j - 1) / 2]! then upL f (swapL l ((j - 1) / 2) j) ((j - 1) / 2) else l
def downJ (l : List α) (i n : Nat) : Nat := if 2 * i + 2 < n /\ lt l[2 * i + 2]! l[2 * i + 1]! = true then 2 * i + 2 else 2 * i + 1
def downL : Nat -> List α -> Nat -> Nat -> List α
 | 0, l, _, _ => l
 | f + 1, l, i, n => if n <= 2 * i + 1 then l else if lt l[downJ lt l i n]! l[i]! then downL f (swapL l i (downJ lt l i n)) (downJ lt l i n) n else l
structure Ord : Prop where
 asymm : ∀ a b, lt a b = true -> lt b a = false
 trans : ∀ a b c, lt b a = false -> lt c b = false -> lt c a = false
variable {lt}
def Hp (lt : α -> α -> Bool) (l : List α) (n : Nat) : Prop := ∀ k, 0 < k -> k < n -> lt l[k]! l[(k - 1) / 2]! = false
theorem upL_spec (O : Ord lt) : ∀ (f : Nat) (l : List α) (j : Nat), j <= f -> j < l.length -> (∀ k, 0 < k -> k < l.length -> k ≠ j -> lt l[k]! l[(k - 1) / 2]! = false) ->
  (∀ k, 0 < k -> k < l.length -> 0 < j -> (k - 1) / 2 = j -> lt l[k]! l[(j - 1) / 2]! = false) -> Hp lt (upL lt f l j) l.length /\ (upL lt f l j).Perm l
 | 0, l, j, hf, hj, h1, h2 => by
  refine ⟨fun k h0 hk => ?_, List.Perm.refl _⟩
  exact h1 k h0 hk (by omega)
 | f + 1, l, j, hf, hj, h1, h2 => by
  unfold upL
  by_cases hj0 : j = 0
  ·rw [if_pos hj0]
   exact ⟨fun k h0 hk => h1 k h0 hk (by omega), List.Perm.refl _⟩
  rw [if_neg hj0]
  by_cases hl : lt l[j]! l[(j - 1) / 2]! = true
  ·rw [if_pos hl]
   have hi : (j - 1) / 2 < j := by omega
   generalize hp : (j - 1) / 2 = i at hi hl ⊢
   have hil : i < l.length := by omega
   have hg := swapL_get hil hj
   have key := upL_spec O f (swapL l i j) i (by omega) (by rw [swapL_len]; exact hil) ?_ ?_
   ·rw [swapL_len] at key
    exact ⟨key.1, key.2.trans (swapL_perm hil hj)⟩
   ·intro k h0 hk hki
    rw [swapL_len] at hk
    rw [hg, hg]
    by_cases hkj : k = j
    ·subst hkj
     rw [if_pos rfl, hp, if_neg (by omega), if_pos rfl]
     exact O.asymm _ _ hl
    rw [if_neg hkj, if_neg hki]
    by_cases hpj : (k - 1) / 2 = j
    ·rw [if_pos hpj]
     have := h2 k h0 hk (by omega) hpj
     rwa [hp] at this
    rw [if_neg hpj]
    by_cases hpi : (k - 1) / 2 = i
    ·rw [if_pos hpi]
     have := h1 k h0 hk hkj
     rw [hpi] at this
     exact O.trans _ _ _ (O.asymm _ _ hl) this
    rw [if_neg hpi]
    exact h1 k h0 hk hkj
   intro k h0 hk hi0 hki
   rw [swapL_len] at hk
   rw [hg, hg]
   have hii : (i - 1) / 2 ≠ j := by omega
   have hii2 : (i - 1) / 2 ≠ i := by omega
   rw [if_neg hii, if_neg hii2]
   by_cases hkj : k = j
   ·subst hkj
    rw [if_pos rfl]
    exact h1 i hi0 hil (by omega)
   rw [if_neg hkj, if_neg (by omega)]
   have a := h1 k h0 hk hkj
   rw [hki] at a
   exact O.trans _ _ _ (h1 i hi0 hil (by omega)) a
  rw [if_neg hl]
  refine ⟨fun k h0 hk => ?_, List.Perm.refl _⟩
  by_cases hkj : k = j
  ·subst hkj; simpa using hl
  exact h1 k h0 hk hkj
theorem downL_spec (O : Ord lt) : ∀ (f : Nat) (l : List α) (i n : Nat), n <= f + i -> i < n -> n <= l.length -> (∀ k, 0 < k -> k < n -> (k - 1) / 2 ≠ i -> lt l[k]! l[(k - 1) / 2]! = false) ->
  (∀ k, 0 < k -> k < n -> 0 < i -> (k - 1) / 2 = i -> lt l[k]! l[(i - 1) / 2]! = false) -> Hp lt (downL lt f l i n) n /\ (downL lt f l i n).Perm l /\ ∀ k, n <= k -> (downL lt f l i n)[k]! = l[k]!
 | 0, l, i, n, hf, hi, hn, h1, h2 => by omega
 | f + 1, l, i, n, hf, hi, hn, h1, h2 => by
  unfold downL
  by_cases hc : n <= 2 * i + 1
  ·rw [if_pos hc]
   exact ⟨fun k h0 hk => h1 k h0 hk (by omega), List.Perm.refl _, fun _ _ => rfl⟩
  rw [if_neg hc]
  have hj : downJ lt l i n < n /\ (downJ lt l i n - 1) / 2 = i /\ 0 < downJ lt l i n /\ i < downJ lt l i n /\ ∀ k, 0 < k -> k < n -> (k - 1) / 2 = i -> lt l[k]! l[downJ lt l i n]! = false := by
   unfold downJ
   split
   ·rename_i h
    refine ⟨h.1, by omega, by omega, by omega, fun k h0 hk hp => ?_⟩
    have : k = 2 * i + 1 ∨ k = 2 * i + 2 := by omega
    rcases this with rfl | rfl
    ·exact O.asymm _ _ h.2
    cases hx : lt l[2 * i + 2]! l[2 * i + 2]! with
    | false => rfl
    | true => have := O.asymm _ _ hx; rw [hx] at this; cases this
   rename_i h
   refine ⟨by omega, by omega, by omega, by omega, fun k h0 hk hp => ?_⟩
   have : k = 2 * i + 1 ∨ k = 2 * i + 2 := by omega
   rcases this with rfl | rfl
   ·cases hx : lt l[2 * i + 1]! l[2 * i + 1]! with
    | false => rfl
    | true => have := O.asymm _ _ hx; rw [hx] at this; cases this
   cases hx : lt l[2 * i + 2]! l[2 * i + 1]! with
   | false => rfl
   | true => exact absurd ⟨hk, hx⟩ h
  generalize downJ lt l i n = j at hj ⊢
  obtain ⟨hjn, hjp, hj0, hij, hjm⟩ := hj
  by_cases hl : lt l[j]! l[i]! = true
  ·rw [if_pos hl]
   have hil : i < l.length := by omega
   have hjl : j < l.length := by omega
   have hg := swapL_get hil hjl
   have key := downL_spec O f (swapL l i j) j n (by omega) hjn (by rw [swapL_len]; exact hn) ?_ ?_
   ·refine ⟨key.1, key.2.1.trans (swapL_perm hil hjl), fun k hk => ?_⟩
    rw [key.2.2 k hk, hg, if_neg (by omega), if_neg (by omega)]
   ·intro k h0 hk hkj
    rw [hg, hg, if_neg hkj]
    by_cases hk1 : k = j
    ·subst hk1
     rw [if_pos rfl, hjp, if_pos rfl]
     exact O.asymm _ _ hl
    rw [if_neg hk1]
    by_cases hpi : (k - 1) / 2 = i
    ·rw [if_pos hpi, if_neg (by omega)]
     exact hjm k h0 hk hpi
    rw [if_neg hpi]
    by_cases hki : k = i
    ·subst hki
     rw [if_pos rfl]
     exact h2 j hj0 hjn h0 hjp
    rw [if_neg hki]
    exact h1 k h0 hk hpi
   intro k h0 hk _ hkj
   rw [hg, hg, hjp]
   rw [if_neg (by omega), if_neg (by omega), if_neg (by omega), if_pos rfl]
   have a := h1 k h0 hk (by omega)
   rw [hkj] at a
   exact a
  rw [if_neg hl]
  refine ⟨fun k h0 hk => ?_, List.Perm.refl _, fun _ _ => rfl⟩
  by_cases hpi : (k - 1) / 2 = i
  ·have hl' : lt l[j]! l[i]! = false := by simpa using hl
   rw [hpi]
   exact O.trans _ _ _ hl' (hjm k h0 hk hpi)
  exact h1 k h0 hk hpi
def pushL (lt : α -> α -> Bool) (l : List α) (x : α) : List α := upL lt l.length (l ++ [x]) l.length
theorem get_app {l : List α} {x : α} {k : Nat} (h : k < l.length) : (l ++ [x])[k]! = l[k]! := by
 rw [getElem!_pos _ k (by simp; omega), getElem!_pos l k h, List.getElem_append_left h]
theorem pushL_spec (O : Ord lt) {l : List α} (h : Hp lt l l.length) (x : α) : Hp lt (pushL lt l x) (pushL lt l x).length /\ (pushL lt l x).Perm (x :: l) := by
 have := upL_spec O l.length (l ++ [x]) l.length (Nat.le_refl _) (by simp) (fun k h0 hk hne => ?_) (fun k h0 hk h1 hp => ?_)
 ·unfold pushL
  refine ⟨?_, this.2.trans (List.perm_append_singleton x l)⟩
  rw [this.2.length_eq]
  exact this.1
 ·simp only [List.length_append, List.length_singleton] at hk
  rw [get_app (by omega), get_app (by omega)]
  exact h k h0 (by omega)
 simp only [List.length_append, List.length_singleton] at hk
 omega
def popL (lt : α -> α -> Bool) (l : List α) : List α := (downL lt l.length (swapL l 0 (l.length - 1)) 0 (l.length - 1)).take (l.length - 1)
theorem heap_min (O : Ord lt) {l : List α} {n : Nat} (h : Hp lt l n) : ∀ k, k < n -> lt l[k]! l[0]! = false
 | 0, hk => by
  cases hx : lt l[0]! l[0]! with
  | false => rfl
  | true => have := O.asymm _ _ hx; rw [hx] at this; cases this
 | k + 1, hk => O.trans _ _ _ (heap_min O h ((k + 1 - 1) / 2) (by omega)) (h (k + 1) (by omega) hk)
theorem popL_spec (O : Ord lt) {l : List α} (h : Hp lt l l.length) (h0 : 0 < l.length) :
  Hp lt (popL lt l) (popL lt l).length /\ (l[0]! :: popL lt l).Perm l /\ (downL lt l.length (swapL l 0 (l.length - 1)) 0 (l.length - 1))[l.length - 1]! = l[0]! /\ (popL lt l).length = l.length - 1 /\ ∀ x ∈ popL lt l, lt x l[0]! = false := by
 by_cases h1 : l.length = 1
 ·match l, h1 with
  | [a], _ =>
   have e : downL lt 1 (swapL [a] 0 0) 0 0 = [a] := by simp [downL, swapL]
   refine ⟨?_, ?_, ?_, ?_, ?_⟩
   ·intro k hk hk2; simp [popL] at hk2
   ·simp [popL]
   ·simp [downL, swapL]
   ·simp [popL]
   simp [popL]
 have hl : l.length - 1 < l.length := by omega
 have hg := swapL_get h0 hl
 have key := downL_spec O l.length (swapL l 0 (l.length - 1)) 0 (l.length - 1) (by omega) (by omega) (by rw [swapL_len]; omega) ?_ ?_
 ·obtain ⟨k1, k2, k3⟩ := key
  have hlast : (downL lt l.length (swapL l 0 (l.length - 1)) 0 (l.length - 1))[l.length - 1]! = l[0]! := by
   rw [k3 _ (Nat.le_refl _), hg, if_pos rfl]
  unfold popL
  generalize downL lt l.length (swapL l 0 (l.length - 1)) 0 (l.length - 1) = d at k1 k2 k3 hlast
  have hd : d.length = l.length := by rw [k2.length_eq, swapL_len]
  have hp2 : d.Perm l := k2.trans (swapL_perm h0 hl)
  have hsplit : d = d.take (l.length - 1) ++ [l[0]!] := by
   have : d = d.take (l.length - 1) ++ d.drop (l.length - 1) := (List.take_append_drop _ _).symm
   rw [getElem!_pos d _ (by omega)] at hlast
   rw [List.drop_eq_getElem_cons (by omega), hlast, List.drop_of_length_le (by omega)] at this
   exact this
  have hperm : (l[0]! :: d.take (l.length - 1)).Perm l := by
   refine List.Perm.trans ?_ hp2
   conv => rhs; rw [hsplit]
   exact (List.perm_append_singleton _ _).symm
  refine ⟨?_, hperm, hlast, by simp; omega, fun x hx => ?_⟩
  ·intro k hk hk2
   simp only [List.length_take] at hk2
   have a1 : (d.take (l.length - 1))[k]! = d[k]! := by
    rw [getElem!_pos _ k (by simp; omega), getElem!_pos d k (by omega), List.getElem_take]
   have a2 : (d.take (l.length - 1))[(k - 1) / 2]! = d[(k - 1) / 2]! := by
    rw [getElem!_pos _ _ (by simp; omega), getElem!_pos d _ (by omega), List.getElem_take]
   rw [a1, a2]
   exact k1 k hk (by omega)
  have hx2 : x ∈ l := hperm.mem_iff.1 (List.mem_cons_of_mem _ hx)
  obtain ⟨k, hk, rfl⟩ := List.mem_iff_getElem.1 hx2
  have := heap_min O h k hk
  rwa [getElem!_pos l k hk] at this
 ·intro k hk0 hk hp
  rw [hg, hg, if_neg (by omega), if_neg (by omega), if_neg (by omega), if_neg hp]
  exact h k hk0 (by omega)
 intro k hk0 hk hi0 hp
 omega
end Go.HP

namespace Go.GP
section
variable {V : Type} [DecidableEq V]
def Free (E : List (V × V)) (left : List V) (v : V) : Prop := ∀ e ∈ E, e.2 = v -> e.1 ∉ left
inductive Topo (lt : V -> V -> Bool) (E : List (V × V)) : List V -> List V -> Prop
 | nil {left : List V} (h : ∀ v ∈ left, ¬ Free E left v) : Topo lt E left []
 | cons {left : List V} {v : V} {L : List V} (h1 : v ∈ left) (h2 : Free E left v) (h3 : ∀ u ∈ left, Free E left u -> lt u v = false) (h4 : Topo lt E (left.erase v) L) : Topo lt E left (v :: L)
variable {lt : V -> V -> Bool}
theorem Free.congr {E E' : List (V × V)} {left left' : List V} {v : V} (hE : ∀ e, e ∈ E ↔ e ∈ E') (hl : ∀ u, u ∈ left ↔ u ∈ left') (h : Free E left v) : Free E' left' v :=
 fun e he hv hm => h e ((hE e).2 he) hv ((hl _).2 hm)
theorem Topo.unique (tot : ∀ a b, lt a b = false -> lt b a = false -> a = b) {E : List (V × V)} {left L : List V} (h : Topo lt E left L) : ∀ {E' : List (V × V)} {left' L' : List V}, (∀ e, e ∈ E ↔ e ∈ E') -> left.Perm left' -> Topo lt E' left' L' -> L = L' := by
 induction h with
 | nil h =>
  intro E' left' L' hE hp h'
  cases h' with
  | nil _ => rfl
  | cons h1 h2 h3 h4 => exact absurd (h2.congr (fun e => (hE e).symm) (fun u => hp.symm.mem_iff)) (h _ (hp.mem_iff.2 h1))
 | cons h1 h2 h3 h4 ih =>
  intro E' left' L' hE hp h'
  cases h' with
  | nil h => exact absurd (h2.congr hE (fun u => hp.mem_iff)) (h _ (hp.mem_iff.1 h1))
  | cons g1 g2 g3 g4 =>
   have e := tot _ _ (g3 _ (hp.mem_iff.1 h1) (h2.congr hE (fun u => hp.mem_iff))) (h3 _ (hp.mem_iff.2 g1) (g2.congr (fun e => (hE e).symm) (fun u => hp.symm.mem_iff)))
   subst e
   rw [ih hE (hp.erase _) g4]
theorem Topo.perm {E : List (V × V)} {left L : List V} (h : Topo lt E left L) (r : V -> Nat) (hr : ∀ e ∈ E, e.1 ∈ left -> e.2 ∈ left -> r e.1 < r e.2) : L.Perm left := by
 induction h with
 | @nil left h =>
  cases left with
  | nil => exact List.Perm.refl _
  | cons x l =>
   exfalso
   have key : ∀ n (v : V), r v <= n -> v ∈ x :: l -> False := by
    intro n
    induction n with
    | zero =>
     intro v hv hm
     exact h v hm fun e he hev hmem => by have := hr e he hmem (by rw [hev]; exact hm); rw [hev] at this; omega
    | succ n ih =>
     intro v hv hm
     refine h v hm fun e he hev hmem => ?_
     have := hr e he hmem (by rw [hev]; exact hm)
     rw [hev] at this
     exact ih e.1 (by omega) hmem
   exact key _ x (Nat.le_refl _) (by simp)
 | cons h1 h2 h3 h4 ih =>
  refine List.Perm.trans (List.Perm.cons _ (ih fun e he ha hb => hr e he (List.mem_of_mem_erase ha) (List.mem_of_mem_erase hb))) ?_
  exact (List.perm_cons_erase h1).symm
theorem Topo.sub {E : List (V × V)} {left L : List V} (h : Topo lt E left L) : ∀ v ∈ L, v ∈ left := by
 induction h with
 | nil h => intro v hv; cases hv
 | cons h1 h2 h3 h4 ih =>
  intro u hu
  rcases List.mem_cons.1 hu with rfl | hu
  ·exact h1
  exact List.mem_of_mem_erase (ih u hu)
inductive Rch (E : List (V × V)) : V -> V -> Prop
 | one {a b : V} (h : (a, b) ∈ E) : Rch E a b
 | cons {a c b : V} (h : (a, c) ∈ E) (t : Rch E c b) : Rch E a b
theorem Rch.mono {E E' : List (V × V)} {a b : V} (h : Rch E a b) (hE : ∀ e ∈ E, e ∈ E') : Rch E' a b := by
 induction h with
 | one h => exact .one (hE _ h)
 | cons h t ih => exact .cons (hE _ h) ih
theorem Rch.trans {E : List (V × V)} {a b c : V} (h : Rch E a b) (k : Rch E b c) : Rch E a c := by
 induction h with
 | one h => exact .cons h k
 | cons h t ih => exact .cons h (ih k)
theorem Rch.snoc {E : List (V × V)} {a b c : V} (h : Rch E a b) (k : (b, c) ∈ E) : Rch E a c := h.trans (.one k)
theorem Rch.rank {E : List (V × V)} {a b : V} (h : Rch E a b) (r : V -> Nat) (hr : ∀ e ∈ E, r e.1 < r e.2) : r a < r b := by
 induction h with
 | one h => exact hr _ h
 | cons h t ih => exact Nat.lt_trans (hr _ h) ih
theorem Rch.tgt {E : List (V × V)} {a b : V} (h : Rch E a b) : ∃ c, (c, b) ∈ E := by
 induction h with
 | one h => exact ⟨_, h⟩
 | cons h t ih => exact ih
end
end Go.GP

namespace Go.GP
abbrev HashB := { l : List UInt8 // l.length = 32 }
abbrev Vtx := HashB × Int
def h0 : HashB := ⟨List.replicate 32 0, by simp⟩
instance : Inhabited HashB := ⟨h0⟩
def rootV : Vtx := (h0, -1)
def endV : Vtx := (h0, -2)
theorem root_ne_end : rootV ≠ endV := by decide
structure PartP where
 patch : HashB
 at_ : Int
 first : Int
 up : Vtx
 down : Vtx
 lines : List ByteArray
 gone : List Vtx
def PartP.vtx (p : PartP) (i : Nat) : Vtx := (p.patch, p.first + (i : Int))
def PartP.name (p : PartP) : HashB × Int := (p.patch, p.at_)
def own (p : PartP) : List Vtx := (List.range p.lines.length).map p.vtx
def edgeL {V : Type} : List V -> List (V × V)
 | a :: b :: r => (a, b) :: edgeL (b :: r)
 | _ => []
def way (p : PartP) : List Vtx := p.up :: (own p ++ [p.down])
def edges (p : PartP) : List (Vtx × Vtx) := if p.lines.length = 0 then [] else edgeL (way p)
def names (p : PartP) : List Vtx := p.up :: p.down :: p.gone
def allV (ps : List PartP) : List Vtx := ps.flatMap own
def allE (ps : List PartP) : List (Vtx × Vtx) := ps.flatMap edges
def HasV (ps : List PartP) (v : Vtx) : Prop := v = rootV ∨ v = endV ∨ v ∈ allV ps
def Bef (ps : List PartP) (a b : Vtx) : Prop := HasV ps a /\ HasV ps b /\ a ≠ b /\ a ≠ endV /\ b ≠ rootV /\ (a = rootV ∨ b = endV ∨ Rch (allE ps) a b)
theorem mem_own {p : PartP} {v : Vtx} : v ∈ own p ↔ ∃ i, i < p.lines.length /\ p.vtx i = v := by
 unfold own; simp [List.mem_map]
theorem vtx_inj {p : PartP} {i j : Nat} (h : p.vtx i = p.vtx j) : i = j := by
 have := congrArg Prod.snd h
 simp only [PartP.vtx] at this
 omega
theorem own_nodup (p : PartP) : (own p).Nodup := by
 unfold own List.Nodup
 rw [List.pairwise_map]
 exact List.Pairwise.imp (fun h e => h (vtx_inj e)) List.nodup_range
theorem own_len (p : PartP) : (own p).length = p.lines.length := by simp [own]
theorem edgeL_mem {V : Type} {l : List V} {e : V × V} : e ∈ edgeL l ↔ ∃ i, l[i]? = some e.1 /\ l[i + 1]? = some e.2 := by
 induction l with
 | nil => simp [edgeL]
 | cons a l ih =>
  cases l with
  | nil => simp [edgeL]
  | cons b r =>
   simp only [edgeL, List.mem_cons, ih]
   constructor
   ·rintro (rfl | ⟨i, h1, h2⟩)
    ·exact ⟨0, rfl, rfl⟩
    exact ⟨i + 1, by simpa using h1, by simpa using h2⟩
   rintro ⟨i, h1, h2⟩
   cases i with
   | zero =>
    simp at h1 h2
    left
    exact Prod.ext h1.symm h2.symm
   | succ i => exact .inr ⟨i, by simpa using h1, by simpa using h2⟩
theorem way_get (p : PartP) (i : Nat) : (way p)[i]? = if i = 0 then some p.up else if i <= p.lines.length then some (p.vtx (i - 1)) else if i = p.lines.length + 1 then some p.down else none := by
 unfold way
 cases i with
 | zero => simp
 | succ i =>
  rw [List.getElem?_cons_succ, if_neg (by omega), List.getElem?_append, own_len]
  by_cases h : i < p.lines.length
  ·rw [if_pos h, if_pos (by omega)]
   simp [own, h]
  rw [if_neg h, if_neg (by omega)]
  by_cases h2 : i = p.lines.length
  ·subst h2; simp
  rw [if_neg (by omega), List.getElem?_eq_none (by simp; omega)]
theorem mem_edges {p : PartP} {e : Vtx × Vtx} : e ∈ edges p ↔ ∃ i, i <= p.lines.length /\ 0 < p.lines.length /\ e.1 = (if i = 0 then p.up else p.vtx (i - 1)) /\ e.2 = (if i < p.lines.length then p.vtx i else p.down) := by
 unfold edges
 by_cases h : p.lines.length = 0
 ·rw [if_pos h]
  constructor
  ·intro h; cases h
  rintro ⟨i, h1, h2, _⟩; omega
 rw [if_neg h, edgeL_mem]
 constructor
 ·rintro ⟨i, h1, h2⟩
  rw [way_get] at h1 h2
  have hi : i <= p.lines.length := by
   by_cases h3 : i <= p.lines.length
   ·exact h3
   rw [if_neg (by omega), if_neg (by omega), if_neg (by omega)] at h2
   cases h2
  refine ⟨i, hi, by omega, ?_, ?_⟩
  ·split at h1
   ·rename_i h0; rw [if_pos h0]; exact (Option.some.inj h1).symm
   rename_i h0; rw [if_neg h0]; exact (Option.some.inj h1).symm
  rw [if_neg (by omega)] at h2
  by_cases h3 : i < p.lines.length
  ·rw [if_pos h3]; rw [if_pos (by omega)] at h2; exact (Option.some.inj h2).symm
  rw [if_neg h3]; rw [if_neg (by omega), if_pos (by omega)] at h2; exact (Option.some.inj h2).symm
 rintro ⟨i, h1, h2, h3, h4⟩
 refine ⟨i, ?_, ?_⟩
 ·rw [way_get, h3]
  split <;> rfl
 rw [way_get, h4, if_neg (by omega)]
 by_cases h5 : i < p.lines.length
 ·rw [if_pos (by omega), if_pos h5]; rfl
 rw [if_neg (by omega), if_pos (by omega), if_neg h5]
theorem edge_src {p : PartP} {e : Vtx × Vtx} (h : e ∈ edges p) : e.1 = p.up ∨ e.1 ∈ own p := by
 obtain ⟨i, h1, h2, h3, h4⟩ := mem_edges.1 h
 by_cases h0 : i = 0
 ·rw [if_pos h0] at h3; exact .inl h3
 rw [if_neg h0] at h3; exact .inr (mem_own.2 ⟨i - 1, by omega, h3.symm⟩)
theorem edge_tgt {p : PartP} {e : Vtx × Vtx} (h : e ∈ edges p) : e.2 = p.down ∨ e.2 ∈ own p := by
 obtain ⟨i, h1, h2, h3, h4⟩ := mem_edges.1 h
 by_cases h0 : i < p.lines.length
 ·rw [if_pos h0] at h4; exact .inr (mem_own.2 ⟨i, h0, h4.symm⟩)
 rw [if_neg h0] at h4; exact .inl h4
theorem mem_allV {ps : List PartP} {v : Vtx} : v ∈ allV ps ↔ ∃ p ∈ ps, v ∈ own p := List.mem_flatMap
theorem mem_allE {ps : List PartP} {e : Vtx × Vtx} : e ∈ allE ps ↔ ∃ p ∈ ps, e ∈ edges p := List.mem_flatMap
structure New (ps : List PartP) (p : PartP) : Prop where
 name : ∀ q ∈ ps, q.name ≠ p.name
 own : ∀ v ∈ own p, v ∉ allV ps
 first : 0 <= p.first
 upE : p.up ≠ endV
 downR : p.down ≠ rootV
 gone0 : p.gone.Nodup
 goneR : ∀ v ∈ p.gone, v ≠ rootV /\ v ≠ endV
 up : HasV ps p.up
 down : HasV ps p.down
 gone : ∀ v ∈ p.gone, v ∈ allV ps
 bef : Bef ps p.up p.down
inductive Sq : List PartP -> Prop
 | nil : Sq []
 | cons {p : PartP} {ps : List PartP} (h : New ps p) (t : Sq ps) : Sq (p :: ps)
theorem own_ge {p : PartP} (h : 0 <= p.first) {v : Vtx} (hv : v ∈ own p) : 0 <= v.2 := by
 obtain ⟨i, _, rfl⟩ := mem_own.1 hv
 simp only [PartP.vtx]
 omega
theorem Sq.ge {ps : List PartP} (h : Sq ps) {v : Vtx} (hv : v ∈ allV ps) : 0 <= v.2 := by
 induction h with
 | nil => simp [allV] at hv
 | cons h t ih =>
  obtain ⟨q, hq, hv2⟩ := mem_allV.1 hv
  rcases List.mem_cons.1 hq with rfl | hq
  ·exact own_ge h.first hv2
  exact ih (mem_allV.2 ⟨q, hq, hv2⟩)
theorem ge_ne {v : Vtx} (h : 0 <= v.2) : v ≠ rootV /\ v ≠ endV := by
 constructor
 ·rintro rfl; revert h; decide
 rintro rfl; revert h; decide
theorem Sq.line {ps : List PartP} (h : Sq ps) {v : Vtx} (hv : v ∈ allV ps) : v ≠ rootV /\ v ≠ endV := ge_ne (h.ge hv)
theorem Sq.edge {ps : List PartP} (h : Sq ps) {e : Vtx × Vtx} (he : e ∈ allE ps) : (e.1 = rootV ∨ e.1 ∈ allV ps) /\ (e.2 = endV ∨ e.2 ∈ allV ps) := by
 induction h with
 | nil => simp [allE] at he
 | @cons p ps h t ih =>
  obtain ⟨q, hq, he2⟩ := mem_allE.1 he
  have up : ∀ v, v ∈ allV ps -> v ∈ allV (p :: ps) := fun v hv => by
   obtain ⟨r, hr, hv⟩ := mem_allV.1 hv
   exact mem_allV.2 ⟨r, List.mem_cons_of_mem _ hr, hv⟩
  rcases List.mem_cons.1 hq with rfl | hq
  ·constructor
   ·rcases edge_src he2 with h1 | h1
    ·rcases h.up with h2 | h2 | h2
     ·exact .inl (h1.trans h2)
     ·exact absurd h2 h.upE
     exact .inr (by rw [h1]; exact up _ h2)
    exact .inr (mem_allV.2 ⟨q, hq, h1⟩)
   rcases edge_tgt he2 with h1 | h1
   ·rcases h.down with h2 | h2 | h2
    ·exact absurd h2 h.downR
    ·exact .inl (h1.trans h2)
    exact .inr (by rw [h1]; exact up _ h2)
   exact .inr (mem_allV.2 ⟨q, hq, h1⟩)
  obtain ⟨i1, i2⟩ := ih (mem_allE.2 ⟨q, hq, he2⟩)
  exact ⟨i1.imp_right (up _), i2.imp_right (up _)⟩
theorem Sq.rank {ps : List PartP} (h : Sq ps) : ∃ r : Vtx -> Nat, (∀ e ∈ allE ps, r e.1 < r e.2) /\ (∀ v ∈ allV ps, r rootV < r v /\ r v < r endV) /\ r rootV < r endV := by
 induction h with
 | nil => exact ⟨fun v => if v = endV then 1 else 0, by simp [allE], by simp [allV], by decide⟩
 | @cons p ps h t ih =>
  obtain ⟨r, h1, h2, h3⟩ := ih
  have hb : r p.up < r p.down := by
   obtain ⟨b1, b2, b3, b4, b5, b6⟩ := h.bef
   rcases b6 with b6 | b6 | b6
   ·rw [b6]
    rcases b2 with b2 | b2 | b2
    ·exact absurd b2 b5
    ·rw [b2]; exact h3
    exact (h2 _ b2).1
   ·rw [b6]
    rcases b1 with b1 | b1 | b1
    ·rw [b1]; exact h3
    ·exact absurd b1 b4
    exact (h2 _ b1).2
   exact b6.rank r h1
  let K := p.lines.length + 1
  let r' : Vtx -> Nat := fun v => if v ∈ own p then K * r p.up + ((v.2 - p.first).toNat + 1) else K * r v
  have hown : ∀ i, i < p.lines.length -> r' (p.vtx i) = K * r p.up + (i + 1) := by
   intro i hi
   have : p.vtx i ∈ own p := mem_own.2 ⟨i, hi, rfl⟩
   show (if p.vtx i ∈ own p then K * r p.up + (((p.vtx i).2 - p.first).toNat + 1) else K * r (p.vtx i)) = _
   rw [if_pos this]
   simp only [PartP.vtx]
   omega
  have hold : ∀ v, v ∉ own p -> r' v = K * r v := fun v hv => by simp only [r', if_neg hv]
  have hvold : ∀ v, HasV ps v -> v ∉ own p := by
   intro v hv hm
   have := ge_ne (own_ge h.first hm)
   rcases hv with hv | hv | hv
   ·exact this.1 hv
   ·exact this.2 hv
   exact h.own v hm hv
  have hK : ∀ a b, a < b -> K * a + p.lines.length < K * b := by
   intro a b hab
   have : K * (a + 1) <= K * b := Nat.mul_le_mul_left _ hab
   rw [Nat.mul_add, Nat.mul_one] at this
   omega
  have hK0 : ∀ a b, a < b -> K * a < K * b := fun a b hab => by have := hK a b hab; omega
  have hr0 : rootV ∉ own p := hvold _ (.inl rfl)
  have he0 : endV ∉ own p := hvold _ (.inr (.inl rfl))
  refine ⟨r', ?_, ?_, ?_⟩
  ·intro e he
   obtain ⟨q, hq, he2⟩ := mem_allE.1 he
   rcases List.mem_cons.1 hq with rfl | hq
   ·obtain ⟨i, i1, i2, i3, i4⟩ := mem_edges.1 he2
    have s1 : r' e.1 = K * r q.up + i := by
     rw [i3]
     split
     ·rename_i h0; rw [hold _ (hvold _ h.up), h0]; rfl
     rename_i h0; rw [hown _ (by omega)]; omega
    have s2 : K * r q.up + i < r' e.2 := by
     rw [i4]
     split
     ·rename_i h0; rw [hown _ h0]; omega
     rw [hold _ (hvold _ h.down)]
     have := hK _ _ hb
     omega
    omega
   have he' : e ∈ allE ps := mem_allE.2 ⟨q, hq, he2⟩
   obtain ⟨e1, e2⟩ := t.edge he'
   rw [hold _ (hvold _ (e1.imp_right .inr)), hold _ (hvold _ (.inr e2))]
   exact hK0 _ _ (h1 e he')
  ·intro v hv
   rw [hold _ hr0, hold _ he0]
   obtain ⟨q, hq, hv2⟩ := mem_allV.1 hv
   rcases List.mem_cons.1 hq with rfl | hq
   ·obtain ⟨i, hi, rfl⟩ := mem_own.1 hv2
    rw [hown i hi]
    have hup : r rootV <= r q.up := by
     rcases h.up with h4 | h4 | h4
     ·rw [h4]; exact Nat.le_refl _
     ·exact absurd h4 h.upE
     exact Nat.le_of_lt (h2 _ h4).1
    have hdn : r q.down <= r endV := by
     rcases h.down with h4 | h4 | h4
     ·exact absurd h4 h.downR
     ·rw [h4]; exact Nat.le_refl _
     exact Nat.le_of_lt (h2 _ h4).2
    have a1 : K * r rootV <= K * r q.up := Nat.mul_le_mul_left _ hup
    have a2 := hK _ _ (Nat.lt_of_lt_of_le hb hdn)
    omega
   have hv' : v ∈ allV ps := mem_allV.2 ⟨q, hq, hv2⟩
   rw [hold _ (hvold _ (.inr (.inr hv')))]
   exact ⟨hK0 _ _ (h2 v hv').1, hK0 _ _ (h2 v hv').2⟩
  rw [hold _ hr0, hold _ he0]
  exact hK0 _ _ h3
theorem HasV.mono {ps qs : List PartP} {v : Vtx} (h : HasV ps v) (hs : ∀ p ∈ ps, p ∈ qs) : HasV qs v := by
 rcases h with h | h | h
 ·exact .inl h
 ·exact .inr (.inl h)
 obtain ⟨p, hp, hv⟩ := mem_allV.1 h
 exact .inr (.inr (mem_allV.2 ⟨p, hs p hp, hv⟩))
theorem New.fresh {ps : List PartP} {p : PartP} (h : New ps p) (t : Sq ps) : (∀ v ∈ GP.own p, ∀ e ∈ allE ps, e.1 ≠ v /\ e.2 ≠ v) /\ (∀ v, HasV ps v -> v ∉ GP.own p) := by
 have hvold : ∀ v, HasV ps v -> v ∉ GP.own p := by
  intro v hv hm
  have := ge_ne (own_ge h.first hm)
  rcases hv with hv | hv | hv
  ·exact this.1 hv
  ·exact this.2 hv
  exact h.own v hm hv
 refine ⟨fun v hv e he => ⟨?_, ?_⟩, hvold⟩
 ·rintro rfl; exact hvold _ ((t.edge he).1.imp_right .inr) hv
 rintro rfl; exact hvold _ (.inr (t.edge he).2) hv
theorem New.names_has {ps : List PartP} {p : PartP} (h : New ps p) {v : Vtx} (hv : v ∈ names p) : HasV ps v := by
 unfold names at hv
 rcases List.mem_cons.1 hv with rfl | hv
 ·exact h.up
 rcases List.mem_cons.1 hv with rfl | hv
 ·exact h.down
 exact .inr (.inr (h.gone v hv))
theorem Sq.names_has {ps : List PartP} (h : Sq ps) {q : PartP} (hq : q ∈ ps) {v : Vtx} (hv : v ∈ names q) : HasV ps v := by
 induction h with
 | nil => cases hq
 | @cons p ps h t ih =>
  rcases List.mem_cons.1 hq with rfl | hq
  ·exact (h.names_has hv).mono fun r hr => List.mem_cons_of_mem _ hr
  exact (ih hq).mono fun r hr => List.mem_cons_of_mem _ hr
theorem Sq.gone_has {ps : List PartP} (h : Sq ps) {q : PartP} (hq : q ∈ ps) {v : Vtx} (hv : v ∈ q.gone) : HasV ps v := h.names_has hq (List.mem_cons_of_mem _ (List.mem_cons_of_mem _ hv))
end Go.GP

namespace Go.GP
open Go.SL
structure NodeP where
 text : ByteArray
 gone : Int
 named : Int
 next : List Vtx
def zN : NodeP := ⟨⟨#[]⟩, 0, 0, []⟩
instance : Inhabited NodeP := ⟨zN⟩
structure Gr where
 parts : List ((HashB × Int) × PartP)
 nodes : List (Vtx × NodeP)
 first : List Vtx
def nd (N : List (Vtx × NodeP)) (v : Vtx) : NodeP := (mgt N v).getD zN
def behindG (G : Gr) (v : Vtx) : List Vtx := if v = rootV then G.first else (nd G.nodes v).next
def linkG (there : Bool) (G : Gr) (e : Vtx × Vtx) : Gr :=
 if e.1 = rootV then { G with first := if there then behindG G e.1 ++ [e.2] else (behindG G e.1).erase e.2 }
 else { G with nodes := mpt G.nodes e.1 { nd G.nodes e.1 with next := if there then behindG G e.1 ++ [e.2] else (behindG G e.1).erase e.2 } }
def linksG (there : Bool) (G : Gr) (es : List (Vtx × Vtx)) : Gr := es.foldl (linkG there) G
def name1 (d : Int) (N : List (Vtx × NodeP)) (v : Vtx) : List (Vtx × NodeP) := match mgt N v with | some n => mpt N v { n with named := n.named + d } | none => N
def gone1 (d : Int) (N : List (Vtx × NodeP)) (v : Vtx) : List (Vtx × NodeP) := mpt N v { nd N v with gone := (nd N v).gone + d }
def countG (d : Int) (N : List (Vtx × NodeP)) (p : PartP) : List (Vtx × NodeP) := p.gone.foldl (gone1 d) ((names p).foldl (name1 d) N)
def laidN (N : List (Vtx × NodeP)) (p : PartP) (k : Nat) : List (Vtx × NodeP) := (List.range k).foldl (fun N i => mpt N (p.vtx i) ⟨p.lines[i]!, 0, 0, []⟩) N
def addG (G : Gr) (p : PartP) : Gr :=
 let G1 := linksG true { parts := mpt G.parts p.name p, nodes := laidN G.nodes p p.lines.length, first := G.first } (edges p)
 { G1 with nodes := countG 1 G1.nodes p }
def HasG (G : Gr) (v : Vtx) : Prop := v = rootV ∨ v = endV ∨ v ∈ mks G.nodes
def EG (N : List (Vtx × NodeP)) : List (Vtx × Vtx) := N.flatMap fun p => p.2.next.map fun w => (p.1, w)
def BefG (G : Gr) (a b : Vtx) : Prop := HasG G a /\ HasG G b /\ a ≠ b /\ a ≠ endV /\ b ≠ rootV /\ (a = rootV ∨ b = endV ∨ Rch (EG G.nodes) a b)
def ThereG (G : Gr) (p : PartP) : Prop := p.name ∈ mks G.parts ∨ ∃ v ∈ own p, v ∈ mks G.nodes
structure Formed (p : PartP) : Prop where
 gone0 : p.gone.Nodup
 goneR : ∀ v ∈ p.gone, v ≠ rootV /\ v ≠ endV
 first : 0 <= p.first
 upE : p.up ≠ endV
 downR : p.down ≠ rootV
def outE (ps : List PartP) (v : Vtx) : List Vtx := ((allE ps).filter fun e => decide (e.1 = v)).map (·.2)
def cntV (v : Vtx) (l : List Vtx) : Int := (l.count v : Nat)
structure NodeOk (ps : List PartP) (v : Vtx) (n : NodeP) : Prop where
 gone : n.gone = cntV v (ps.flatMap (·.gone))
 named : n.named = cntV v (ps.flatMap names)
 next : n.next.Perm (outE ps v)
structure Inv (ps : List PartP) (G : Gr) : Prop where
 pk : (mks G.parts).Nodup
 part : ∀ q, (q.name, q) ∈ G.parts ↔ q ∈ ps
 pname : ∀ q ∈ G.parts, q.1 = q.2.name
 nk : (mks G.nodes).Nodup
 keys : ∀ v, v ∈ mks G.nodes ↔ v ∈ allV ps
 node : ∀ v n, mgt G.nodes v = some n -> NodeOk ps v n
 text : ∀ p ∈ ps, ∀ i s, p.lines[i]? = some s -> (nd G.nodes (p.vtx i)).text = s
 first : G.first.Perm (outE ps rootV)
theorem Inv.nil : Inv [] ⟨[], [], []⟩ := ⟨by simp [mks], by simp, by simp, by simp [mks], by simp [mks, allV], by simp [mgt_nil], by simp, by simp [outE, allE]⟩
theorem mks_mpt_mem {α β : Type} [DecidableEq α] (l : List (α × β)) (a c : α) (b : β) : c ∈ mks (mpt l a b) ↔ c = a ∨ c ∈ mks l := by
 rw [mks_mpt]
 split
 ·rename_i h
  constructor
  ·exact .inr
  rintro (rfl | h2)
  ·exact h
  exact h2
 simp; exact or_comm
theorem mem_mks {α β : Type} [DecidableEq α] {l : List (α × β)} {a : α} : a ∈ mks l ↔ ∃ b, mgt l a = some b := by
 constructor
 ·intro h
  cases e : mgt l a with
  | none => exact absurd h (mgt_none.1 e)
  | some b => exact ⟨b, rfl⟩
 rintro ⟨b, h⟩
 exact List.mem_map.2 ⟨_, mgt_some_mem h, rfl⟩
theorem nd_some {N : List (Vtx × NodeP)} {v : Vtx} (h : v ∈ mks N) : mgt N v = some (nd N v) := by
 obtain ⟨b, hb⟩ := mem_mks.1 h
 unfold nd
 rw [hb]; rfl
theorem nd_mpt (N : List (Vtx × NodeP)) (a c : Vtx) (n : NodeP) : nd (mpt N a n) c = if c = a then n else nd N c := by
 unfold nd
 rw [mgt_mpt]
 split <;> rfl
theorem laidN_spec {N : List (Vtx × NodeP)} {p : PartP} : ∀ k, k <= p.lines.length -> (∀ v, v ∈ mks (laidN N p k) ↔ v ∈ mks N ∨ ∃ i, i < k /\ p.vtx i = v) /\ ((mks N).Nodup -> (mks (laidN N p k)).Nodup) /\
  (∀ v, (∀ i, i < k -> p.vtx i ≠ v) -> nd (laidN N p k) v = nd N v) /\ ∀ i, i < k -> nd (laidN N p k) (p.vtx i) = ⟨p.lines[i]!, 0, 0, []⟩
 | 0, _ => by simp [laidN]
 | k + 1, h => by
  obtain ⟨h1, h2, h3, h4⟩ := laidN_spec (N := N) (p := p) k (by omega)
  have e : laidN N p (k + 1) = mpt (laidN N p k) (p.vtx k) ⟨p.lines[k]!, 0, 0, []⟩ := by
   unfold laidN
   rw [List.range_succ, List.foldl_append]
   rfl
  rw [e]
  refine ⟨fun v => ?_, fun hn => mpt_nodup (h2 hn) _ _, fun v hv => ?_, fun i hi => ?_⟩
  ·rw [mks_mpt_mem, h1]
   constructor
   ·rintro (rfl | h | ⟨i, hi, rfl⟩)
    ·exact .inr ⟨k, by omega, rfl⟩
    ·exact .inl h
    exact .inr ⟨i, by omega, rfl⟩
   rintro (h | ⟨i, hi, rfl⟩)
   ·exact .inr (.inl h)
   by_cases hk : i = k
   ·subst hk; exact .inl rfl
   exact .inr (.inr ⟨i, by omega, rfl⟩)
  ·rw [nd_mpt, if_neg (fun e => hv k (by omega) e.symm)]
   exact h3 v fun i hi => hv i (by omega)
  rw [nd_mpt]
  by_cases hk : i = k
  ·subst hk; rw [if_pos rfl]
  rw [if_neg (fun e => hk (vtx_inj e))]
  exact h4 i (by omega)
theorem name1_spec (d : Int) (N : List (Vtx × NodeP)) (v : Vtx) : mks (name1 d N v) = mks N /\ ∀ c, nd (name1 d N v) c = if c = v /\ c ∈ mks N then { nd N c with named := (nd N c).named + d } else nd N c := by
 unfold name1
 cases e : mgt N v with
 | none =>
  refine ⟨rfl, fun c => ?_⟩
  have := mgt_none.1 e
  by_cases hc : c = v /\ c ∈ mks N
  ·exact absurd (hc.1 ▸ hc.2) this
  rw [if_neg hc]
 | some n =>
  have hm : v ∈ mks N := mem_mks.2 ⟨n, e⟩
  have hn : nd N v = n := by unfold nd; rw [e]; rfl
  refine ⟨by simp only; rw [mks_mpt, if_pos hm], fun c => ?_⟩
  simp only
  rw [nd_mpt]
  by_cases hc : c = v
  ·subst hc
   rw [if_pos rfl, if_pos ⟨rfl, hm⟩, hn]
  rw [if_neg hc, if_neg (fun h => hc h.1)]
theorem cntV_cons (v a : Vtx) (l : List Vtx) : cntV v (a :: l) = cntV v l + if a = v then 1 else 0 := by
 unfold cntV
 rw [List.count_cons]
 by_cases h : a = v
 ·simp [h]
 simp [h]
theorem cntV_app (v : Vtx) (a b : List Vtx) : cntV v (a ++ b) = cntV v a + cntV v b := by
 unfold cntV
 rw [List.count_append]
 omega
theorem names_spec (d : Int) : ∀ (l : List Vtx) (N : List (Vtx × NodeP)), mks (l.foldl (name1 d) N) = mks N /\ ∀ c ∈ mks N, nd (l.foldl (name1 d) N) c = { nd N c with named := (nd N c).named + d * cntV c l }
 | [], N => by simp [cntV]
 | a :: l, N => by
  obtain ⟨h1, h2⟩ := name1_spec d N a
  obtain ⟨i1, i2⟩ := names_spec d l (name1 d N a)
  simp only [List.foldl_cons]
  refine ⟨i1.trans h1, fun c hc => ?_⟩
  rw [i2 c (by rw [h1]; exact hc), h2, cntV_cons]
  by_cases hca : c = a
  ·subst hca
   rw [if_pos ⟨rfl, hc⟩, if_pos rfl]
   simp only [NodeP.mk.injEq, true_and, and_true]
   rw [Int.mul_add]; omega
  rw [if_neg (fun h => hca h.1), if_neg (fun h => hca h.symm)]
  simp
theorem gone1_spec (d : Int) (N : List (Vtx × NodeP)) (v : Vtx) : (∀ c, c ∈ mks (gone1 d N v) ↔ c = v ∨ c ∈ mks N) /\ ((mks N).Nodup -> (mks (gone1 d N v)).Nodup) /\ ∀ c, nd (gone1 d N v) c = if c = v then { nd N c with gone := (nd N c).gone + d } else nd N c := by
 unfold gone1
 refine ⟨fun c => mks_mpt_mem _ _ _ _, fun h => mpt_nodup h _ _, fun c => ?_⟩
 rw [nd_mpt]
 split
 ·rename_i h; subst h; rfl
 rfl
theorem gones_spec (d : Int) : ∀ (l : List Vtx) (N : List (Vtx × NodeP)), (∀ v ∈ l, v ∈ mks N) -> (∀ c, c ∈ mks (l.foldl (gone1 d) N) ↔ c ∈ mks N) /\ ((mks N).Nodup -> (mks (l.foldl (gone1 d) N)).Nodup) /\
  ∀ c, nd (l.foldl (gone1 d) N) c = { nd N c with gone := (nd N c).gone + d * cntV c l }
 | [], N, _ => by simp [cntV]
 | a :: l, N, h => by
  obtain ⟨h1, h2, h3⟩ := gone1_spec d N a
  have ha := h a (by simp)
  obtain ⟨i1, i2, i3⟩ := gones_spec d l (gone1 d N a) (fun v hv => (h1 v).2 (.inr (h v (by simp [hv]))))
  simp only [List.foldl_cons]
  refine ⟨fun c => ?_, fun hn => i2 (h2 hn), fun c => ?_⟩
  ·rw [i1, h1]
   constructor
   ·rintro (rfl | h)
    ·exact ha
    exact h
   exact .inr
  rw [i3, h3, cntV_cons]
  by_cases hca : c = a
  ·subst hca
   rw [if_pos rfl, if_pos rfl]
   simp only [NodeP.mk.injEq, true_and, and_true]
   rw [Int.mul_add]; omega
  rw [if_neg hca, if_neg (fun h => hca h.symm)]
  simp
theorem countG_spec {d : Int} {N : List (Vtx × NodeP)} {p : PartP} (hg : ∀ v ∈ p.gone, v ∈ mks N) : (∀ c, c ∈ mks (countG d N p) ↔ c ∈ mks N) /\ ((mks N).Nodup -> (mks (countG d N p)).Nodup) /\
  ∀ c ∈ mks N, nd (countG d N p) c = ⟨(nd N c).text, (nd N c).gone + d * cntV c p.gone, (nd N c).named + d * cntV c (names p), (nd N c).next⟩ := by
 obtain ⟨h1, h2⟩ := names_spec d (names p) N
 obtain ⟨i1, i2, i3⟩ := gones_spec d p.gone ((names p).foldl (name1 d) N) (fun v hv => by rw [h1]; exact hg v hv)
 unfold countG
 refine ⟨fun c => by rw [i1, h1], fun hn => i2 (by rw [h1]; exact hn), fun c hc => ?_⟩
 rw [i3, h2 c hc]
def outL (es : List (Vtx × Vtx)) (v : Vtx) : List Vtx := (es.filter fun e => decide (e.1 = v)).map (·.2)
theorem outL_cons (e : Vtx × Vtx) (es : List (Vtx × Vtx)) (v : Vtx) : outL (e :: es) v = (if e.1 = v then [e.2] else []) ++ outL es v := by
 unfold outL
 rw [List.filter_cons]
 by_cases h : e.1 = v <;> simp [h]
def undo (there : Bool) (l es : List Vtx) : List Vtx := es.foldl (fun l w => if there then l ++ [w] else l.erase w) l
theorem linkG_spec (there : Bool) (G : Gr) (e : Vtx × Vtx) (he : e.1 = rootV ∨ e.1 ∈ mks G.nodes) (hr : rootV ∉ mks G.nodes) : (linkG there G e).parts = G.parts /\ mks (linkG there G e).nodes = mks G.nodes /\
  (∀ c ∈ mks G.nodes, nd (linkG there G e).nodes c = { nd G.nodes c with next := undo there (nd G.nodes c).next (outL [e] c) }) /\ (linkG there G e).first = undo there G.first (outL [e] rootV) := by
 unfold linkG
 by_cases h : e.1 = rootV
 ·rw [if_pos h]
  refine ⟨rfl, rfl, fun c hc => ?_, ?_⟩
  ·have : e.1 ≠ c := fun e2 => hr (by rw [<- h, e2]; exact hc)
   rw [outL_cons, if_neg this]
   simp [outL, undo]
  rw [outL_cons, if_pos h]
  simp [outL, undo, behindG, h]
 have hm := he.resolve_left h
 rw [if_neg h]
 refine ⟨rfl, ?_, fun c hc => ?_, ?_⟩
 ·rw [mks_mpt, if_pos hm]
 ·rw [nd_mpt, outL_cons]
  by_cases hc2 : c = e.1
  ·subst hc2
   rw [if_pos rfl, if_pos rfl]
   simp [outL, undo, behindG, h]
  rw [if_neg hc2, if_neg (fun e => hc2 e.symm)]
  simp [outL, undo]
 rw [outL_cons, if_neg h]
 simp [outL, undo]
theorem undo_app (there : Bool) (l a b : List Vtx) : undo there l (a ++ b) = undo there (undo there l a) b := by unfold undo; rw [List.foldl_append]
theorem linksG_spec (there : Bool) : ∀ (es : List (Vtx × Vtx)) (G : Gr), (∀ e ∈ es, e.1 = rootV ∨ e.1 ∈ mks G.nodes) -> rootV ∉ mks G.nodes -> (linksG there G es).parts = G.parts /\ mks (linksG there G es).nodes = mks G.nodes /\
  (∀ c ∈ mks G.nodes, nd (linksG there G es).nodes c = { nd G.nodes c with next := undo there (nd G.nodes c).next (outL es c) }) /\ (linksG there G es).first = undo there G.first (outL es rootV)
 | [], G, _, _ => by simp [linksG, outL, undo]
 | e :: es, G, h, hr => by
  obtain ⟨h1, h2, h3, h4⟩ := linkG_spec there G e (h e (by simp)) hr
  obtain ⟨i1, i2, i3, i4⟩ := linksG_spec there es (linkG there G e) (fun x hx => by rw [h2]; exact h x (by simp [hx])) (by rw [h2]; exact hr)
  have hun : linksG there G (e :: es) = linksG there (linkG there G e) es := rfl
  rw [hun]
  have hout : ∀ v, outL (e :: es) v = outL [e] v ++ outL es v := fun v => by rw [outL_cons, outL_cons]; simp [outL]
  refine ⟨i1.trans h1, i2.trans h2, fun c hc => ?_, ?_⟩
  ·rw [i3 c (by rw [h2]; exact hc), h3 c hc, hout, undo_app]
  rw [i4, h4, hout, undo_app]
theorem undo_true (l a : List Vtx) : undo true l a = l ++ a := by
 induction a generalizing l with
 | nil => simp [undo]
 | cons x a ih =>
  have : undo true l (x :: a) = undo true (l ++ [x]) a := rfl
  rw [this, ih]; simp
theorem outE_cons (p : PartP) (ps : List PartP) (v : Vtx) : outE (p :: ps) v = outL (edges p) v ++ outE ps v := by
 unfold outE outL allE
 rw [List.flatMap_cons, List.filter_append, List.map_append]
theorem allV_cons (p : PartP) (ps : List PartP) : allV (p :: ps) = own p ++ allV ps := by unfold allV; rw [List.flatMap_cons]
theorem outL_nil {es : List (Vtx × Vtx)} {v : Vtx} (h : ∀ e ∈ es, e.1 ≠ v) : outL es v = [] := by
 unfold outL
 rw [List.filter_eq_nil_iff.2 (fun e he => by simpa using h e he)]
 rfl
theorem cntV_zero {v : Vtx} {l : List Vtx} (h : v ∉ l) : cntV v l = 0 := by
 unfold cntV
 rw [List.count_eq_zero.2 h]; rfl
theorem Inv.root {ps : List PartP} {G : Gr} (h : Inv ps G) (hs : Sq ps) : rootV ∉ mks G.nodes := fun hm => (hs.line ((h.keys _).1 hm)).1 rfl
theorem Inv.add {ps : List PartP} {G : Gr} {p : PartP} (h : Inv ps G) (hs : Sq ps) (hn : New ps p) : Inv (p :: ps) (addG G p) := by
 have hs' : Sq (p :: ps) := .cons hn hs
 obtain ⟨l1, l2, l3, l4⟩ := laidN_spec (N := G.nodes) (p := p) p.lines.length (Nat.le_refl _)
 have hkeys1 : ∀ v, v ∈ mks (laidN G.nodes p p.lines.length) ↔ v ∈ allV (p :: ps) := fun v => by
  rw [l1, allV_cons, List.mem_append, h.keys, mem_own]; exact or_comm
 generalize hN : laidN G.nodes p p.lines.length = N1 at *
 have hroot1 : rootV ∉ mks N1 := fun hm => (hs'.line ((hkeys1 _).1 hm)).1 rfl
 have hsrc : ∀ e ∈ edges p, e.1 = rootV ∨ e.1 ∈ mks N1 := fun e he => by
  rcases (hs'.edge (mem_allE.2 ⟨p, by simp, he⟩)).1 with h1 | h1
  ·exact .inl h1
  exact .inr ((hkeys1 _).2 h1)
 obtain ⟨k1, k2, k3, k4⟩ := linksG_spec true (edges p) { parts := mpt G.parts p.name p, nodes := N1, first := G.first } hsrc hroot1
 have hgo : ∀ v ∈ p.gone, v ∈ mks (linksG true { parts := mpt G.parts p.name p, nodes := N1, first := G.first } (edges p)).nodes := fun v hv => by
  rw [k2]; exact (hkeys1 v).2 (by rw [allV_cons]; exact List.mem_append_right _ (hn.gone v hv))
 obtain ⟨c1, c2, c3⟩ := countG_spec (d := 1) hgo
 have hA : addG G p = { parts := (linksG true { parts := mpt G.parts p.name p, nodes := N1, first := G.first } (edges p)).parts, nodes := countG 1 (linksG true { parts := mpt G.parts p.name p, nodes := N1, first := G.first } (edges p)).nodes p, first := (linksG true { parts := mpt G.parts p.name p, nodes := N1, first := G.first } (edges p)).first } := by
  unfold addG
  rw [hN]
 rw [hA]
 have hnew : p.name ∉ mks G.parts := fun hm => by
  obtain ⟨q, hq⟩ := mem_mks.1 hm
  have hq' := mgt_some_mem hq
  have hnm := h.pname _ hq'
  simp only at hnm
  exact hn.name q ((h.part q).1 (by rw [<- hnm]; exact hq')) hnm.symm
 obtain ⟨f1, f2⟩ := hn.fresh hs
 refine ⟨?_, ?_, ?_, ?_, ?_, ?_, ?_, ?_⟩
 ·simp only; rw [k1]; exact mpt_nodup h.pk _ _
 ·intro q
  simp only; rw [k1]
  simp only
  rw [mpt_new (a := p.name) (fun b hb => hnew (List.mem_map.2 ⟨_, hb, rfl⟩)), List.mem_append, h.part, List.mem_singleton, List.mem_cons]
  constructor
  ·rintro (h1 | h1)
   ·exact .inr h1
   exact .inl (Prod.mk.inj h1).2
  rintro (rfl | h1)
  ·exact .inr rfl
  exact .inl h1
 ·intro q
  simp only; rw [k1]
  simp only
  rw [mpt_new (a := p.name) (fun b hb => hnew (List.mem_map.2 ⟨_, hb, rfl⟩)), List.mem_append, List.mem_singleton]
  rintro (h1 | rfl)
  ·exact h.pname q h1
  rfl
 ·simp only; exact c2 (by rw [k2]; exact l2 h.nk)
 ·intro v; simp only; rw [c1, k2, hkeys1]
 ·intro v n hv
  simp only at hv
  have hm0 := mem_mks.2 ⟨n, hv⟩
  have hm1 : v ∈ mks N1 := by rw [c1, k2] at hm0; exact hm0
  have hm2 : v ∈ mks (linksG true { parts := mpt G.parts p.name p, nodes := N1, first := G.first } (edges p)).nodes := by rw [k2]; exact hm1
  have hnd := nd_some hm0
  rw [hv] at hnd
  obtain rfl := Option.some.inj hnd
  rw [c3 v hm2, k3 v hm1, undo_true]
  simp only
  by_cases hown : v ∈ own p
  ·obtain ⟨i, hi, rfl⟩ := mem_own.1 hown
   rw [l4 i hi]
   simp only
   have hnv : p.vtx i ∉ allV ps := hn.own _ hown
   refine ⟨?_, ?_, ?_⟩
   ·rw [List.flatMap_cons, cntV_app]
    rw [cntV_zero (v := p.vtx i) (l := p.gone) (fun hm => hnv (hn.gone _ hm)), cntV_zero (v := p.vtx i) (l := ps.flatMap (·.gone)) (fun hm => ?_)]
    ·simp
    obtain ⟨q, hq, hm⟩ := List.mem_flatMap.1 hm
    exact (f2 _ (Sq.gone_has hs hq hm)) hown
   ·rw [List.flatMap_cons, cntV_app]
    have a1 : cntV (p.vtx i) (names p) = 0 := cntV_zero fun hm => f2 _ (New.names_has hn hm) hown
    have a2 : cntV (p.vtx i) (ps.flatMap names) = 0 := cntV_zero fun hm => by
     obtain ⟨q, hq, hm⟩ := List.mem_flatMap.1 hm
     exact f2 _ (Sq.names_has hs hq hm) hown
    simp only [a1, a2]
    simp
   rw [outE_cons]
   have : outE ps (p.vtx i) = [] := outL_nil fun e he => (f1 _ hown e he).1
   rw [this, List.append_nil, List.nil_append]
  have hold : v ∈ mks G.nodes := by
   rw [l1] at hm1
   rcases hm1 with h1 | ⟨i, hi, rfl⟩
   ·exact h1
   exact absurd (mem_own.2 ⟨i, hi, rfl⟩) hown
  rw [l3 v (fun i hi e => hown (mem_own.2 ⟨i, hi, e⟩))]
  obtain ⟨o1, o2, o3⟩ := h.node v _ (nd_some hold)
  refine ⟨?_, ?_, ?_⟩
  ·rw [List.flatMap_cons, cntV_app, o1]; simp only; omega
  ·rw [List.flatMap_cons, cntV_app, o2]; simp only; omega
  rw [outE_cons]
  exact (List.Perm.append_right _ o3).trans List.perm_append_comm
 ·intro q hq i s hi
  simp only
  have hil : i < q.lines.length := (List.getElem?_eq_some_iff.1 hi).1
  have hm1 : q.vtx i ∈ mks N1 := (hkeys1 _).2 (mem_allV.2 ⟨q, hq, mem_own.2 ⟨i, hil, rfl⟩⟩)
  rw [c3 _ (by rw [k2]; exact hm1), k3 _ hm1]
  simp only
  rcases List.mem_cons.1 hq with rfl | hq
  ·rw [l4 i hil]
   simp only
   rw [getElem!_pos q.lines i hil]
   have := (List.getElem?_eq_some_iff.1 hi).2
   exact this
  have : q.vtx i ∈ allV ps := mem_allV.2 ⟨q, hq, mem_own.2 ⟨i, hil, rfl⟩⟩
  rw [l3 _ (fun j hj e => hn.own _ (mem_own.2 ⟨j, hj, e⟩) this)]
  exact h.text q hq i s hi
 simp only
 rw [k4, undo_true, outE_cons]
 exact (List.Perm.append_right _ h.first).trans List.perm_append_comm
end Go.GP

namespace Go.Proofs.Gr
open Go.SL Go.RowKit Go.Proofs Go.GP
set_option maxHeartbeats 1000000
def vtxL (v : Vtx) : List Value := bytesC v.1.1 ++ [.int .i64 v.2]
def vtxV (v : Vtx) : Value := .agg (vtxL v).toArray
def vtxs (l : List Vtx) : List Value := l.flatMap vtxL
def okV (v : Vtx) : Prop := -9223372036854775808 <= v.2 /\ v.2 <= 9223372036854775807
def v0 : Vtx := (h0, 0)
def z33 : List Value := List.replicate 32 (.int .u8 0) ++ [.int .i64 0]
theorem hb_len (h : HashB) : (bytesC h.1).length = 32 := by rw [bytesC_length]; exact h.2
theorem vtxL_len (v : Vtx) : (vtxL v).length = 33 := by simp [vtxL, hb_len]
theorem vtxs_len (l : List Vtx) : (vtxs l).length = l.length * 33 := by unfold vtxs; rw [List.length_flatMap]; simp [vtxL_len, List.map_const']
theorem vtxs_app (a b : List Vtx) : vtxs (a ++ b) = vtxs a ++ vtxs b := by unfold vtxs; rw [List.flatMap_append]
theorem vtxs_cons (a : Vtx) (b : List Vtx) : vtxs (a :: b) = vtxL a ++ vtxs b := rfl
theorem vtxs_one1 (a : Vtx) : vtxs [a] = vtxL a := by simp [vtxs]
theorem vtxL_one (v : Vtx) : (vtxL v).all (·.oneCell') = true := by rw [vtxL, List.all_append, bytesC_all]; rfl
theorem vtxs_one (l : List Vtx) : (vtxs l).all (·.oneCell') = true := by
 rw [List.all_eq_true]
 intro v hv
 obtain ⟨a, _, h⟩ := List.mem_flatMap.1 hv
 exact List.all_eq_true.1 (vtxL_one a) v h
theorem flat_get {α : Type} [Inhabited α] {enc : α -> List Value} {k : Nat} (hk : ∀ x, (enc x).length = k) : ∀ (l : List α) (t : Nat), t < l.length * k -> (l.flatMap enc)[t]? = (enc l[t / k]!)[t % k]?
 | [], t, h => by simp at h
 | x :: l, t, h => by
  have h' : t < l.length * k + k := by simpa [Nat.add_mul] using h
  have k0 : 0 < k := by exact Nat.pos_of_ne_zero fun e => by subst e; simp at h
  rw [List.flatMap_cons]
  rcases Nat.lt_or_ge t k with a | a
  ·rw [List.getElem?_append_left (by rw [hk]; exact a), Nat.div_eq_of_lt a, Nat.mod_eq_of_lt a]; simp
  obtain ⟨u, rfl⟩ : ∃ u, t = u + k := ⟨t - k, by omega⟩
  rw [List.getElem?_append_right (by rw [hk]; omega), hk, Nat.add_sub_cancel, flat_get hk l u (by omega), Nat.add_div_right _ k0, Nat.add_mod_right]
  simp
theorem vtxs_get {l : List Vtx} {k : Nat} (hk : k < l.length) {j : Nat} (hj : j < 33) : (vtxs l)[k * 33 + j]? = (vtxL l[k])[j]? := by
 unfold vtxs
 rw [flat_get vtxL_len l (k * 33 + j) (by omega), show (k * 33 + j) / 33 = k from by omega, show (k * 33 + j) % 33 = j from by omega, getElem!_pos l k hk]
theorem vtxs_some {w0 : World} {S : SS} {A : Option Addr} {l : List Vtx} (h : Rd w0 S A (vtxs l)) (hk : 0 < l.length) : ∃ a, A = some a :=
 h.some (fun e => by have := vtxs_len l; rw [e] at this; simp at this; omega)
theorem vtx_at {w0 : World} {S : SS} {a : Addr} {l : List Vtx} (h : Rd w0 S (some a) (vtxs l)) {k : Nat} (hk : k < l.length) :
  ∀ (j : Nat) (v : Value), (vtxL l[k])[j]? = some v -> Cell w0 S ((a.add (k * 33)).add j) v := by
 intro j v hj
 have hj2 : j < 33 := by have := (List.getElem?_eq_some_iff.1 hj).1; rwa [vtxL_len] at this
 rw [addr_add_add]
 exact h.at (by rw [vtxs_get hk hj2]; exact hj)
theorem bytesC_inj : ∀ {a b : List UInt8}, bytesC a = bytesC b -> a = b
 | [], [], _ => rfl
 | [], _ :: _, h => by simp [bytesC] at h
 | _ :: _, [], h => by simp [bytesC] at h
 | a :: l, b :: r, h => by
  simp only [bytesC, List.map_cons, List.cons.injEq, Value.int.injEq, true_and] at h
  obtain ⟨h1, h2⟩ := h
  have h3 : a = b := UInt8.toNat_inj.1 (by omega)
  rw [h3, bytesC_inj h2]
theorem vtxL_inj {a b : Vtx} (h : vtxL a = vtxL b) : a = b := by
 unfold vtxL at h
 obtain ⟨h1, h2⟩ := List.append_inj h (by rw [hb_len, hb_len])
 simp only [List.cons.injEq, Value.int.injEq, true_and, and_true] at h2
 exact Prod.ext (Subtype.ext (bytesC_inj h1)) h2
theorem vtx_inj' {a b : Vtx} (h : vtxV a = vtxV b) : a = b := by
 unfold vtxV at h
 exact vtxL_inj (by simpa using h)
def KV : List CK := [.int .u8, .int .u8, .int .u8, .int .u8, .int .u8, .int .u8, .int .u8, .int .u8, .int .u8, .int .u8, .int .u8, .int .u8, .int .u8, .int .u8, .int .u8, .int .u8, .int .u8, .int .u8, .int .u8, .int .u8, .int .u8, .int .u8, .int .u8, .int .u8, .int .u8, .int .u8, .int .u8, .int .u8, .int .u8, .int .u8, .int .u8, .int .u8, .int .i64]
theorem eqL_bytes : ∀ {x y : List UInt8}, x.length = y.length -> eqL (List.replicate x.length (.int .u8)) (bytesC x) (bytesC y) = some (decide (x = y))
 | [], [], _ => rfl
 | a :: l, b :: r, h => by
  have ih := eqL_bytes (x := l) (y := r) (by simpa using h)
  unfold bytesC at ih ⊢
  simp only [List.length_cons, List.replicate_succ, List.map_cons, eqL, eqCell, and_self, if_true, ih, Option.some.injEq]
  by_cases h1 : a = b
  ·subst h1; simp
  have : ¬ (a.toNat : Int) = (b.toNat : Int) := fun e => h1 (UInt8.toNat_inj.1 (by omega))
  simp [h1, this]
theorem eqL_app : ∀ {s t : List CK} {a b a' b' : List Value} {p q : Bool}, eqL s a a' = some p -> eqL t b b' = some q -> eqL (s ++ t) (a ++ b) (a' ++ b') = some (p && q)
 | [], t, a, b, a', b', p, q, h, k => by
  obtain ⟨l1, l2⟩ := eqL_len h
  have e1 : a = [] := List.eq_nil_of_length_eq_zero l1
  have e2 : a' = [] := List.eq_nil_of_length_eq_zero l2
  subst e1; subst e2
  have : p = true := by simpa [eqL] using h.symm
  subst this
  simpa using k
 | c :: s, t, a, b, a', b', p, q, h, k => by
  obtain ⟨x, xs, y, ys, p1, q1, rfl, rfl, h1, h2, rfl⟩ := eqL_cons h
  have := eqL_app h2 k
  simp only [List.cons_append, eqL, h1, this]
  rw [Bool.and_assoc]
theorem eqL_vtx (a b : Vtx) : eqL KV (vtxL a) (vtxL b) = some (decide (a = b)) := by
 have h1 := eqL_bytes (x := a.1.1) (y := b.1.1) (a.1.2.trans b.1.2.symm)
 rw [a.1.2] at h1
 have := eqL_app h1 (show eqL [.int .i64] [.int .i64 a.2] [.int .i64 b.2] = some (decide (a.2 = b.2)) by simp only [eqL, eqCell, and_self, if_true]; rw [Bool.and_true]; congr 1)
 refine (Eq.trans (by rfl) this).trans ?_
 congr 1
 rw [<- Bool.decide_and]
 congr 1
 apply propext
 constructor
 ·rintro ⟨h1, h2⟩; exact Prod.ext (Subtype.ext h1) h2
 rintro rfl; exact ⟨rfl, rfl⟩
theorem sub_at {w0 : World} {S : SS} {r E tot off : Nat} {c A B C : List Value} (hm : (r, AO.cells c E tot) ∈ S.flatten) (hc : c = A ++ B ++ C) (hA : A.length = off) : ∀ (j : Nat) (v : Value), B[j]? = some v -> Cell w0 S ((⟨r, off, none⟩ : Addr).add j) v := by
 intro j v hj
 have hl : j < B.length := (List.getElem?_eq_some_iff.1 hj).1
 have := own_at (w0 := w0) (j := off + j) hm (show c[off + j]? = some v by
  rw [hc, List.append_assoc, List.getElem?_append_right (by omega), List.getElem?_append_left (by omega), show off + j - A.length = j from by omega, hj])
 rw [Addr.add_lit]
 exact this
theorem all_at {w0 : World} {S : SS} {r E tot : Nat} {c : List Value} (hm : (r, AO.cells c E tot) ∈ S.flatten) : ∀ (j : Nat) (v : Value), c[j]? = some v -> Cell w0 S ((⟨r, 0, none⟩ : Addr).add j) v := fun j v hj => (Rd.own hm).at hj
theorem vtx_read {w0 : World} {S : SS} {r E tot : Nat} {v : Vtx} (hm : (r, AO.cells (vtxL v) E tot) ∈ S.flatten) : ReadsAs w0 S (some 33) ⟨r, 0, none⟩ (vtxV v) := ⟨vtxL v, rfl, vtxL_len v, all_at hm⟩
theorem setAll {c d : List Value} (h : c.length = d.length) : setAt c 0 d = d := by
 rw [setAt_eq _ _ _ (by omega), Nat.zero_add, h.symm, List.drop_length]; simp
theorem vset (h : HashB) (z : Int) : setAt (bytesC h.1 ++ [.int .i64 0]) 32 [.int .i64 z] = vtxL (h, z) := by
 have hh := hb_len h
 rw [setAt_eq _ _ _ (by simp [hh])]
 rw [List.take_append_of_le_length (by omega), List.take_of_length_le (by omega), List.drop_eq_nil_of_le (by simp [hh]), List.append_nil]
 rfl
theorem z33_hash (h : HashB) : setAt z33 0 (bytesC h.1) = bytesC h.1 ++ [.int .i64 0] := by
 have hh := hb_len h
 rw [setAt_eq _ _ _ (by rw [hh]; decide), hh]
 rfl
theorem fill_vtx {T : TT} {h : HashB} {z : Int} {a b : Nat} (h1 : Go.SL.look T a = some (.agg (bytesC h.1).toArray)) (h2 : Go.SL.look T b = some (.int .i64 z)) : fillP T z33 [(0, 32, .t a), (32, 1, .t b)] = some (vtxL (h, z)) := by
 have hh := hb_len h
 have e1 : (Value.agg (bytesC h.1).toArray).cells.size = 32 := by simp [Value.cells, hh]
 have e2 : (Value.agg (bytesC h.1).toArray).cells.toList = bytesC h.1 := rfl
 simp only [fillP, PV.val, h1, h2]
 rw [if_pos ⟨e1, by decide⟩, e2, z33_hash, if_pos ⟨rfl, by simp [hh]⟩]
 exact congrArg some (vset h z)
theorem vtxL_take (v : Vtx) : (vtxL v).take 32 = bytesC v.1.1 := by
 unfold vtxL
 rw [List.take_append_of_le_length (by rw [hb_len]; decide), List.take_of_length_le (by rw [hb_len]; decide)]
theorem vtxL_last (v : Vtx) : (vtxL v)[32]? = some (.int .i64 v.2) := by
 unfold vtxL
 rw [List.getElem?_append_right (by rw [hb_len]; decide), hb_len]; rfl
theorem mapM_some {α β : Type} {f : α -> Option β} : ∀ {l : List α}, (∀ a ∈ l, ∃ b, f a = some b) -> ∃ r, l.mapM f = some r
 | [], _ => ⟨[], rfl⟩
 | a :: l, h => by
  obtain ⟨b, hb⟩ := h a (by simp)
  obtain ⟨r, hr⟩ := mapM_some (l := l) fun x hx => h x (by simp [hx])
  exact ⟨b :: r, by simp [hb, hr]⟩
theorem lits_byte {e : TypeId} (he : Try.prog.underlying e = some (.int .u8)) (d : Nat) (b : UInt8) : ∃ l, Try.prog.keyLits (d + 1) e [.int .u8 (b.toNat : Int)] = some l := by
 have hw : (Lit.int .u8 (b.toNat : Int)).wf = true := by
  have := b.toNat_lt
  simp only [Lit.wf, Bool.and_eq_true, decide_eq_true_eq]
  constructor
  ·show (0 : Int) <= _; omega
  show _ <= (255 : Int); omega
 exact ⟨[.int .u8 (b.toNat : Int)], by simp only [Program.keyLits, he, hw]; rfl⟩
theorem lits_int {e : TypeId} (he : Try.prog.underlying e = some (.int .i64)) (d : Nat) (z : Int) (h1 : -9223372036854775808 <= z) (h2 : z <= 9223372036854775807) : ∃ l, Try.prog.keyLits (d + 1) e [.int .i64 z] = some l := by
 have hw : (Lit.int .i64 z).wf = true := by
  simp only [Lit.wf, Bool.and_eq_true, decide_eq_true_eq]
  exact ⟨h1, h2⟩
 exact ⟨[.int .i64 z], by simp only [Program.keyLits, he, hw]; rfl⟩
theorem lits_hash (d : Nat) (h : HashB) : ∃ l, Try.prog.keyLits (d + 1 + 1) 30 (bytesC h.1) = some l := by
 have c30 : Try.prog.cellsOf 30 = 32 := by kernel_rfl
 have c5 : Try.prog.cellsOf 5 = 1 := by kernel_rfl
 have u5 : Try.prog.underlying 5 = some (.int .u8) := Try.underlying5
 have hm : ∀ i ∈ List.range 32, ∃ b, Try.prog.keyLits (d + 1) 5 (((bytesC h.1).drop (i * 1)).take 1) = some b := by
  intro i hi
  have hi' : i < h.1.length := by rw [h.2]; exact List.mem_range.1 hi
  have e : ((bytesC h.1).drop (i * 1)).take 1 = [.int .u8 (h.1[i].toNat : Int)] := by
   unfold bytesC
   rw [Nat.mul_one, List.drop_eq_getElem_cons (by simpa using hi')]
   simp
  rw [e]
  exact lits_byte u5 d _
 obtain ⟨r, hr⟩ := mapM_some hm
 refine ⟨r.flatten, ?_⟩
 unfold Program.keyLits
 simp only [Try.underlying30, c30, c5, hb_len, if_true, hr, Option.map_some]
theorem lits_vtx (d : Nat) (v : Vtx) (hv : okV v) {t : TypeId} {f1 f2 : Field} (hu : Try.prog.underlying t = some (.struct #[f1, f2])) (ht : Try.prog.cellsOf t = 33) (h1 : f1.type = 30) (h2 : f1.offset = 0) (h3 : f2.type = 3) (h4 : f2.offset = 32) (h5 : f1.name ≠ "_") (h6 : f2.name ≠ "_") :
  ∃ l, Try.prog.keyLits (d + 1 + 1 + 1) t (vtxL v) = some l := by
 have c30 : Try.prog.cellsOf 30 = 32 := by kernel_rfl
 have c3 : Try.prog.cellsOf 3 = 1 := by kernel_rfl
 obtain ⟨a, ha⟩ := lits_hash d v.1
 obtain ⟨b, hb⟩ := lits_int (e := 3) Try.underlying3 (d + 1) v.2 hv.1 hv.2
 have e1 : ((vtxL v).drop 0).take 32 = bytesC v.1.1 := vtxL_take v
 have e2 : ((vtxL v).drop 32).take 1 = [.int .i64 v.2] := by
  unfold vtxL
  rw [List.drop_append_of_le_length (by rw [hb_len]; decide), List.drop_eq_nil_of_le (by rw [hb_len]; decide)]; rfl
 refine ⟨[a, b].flatten, ?_⟩
 unfold Program.keyLits
 simp only [hu, ht, vtxL_len]
 rw [if_pos ⟨trivial, by simp [h5, h6]⟩]
 simp [h1, h2, h3, h4, c30, c3, ha, hb, e2, vtxL_take]
theorem vtx_key {t : TypeId} (hk : Try.prog.keyType t = true) {f1 f2 : Field} (hu : Try.prog.underlying t = some (.struct #[f1, f2])) (ht : Try.prog.cellsOf t = 33) (h1 : f1.type = 30) (h2 : f1.offset = 0) (h3 : f2.type = 3) (h4 : f2.offset = 32) (h5 : f1.name ≠ "_") (h6 : f2.name ≠ "_") (v : Vtx) (hv : okV v) :
  ∃ l, keyOf Try.prog t (vtxV v) = some l := by
 have hs : Try.prog.types.size + 1 = 229 + 1 + 1 + 1 := by kernel_rfl
 obtain ⟨l, hl⟩ := lits_vtx 229 v hv hu ht h1 h2 h3 h4 h5 h6
 have hf : (vtxV v).formed Try.prog t = true := by
  unfold vtxV Value.formed
  simp only [hu, List.size_toArray, vtxL_len, ht]
  rfl
 refine ⟨.string (keyBytes l), ?_⟩
 unfold keyOf
 simp only [hu, hk, hf, Bool.and_self, if_true, hs]
 rw [show (vtxV v).cells.toList = vtxL v from rfl, hl]
 rfl
theorem tsize : Try.prog.types.size = 231 := by kernel_rfl
theorem laidOut : laidOutB Try.prog = true := by kernel_rfl
theorem keys32 : Keys Try.prog 32 vtxV okV :=
 ⟨deep_law_gate laidOut (by rw [tsize]; decide) (by rw [tsize]; decide) (by kernel_rfl) (by rw [Try.underlying32]), vtx_key (by kernel_rfl) Try.underlying32 (by kernel_rfl) rfl rfl rfl rfl (by decide) (by decide), fun a b => vtx_inj'⟩
theorem keys97 : Keys Try.prog 97 vtxV okV :=
 ⟨deep_law_gate laidOut (by rw [tsize]; decide) (by rw [tsize]; decide) (by kernel_rfl) (by rw [Try.underlying97]), vtx_key (by kernel_rfl) Try.underlying97 (by kernel_rfl) rfl rfl rfl rfl (by decide) (by decide), fun a b => vtx_inj'⟩
end Go.Proofs.Gr

namespace Go.Proofs.Gr
open Go.SL Go.RowKit Go.Proofs Go.GP
def strs (l : List ByteArray) : List Value := l.map .string
structure NodeM where
 text : ByteArray
 gone : Int
 named : Int
 A : Option Addr
 c : Nat
 next : List Vtx
def zM : NodeM := ⟨⟨#[]⟩, 0, 0, none, 0, []⟩
instance : Inhabited NodeM := ⟨zM⟩
def nodeC (n : NodeM) : List Value := [.string n.text, .int .i64 n.gone, .int .i64 n.named, .slice n.A n.next.length n.c]
def nodeV (n : NodeM) : Value := .agg (nodeC n).toArray
def NodeM.pl (n : NodeM) : NodeP := ⟨n.text, n.gone, n.named, n.next⟩
structure PartM where
 patch : HashB
 at_ : Int
 first : Int
 up : Vtx
 down : Vtx
 LA : Option Addr
 lc : Nat
 lines : List ByteArray
 GA : Option Addr
 gc : Nat
 gone : List Vtx
def PartM.pl (p : PartM) : PartP := ⟨p.patch, p.at_, p.first, p.up, p.down, p.lines, p.gone⟩
def partC (p : PartM) : List Value := bytesC p.patch.1 ++ [.int .i64 p.at_, .int .i64 p.first] ++ vtxL p.up ++ vtxL p.down ++ [.slice p.LA p.lines.length p.lc, .slice p.GA p.gone.length p.gc]
def partV (p : PartM) : Value := .agg (partC p).toArray
def zPart : PartM := ⟨h0, 0, 0, v0, v0, none, 0, [], none, 0, []⟩
instance : Inhabited PartM := ⟨zPart⟩
theorem partC_len (p : PartM) : (partC p).length = 102 := by simp [partC, hb_len, vtxL_len]
theorem partC_one (p : PartM) : (partC p).all (·.oneCell') = true := by
 unfold partC
 simp only [List.all_append, bytesC_all, vtxL_one, Bool.and_true, Bool.true_and]
 rfl
theorem partC_split (p : PartM) : partC p = bytesC p.patch.1 ++ ([.int .i64 p.at_] ++ ([.int .i64 p.first] ++ (vtxL p.up ++ (vtxL p.down ++ ([.slice p.LA p.lines.length p.lc] ++ [.slice p.GA p.gone.length p.gc]))))) := by simp [partC]
theorem partC_at (p : PartM) : (partC p)[32]? = some (.int .i64 p.at_) /\ (partC p)[33]? = some (.int .i64 p.first) /\ (partC p)[100]? = some (.slice p.LA p.lines.length p.lc) /\ (partC p)[101]? = some (.slice p.GA p.gone.length p.gc) := by
 rw [partC_split]
 have h1 := hb_len p.patch
 have h2 := vtxL_len p.up
 have h3 := vtxL_len p.down
 refine ⟨?_, ?_, ?_, ?_⟩
 ·rw [List.getElem?_append_right (by omega), h1]; rfl
 ·rw [List.getElem?_append_right (by omega), h1]; rfl
 ·rw [List.getElem?_append_right (by omega), h1, List.getElem?_append_right (by simp), List.getElem?_append_right (by simp), List.getElem?_append_right (by rw [h2]; simp), h2, List.getElem?_append_right (by rw [h3]; simp), h3]; rfl
 rw [List.getElem?_append_right (by omega), h1, List.getElem?_append_right (by simp), List.getElem?_append_right (by simp), List.getElem?_append_right (by rw [h2]; simp), h2, List.getElem?_append_right (by rw [h3]; simp), h3]; rfl
section
variable {w0 : World} {S : SS} {r E tot : Nat} {p : PartM}
theorem part_patch (hm : (r, AO.cells (partC p) E tot) ∈ S.flatten) : ∀ (j : Nat) (v : Value), (bytesC p.patch.1)[j]? = some v -> Cell w0 S ((⟨r, 0, none⟩ : Addr).add j) v :=
 sub_at (A := []) (B := bytesC p.patch.1) hm (by rw [partC_split]; simp; rfl) rfl
theorem part_up (hm : (r, AO.cells (partC p) E tot) ∈ S.flatten) : ∀ (j : Nat) (v : Value), (vtxL p.up)[j]? = some v -> Cell w0 S ((⟨r, 34, none⟩ : Addr).add j) v :=
 sub_at (A := bytesC p.patch.1 ++ [.int .i64 p.at_, .int .i64 p.first]) (B := vtxL p.up) hm (by rw [partC_split]; simp; rfl) (by simp [hb_len])
theorem part_down (hm : (r, AO.cells (partC p) E tot) ∈ S.flatten) : ∀ (j : Nat) (v : Value), (vtxL p.down)[j]? = some v -> Cell w0 S ((⟨r, 67, none⟩ : Addr).add j) v :=
 sub_at (A := bytesC p.patch.1 ++ [.int .i64 p.at_, .int .i64 p.first] ++ vtxL p.up) (B := vtxL p.down) hm (by rw [partC_split]; simp; rfl) (by simp [hb_len, vtxL_len])
theorem part_at (hm : (r, AO.cells (partC p) E tot) ∈ S.flatten) : Cell w0 S ⟨r, 32, none⟩ (.int .i64 p.at_) := own_at hm (partC_at p).1
theorem part_first (hm : (r, AO.cells (partC p) E tot) ∈ S.flatten) : Cell w0 S ⟨r, 33, none⟩ (.int .i64 p.first) := own_at hm (partC_at p).2.1
theorem part_lines (hm : (r, AO.cells (partC p) E tot) ∈ S.flatten) : Cell w0 S ⟨r, 100, none⟩ (.slice p.LA p.lines.length p.lc) := own_at hm (partC_at p).2.2.1
theorem part_gone (hm : (r, AO.cells (partC p) E tot) ∈ S.flatten) : Cell w0 S ⟨r, 101, none⟩ (.slice p.GA p.gone.length p.gc) := own_at hm (partC_at p).2.2.2
end
structure GrM where
 r : Nat
 pb : Nat
 nb : Nat
 FA : Option Addr
 fc : Nat
 parts : List (Vtx × PartM)
 nodes : List (Vtx × NodeM)
 first : List Vtx
 junk : Seg
 lim : Nat
def plP (l : List (Vtx × PartM)) : List ((HashB × Int) × PartP) := l.map fun q => (q.1, q.2.pl)
def plN (l : List (Vtx × NodeM)) : List (Vtx × NodeP) := l.map fun q => (q.1, q.2.pl)
def GrM.gr (m : GrM) : Gr := ⟨plP m.parts, plN m.nodes, m.first⟩
def GrM.cells (m : GrM) : List Value := [.bool true, .map (some m.pb), .map (some m.nb), .slice m.FA m.first.length m.fc]
def GrM.ptr (m : GrM) : Value := .pointer (some ⟨m.r, 0, none⟩)
def GS (m : GrM) : SS := [[(m.r, .cells m.cells 57 4)], [(m.pb, .gm (gmL vtxV partV m.parts))], [(m.nb, .gm (gmL vtxV nodeV m.nodes))], m.junk]
structure NodeOk' (w0 : World) (B : SS) (lim : Nat) (n : NodeM) : Prop where
 rd : Rd w0 B n.A (vtxs n.next)
 ok : ∀ v ∈ n.next, okV v
 len : n.next.length <= lim
 gone : -(lim : Int) <= n.gone /\ n.gone <= lim
 named : -(lim : Int) <= n.named /\ n.named <= lim
structure PartR (p : PartM) : Prop where
 at_ : -9223372036854775808 <= p.at_ /\ p.at_ <= 9223372036854775807
 first : -9223372036854775808 <= p.first /\ p.first <= 4611686018427387904
 lines : p.lines.length <= 1000000000
 gones : p.gone.length <= 1000000000
 gcap : p.gone.length <= p.gc
 gnil : p.GA = none -> p.gc = 0
 up : okV p.up
 down : okV p.down
 gone : ∀ v ∈ p.gone, okV v
structure PartOk' (w0 : World) (S : SS) (p : PartM) : Prop where
 rdL : Rd w0 S p.LA (strs p.lines)
 rdG : Rd w0 S p.GA (vtxs p.gone)
 rng : PartR p
structure GOk (w0 : World) (X : SS) (m : GrM) : Prop where
 pk : ∀ q ∈ m.parts, okV q.1
 part : ∀ q ∈ m.parts, PartOk' w0 (m.junk :: X) q.2
 nk : ∀ q ∈ m.nodes, okV q.1
 node : ∀ q ∈ m.nodes, NodeOk' w0 (m.junk :: X) m.lim q.2
 first : Rd w0 (m.junk :: X) m.FA (vtxs m.first)
 firstOk : ∀ v ∈ m.first, okV v
 firstLen : m.first.length <= m.lim
 lim : m.lim <= 1000000000000
 pkd : (mks m.parts).Nodup
 nkd : (mks m.nodes).Nodup
theorem GS_mem {m : GrM} {S X : SS} (h : Over (GS m ++ X) S) : (m.r, AO.cells m.cells 57 4) ∈ S.flatten /\ (m.pb, AO.gm (gmL vtxV partV m.parts)) ∈ S.flatten /\ (m.nb, AO.gm (gmL vtxV nodeV m.nodes)) ∈ S.flatten /\ ∀ p ∈ m.junk, p ∈ S.flatten := by
 unfold Over GS at h
 exact ⟨h _ (by simp), h _ (by simp), h _ (by simp), fun p hp => h p (by simp [hp])⟩
theorem _root_.Go.SL.Rd.junk {w0 : World} {m : GrM} {S : SS} {X : SS} {A : Option Addr} {l : List Value} (h : Rd w0 (m.junk :: X) A l) (hS : Over (GS m ++ X) S) : Rd w0 S A l := h.mono fun p hp => by
 rw [List.flatten_cons, List.mem_append] at hp
 rcases hp with hp | hp
 ·exact (GS_mem hS).2.2.2 p hp
 exact hS p (by rw [List.flatten_append, List.mem_append]; exact .inr hp)
theorem _root_.Go.SL.Over.app {a b : SS} : Over a (a ++ b) := fun q h => by simp only [List.flatten_append, List.mem_append]; exact .inl h
theorem _root_.Go.SL.Over.appR {a b c : SS} (h : Over a c) : Over a (b ++ c) := fun q hq => by simp only [List.flatten_append, List.mem_append]; exact .inr (h q hq)
theorem _root_.Go.SL.Over.both {a b c : SS} (h : Over b c) : Over (a ++ b) (a ++ c) := fun q hq => by
 rw [List.flatten_append, List.mem_append] at hq ⊢
 exact hq.imp_right (h q)
theorem _root_.Go.SL.Over.trans {a b c : SS} (h : Over a b) (k : Over b c) : Over a c := fun q hq => k q (h q hq)
section
variable {w0 : World} {S X : SS} {m : GrM}
theorem g_made (h : Over (GS m ++ X) S) : Cell w0 S ⟨m.r, 0, none⟩ (.bool true) := own_at (c := m.cells) (GS_mem h).1 rfl
theorem g_parts (h : Over (GS m ++ X) S) : Cell w0 S ⟨m.r, 1, none⟩ (.map (some m.pb)) := own_at (c := m.cells) (GS_mem h).1 rfl
theorem g_nodes (h : Over (GS m ++ X) S) : Cell w0 S ⟨m.r, 2, none⟩ (.map (some m.nb)) := own_at (c := m.cells) (GS_mem h).1 rfl
theorem g_first (h : Over (GS m ++ X) S) : Cell w0 S ⟨m.r, 3, none⟩ (.slice m.FA m.first.length m.fc) := own_at (c := m.cells) (GS_mem h).1 rfl
end
theorem mks_plN (l : List (Vtx × NodeM)) : mks (plN l) = mks l := by unfold mks plN; simp [List.map_map, Function.comp_def]
theorem mgt_map {α β γ : Type} [DecidableEq α] (h : β -> γ) (l : List (α × β)) (a : α) : mgt (l.map fun q => (q.1, h q.2)) a = (mgt l a).map h := by
 induction l with
 | nil => rfl
 | cons p l ih =>
  rw [List.map_cons, mgt_cons, mgt_cons, ih]
  split <;> rfl
theorem mpt_map {α β γ : Type} [DecidableEq α] (h : β -> γ) (l : List (α × β)) (a : α) (b : β) : (mpt l a b).map (fun q => (q.1, h q.2)) = mpt (l.map fun q => (q.1, h q.2)) a (h b) := by
 induction l with
 | nil => rfl
 | cons p l ih =>
  rw [List.map_cons]
  unfold mpt
  simp only
  split
  ·rfl
  rw [List.map_cons, ih]
theorem mgt_plN (l : List (Vtx × NodeM)) (v : Vtx) : mgt (plN l) v = (mgt l v).map NodeM.pl := mgt_map _ l v
theorem mpt_plN (l : List (Vtx × NodeM)) (v : Vtx) (n : NodeM) : plN (mpt l v n) = mpt (plN l) v n.pl := mpt_map _ l v n
theorem mpt_plP (l : List (Vtx × PartM)) (v : Vtx) (n : PartM) : plP (mpt l v n) = mpt (plP l) v n.pl := mpt_map _ l v n
theorem nd_plN (l : List (Vtx × NodeM)) (v : Vtx) : nd (plN l) v = ((mgt l v).getD zM).pl := by
 unfold nd
 rw [mgt_plN]
 cases mgt l v <;> rfl
instance {G : Gr} {v : Vtx} : Decidable (HasG G v) := by unfold HasG; infer_instance
theorem mks_plP (l : List (Vtx × PartM)) : mks (plP l) = mks l := by unfold mks plP; simp [List.map_map, Function.comp_def]
theorem isSome_mks {α β : Type} [DecidableEq α] {l : List (α × β)} {a : α} [Decidable (a ∈ mks l)] : (mgt l a).isSome = decide (a ∈ mks l) := by
 cases h : mgt l a with
 | none => simp [mgt_none.1 h]
 | some b => simp [mem_mks.2 ⟨b, h⟩]
end Go.Proofs.Gr

namespace Go.Proofs.Gr
open Go.SL Go.RowKit Go.Proofs Go.GP
set_option maxHeartbeats 1000000
abbrev vseg (r : Nat) (v : Vtx) : Seg := [(r, .cells (vtxL v) 32 33)]
theorem vtx_box (v : Vtx) : (vtxV v).cells.toList = vtxL v := rfl
theorem part_box (p : PartM) : (partV p).cells.toList = partC p := rfl
theorem zero100 : ∃ i, Try.prog.info? 100 = some i /\ i.zero = some (nodeV zM) := Option.bind_eq_some_iff.1 (show (Try.prog.info? 100).bind (·.zero) = some (nodeV zM) by kernel_rfl)
theorem zero36 : ∃ i, Try.prog.info? 36 = some i /\ i.zero = some (partV zPart) := Option.bind_eq_some_iff.1 (show (Try.prog.info? 36).bind (·.zero) = some (partV zPart) by kernel_rfl)
theorem root_fc {w0 : World} {S : SS} : FC Try.prog w0 66 [] S (fun v S' => v = vtxV rootV /\ S' = S) := by
 refine FC.ofC Try.known66 (by simp) ?_
 unfold Try.pc66
 simp only [argT]
 refine PW.seqOps (OL.cons trivial OW.al ?_)
 rintro _ _ ⟨r0, rfl, rfl⟩
 refine OL.nil (PW.k1 0 rfl (PW.seqOps (OL.det trivial (.build rfl) ?_)))
 refine OL.cons trivial (OW.st (k := 0) rfl rfl rfl rfl (by first | decide | (simp; done) | (simp; omega)) (by first | rfl | simp)) ?_
 rintro _ _ rfl
 refine OL.nil (PW.k1 0 rfl (PW.ret ?_))
 exact ⟨.inr rfl, _, _, rfl, vtx_read (r := r0) (v := rootV) (E := 32) (tot := 33) (List.Mem.head _), _, Sub.drop (Sub.refl _), rfl, rfl⟩
theorem end_fc {w0 : World} {S : SS} : FC Try.prog w0 65 [] S (fun v S' => v = vtxV endV /\ S' = S) := by
 refine FC.ofC Try.known65 (by simp) ?_
 unfold Try.pc65
 simp only [argT]
 refine PW.seqOps (OL.cons trivial OW.al ?_)
 rintro _ _ ⟨r0, rfl, rfl⟩
 refine OL.nil (PW.k1 0 rfl (PW.seqOps (OL.det trivial (.build rfl) ?_)))
 refine OL.cons trivial (OW.st (k := 0) rfl rfl rfl rfl (by first | decide | (simp; done) | (simp; omega)) (by first | rfl | simp)) ?_
 rintro _ _ rfl
 refine OL.nil (PW.k1 0 rfl (PW.ret ?_))
 exact ⟨.inr rfl, _, _, rfl, vtx_read (r := r0) (v := endV) (E := 32) (tot := 33) (List.Mem.head _), _, Sub.drop (Sub.refl _), rfl, rfl⟩
theorem node_st {w0 : World} {S : SS} {P : Program} {n r : Nat} {T : TT} {x v : PV} {u : NodeM} (hx : x.val T = some (.pointer (some ⟨r, 0, none⟩))) (hv : v.val T = some (nodeV u)) (a b c d : Value) :
  OW P w0 n (.st 4 x v) T ([(r, .cells [a, b, c, d] 100 4)] :: S) (fun _ S' => S' = [(r, .cells (nodeC u) 100 4)] :: S) :=
 OW.st (k := 0) (c := [a, b, c, d]) (u := nodeV u) hx hv rfl rfl (Nat.le_refl 4) rfl
theorem is_fc {w0 : World} {S X : SS} {m : GrM} (hS : Over (GS m ++ X) S) : FC Try.prog w0 48 [m.ptr] S (fun v S' => v = .bool true /\ S' = S) := by
 refine FC.of Try.known48 (by simp) ?_
 unfold Try.pc48
 simp only [argT]
 refine PW.seqOps (OL.dp rfl (OL.nil (PW.k1 0 rfl (PW.seqOps (OL.dp rfl (OL.det trivial (Yields.eqPn rfl rfl) (OL.dp rfl (OL.det rfl (.pure rfl) (OL.det rfl (Yields.nilc rfl) (OL.det rfl (.pure rfl) (OL.det rfl (.ld rfl (g_made hS)) ?_)))))))))))
 refine OL.dp rfl (OL.dp rfl (OL.nil (PW.k1 2 rfl (PW.ret ?_))))
 change (Exit.ret = Exit.normal ∨ Exit.ret = Exit.ret) /\ ∃ v, resV _ _ = some v /\ _
 exact ⟨.inr rfl, _, rfl, rfl, rfl⟩
theorem isNil_fc {w0 : World} {S : SS} : FC Try.prog w0 48 [.pointer none] S (fun v S' => v = .bool false /\ S' = S) := by
 refine FC.of Try.known48 (by simp) ?_
 unfold Try.pc48
 simp only [argT]
 refine PW.seqOps (OL.dp rfl (OL.nil (PW.k1 0 rfl (PW.seqOps (OL.dp rfl (OL.det trivial (Yields.eqPn rfl rfl) (OL.dp rfl (OL.off rfl rfl (OL.off rfl rfl (OL.off rfl rfl (OL.off rfl rfl ?_)))))))))))
 refine OL.dp rfl (OL.dp rfl (OL.nil (PW.k1 2 rfl (PW.ret ?_))))
 change (Exit.ret = Exit.normal ∨ Exit.ret = Exit.ret) /\ ∃ v, resV _ _ = some v /\ _
 exact ⟨.inr rfl, _, rfl, rfl, rfl⟩
theorem vertex_fc {w0 : World} {S : SS} {p : PartM} {i : Nat} (hr : PartR p) (hi : (i : Int) <= 4611686018427387903) : FC Try.prog w0 58 [partV p, .int .i64 (i : Int)] S (fun v S' => v = vtxV (p.pl.vtx i) /\ S' = S) := by
 have h1 := hr.first
 refine FC.ofC Try.known58 (by simp) ?_
 unfold Try.pc58
 simp only [argT]
 refine PW.seqOps (OL.cons trivial (OW.bx rfl) ?_)
 rintro _ _ ⟨r2, rfl, rfl⟩
 rw [part_box, partC_len]
 refine OL.cons trivial OW.al ?_
 rintro _ _ ⟨r4, rfl, rfl⟩
 refine OL.nil (PW.k3 1 2 4 rfl (PW.seqOps (OL.dp rfl (OL.det trivial (.ldA rfl (hb_len _) (part_patch (p := p) (E := 36) (tot := 102) zM1)) (OL.dp rfl (OL.det trivial (.ld rfl (part_first (p := p) (E := 36) (tot := 102) zM1)) (OL.dp rfl ?_)))))))
 refine OL.det trivial (.add64 rfl rfl (by omega) (by omega)) ?_
 refine OL.det trivial (.build (fill_vtx rfl rfl)) ?_
 refine OL.cons trivial (OW.st (k := 0) (u := vtxV (p.patch, p.first + (i : Int))) rfl rfl rfl (by rw [vtxV]; exact (List.size_toArray).trans (vtxL_len _)) (by decide) (vtxL_one _)) ?_
 rintro _ _ rfl
 rw [vtx_box, setAll (by rw [vtxL_len]; rfl)]
 refine OL.nil (PW.k1 4 rfl (PW.ret ?_))
 exact ⟨.inr rfl, _, _, rfl, vtx_read (r := r4) (v := (p.patch, p.first + (i : Int))) (E := 32) (tot := 33) (List.Mem.head _), _, Sub.drop (Sub.drop (Sub.refl _)), rfl, rfl⟩
theorem line_fc {w0 : World} {S X : SS} {m : GrM} (hm : GOk w0 X m) (hS : Over (GS m ++ X) S) {v : Vtx} (hv : okV v) : FC Try.prog w0 56 [m.ptr, vtxV v] S (fun u S' => u = .bool (decide (v ∈ mks m.nodes)) /\ S' = S) := by
 obtain ⟨z, hz1, hz2⟩ := zero100
 refine FC.ofD Try.known56 (by simp) ?_
 unfold Try.pc56
 simp only [argT]
 refine PW.seqOps (OL.cons trivial (OW.bx rfl) ?_)
 rintro _ _ ⟨r3, rfl, rfl⟩
 rw [vtx_box, vtxL_len]
 refine OL.dp rfl (OL.nil (PW.k2 0 3 rfl ?_))
 refine PW.seq fun K1 hK1 => ?_
 have hS1 : Over (GS m ++ X) (vseg r3 v :: S) := hS.cons
 refine PW.quietG (Ss := Over (vseg r3 v :: S)) (fr := false) [(0, 0), (1, 0), (2, 0), (3, 0), (4, 0), (5, 0), (6, 0), (7, 0), (8, 0), (9, 2), (10, 2)] Try.mixed (by decide +kernel) (Over.refl _) (fun h => by cases h) ?_
 refine GL.dp rfl ?_
 refine GL.det trivial (fun Sx hSx => Yields.nilc rfl) ?_
 refine GL.dp rfl ?_
 refine GL.det trivial (fun Sx hSx => Yields.ld rfl (g_nodes (hS1.trans hSx))) ?_
 refine GL.det trivial (fun Sx hSx => Yields.ldA rfl (vtxL_len _) (all_at (c := vtxL v) (E := 32) (tot := 33) (hSx _ zM0))) ?_
 refine GL.det trivial (fun Sx hSx => Yields.lookG (okc := true) Try.underlying55 hz1 hz2 keys32 hm.nk hv rfl rfl (GS_mem (hS1.trans hSx)).2.2.1) ?_
 refine GL.dp rfl ?_
 refine GL.dp rfl ?_
 refine GL.dp rfl ?_
 refine GL.lo trivial (OW.mono (OW.al) ?_)
 rintro _ _ ⟨r5, rfl, rfl⟩
 refine ⟨(Over.refl _).cons, ?_⟩
 refine GL.lo trivial (OW.mono (node_st rfl rfl _ _ _ _) ?_)
 rintro _ _ rfl
 refine ⟨(Over.refl _).cons, ?_⟩
 change OL _ _ _ [_] _ _ _
 refine OL.dp rfl (OL.nil ?_)
 refine hK1 _ _ ?_
 refine PW.k1 6 rfl (PW.seqOps (OL.dp rfl (OL.dp rfl (OL.nil (PW.k1 4 rfl (PW.ret ?_))))))
 change (Exit.ret = Exit.normal ∨ Exit.ret = Exit.ret) /\ ∃ v, resV _ _ = some v /\ _
 exact ⟨.inr rfl, _, rfl, _, Sub.drop (Sub.drop (Sub.refl _)), congrArg Value.bool isSome_mks, rfl⟩
theorem hasG_iff {m : GrM} {v : Vtx} : HasG m.gr v ↔ v = rootV ∨ v = endV ∨ v ∈ mks m.nodes := by
 unfold HasG
 show _ ∨ _ ∨ v ∈ mks (plN m.nodes) ↔ _
 rw [mks_plN]
def idxZ (q : Vtx -> Bool) (l : List Vtx) : Int := match l.findIdx? q with | some k => (k : Int) | none => -1
theorem idx_take {q : Vtx -> Bool} {l : List Vtx} {k : Nat} (hk : k < l.length) (h : ∀ x ∈ l.take k, q x = false) (hq : q l[k] = true) : idxZ q l = (k : Int) := by
 unfold idxZ
 have : l.findIdx? q = some k := by
  rw [List.findIdx?_eq_some_iff_getElem]
  refine ⟨hk, hq, fun j hj => ?_⟩
  have := h l[j] (List.mem_take_iff_getElem.2 ⟨j, by omega, rfl⟩)
  simp [this]
 rw [this]
theorem idx_no {q : Vtx -> Bool} {l : List Vtx} (h : ∀ x ∈ l, q x = false) : idxZ q l = -1 := by
 unfold idxZ
 have : l.findIdx? q = none := by rw [List.findIdx?_eq_none_iff]; exact h
 rw [this]
theorem idx_any {q : Vtx -> Bool} {l : List Vtx} : (idxZ q l ≥ 0) = (l.any q = true) := by
 unfold idxZ
 apply propext
 cases h : l.findIdx? q with
 | none =>
  have := List.findIdx?_eq_none_iff.1 h
  simp only [List.any_eq_true]
  constructor
  ·intro h; omega
  rintro ⟨x, hx, hq⟩; rw [this x hx] at hq; cases hq
 | some k =>
  obtain ⟨h1, h2, _⟩ := List.findIdx?_eq_some_iff_getElem.1 h
  simp only [List.any_eq_true]
  exact ⟨fun _ => ⟨_, List.getElem_mem h1, h2⟩, fun _ => by omega⟩
theorem vtake_snoc {l : List Vtx} {k : Nat} (hk : k < l.length) : l.take (k + 1) = l.take k ++ [l[k]] := by
 rw [List.take_add_one, List.getElem?_eq_getElem hk]; rfl
def behA (m : GrM) (v : Vtx) : Option Addr × Nat × List Vtx := if v = rootV then (m.FA, m.fc, m.first) else (((mgt m.nodes v).getD zM).A, ((mgt m.nodes v).getD zM).c, ((mgt m.nodes v).getD zM).next)
def behV (m : GrM) (v : Vtx) : Value := .slice (behA m v).1 (behA m v).2.2.length (behA m v).2.1
theorem getD_ok {w0 : World} {X : SS} {m : GrM} (hm : GOk w0 X m) (v : Vtx) : NodeOk' w0 (m.junk :: X) m.lim ((mgt m.nodes v).getD zM) := by
 cases h : mgt m.nodes v with
 | none => exact ⟨Rd.nil, by simp [zM], by simp [zM], by simp [zM], by simp [zM]⟩
 | some n => exact hm.node _ (mgt_some_mem h)
theorem behA_ok {w0 : World} {X : SS} {m : GrM} (hm : GOk w0 X m) (v : Vtx) : Rd w0 (m.junk :: X) (behA m v).1 (vtxs (behA m v).2.2) /\ (∀ w ∈ (behA m v).2.2, okV w) /\ (behA m v).2.2.length <= m.lim := by
 unfold behA
 split
 ·exact ⟨hm.first, hm.firstOk, hm.firstLen⟩
 exact ⟨(getD_ok hm v).rd, (getD_ok hm v).ok, (getD_ok hm v).len⟩
theorem behA_gr {m : GrM} {v : Vtx} : (behA m v).2.2 = behindG m.gr v := by
 unfold behA behindG
 split
 ·rfl
 show _ = (nd (plN m.nodes) v).next
 rw [nd_plN]
 rfl
theorem has_fc {w0 : World} {S X : SS} {m : GrM} (hm : GOk w0 X m) (hS : Over (GS m ++ X) S) {v : Vtx} (hv : okV v) : FC Try.prog w0 29 [m.ptr, vtxV v] S (fun u S' => u = .bool (decide (HasG m.gr v)) /\ S' = S) := by
 refine FC.ofD Try.known29 (by simp) ?_
 unfold Try.pc29
 simp only [argT]
 refine PW.seqOps (OL.cons trivial (OW.bx rfl) ?_)
 rintro _ _ ⟨r3, rfl, rfl⟩
 rw [vtx_box, vtxL_len]
 refine OL.dp rfl (OL.nil (PW.k2 0 3 rfl ?_))
 refine PW.seq fun K1 hK1 => ?_
 refine PW.quietK Try.mixed (QK.dp rfl (QK.call trivial rfl (is_fc hS.cons) (QK.dp rfl (QK.det rfl (.ldA rfl (vtxL_len _) (all_at zM0)) (QK.call rfl rfl (root_fc) (QK.det rfl (.eqD (neg := false) rfl rfl (eqL_vtx _ _)) ?_))))))
 refine QK.bool rfl (Yields.pure rfl) (fun g11 => ?_) (fun g11 => ?_)
 ·try simp only [cvS] at g11
  refine QK.off rfl rfl (QK.off rfl rfl (QK.off rfl rfl (QK.det rfl (.pure rfl) (QK.det rfl (.pure rfl) (QK.off rfl rfl (QK.off rfl rfl (QK.nil ?_)))))))
  change OL _ _ _ [_, _, _, _] _ _ _
  refine OL.off rfl rfl (OL.det rfl (.pure rfl) (OL.dp rfl (OL.dp rfl (OL.nil ?_))))
  refine hK1 _ _ ?_
  refine PW.k1 4 rfl (PW.ret ?_)
  change (Exit.ret = Exit.normal ∨ Exit.ret = Exit.ret) /\ ∃ v, resV _ _ = some v /\ _
  refine ⟨.inr rfl, _, rfl, _, Sub.drop (Sub.refl _), ?_, rfl⟩
  first
   | exact congrArg Value.bool (decide_eq_true (show HasG m.gr v from hasG_iff.2 (.inl g11))).symm
   | exact congrArg Value.bool (decide_eq_true (show HasG m.gr v from hasG_iff.2 (.inr (.inl g16)))).symm
   | exact congrArg Value.bool (decide_eq_decide.2 ⟨fun h => hasG_iff.2 (.inr (.inr h)), fun h => ((hasG_iff.1 h).resolve_left g11).resolve_left g16⟩)
 try simp only [cvS] at g11
 refine QK.det rfl (.ldA rfl (vtxL_len _) (all_at zM0)) (QK.call rfl rfl (end_fc) (QK.det rfl (.eqD (neg := false) rfl rfl (eqL_vtx _ _)) (QK.det rfl (.pure rfl) ?_)))
 refine QK.bool rfl (Yields.pure rfl) (fun g16 => ?_) (fun g16 => ?_)
 ·try simp only [cvS] at g16
  refine QK.off rfl rfl (QK.off rfl rfl (QK.nil ?_))
  change OL _ _ _ [_, _, _, _] _ _ _
  refine OL.off rfl rfl (OL.det rfl (.pure rfl) (OL.dp rfl (OL.dp rfl (OL.nil ?_))))
  refine hK1 _ _ ?_
  refine PW.k1 4 rfl (PW.ret ?_)
  change (Exit.ret = Exit.normal ∨ Exit.ret = Exit.ret) /\ ∃ v, resV _ _ = some v /\ _
  refine ⟨.inr rfl, _, rfl, _, Sub.drop (Sub.refl _), ?_, rfl⟩
  first
   | exact congrArg Value.bool (decide_eq_true (show HasG m.gr v from hasG_iff.2 (.inl g11))).symm
   | exact congrArg Value.bool (decide_eq_true (show HasG m.gr v from hasG_iff.2 (.inr (.inl g16)))).symm
   | exact congrArg Value.bool (decide_eq_decide.2 ⟨fun h => hasG_iff.2 (.inr (.inr h)), fun h => ((hasG_iff.1 h).resolve_left g11).resolve_left g16⟩)
 try simp only [cvS] at g16
 refine QK.det rfl (.pure rfl) (QK.det rfl (.ldA rfl (vtxL_len _) (all_at zM0)) (QK.nil ?_))
 change OL _ _ _ [_, _, _, _] _ _ _
 refine OL.call rfl rfl (line_fc hm hS.cons hv) ?_
 rintro _ Sx ⟨rfl, hSx⟩
 rw [hSx]
 clear hSx
 refine OL.det rfl (.pure rfl) (OL.dp rfl (OL.dp rfl (OL.nil ?_)))
 refine hK1 _ _ ?_
 refine PW.k1 4 rfl (PW.ret ?_)
 change (Exit.ret = Exit.normal ∨ Exit.ret = Exit.ret) /\ ∃ v, resV _ _ = some v /\ _
 refine ⟨.inr rfl, _, rfl, _, Sub.drop (Sub.refl _), ?_, rfl⟩
 first
  | exact congrArg Value.bool (decide_eq_true (show HasG m.gr v from hasG_iff.2 (.inl g11))).symm
  | exact congrArg Value.bool (decide_eq_true (show HasG m.gr v from hasG_iff.2 (.inr (.inl g16)))).symm
  | exact congrArg Value.bool (decide_eq_decide.2 ⟨fun h => hasG_iff.2 (.inr (.inr h)), fun h => ((hasG_iff.1 h).resolve_left g11).resolve_left g16⟩)
theorem behind_fc {w0 : World} {S X : SS} {m : GrM} (hm : GOk w0 X m) (hS : Over (GS m ++ X) S) {v : Vtx} (hv : okV v) : FC Try.prog w0 67 [m.ptr, vtxV v] S (fun u S' => u = behV m v /\ S' = S) := by
 obtain ⟨z, hz1, hz2⟩ := zero100
 refine FC.ofD Try.known67 (by simp) ?_
 unfold Try.pc67
 simp only [argT]
 refine PW.seqOps (OL.cons trivial (OW.bx rfl) ?_)
 rintro _ _ ⟨r3, rfl, rfl⟩
 rw [vtx_box, vtxL_len]
 refine OL.dp rfl (OL.nil (PW.k2 0 3 rfl ?_))
 refine PW.seq fun K1 hK1 => ?_
 refine PW.seq fun K2 hK2 => ?_
 refine PW.quietK Try.mixed (QK.det trivial (.ldA rfl (vtxL_len _) (all_at zM0)) (QK.call trivial rfl (root_fc) (QK.nil ?_)))
 change OL _ _ _ [_] _ _ _
 refine OL.det trivial (.eqD (neg := false) rfl rfl (eqL_vtx _ _)) (OL.nil ?_)
 refine hK2 _ _ ?_
 refine PW.k3 0 3 7 rfl ?_
 refine PW.cond rfl (fun c7 => ?_) (fun c7 => ?_)
 ·try simp only [cvS] at c7
  refine PW.seqOps (OL.dp rfl (OL.det trivial (Yields.nilc rfl) (OL.dp rfl (OL.det trivial (.ld rfl (g_first hS.cons)) (OL.dp rfl (OL.nil (PW.k1 4 rfl (PW.ret ?_))))))))
  change (Exit.ret = Exit.normal ∨ Exit.ret = Exit.ret) /\ ∃ v, resV _ _ = some v /\ _
  exact ⟨.inr rfl, _, rfl, _, Sub.drop (Sub.refl _), by unfold behV behA; rw [if_pos c7], rfl⟩
 try simp only [cvS] at c7
 refine PW.skip ?_
 refine hK1 _ _ ?_
 refine PW.k2 0 3 rfl ?_
 refine PW.seq fun K3 hK3 => ?_
 refine PW.quietK Try.mixed (QK.dp rfl (QK.det trivial (Yields.nilc rfl) (QK.dp rfl (QK.det trivial (.ld rfl (g_nodes hS.cons)) (QK.det trivial (.ldA rfl (vtxL_len _) (all_at zM0)) (QK.nil ?_))))))
 change OL _ _ _ [_, _, _] _ _ _
 refine OL.det trivial (.lookG (okc := false) Try.underlying55 hz1 hz2 keys32 hm.nk hv rfl rfl (GS_mem hS.cons).2.2.1) (OL.det trivial (Yields.fld rfl rfl) (OL.dp rfl (OL.nil ?_)))
 refine hK3 _ _ ?_
 refine PW.k1 4 rfl (PW.ret ?_)
 change (Exit.ret = Exit.normal ∨ Exit.ret = Exit.ret) /\ ∃ v, resV _ _ = some v /\ _
 exact ⟨.inr rfl, _, rfl, _, Sub.drop (Sub.refl _), by unfold behV behA; rw [if_neg c7]; rfl, rfl⟩
theorem index_fc {w0 : World} {S : SS} {A : Option Addr} {c : Nat} {l : List Vtx} {v : Vtx} (hx : Rd w0 S A (vtxs l)) (hb : l.length <= 1000000000000) :
  FC Try.prog w0 110 [.slice A l.length c, vtxV v] S (fun u S' => u = .int .i64 (idxZ (fun x => decide (v = x)) l) /\ S' = S) := by
 obtain ⟨q, hq⟩ : ∃ q : Vtx -> Bool, q = fun x => decide (v = x) := ⟨_, rfl⟩
 rw [<- hq]
 refine FC.ofD Try.known110 (by simp) ?_
 unfold Try.pc110
 simp only [argT]
 refine PW.seqOps (OL.cons trivial (OW.bx rfl) ?_)
 rintro _ _ ⟨r3, rfl, rfl⟩
 rw [vtx_box, vtxL_len]
 refine OL.dp rfl (OL.nil (PW.k2 0 3 rfl ?_))
 refine PW.seq fun K1 hK1 => ?_
 refine PW.seqOps (OL.dp rfl (OL.dp rfl (OL.dp rfl (OL.nil (PW.k4 0 3 7 8 rfl (PW.block (PW.k4 0 3 7 8 rfl ?_)))))))
 refine PW.loopK (I := fun m T S' => ∃ (k : Nat), (k <= l.length /\ m = l.length - k /\ ∀ x ∈ l.take k, q x = false) /\ T = ([(0, .slice A l.length c), (3, .pointer (some ⟨r3, 0, none⟩)), (7, .int .i64 (l.length : Int)), (8, .int .i64 k)] : TT) /\ S' = vseg r3 v :: S) (m := l.length) ⟨0, ⟨by omega, by omega, by simp⟩, rfl, rfl⟩ ?_
 rintro m _ _ ⟨k, ⟨hk, hm, hall⟩, rfl, rfl⟩
 refine PW.seqOps (OL.dp rfl (OL.nil (PW.k5 0 3 7 8 9 rfl ?_)))
 refine PW.seq fun K2 hK2 => ?_
 refine PW.cond rfl (fun c9 => ?_) (fun c9 => ?_)
 ·try simp only [cvS] at c9
  have hkl : k < l.length := by omega
  obtain ⟨a0, rfl⟩ := vtxs_some hx (by omega)
  refine PW.skip ?_
  refine hK2 _ _ ?_
  refine PW.k4 0 3 7 8 rfl ?_
  refine PW.seq fun K3 hK3 => ?_
  refine PW.block (PW.seqOps (OL.dp rfl (OL.dp rfl (OL.nil (PW.k5 0 3 5 7 8 rfl ?_)))))
  refine PW.seq fun K4 hK4 => ?_
  refine PW.quietK Try.mixed (QK.det trivial (.ldA rfl (vtxL_len _) (all_at zM0)) (QK.dp rfl (QK.dp rfl ?_)))
  refine QK.det trivial (.ixN rfl rfl rfl (by omega)) ?_
  refine QK.det trivial (.ldA rfl (vtxL_len _) (vtx_at hx.cons hkl)) (QK.nil ?_)
  change OL _ _ _ [_] _ _ _
  refine OL.det trivial (.eqD (neg := false) rfl rfl (eqL_vtx _ _)) (OL.nil ?_)
  refine hK4 _ _ ?_
  refine PW.k6 0 3 5 7 8 16 rfl ?_
  refine PW.cond rfl (fun c16 => ?_) (fun c16 => ?_)
  ·try simp only [cvS] at c16
   have hqt : q l[k] = true := by rw [hq]; simpa using c16
   refine PW.seqOps (OL.dp rfl (OL.dp rfl (OL.nil (PW.k1 4 rfl (PW.ret ?_)))))
   change (Exit.ret = Exit.normal ∨ Exit.ret = Exit.ret) /\ ∃ v, resV _ _ = some v /\ _
   exact ⟨.inr rfl, _, rfl, _, Sub.drop (Sub.refl _), by rw [idx_take hkl hall hqt], rfl⟩
  try simp only [cvS] at c16
  have hqf : q l[k] = false := by rw [hq]; simpa using c16
  refine PW.skip ?_
  refine hK3 _ _ ?_
  refine PW.k4 0 3 7 8 rfl (PW.ops ?_)
  refine OL.det trivial (.add64 rfl rfl (by omega) (by omega)) ?_
  refine OL.dp rfl (OL.nil ?_)
  repeat rw [inBlk_n]
  try rw [thenK_n]
  refine LoopEnd.mk (T'' := [(0, _), (3, _), (7, _), (8, _)]) (wi rfl) ?_
  refine ⟨l.length - (k + 1), by omega, k + 1, ⟨by omega, rfl, fun x hx => ?_⟩, rfl, rfl⟩
  rw [vtake_snoc hkl, List.mem_append, List.mem_singleton] at hx
  rcases hx with hx | rfl
  ·exact hall x hx
  exact hqf
 try simp only [cvS] at c9
 refine PW.exit ?_
 refine hK1 _ _ ?_
 refine PW.keep (T' := []) trivial (PW.seqOps (OL.dp rfl (OL.nil (PW.k1 4 rfl (PW.ret ?_)))))
 change (Exit.ret = Exit.normal ∨ Exit.ret = Exit.ret) /\ ∃ v, resV _ _ = some v /\ _
 exact ⟨.inr rfl, _, rfl, _, Sub.drop (Sub.refl _), by rw [idx_no (fun x hx => hall x (by rw [List.take_of_length_le (by omega)]; exact hx))], rfl⟩
theorem indexFunc_fc {w0 : World} {S : SS} {A : Option Addr} {c : Nat} {l : List Vtx} {g : FuncId} {ca : List Value} {q : Vtx -> Bool} (hx : Rd w0 S A (vtxs l)) (hb : l.length <= 1000000000000) (hok : fnOk Try.prog g = true)
  (hq : ∀ x ∈ l, FC Try.prog w0 g ([] ++ [vtxV x] ++ ca) S (fun u S' => u = .bool (q x) /\ S' = S)) :
  FC Try.prog w0 86 [.slice A l.length c, .func (.func g) #[] ca.toArray] S (fun u S' => u = .int .i64 (idxZ q l) /\ S' = S) := by
 refine FC.of Try.known86 (by simp) ?_
 unfold Try.pc86
 simp only [argT]
 refine PW.seqOps (OL.dp rfl (OL.nil (PW.k2 0 1 rfl ?_)))
 refine PW.seq fun K1 hK1 => ?_
 refine PW.seqOps (OL.dp rfl (OL.dp rfl (OL.dp rfl (OL.nil (PW.k4 0 1 7 8 rfl (PW.block (PW.k4 0 1 7 8 rfl ?_)))))))
 refine PW.loopK (I := fun m T S' => ∃ (k : Nat), (k <= l.length /\ m = l.length - k /\ ∀ x ∈ l.take k, q x = false) /\ T = ([(0, .slice A l.length c), (1, .func (.func g) #[] ca.toArray), (7, .int .i64 (l.length : Int)), (8, .int .i64 k)] : TT) /\ S' = S) (m := l.length) ⟨0, ⟨by omega, by omega, by simp⟩, rfl, rfl⟩ ?_
 rintro m _ _ ⟨k, ⟨hk, hm, hall⟩, rfl, rfl⟩
 refine PW.seqOps (OL.dp rfl (OL.nil (PW.k5 0 1 7 8 9 rfl ?_)))
 refine PW.seq fun K2 hK2 => ?_
 refine PW.cond rfl (fun c9 => ?_) (fun c9 => ?_)
 ·try simp only [cvS] at c9
  have hkl : k < l.length := by omega
  obtain ⟨a0, rfl⟩ := vtxs_some hx (by omega)
  refine PW.skip ?_
  refine hK2 _ _ ?_
  refine PW.k4 0 1 7 8 rfl ?_
  refine PW.seq fun K3 hK3 => ?_
  refine PW.block (PW.seqOps (OL.dp rfl (OL.dp rfl (OL.nil (PW.k5 0 1 5 7 8 rfl (PW.seqOps (OL.dp rfl (OL.dp rfl (OL.dp rfl ?_)))))))))
  refine OL.det trivial (.ixN rfl rfl rfl (by omega)) ?_
  refine OL.det trivial (.ldA rfl (vtxL_len _) (vtx_at hx hkl)) (OL.cons trivial (OW.callv (fi := []) (ca := ca) rfl hok rfl (hq _ (List.getElem_mem hkl))) ?_)
  rintro _ Sx ⟨rfl, hSx⟩
  rw [hSx]
  clear hSx
  refine OL.nil (PW.k6 0 1 5 7 8 16 rfl ?_)
  refine PW.cond rfl (fun c16 => ?_) (fun c16 => ?_)
  ·try simp only [cvS] at c16
   have hqt : q l[k] = true := by simpa using c16
   refine PW.seqOps (OL.dp rfl (OL.dp rfl (OL.nil (PW.k1 4 rfl (PW.ret ?_)))))
   change (Exit.ret = Exit.normal ∨ Exit.ret = Exit.ret) /\ ∃ v, resV _ _ = some v /\ _
   exact ⟨.inr rfl, _, rfl, by rw [idx_take hkl hall hqt], rfl⟩
  try simp only [cvS] at c16
  have hqf : q l[k] = false := by simpa using c16
  refine PW.skip ?_
  refine hK3 _ _ ?_
  refine PW.k4 0 1 7 8 rfl (PW.ops ?_)
  refine OL.det trivial (.add64 rfl rfl (by omega) (by omega)) ?_
  refine OL.dp rfl (OL.nil ?_)
  repeat rw [inBlk_n]
  try rw [thenK_n]
  refine LoopEnd.mk (T'' := [(0, _), (1, _), (7, _), (8, _)]) (wi rfl) ?_
  refine ⟨l.length - (k + 1), by omega, k + 1, ⟨by omega, rfl, fun x hx => ?_⟩, rfl, rfl⟩
  rw [vtake_snoc hkl, List.mem_append, List.mem_singleton] at hx
  rcases hx with hx | rfl
  ·exact hall x hx
  exact hqf
 try simp only [cvS] at c9
 refine PW.exit ?_
 refine hK1 _ _ ?_
 refine PW.keep (T' := []) trivial (PW.seqOps (OL.dp rfl (OL.nil (PW.k1 4 rfl (PW.ret ?_)))))
 change (Exit.ret = Exit.normal ∨ Exit.ret = Exit.ret) /\ ∃ v, resV _ _ = some v /\ _
 exact ⟨.inr rfl, _, rfl, by rw [idx_no (fun x hx => hall x (by rw [List.take_of_length_le (by omega)]; exact hx))], rfl⟩
theorem contains_fc {w0 : World} {S : SS} {A : Option Addr} {c : Nat} {l : List Vtx} {v : Vtx} (hx : Rd w0 S A (vtxs l)) (hb : l.length <= 1000000000000) :
  FC Try.prog w0 85 [.slice A l.length c, vtxV v] S (fun u S' => u = .bool (l.any fun x => decide (v = x)) /\ S' = S) := by
 refine FC.ofD Try.known85 (by simp) ?_
 unfold Try.pc85
 simp only [argT]
 refine PW.seqOps (OL.cons trivial (OW.bx rfl) ?_)
 rintro _ _ ⟨r3, rfl, rfl⟩
 rw [vtx_box, vtxL_len]
 refine OL.dp rfl (OL.nil (PW.k2 0 3 rfl (PW.seqOps (OL.dp rfl (OL.det trivial (.ldA rfl (vtxL_len _) (all_at zM0)) (OL.call trivial rfl (index_fc hx.cons hb) ?_))))))
 rintro _ Sx ⟨rfl, hSx⟩
 rw [hSx]
 clear hSx
 refine OL.dp rfl (OL.dp rfl (OL.nil (PW.k1 4 rfl (PW.ret ?_))))
 change (Exit.ret = Exit.normal ∨ Exit.ret = Exit.ret) /\ ∃ v, resV _ _ = some v /\ _
 exact ⟨.inr rfl, _, rfl, _, Sub.drop (Sub.refl _), congrArg Value.bool (by rw [Bool.eq_iff_iff, decide_eq_true_eq]; exact iff_of_eq idx_any), rfl⟩
theorem containsFunc_fc {w0 : World} {S : SS} {A : Option Addr} {c : Nat} {l : List Vtx} {g : FuncId} {ca : List Value} {q : Vtx -> Bool} (hx : Rd w0 S A (vtxs l)) (hb : l.length <= 1000000000000) (hok : fnOk Try.prog g = true)
  (hq : ∀ x ∈ l, FC Try.prog w0 g ([] ++ [vtxV x] ++ ca) S (fun u S' => u = .bool (q x) /\ S' = S)) :
  FC Try.prog w0 54 [.slice A l.length c, .func (.func g) #[] ca.toArray] S (fun u S' => u = .bool (l.any q) /\ S' = S) := by
 refine FC.of Try.known54 (by simp) ?_
 unfold Try.pc54
 simp only [argT]
 refine PW.seqOps (OL.dp rfl (OL.nil (PW.k2 0 1 rfl (PW.seqOps (OL.dp rfl (OL.dp rfl (OL.call trivial rfl (indexFunc_fc hx hb hok hq) ?_)))))))
 rintro _ Sx ⟨rfl, hSx⟩
 rw [hSx]
 clear hSx
 refine OL.dp rfl (OL.dp rfl (OL.nil (PW.k1 4 rfl (PW.ret ?_))))
 change (Exit.ret = Exit.normal ∨ Exit.ret = Exit.ret) /\ ∃ v, resV _ _ = some v /\ _
 exact ⟨.inr rfl, _, rfl, congrArg Value.bool (by rw [Bool.eq_iff_iff, decide_eq_true_eq]; exact iff_of_eq idx_any), rfl⟩
theorem add1_fc {w0 : World} {S X : SS} {m : GrM} {b : Nat} (hm : GOk w0 X m) (hS : Over (GS m ++ X) S) {v : Vtx} (hv : okV v) (hb : Cell w0 S ⟨b, 0, none⟩ m.ptr) : FC Try.prog w0 55 [vtxV v, .pointer (some ⟨b, 0, none⟩)] S (fun u S' => u = .bool (!decide (v ∈ mks m.nodes)) /\ S' = S) := by
 refine FC.ofD Try.known55 (by simp) ?_
 unfold Try.pc55
 simp only [argT]
 refine PW.seqOps (OL.cons trivial (OW.bx rfl) ?_)
 rintro _ _ ⟨r2, rfl, rfl⟩
 rw [vtx_box, vtxL_len]
 refine OL.dp rfl (OL.nil (PW.k2 1 2 rfl (PW.seqOps ?_)))
 refine OL.det trivial (.ld rfl (hb.mono fun p hp => by simp [hp])) ?_
 refine OL.det trivial (.ldA rfl (vtxL_len _) (all_at zM0)) (OL.call trivial rfl (line_fc hm hS.cons hv) ?_)
 rintro _ Sx ⟨rfl, hSx⟩
 rw [hSx]
 clear hSx
 refine OL.dp rfl (OL.dp rfl (OL.nil (PW.k1 3 rfl (PW.ret ?_))))
 change (Exit.ret = Exit.normal ∨ Exit.ret = Exit.ret) /\ ∃ v, resV _ _ = some v /\ _
 exact ⟨.inr rfl, _, rfl, _, Sub.drop (Sub.refl _), rfl, rfl⟩
end Go.Proofs.Gr

namespace Go.SL
open Go.RowKit
section
variable {P : Program} {w0 : World} {n : Nat} {T : TT} {S : SS}
theorem OW.appIn {t E sz bytes i q cap cp r tot k : Nat} {z : Value} {s x : PV} {a : Addr} {c news : List Value} (hs' : s.val T = some (.slice (some ⟨r, 0, none⟩) i cap)) (hk : S[k]? = some [(r, .cells c E tot)])
  (hx : x.val T = some (.slice (some a) q cp)) (hl : news.length = q * sz) (hc : ∀ j u, news[j]? = some u -> Cell w0 S (a.add j) u) (h1 : news.all (·.oneCell') = true)
  (hroom : i + q <= cap) (hfit : i * sz + news.length <= c.length) :
  OW P w0 n (.app t E sz bytes z s x) T S (fun v' S' => v' = .slice (some ⟨r, 0, none⟩) (i + q) cap /\ S' = S.set k [(r, .cells (setAt c (i * sz) news) E tot)]) := by
 intro op ac w Q hco hs hr
 obtain ⟨y, y', cl, ti, ho, hca, hat, har, rfl, rfl, hu, hi, hz, rfl, rfl, hzs, hsz⟩ := cOp_spec P hco
 obtain ⟨hge, C, hC, htot, hpre⟩ := hr.own (r, .cells c E tot) (List.mem_flatten.2 ⟨_, List.mem_of_getElem? hk, by simp⟩)
 simp only at hge hC
 have hlen : c.length <= C.size := by
  have := congrArg List.length hpre
  simp at this
  omega
 have hrun := run_append_room (P := P) w t op.type E ti hu hi r i cap C hC a q cp news hl (fun j u hj => hr.cell (hc j u hj)) (oneCells h1) hroom (by omega)
 unfold Oper.wp
 have hrun' : (execOp ac.eval op).run P w = .ok (.value (.slice (some ⟨r, 0, none⟩) (i + q) cap)) (w.setRow r (C.toList.take (i * ti.size) ++ news ++ C.toList.drop (i * ti.size + news.length)).toArray) := by
  simp only [execOp, ho, resolve, hca, invoke, builtin, hat, har]
  simp [hs.eval hs', hs.eval hx, hrun]
 rw [hrun']
 refine ⟨_, _, rfl, ?_, rfl, rfl⟩
 have hheap := setRow_heap w r C (C.toList.take (i * ti.size) ++ news ++ C.toList.drop (i * ti.size + news.length)).toArray E (0, 0) hC
 refine hr.replace hk (below_setRow w r _ hge) (fun i _ hne => setRow_heap_other w r i _ (by simpa using hne)) (by simp) ?_
 intro p hp
 simp only [List.mem_singleton] at hp
 subst hp
 refine ⟨hge, ⟨_, hheap, ?_, ?_⟩, .inl (by simp)⟩
 ·simp only [List.size_toArray, List.length_append, List.length_take, List.length_drop, Array.length_toList]; omega
 rw [setAt_length, setAt_eq c _ _ (by omega)]
 have := take_lay C.toList (i * ti.size) news c.length (by omega) (by simp; omega)
 rw [hpre] at this
 simpa using this
theorem Yields.sl3 {sz : Nat} {x lo hi mx : Operand} {A : Option Addr} {len cap l h m : Nat} {t E : TypeId} {i : TypeInfo} (hu : P.underlying t = some (.slice E)) (hi' : P.info? E = some i) (hsz : i.size = sz)
  (hx : (cV x).val T = some (.slice A len cap)) (hl : (cV lo).val T = some (.int .i64 (l : Int))) (hh : (cV hi).val T = some (.int .i64 (h : Int))) (hm : (cV mx).val T = some (.int .i64 (m : Int))) (h1 : l <= h) (h2 : h <= m) (h3 : m <= cap) :
  Yields P w0 n (.more (.other (.gen (.slice t x (some lo) (some hi) (some mx))))) T S (.slice (if m = l then A else A.map (·.add (l * sz))) (h - l) (m - l)) := by
 intro o a w hco hs hr
 have ho : o.op = .slice t x (some lo) (some hi) (some mx) := cOp_spec P hco
 subst hsz
 have b1 : ¬ ((cap : Int) < (m : Int)) := by omega
 simp only [execOp, ho, hs.eval hx, hs.eval hl, hs.eval hh, hs.eval hm, Instr.sliceAt, Option.map_some]
 simp [run_underlying hu, Instr.slice, Instr.sliceBounds, Instr.sliceBound, asIntOf, sizeOf, typeInfo, program, hi', Sem.run, h1, h2, h3]
theorem FC.perm {k : FuncId} {args : List Value} {S' : SS} {post : Value -> SS -> Prop} (hp : S.Perm S') (h : FC P w0 k args S' post) : FC P w0 k args S post := fun w hw => h w (hw.permS hp)
end
section
variable {P : Program} {w0 : World} {n : Nat} {T : TT} {S : SS}
def madeL (z : List Value) (n : Nat) : List Value := (List.range n).map fun i => z.getD (i % z.length) undef
theorem zeroCells_eq {z : Array Value} (h : 0 < z.size) (k : Nat) : (Builtin.zeroCells z k).toList = madeL z.toList (k * z.size) := by
 simp only [Builtin.zeroCells, madeL, Array.toList_map, Array.toList_range]
 apply List.map_congr_left
 intro i _
 have : i % z.size < z.size := Nat.mod_lt _ h
 rw [getElem!_pos z (i % z.size) this]
 simp [List.getD_eq_getElem?_getD, this]
theorem OW.clr {E E' sz b o l cp tot k : Nat} {z : Value} {x : PV} {c news : List Value} (hx : x.val T = some (.slice (some ⟨b, o, none⟩) l cp)) (hk : S[k]? = some [(b, .cells c E' tot)]) (hl : 0 < l) (hz : 0 < z.cells.size)
  (hn : news = madeL z.cells.toList (l * z.cells.size)) (hb : o + news.length <= c.length) (h1 : news.all (·.oneCell') = true) :
  OW P w0 n (.more (.clr E sz z x)) T S (fun v S' => v = .tuple #[] /\ S' = S.set k [(b, .cells (setAt c o news) E' tot)]) := by
 intro op a w Q hco hs hr
 obtain ⟨t, y, cl, i, ho, hca, hat, har, rfl, hu, hi, hiz, hsz, hzs, hs0⟩ := cOp_spec P hco
 obtain ⟨hge, C, hC, htot, hpre⟩ := hr.own (b, .cells c E' tot) (List.mem_flatten.2 ⟨_, List.mem_of_getElem? hk, by simp⟩)
 simp only at hge hC
 have hlen : c.length <= C.size := by
  have := congrArg List.length hpre
  simp at this
  omega
 have hst := run_storeCells_at P b o E' news 0 C w hC (by omega) (fun v hv => (List.all_eq_true.1 h1) v hv)
 simp only [Nat.add_zero] at hst
 unfold Oper.wp
 have hrun : (execOp a.eval op).run P w = .ok (.value (.tuple #[])) (w.setRow b (C.toList.take o ++ news ++ C.toList.drop (o + news.length)).toArray) := by
  simp only [execOp, ho, resolve, hca, invoke, builtin, hat, har]
  obtain ⟨l', rfl⟩ : ∃ l', l = l' + 1 := ⟨l - 1, by omega⟩
  simp [Builtin.clear_, hs.eval hx, run_underlying hu, zeroValue, typeInfo, program, Sem.run, hi, hiz, zeroCells_eq hz, <- hn, hst]
 rw [hrun]
 refine ⟨_, _, rfl, ?_, rfl, rfl⟩
 have hheap := setRow_heap w b C (C.toList.take o ++ news ++ C.toList.drop (o + news.length)).toArray E' (0, 0) hC
 refine hr.replace hk (below_setRow w b _ hge) (fun i _ hne => setRow_heap_other w b i _ (by simpa using hne)) (by simp) ?_
 intro p hp
 simp only [List.mem_singleton] at hp
 subst hp
 refine ⟨hge, ⟨_, hheap, ?_, ?_⟩, .inl (by simp)⟩
 ·simp only [List.size_toArray, List.length_append, List.length_take, List.length_drop, Array.length_toList]; omega
 rw [setAt_length, setAt_eq c o _ (by omega)]
 have := take_lay C.toList o news c.length (by omega) (by simp; omega)
 simp only at this ⊢
 rw [hpre] at this
 simpa using this
end
end Go.SL

namespace Go.Proofs.Gr
open Go.SL Go.RowKit Go.Proofs Go.GP
set_option maxHeartbeats 1000000
instance {p : PartP} : Decidable (Formed p) := decidable_of_iff (p.gone.Nodup /\ (∀ v ∈ p.gone, v ≠ rootV /\ v ≠ endV) /\ 0 <= p.first /\ p.up ≠ endV /\ p.down ≠ rootV) ⟨fun ⟨a, b, c, d, e⟩ => ⟨a, b, c, d, e⟩, fun ⟨a, b, c, d, e⟩ => ⟨a, b, c, d, e⟩⟩
instance {G : Gr} {p : PartP} : Decidable (ThereG G p) := by unfold ThereG; infer_instance
theorem PartR.vtx {p : PartM} (h : PartR p) {i : Nat} (hi : i < p.lines.length) : okV (p.pl.vtx i) := by
 have h1 := h.first
 have h2 := h.lines
 unfold okV PartP.vtx
 show -9223372036854775808 <= p.first + (i : Int) /\ p.first + (i : Int) <= 9223372036854775807
 omega
theorem PartR.name {p : PartM} (h : PartR p) : okV p.pl.name := h.at_
abbrev pseg (r : Nat) (p : PartM) : Seg := [(r, .cells (partC p) 36 102)]
theorem part_st {w0 : World} {S : SS} {P : Program} {n r : Nat} {T : TT} {x v : PV} {u : PartM} {z : List Value} (hx : x.val T = some (.pointer (some ⟨r, 0, none⟩))) (hv : v.val T = some (partV u)) (hz : z.length = 102) :
  OW P w0 n (.st 102 x v) T ([(r, .cells z 36 102)] :: S) (fun _ S' => S' = pseg r u :: S) := by
 refine (OW.st (k := 0) (c := z) (u := partV u) hx hv rfl ((List.size_toArray).trans (partC_len u)) (by omega) (partC_one u)).mono ?_
 rintro _ _ rfl
 rw [part_box, setAll (by rw [partC_len, hz])]
 rfl
theorem vtx_st {w0 : World} {S : SS} {P : Program} {n r : Nat} {T : TT} {x v : PV} {u : Vtx} {z : List Value} (hx : x.val T = some (.pointer (some ⟨r, 0, none⟩))) (hv : v.val T = some (vtxV u)) (hz : z.length = 33) :
  OW P w0 n (.st 33 x v) T ([(r, .cells z 32 33)] :: S) (fun _ S' => S' = vseg r u :: S) := by
 refine (OW.st (k := 0) (c := z) (u := vtxV u) hx hv rfl ((List.size_toArray).trans (vtxL_len u)) (by omega) (vtxL_one u)).mono ?_
 rintro _ _ rfl
 rw [vtx_box, setAll (by rw [vtxL_len, hz])]
 rfl
theorem vtxs_pre {l : List Vtx} (k : Nat) : vtxs (l.take k) <+: vtxs l := ⟨vtxs (l.drop k), by rw [<- vtxs_app, List.take_append_drop]⟩
theorem formed_fc {w0 : World} {S : SS} {p : PartM} (hp : PartOk' w0 S p) : FC Try.prog w0 53 [partV p] S (fun u S' => u = .bool (decide (Formed p.pl)) /\ S' = S) := by
  have hgl := hp.rng.gones
  have hgc := hp.rng.gcap
  have hrd := hp.rdG
  refine FC.ofD Try.known53 (by simp) ?_
  unfold Try.pc53
  simp only [argT]
  refine PW.seqOps (OL.cons trivial (OW.bx rfl) ?_)
  rintro _ _ ⟨r1, rfl, rfl⟩
  rw [part_box, partC_len]
  refine OL.dp rfl (OL.nil (PW.k1 1 rfl ?_))
  refine PW.seq fun K1 hK1 => ?_
  refine PW.seqOps (OL.dp rfl (OL.det trivial (.ld rfl (part_gone (p := p) (E := 36) (tot := 102) zM0)) (OL.dp rfl (OL.dp rfl (OL.nil (PW.k4 1 6 7 8 rfl (PW.block (PW.k4 1 6 7 8 rfl ?_))))))))
  refine PW.loopK (I := fun m T S' => ∃ (k : Nat), (k <= p.gone.length /\ m = p.gone.length - k /\ (p.gone.take k).Nodup /\ ∀ v ∈ p.gone.take k, v ≠ rootV /\ v ≠ endV) /\ T = ([(1, .pointer (some ⟨r1, 0, none⟩)), (6, .slice p.GA p.gone.length p.gc), (7, .int .i64 (p.gone.length : Int)), (8, .int .i64 k)] : TT) /\ S' = pseg r1 p :: S) (m := p.gone.length) ⟨0, ⟨by omega, by omega, by simp, by simp⟩, rfl, rfl⟩ ?_
  rintro m _ _ ⟨k, ⟨hk, hm, hnd, hre⟩, rfl, rfl⟩
  refine PW.seqOps (OL.dp rfl (OL.nil (PW.k5 1 6 7 8 9 rfl ?_)))
  refine PW.seq fun K2 hK2 => ?_
  refine PW.cond rfl (fun c9 => ?_) (fun c9 => ?_)
  · try simp only [cvS] at c9
    have hkl : k < p.gone.length := by omega
    obtain ⟨a0, ha0⟩ := vtxs_some hrd (by omega)
    have hrd2 := hrd
    rw [ha0] at hrd2
    refine PW.skip ?_
    refine hK2 _ _ ?_
    refine PW.k4 1 6 7 8 rfl ?_
    refine PW.seq fun K3 hK3 => ?_
    refine PW.block (PW.seqOps (OL.dp rfl ?_))
    rw [ha0]
    refine OL.det trivial (.ixN rfl rfl rfl (by omega)) ?_
    refine OL.det trivial (.ldA rfl (vtxL_len _) (vtx_at hrd2.cons hkl)) (OL.cons trivial OW.al ?_)
    rintro _ _ ⟨r4, rfl, rfl⟩
    refine OL.dp rfl (OL.cons trivial (vtx_st rfl rfl rfl) ?_)
    rintro _ _ rfl
    refine OL.nil (PW.k6 1 3 4 6 7 8 rfl ?_)
    refine PW.seq fun K4 hK4 => ?_
    refine PW.quietK Try.mixed (QK.det trivial (.ldA rfl (vtxL_len _) (all_at zM0)) (QK.call trivial rfl (root_fc) (QK.det trivial (.eqD (neg := false) rfl rfl (eqL_vtx _ _)) ?_)))
    refine QK.bool trivial (Yields.pure rfl) (fun g16 => ?_) (fun g16 => ?_)
    · try simp only [cvS] at g16
      refine QK.off rfl rfl (QK.off rfl rfl (QK.off rfl rfl (QK.dp rfl (QK.dp rfl (QK.off rfl rfl (QK.off rfl rfl (QK.off rfl rfl (QK.off rfl rfl (QK.off rfl rfl (QK.nil ?_))))))))))
      change OL _ _ _ [_, _] _ _ _
      refine OL.off rfl rfl (OL.dp rfl (OL.nil ?_))
      refine hK4 _ _ ?_
      refine PW.k5 1 6 7 8 28 rfl (PW.ite (b := true) rfl ?_)
      rw [if_pos rfl]
      refine PW.seqOps (OL.dp rfl (OL.nil (PW.k1 2 rfl (PW.ret ?_))))
      change (Exit.ret = Exit.normal ∨ Exit.ret = Exit.ret) /\ ∃ v, resV _ _ = some v /\ _
      refine ⟨.inr rfl, _, rfl, _, Sub.drop (Sub.drop (Sub.refl _)), congrArg Value.bool (decide_eq_false fun hf => ?_).symm, rfl⟩
      first
        | exact (hf.goneR _ (List.getElem_mem hkl)).1 g16
        | exact (hf.goneR _ (List.getElem_mem hkl)).2 g21
        | (simp only [List.any_eq_true, decide_eq_true_eq] at c28
           obtain ⟨x, hx, rfl⟩ := c28
           obtain ⟨j, hj, e⟩ := List.mem_take_iff_getElem.1 hx
           have := (List.getElem_inj hf.gone0).1 e
           omega)
    try simp only [cvS] at g16
    refine QK.det rfl (.ldA rfl (vtxL_len _) (all_at zM0)) (QK.call rfl rfl (end_fc) (QK.det rfl (.eqD (neg := false) rfl rfl (eqL_vtx _ _)) (QK.dp rfl ?_)))
    refine QK.bool trivial (Yields.pure rfl) (fun g21 => ?_) (fun g21 => ?_)
    · try simp only [cvS] at g21
      refine QK.off rfl rfl (QK.off rfl rfl (QK.off rfl rfl (QK.off rfl rfl (QK.off rfl rfl (QK.nil ?_)))))
      change OL _ _ _ [_, _] _ _ _
      refine OL.off rfl rfl (OL.dp rfl (OL.nil ?_))
      refine hK4 _ _ ?_
      refine PW.k5 1 6 7 8 28 rfl (PW.ite (b := true) rfl ?_)
      rw [if_pos rfl]
      refine PW.seqOps (OL.dp rfl (OL.nil (PW.k1 2 rfl (PW.ret ?_))))
      change (Exit.ret = Exit.normal ∨ Exit.ret = Exit.ret) /\ ∃ v, resV _ _ = some v /\ _
      refine ⟨.inr rfl, _, rfl, _, Sub.drop (Sub.drop (Sub.refl _)), congrArg Value.bool (decide_eq_false fun hf => ?_).symm, rfl⟩
      first
        | exact (hf.goneR _ (List.getElem_mem hkl)).1 g16
        | exact (hf.goneR _ (List.getElem_mem hkl)).2 g21
        | (simp only [List.any_eq_true, decide_eq_true_eq] at c28
           obtain ⟨x, hx, rfl⟩ := c28
           obtain ⟨j, hj, e⟩ := List.mem_take_iff_getElem.1 hx
           have := (List.getElem_inj hf.gone0).1 e
           omega)
    try simp only [cvS] at g21
    refine QK.det rfl (.pure rfl) (QK.det rfl (.ld rfl (part_gone (p := p) (E := 36) (tot := 102) zM1)) (QK.det rfl (.pure rfl) ?_))
    refine QK.det rfl (.to (v' := .slice p.GA (p.gone.take k).length p.gc) (Yields.slS (A := p.GA) (len := p.gone.length) (cap := p.gc) (l := 0) (h := k) rfl rfl rfl (.inr ⟨rfl, rfl⟩) (.inl rfl) (by omega) (by omega)) (by rw [cutV0, List.length_take, Nat.min_eq_left (by omega)])) ?_
    refine QK.det rfl (.ldA rfl (vtxL_len _) (all_at zM0)) (QK.nil ?_)
    change OL _ _ _ [_, _] _ _ _
    refine OL.call rfl rfl (contains_fc (l := p.gone.take k) ((hrd.pre (vtxs_pre k)).cons.cons) (by rw [List.length_take]; omega)) ?_
    rintro _ Sx ⟨rfl, hSx⟩
    rw [hSx]
    clear hSx
    refine OL.dp rfl (OL.nil ?_)
    refine hK4 _ _ ?_
    refine PW.k5 1 6 7 8 28 rfl ?_
    refine PW.cond rfl (fun c28 => ?_) (fun c28 => ?_)
    · try simp only [cvS] at c28
      refine PW.seqOps (OL.dp rfl (OL.nil (PW.k1 2 rfl (PW.ret ?_))))
      change (Exit.ret = Exit.normal ∨ Exit.ret = Exit.ret) /\ ∃ v, resV _ _ = some v /\ _
      refine ⟨.inr rfl, _, rfl, _, Sub.drop (Sub.drop (Sub.refl _)), congrArg Value.bool (decide_eq_false fun hf => ?_).symm, rfl⟩
      first
        | exact (hf.goneR _ (List.getElem_mem hkl)).1 g16
        | exact (hf.goneR _ (List.getElem_mem hkl)).2 g21
        | (simp only [List.any_eq_true, decide_eq_true_eq] at c28
           obtain ⟨x, hx, rfl⟩ := c28
           obtain ⟨j, hj, e⟩ := List.mem_take_iff_getElem.1 hx
           have := (List.getElem_inj hf.gone0).1 e
           omega)
    try simp only [cvS] at c28
    simp only [List.any_eq_false, decide_eq_true_eq] at c28
    refine PW.skip ?_
    refine hK3 _ _ ?_
    refine PW.k4 1 6 7 8 rfl (PW.ops ?_)
    refine OL.det trivial (.add64 rfl rfl (by omega) (by omega)) ?_
    refine OL.dp rfl (OL.nil ?_)
    repeat rw [inBlk_n]
    try rw [thenK_n]
    refine LoopEnd.mkS (Sub.drop (Sub.refl _)) (T'' := [(1, _), (6, _), (7, _), (8, _)]) (wi rfl) ?_
    refine ⟨p.gone.length - (k + 1), by omega, k + 1, ⟨by omega, rfl, ?_, ?_⟩, by rw [ha0]; rfl, rfl⟩
    · rw [vtake_snoc hkl, List.nodup_append]
      refine ⟨hnd, by simp, fun a ha b hb e => ?_⟩
      rw [List.mem_singleton] at hb
      subst hb; subst e
      exact c28 _ ha rfl
    intro x hx
    rw [vtake_snoc hkl, List.mem_append, List.mem_singleton] at hx
    rcases hx with hx | rfl
    · exact hre x hx
    exact ⟨g16, g21⟩
  try simp only [cvS] at c9
  refine PW.exit ?_
  refine hK1 _ _ ?_
  refine PW.k1 1 rfl ?_
  refine PW.seq fun K5 hK5 => ?_
  refine PW.quietK Try.mixed (QK.dp rfl (QK.det trivial (.ld rfl (part_first (p := p) (E := 36) (tot := 102) zM0)) (QK.dp rfl ?_)))
  refine QK.bool trivial (Yields.pure rfl) (fun g33 => ?_) (fun g33 => ?_)
  · try simp only [cvS] at g33
    refine QK.det rfl (.pure rfl) (QK.det rfl (.ldA rfl (vtxL_len _) (part_up (p := p) (E := 36) (tot := 102) zM0)) (QK.call rfl rfl (end_fc) (QK.det rfl (.eqD (neg := true) rfl rfl (eqL_vtx _ _)) (QK.dp rfl ?_))))
    refine QK.bool trivial (Yields.pure rfl) (fun g39 => ?_) (fun g39 => ?_)
    · try simp only [cvS] at g39
      refine QK.det rfl (.pure rfl) (QK.det rfl (.ldA rfl (vtxL_len _) (part_down (p := p) (E := 36) (tot := 102) zM0)) (QK.call rfl rfl (root_fc) (QK.nil ?_)))
      change OL _ _ _ [_, _, _] _ _ _
      refine OL.det rfl (.eqD (neg := true) rfl rfl (eqL_vtx _ _)) (OL.dp rfl (OL.dp rfl (OL.nil ?_)))
      refine hK5 _ _ ?_
      refine PW.k1 2 rfl (PW.ret ?_)
      change (Exit.ret = Exit.normal ∨ Exit.ret = Exit.ret) /\ ∃ v, resV _ _ = some v /\ _
      have hke : k = p.gone.length := by omega
      rw [hke, List.take_length] at hnd hre
      have hiff : Formed p.pl ↔ 0 <= p.first /\ p.up ≠ endV /\ p.down ≠ rootV := ⟨fun h => ⟨h.first, h.upE, h.downR⟩, fun h => ⟨hnd, hre, h.1, h.2.1, h.2.2⟩⟩
      refine ⟨.inr rfl, _, rfl, _, Sub.drop (Sub.refl _), ?_, rfl⟩
      first
        | exact congrArg Value.bool (decide_eq_false fun hf => g33 (hiff.1 hf).1).symm
        | exact congrArg Value.bool (decide_eq_false fun hf => (hiff.1 hf).2.1 g39).symm
        | (refine congrArg Value.bool (show (!decide (p.down = rootV)) = decide (Formed p.pl) from ?_)
           rw [Bool.eq_iff_iff]
           simp only [Bool.not_eq_true', decide_eq_false_iff_not, decide_eq_true_eq, hiff]
           exact ⟨fun h => ⟨g33, g39, h⟩, fun h => h.2.2⟩)
    try simp only [cvS] at g39
    refine QK.off rfl rfl (QK.off rfl rfl (QK.off rfl rfl (QK.nil ?_)))
    change OL _ _ _ [_, _, _] _ _ _
    refine OL.off rfl rfl (OL.dp rfl (OL.dp rfl (OL.nil ?_)))
    refine hK5 _ _ ?_
    refine PW.k1 2 rfl (PW.ret ?_)
    change (Exit.ret = Exit.normal ∨ Exit.ret = Exit.ret) /\ ∃ v, resV _ _ = some v /\ _
    have hke : k = p.gone.length := by omega
    rw [hke, List.take_length] at hnd hre
    have hiff : Formed p.pl ↔ 0 <= p.first /\ p.up ≠ endV /\ p.down ≠ rootV := ⟨fun h => ⟨h.first, h.upE, h.downR⟩, fun h => ⟨hnd, hre, h.1, h.2.1, h.2.2⟩⟩
    refine ⟨.inr rfl, _, rfl, _, Sub.drop (Sub.refl _), ?_, rfl⟩
    first
      | exact congrArg Value.bool (decide_eq_false fun hf => g33 (hiff.1 hf).1).symm
      | exact congrArg Value.bool (decide_eq_false fun hf => (hiff.1 hf).2.1 g39).symm
      | (refine congrArg Value.bool (show (!decide (p.down = rootV)) = decide (Formed p.pl) from ?_)
         rw [Bool.eq_iff_iff]
         simp only [Bool.not_eq_true', decide_eq_false_iff_not, decide_eq_true_eq, hiff]
         exact ⟨fun h => ⟨g33, g39, h⟩, fun h => h.2.2⟩)
  try simp only [cvS] at g33
  refine QK.off rfl rfl (QK.off rfl rfl (QK.off rfl rfl (QK.off rfl rfl (QK.dp rfl (QK.dp rfl (QK.off rfl rfl (QK.off rfl rfl (QK.off rfl rfl (QK.nil ?_)))))))))
  change OL _ _ _ [_, _, _] _ _ _
  refine OL.off rfl rfl (OL.dp rfl (OL.dp rfl (OL.nil ?_)))
  refine hK5 _ _ ?_
  refine PW.k1 2 rfl (PW.ret ?_)
  change (Exit.ret = Exit.normal ∨ Exit.ret = Exit.ret) /\ ∃ v, resV _ _ = some v /\ _
  have hke : k = p.gone.length := by omega
  rw [hke, List.take_length] at hnd hre
  have hiff : Formed p.pl ↔ 0 <= p.first /\ p.up ≠ endV /\ p.down ≠ rootV := ⟨fun h => ⟨h.first, h.upE, h.downR⟩, fun h => ⟨hnd, hre, h.1, h.2.1, h.2.2⟩⟩
  refine ⟨.inr rfl, _, rfl, _, Sub.drop (Sub.refl _), ?_, rfl⟩
  first
    | exact congrArg Value.bool (decide_eq_false fun hf => g33 (hiff.1 hf).1).symm
    | exact congrArg Value.bool (decide_eq_false fun hf => (hiff.1 hf).2.1 g39).symm
    | (refine congrArg Value.bool (show (!decide (p.down = rootV)) = decide (Formed p.pl) from ?_)
       rw [Bool.eq_iff_iff]
       simp only [Bool.not_eq_true', decide_eq_false_iff_not, decide_eq_true_eq, hiff]
       exact ⟨fun h => ⟨g33, g39, h⟩, fun h => h.2.2⟩)
theorem there_fc {w0 : World} {S X : SS} {m : GrM} {p : PartM} (hm : GOk w0 X m) (hS : Over (GS m ++ X) S) (hp : PartR p) : FC Try.prog w0 52 [m.ptr, partV p] S (fun u S' => u = .bool (decide (ThereG m.gr p.pl)) /\ S' = S) := by
 obtain ⟨z, hz1, hz2⟩ := zero36
 have hll := hp.lines
 have hthere : ThereG m.gr p.pl ↔ p.pl.name ∈ mks m.parts ∨ ∃ v ∈ own p.pl, v ∈ mks m.nodes := by
  unfold ThereG
  show _ ∈ mks (plP m.parts) ∨ (∃ v ∈ _, v ∈ mks (plN m.nodes)) ↔ _
  rw [mks_plP, mks_plN]
 refine FC.ofD Try.known52 (by simp) ?_
 unfold Try.pc52
 simp only [argT]
 refine PW.seqOps (OL.cons trivial (OW.bx rfl) ?_)
 rintro _ _ ⟨r3, rfl, rfl⟩
 rw [part_box, partC_len]
 refine OL.dp rfl (OL.nil (PW.k2 0 3 rfl ?_))
 refine PW.seq fun K1 hK1 => ?_
 refine PW.seq fun K2 hK2 => ?_
 have hS1 : Over (GS m ++ X) (pseg r3 p :: S) := hS.cons
 refine PW.quietG (Ss := Over (pseg r3 p :: S)) (fr := false) [(0, 0), (1, 0), (2, 0), (3, 0), (4, 0), (5, 0), (6, 0), (7, 0), (8, 0), (9, 0), (10, 0), (11, 0), (12, 0), (13, 2), (14, 2)] Try.mixed (by decide +kernel) (Over.refl _) (fun h => by cases h) ?_
 refine GL.dp rfl ?_
 refine GL.det trivial (fun Sx hSx => Yields.nilc rfl) ?_
 refine GL.dp rfl ?_
 refine GL.det trivial (fun Sx hSx => Yields.ld rfl (g_parts (hS1.trans hSx))) ?_
 refine GL.dp rfl ?_
 refine GL.det trivial (fun Sx hSx => Yields.ldA rfl (hb_len _) (part_patch (p := p) (E := 36) (tot := 102) (hSx _ zM0))) ?_
 refine GL.dp rfl ?_
 refine GL.det trivial (fun Sx hSx => Yields.ld rfl (part_at (p := p) (E := 36) (tot := 102) (hSx _ zM0))) ?_
 refine GL.det trivial (fun Sx hSx => Yields.build (fill_vtx rfl rfl)) ?_
 refine GL.det trivial (fun Sx hSx => Yields.lookG (okc := true) (a := p.pl.name) Try.underlying54 hz1 hz2 keys97 hm.pk hp.name rfl rfl (GS_mem (hS1.trans hSx)).2.1) ?_
 refine GL.dp rfl ?_
 refine GL.dp rfl ?_
 refine GL.dp rfl ?_
 refine GL.lo trivial (OW.mono (OW.al) ?_)
 rintro _ _ ⟨r5, rfl, rfl⟩
 refine ⟨(Over.refl _).cons, ?_⟩
 refine GL.lo trivial (OW.mono (part_st rfl rfl rfl) ?_)
 rintro _ _ rfl
 refine ⟨(Over.refl _).cons, ?_⟩
 refine OL.subS (S' := pseg r3 p :: S) (Sub.drop (Sub.refl _)) ?_
 change OL _ _ _ [_] _ _ _
 refine OL.dp rfl (OL.nil ?_)
 refine hK2 _ _ ?_
 refine PW.k3 0 3 6 rfl (PW.seqOps (OL.dp rfl (OL.nil (PW.k3 0 3 21 rfl ?_))))
 refine PW.cond rfl (fun c21 => ?_) (fun c21 => ?_)
 ·rw [isSome_mks] at c21; try simp only [cvS] at c21
  refine PW.seqOps (OL.dp rfl (OL.nil (PW.k1 4 rfl (PW.ret ?_))))
  change (Exit.ret = Exit.normal ∨ Exit.ret = Exit.ret) /\ ∃ v, resV _ _ = some v /\ _
  exact ⟨.inr rfl, _, rfl, _, Sub.drop (Sub.refl _), congrArg Value.bool (decide_eq_true (hthere.2 (.inl c21))).symm, rfl⟩
 rw [isSome_mks] at c21; try simp only [cvS] at c21
 refine PW.skip ?_
 refine hK1 _ _ ?_
 refine PW.k2 0 3 rfl ?_
 refine PW.seq fun K3 hK3 => ?_
 refine PW.seqOps (OL.dp rfl (OL.det trivial (.ld rfl (part_lines (p := p) (E := 36) (tot := 102) zM0)) (OL.dp rfl (OL.dp rfl (OL.nil (PW.k4 0 3 24 25 rfl (PW.block (PW.k4 0 3 24 25 rfl ?_))))))))
 refine PW.loopK (I := fun mm T S' => ∃ (k : Nat), (k <= p.lines.length /\ mm = p.lines.length - k /\ ∀ i, i < k -> p.pl.vtx i ∉ mks m.nodes) /\ T = ([(0, m.ptr), (3, .pointer (some ⟨r3, 0, none⟩)), (24, .int .i64 (p.lines.length : Int)), (25, .int .i64 k)] : TT) /\ S' = pseg r3 p :: S) (m := p.lines.length) ⟨0, ⟨by omega, by omega, fun i h => absurd h (by omega)⟩, rfl, rfl⟩ ?_
 rintro mm _ _ ⟨k, ⟨hk, hmm, hall⟩, rfl, rfl⟩
 refine PW.seqOps (OL.dp rfl (OL.nil (PW.k5 0 3 24 25 26 rfl ?_)))
 refine PW.seq fun K4 hK4 => ?_
 refine PW.cond rfl (fun c26 => ?_) (fun c26 => ?_)
 ·try simp only [cvS] at c26
  have hkl : k < p.lines.length := by omega
  refine PW.skip ?_
  refine hK4 _ _ ?_
  refine PW.k4 0 3 24 25 rfl ?_
  refine PW.seq fun K5 hK5 => ?_
  refine PW.block (PW.seqOps (OL.dp rfl (OL.dp rfl (OL.nil (PW.k5 0 3 7 24 25 rfl (PW.seqOps (OL.dp rfl (OL.det trivial (.ldA rfl (partC_len _) (all_at zM0)) (OL.dp rfl ?_)))))))))
  refine OL.call trivial rfl (vertex_fc (i := k) hp (by omega)) ?_
  rintro _ Sx ⟨rfl, hSx⟩
  rw [hSx]
  clear hSx
  refine OL.call trivial rfl (line_fc hm hS1 (hp.vtx hkl)) ?_
  rintro _ Sx ⟨rfl, hSx⟩
  rw [hSx]
  clear hSx
  refine OL.nil (PW.k5 0 3 24 25 32 rfl ?_)
  refine PW.cond rfl (fun c32 => ?_) (fun c32 => ?_)
  ·try simp only [cvS] at c32
   refine PW.seqOps (OL.dp rfl (OL.nil (PW.k1 4 rfl (PW.ret ?_))))
   change (Exit.ret = Exit.normal ∨ Exit.ret = Exit.ret) /\ ∃ v, resV _ _ = some v /\ _
   exact ⟨.inr rfl, _, rfl, _, Sub.drop (Sub.refl _), congrArg Value.bool (decide_eq_true (hthere.2 (.inr ⟨_, mem_own.2 ⟨k, hkl, rfl⟩, c32⟩))).symm, rfl⟩
  try simp only [cvS] at c32
  refine PW.skip ?_
  refine hK5 _ _ ?_
  refine PW.k4 0 3 24 25 rfl (PW.ops ?_)
  refine OL.det trivial (.add64 rfl rfl (by omega) (by omega)) ?_
  refine OL.dp rfl (OL.nil ?_)
  repeat rw [inBlk_n]
  try rw [thenK_n]
  refine LoopEnd.mk (T'' := [(0, _), (3, _), (24, _), (25, _)]) (wi rfl) ?_
  refine ⟨p.lines.length - (k + 1), by omega, k + 1, ⟨by omega, rfl, fun i hi => ?_⟩, rfl, rfl⟩
  by_cases h : i = k
  ·subst h; exact c32
  exact hall i (by omega)
 try simp only [cvS] at c26
 refine PW.exit ?_
 refine hK3 _ _ ?_
 refine PW.keep (T' := []) trivial (PW.seqOps (OL.dp rfl (OL.nil (PW.k1 4 rfl (PW.ret ?_)))))
 change (Exit.ret = Exit.normal ∨ Exit.ret = Exit.ret) /\ ∃ v, resV _ _ = some v /\ _
 refine ⟨.inr rfl, _, rfl, _, Sub.drop (Sub.refl _), congrArg Value.bool (decide_eq_false fun h => ?_).symm, rfl⟩
 rcases hthere.1 h with h | ⟨v, hv, h⟩
 ·exact c21 h
 obtain ⟨i, hi, rfl⟩ := mem_own.1 hv
 exact hall i (by have : i < p.lines.length := hi; omega) h
end Go.Proofs.Gr

namespace Go.Proofs.Gr
open Go.SL Go.RowKit Go.Proofs Go.GP
theorem mem_mpt {α β : Type} [DecidableEq α] {l : List (α × β)} {a : α} {b : β} {q : α × β} (h : q ∈ mpt l a b) : q = (a, b) ∨ q ∈ l := by
 induction l with
 | nil => simpa [mpt] using h
 | cons p l ih =>
  unfold mpt at h
  split at h
  ·rcases List.mem_cons.1 h with h | h
   ·exact .inl h
   exact .inr (List.mem_cons_of_mem _ h)
  rcases List.mem_cons.1 h with h | h
  ·exact .inr (by rw [h]; exact List.mem_cons_self)
  exact (ih h).imp_right (List.mem_cons_of_mem _)
theorem _root_.Go.SL.Rd.junkR {w0 : World} {a b : Seg} {A : Option Addr} {l : List Value} {X : SS} (h : Rd w0 (a :: X) A l) : Rd w0 ((a ++ b) :: X) A l := h.mono fun p hp => by simp only [List.flatten_cons, List.mem_append] at hp ⊢; exact hp.imp_left .inl
theorem _root_.Go.SL.Rd.junkL {w0 : World} {a b : Seg} {A : Option Addr} {l : List Value} {X : SS} (h : Rd w0 [b] A l) : Rd w0 ((a ++ b) :: X) A l := h.mono fun p hp => by simp only [List.flatten_cons, List.flatten_nil, List.append_nil, List.mem_append] at hp ⊢; exact .inl (.inr hp)
theorem _root_.Go.SL.Rd.jmono {w0 : World} {X : SS} {a b : Seg} {A : Option Addr} {l : List Value} (h : Rd w0 (a :: X) A l) (hj : ∀ x ∈ a, x ∈ b) : Rd w0 (b :: X) A l := h.mono fun p hp => by
 rw [List.flatten_cons, List.mem_append] at hp ⊢
 exact hp.imp_left (hj p)
theorem NodeOk'.grow {w0 : World} {X : SS} {a b : Seg} {i j : Nat} {n : NodeM} (h : NodeOk' w0 (a :: X) i n) (hij : i <= j) : NodeOk' w0 ((a ++ b) :: X) j n :=
 ⟨h.rd.junkR, h.ok, Nat.le_trans h.len hij, by have := h.gone; omega, by have := h.named; omega⟩
theorem PartOk'.grow {w0 : World} {X : SS} {a b : Seg} {p : PartM} (h : PartOk' w0 (a :: X) p) : PartOk' w0 ((a ++ b) :: X) p := ⟨h.rdL.junkR, h.rdG.junkR, h.rng⟩
theorem GOk.node' {w0 : World} {X : SS} {m : GrM} {seg : Seg} {k : Nat} {a : Vtx} {n : NodeM} (hm : GOk w0 X m) (ha : okV a) (hn : NodeOk' w0 ((m.junk ++ seg) :: X) (m.lim + k) n) (hk : m.lim + k <= 1000000000000) :
  GOk w0 X { m with nodes := mpt m.nodes a n, junk := m.junk ++ seg, lim := m.lim + k } where
 pk := hm.pk
 part := fun q hq => (hm.part q hq).grow
 nk := fun q hq => by
  rcases mem_mpt hq with rfl | h
  ·exact ha
  exact hm.nk q h
 node := fun q hq => by
  rcases mem_mpt hq with rfl | h
  ·exact hn
  exact (hm.node q h).grow (Nat.le_add_right _ _)
 first := hm.first.junkR
 firstOk := hm.firstOk
 firstLen := Nat.le_trans hm.firstLen (Nat.le_add_right _ _)
 lim := hk
 pkd := hm.pkd
 nkd := mpt_nodup hm.nkd _ _
theorem GOk.node0 {w0 : World} {X : SS} {m : GrM} {k : Nat} {a : Vtx} {n : NodeM} (hm : GOk w0 X m) (ha : okV a) (hn : NodeOk' w0 (m.junk :: X) (m.lim + k) n) (hk : m.lim + k <= 1000000000000) :
  GOk w0 X { m with nodes := mpt m.nodes a n, lim := m.lim + k } where
 pk := hm.pk
 part := hm.part
 nk := fun q hq => by
  rcases mem_mpt hq with rfl | h
  ·exact ha
  exact hm.nk q h
 node := fun q hq => by
  rcases mem_mpt hq with rfl | h
  ·exact hn
  have := hm.node q h
  exact ⟨this.rd, this.ok, Nat.le_trans this.len (Nat.le_add_right _ _), by have := this.gone; show -((m.lim + k : Nat) : Int) <= _ /\ _ <= ((m.lim + k : Nat) : Int); omega, by have := this.named; show -((m.lim + k : Nat) : Int) <= _ /\ _ <= ((m.lim + k : Nat) : Int); omega⟩
 first := hm.first
 firstOk := hm.firstOk
 firstLen := Nat.le_trans hm.firstLen (Nat.le_add_right _ _)
 lim := hk
 pkd := hm.pkd
 nkd := mpt_nodup hm.nkd _ _
theorem edgeL_get {V : Type} : ∀ {l : List V} {i : Nat} (h : i + 1 < l.length), (edgeL l)[i]? = some (l[i], l[i + 1])
 | a :: b :: r, 0, _ => rfl
 | a :: b :: r, i + 1, h => by
  have := edgeL_get (l := b :: r) (i := i) (by simpa using h)
  simpa [edgeL] using this
theorem edgeL_len {V : Type} : ∀ (l : List V), (edgeL l).length = l.length - 1
 | [] => rfl
 | [_] => rfl
 | a :: b :: r => by
  have := edgeL_len (b :: r)
  simp only [edgeL, List.length_cons] at this ⊢
  omega
theorem edgeL_take {V : Type} {l : List V} {i : Nat} (h : i + 1 < l.length) : (edgeL l).take (i + 1) = (edgeL l).take i ++ [(l[i], l[i + 1])] := by
 rw [List.take_add_one, edgeL_get h]; rfl
theorem linksG_snoc (t : Bool) (G : Gr) (es : List (Vtx × Vtx)) (e : Vtx × Vtx) : linksG t G (es ++ [e]) = linkG t (linksG t G es) e := by
 unfold linksG; rw [List.foldl_append]; rfl
theorem way_len (p : PartP) : (way p).length = p.lines.length + 2 := by simp [way, own_len]
theorem names_len (p : PartP) : (names p).length = p.gone.length + 2 := rfl
theorem fill_one {T : TT} {v : Vtx} {x : PV} {zero : List Value} (h : x.val T = some (vtxV v)) (hz : zero.length = 33) : fillP T zero [(0, 33, x)] = some (vtxL v) := by
 simp only [fillP, h]
 rw [if_pos ⟨(List.size_toArray).trans (vtxL_len v), by omega⟩]
 exact congrArg some (setAll (by rw [hz]; exact (vtxL_len v).symm))
theorem fill_two {T : TT} {v u : Vtx} {x y : PV} {zero : List Value} (h : x.val T = some (vtxV v)) (h2 : y.val T = some (vtxV u)) (hz : zero.length = 66) : fillP T zero [(0, 33, x), (33, 33, y)] = some (vtxs [v, u]) := by
 have e1 : (vtxL v).length = 33 := vtxL_len v
 have e2 : (vtxL u).length = 33 := vtxL_len u
 have f1 : (setAt zero 0 (vtxL v)).length = 66 := by rw [setAt_length]; exact hz
 simp only [fillP, h, h2]
 rw [if_pos ⟨(List.size_toArray).trans (vtxL_len v), by omega⟩]
 show (if (vtxV u).cells.size = 33 /\ 33 + 33 <= (setAt zero 0 (vtxL v)).length then some (setAt (setAt zero 0 (vtxL v)) 33 (vtxL u)) else none) = _
 rw [if_pos ⟨(List.size_toArray).trans (vtxL_len u), by omega⟩]
 congr 1
 rw [setAt_eq _ _ _ (by omega), setAt_eq zero 0 _ (by omega)]
 rw [show List.take 0 zero = [] from rfl, List.nil_append, List.take_append_of_le_length (by omega), List.take_of_length_le (by omega), List.drop_eq_nil_of_le (by rw [List.length_append, List.length_drop]; omega)]
 simp [vtxs]
theorem _root_.Go.SL.OW.appL {P : Program} {w0 : World} {n : Nat} {T : TT} {S : SS} {t E sz bytes m q c k : Nat} {z v : Value} {s x : PV} {A : Option Addr} {xs news : List Value} {seg : Seg} (hs' : s.val T = some v) (hk : S[k]? = some seg) (hv : SlV E sz v m xs seg)
  (hx : x.val T = some (.slice A q c)) (hl : news.length = q * sz) (hrd : Rd w0 S A news) (hsz : 0 < sz) (hc : A = none -> c = 0) (h1 : news.all (·.oneCell') = true)
  (hb : (m + q) * bytes <= 140737488355328) (h63 : m + q <= maxLen) :
  OW P w0 n (.app t E sz bytes z s x) T S (fun v' S' => ∃ seg', S' = S.set k seg' /\ SlV E sz v' (m + q) (xs ++ news) seg') := by
 cases A with
 | none =>
  obtain rfl := hc rfl
  have : news = [] := by
   cases news with
   | nil => rfl
   | cons b l => obtain ⟨_, e, _⟩ := hrd 0 _ rfl; cases e
  subst this
  have : q = 0 := by
   rcases Nat.eq_zero_or_pos q with h | h
   ·exact h
   have := Nat.mul_pos h hsz
   simp at hl
   omega
  subst this
  refine (OW.of_yields (OW.app_none (P := P) (w0 := w0) (n := n) (t := t) (bytes := bytes) (z := z) hs' hk hv hx)).mono ?_
  rintro v' S' ⟨rfl, rfl⟩
  refine ⟨seg, ?_, by simpa using hv⟩
  obtain ⟨A, R, rfl, rfl⟩ := split_at hk
  exact (set_at rfl).symm
 | some a =>
  exact OW.app hs' hk hv hx hl (fun j u hj => hrd.at hj) h1 hb h63
theorem GOk.first' {w0 : World} {X : SS} {m : GrM} {seg : Seg} {k c : Nat} {A : Option Addr} {l : List Vtx} (hm : GOk w0 X m) (hr : Rd w0 ((m.junk ++ seg) :: X) A (vtxs l)) (ho : ∀ v ∈ l, okV v) (hl : l.length <= m.lim + k) (hk : m.lim + k <= 1000000000000) :
  GOk w0 X { m with FA := A, fc := c, first := l, junk := m.junk ++ seg, lim := m.lim + k } where
 pk := hm.pk
 part := fun q hq => (hm.part q hq).grow
 nk := hm.nk
 node := fun q hq => (hm.node q hq).grow (Nat.le_add_right _ _)
 first := hr
 firstOk := ho
 firstLen := hl
 lim := hk
 pkd := hm.pkd
 nkd := hm.nkd
theorem slv_rdL {w0 : World} {E sz m : Nat} {v : Value} {xs : List Value} {seg : Seg} (hv : SlV E sz v m xs seg) : ∃ A cap, v = .slice A m cap /\ (A = none -> cap = 0) /\ m <= cap /\ ∀ S, Rd w0 (seg :: S) A xs := by
 obtain ⟨hl, ⟨rfl, rfl, rfl⟩ | ⟨r, cap, rfl, rfl, h1, h2⟩⟩ := hv
 ·have : xs = [] := List.eq_nil_of_length_eq_zero (by simpa using hl)
  subst this
  exact ⟨none, 0, rfl, fun _ => rfl, Nat.le_refl _, fun S => Rd.nil⟩
 exact ⟨some ⟨r, 0, none⟩, cap, rfl, fun h => by (cases h), h1, fun S => Rd.own (E := E) (tot := cap * sz) (by simp)⟩
theorem slv_own {E sz m : Nat} {v : Value} {xs : List Value} {seg : Seg} (hv : SlV E sz v m xs seg) (h : 0 < m) : ∃ r cap, v = .slice (some ⟨r, 0, none⟩) m cap /\ seg = [(r, .cells xs E (cap * sz))] /\ m <= cap /\ cap <= maxLen := by
 obtain ⟨hl, ⟨rfl, rfl, rfl⟩ | h2⟩ := hv
 ·omega
 exact h2
theorem owns_take {w : World} {b E tot : Nat} {c : List Value} (m : Nat) (h : Owns w b (.cells c E tot)) : Owns w b (.cells (c.take m) E tot) := by
 obtain ⟨C, h1, h2, h3⟩ := h
 refine ⟨C, h1, h2, ?_⟩
 rw [<- h3]
 simp [List.take_take]
theorem vtxs_eraseIdx (l : List Vtx) (i : Nat) : vtxs (l.eraseIdx i) = vtxs (l.take i) ++ vtxs (l.drop (i + 1)) := by rw [List.eraseIdx_eq_take_drop_succ, vtxs_app]
theorem vtxs_take (l : List Vtx) (i : Nat) (h : i <= l.length) : (vtxs l).take (i * 33) = vtxs (l.take i) := by
 have e : vtxs l = vtxs (l.take i) ++ vtxs (l.drop i) := by rw [<- vtxs_app, List.take_append_drop]
 have hl : (vtxs (l.take i)).length = i * 33 := by rw [vtxs_len, List.length_take, Nat.min_eq_left h]
 rw [e, List.take_append_of_le_length (by omega), List.take_of_length_le (by omega)]
theorem vtxs_drop (l : List Vtx) (i : Nat) (h : i <= l.length) : (vtxs l).drop (i * 33) = vtxs (l.drop i) := by
 have e : vtxs l = vtxs (l.take i) ++ vtxs (l.drop i) := by rw [<- vtxs_app, List.take_append_drop]
 have hl : (vtxs (l.take i)).length = i * 33 := by rw [vtxs_len, List.length_take, Nat.min_eq_left h]
 rw [e, List.drop_append_of_le_length (by omega), List.drop_eq_nil_of_le (by omega), List.nil_append]
theorem cut_rd {w0 : World} {S : SS} {r cap j : Nat} {l : List Vtx} (h : Rd w0 S (some ⟨r, 0, none⟩) (vtxs l)) (hj : j <= l.length) (hc : l.length <= cap) :
  ∃ a, (if cap = j then some (⟨r, 0, none⟩ : Addr) else (some (⟨r, 0, none⟩ : Addr)).map (·.add (j * 33))) = some a /\ ∀ (i : Nat) (u : Value), (vtxs (l.drop j))[i]? = some u -> Cell w0 S (a.add i) u := by
 by_cases e : cap = j
 ·have : l.drop j = [] := List.drop_eq_nil_of_le (by omega)
  rw [if_pos e, this]
  exact ⟨_, rfl, fun i u hi => by simp [vtxs] at hi⟩
 rw [if_neg e]
 refine ⟨_, rfl, fun i u hi => ?_⟩
 rw [addr_add_add]
 refine h.at ?_
 rw [<- vtxs_drop l j hj, List.getElem?_drop] at hi
 exact hi
theorem del_cells {l : List Vtx} {i : Nat} {Z : List Value} (hi : i < l.length) (hz : Z.length = 33) :
  (setAt (setAt (vtxs l) (i * 33) (vtxs (l.drop (i + 1)))) ((l.length - 1) * 33) Z).take ((l.length - 1) * 33) = vtxs (l.eraseIdx i) := by
 have h1 : i * 33 + (vtxs (l.drop (i + 1))).length = (l.length - 1) * 33 := by rw [vtxs_len, List.length_drop]; omega
 have h2 : (vtxs l).length = l.length * 33 := vtxs_len l
 have h3 : (setAt (vtxs l) (i * 33) (vtxs (l.drop (i + 1)))).length = l.length * 33 := by rw [setAt_length, h2]
 rw [setAt_eq _ _ _ (by rw [h3, hz]; omega), setAt_eq _ _ _ (by rw [h2]; omega), h1]
 have h4 : ((vtxs l).take (i * 33) ++ vtxs (l.drop (i + 1))).length = (l.length - 1) * 33 := by
  rw [List.length_append, List.length_take, h2, <- h1]
  omega
 rw [List.append_assoc, List.take_append_of_le_length (by rw [List.length_take, List.length_append, h4]; omega), List.take_take, Nat.min_self, List.take_append_of_le_length (by omega), List.take_of_length_le (by omega), vtxs_take _ _ (by omega), vtxs_eraseIdx]
theorem erase_idx {l : List Vtx} {v : Vtx} {k : Nat} (hk : idxZ (fun x => decide (v = x)) l = (k : Int)) : k < l.length /\ l.eraseIdx k = l.erase v := by
 unfold idxZ at hk
 split at hk
 ·rename_i j hj
  have : j = k := by omega
  subst this
  obtain ⟨h1, h2, h3⟩ := List.findIdx?_eq_some_iff_getElem.1 hj
  refine ⟨h1, ?_⟩
  have hv : l[j] = v := by
   have h4 : v = l[j] := by simpa using h2
   exact h4.symm
  have hn : ∀ i (hi : i < j), l[i]'(by omega) ≠ v := fun i hi e => by have := h3 i hi; simp [e] at this
  clear h2 h3 hj hk
  induction l generalizing j with
  | nil => simp at h1
  | cons a l ih =>
   cases j with
   | zero =>
    have : a = v := hv
    subst this
    simp
   | succ j =>
    have ha : a ≠ v := hn 0 (by omega)
    rw [List.eraseIdx_cons_succ, List.erase_cons_tail (by simpa using ha)]
    congr 1
    exact ih j (by simpa using h1) (by simpa using hv) fun i hi => hn (i + 1) (by omega)
 omega
theorem erase_no {l : List Vtx} {v : Vtx} (hk : idxZ (fun x => decide (v = x)) l < 0) : l.erase v = l := by
 unfold idxZ at hk
 split at hk
 ·omega
 rename_i h
 refine List.erase_of_not_mem fun hm => ?_
 have := List.findIdx?_eq_none_iff.1 h v hm
 simp at this
end Go.Proofs.Gr

namespace Go.Proofs.Gr
open Go.SL Go.RowKit Go.Proofs Go.GP
set_option maxHeartbeats 1000000
theorem strs_one (l : List ByteArray) : (strs l).all (·.oneCell') = true := by
 rw [List.all_eq_true]
 intro v hv
 obtain ⟨a, _, rfl⟩ := List.mem_map.1 hv
 rfl
theorem strs_len (l : List ByteArray) : (strs l).length = l.length := List.length_map _
theorem strs_some {w0 : World} {S : SS} {A : Option Addr} {l : List ByteArray} (h : Rd w0 S A (strs l)) (hk : 0 < l.length) : ∃ a, A = some a :=
 h.some (fun e => by have := strs_len l; rw [e] at this; simp at this; omega)
theorem clone_fc {w0 : World} {S : SS} {A : Option Addr} {c : Nat} {l : List Vtx} (hx : Rd w0 S A (vtxs l)) (hb : l.length <= 1000000000000) :
  FC Try.prog w0 51 [.slice A l.length c] S (fun v S' => ∃ seg, S' = seg :: S /\ SlV 32 33 v l.length (vtxs l) seg) := by
 refine FC.ofD Try.known51 (by simp) ?_
 unfold Try.pc51
 simp only [argT]
 refine PW.seqOps (OL.dp rfl (OL.nil (PW.k1 0 rfl ?_)))
 refine PW.seq fun K1 hK1 => ?_
 refine PW.seqOps (OL.dp rfl (OL.det trivial (Yields.slNil rfl) (OL.nil (PW.k2 0 4 rfl ?_))))
 refine PW.cond rfl (fun c4 => ?_) (fun c4 => ?_)
 ·try simp only [decide_eq_true_eq, decide_eq_false_iff_not, beq_iff_eq, bne_iff_ne, beq_eq_false_iff_ne, bne_eq_false_iff_eq, Bool.not_eq_true', Bool.not_eq_false', Bool.not_eq_true, ne_eq, Decidable.not_not] at c4
  refine PW.seqOps (OL.dp rfl (OL.nil (PW.k1 2 rfl (PW.ret ?_))))
  change (Exit.ret = Exit.normal ∨ Exit.ret = Exit.ret) /\ ∃ v, resV _ _ = some v /\ _
  obtain rfl : A = none := by cases A with
   | none => rfl
   | some a => simp at c4
  have hl : l = [] := by
   cases l with
   | nil => rfl
   | cons x l => obtain ⟨a, e⟩ := vtxs_some hx (by simp); cases e
  subst hl
  exact ⟨.inr rfl, _, rfl, _, Sub.nilL (Sub.refl _), [], rfl, SlV.nil 32 33⟩
 try simp only [decide_eq_true_eq, decide_eq_false_iff_not, beq_iff_eq, bne_iff_ne, beq_eq_false_iff_ne, bne_eq_false_iff_eq, Bool.not_eq_true', Bool.not_eq_false', Bool.not_eq_true, ne_eq, Decidable.not_not] at c4
 refine PW.skip ?_
 refine hK1 _ _ ?_
 refine PW.k1 0 rfl (PW.seqOps (OL.cons trivial OW.bsl0 ?_))
 rintro _ _ ⟨r5, rfl, rfl⟩
 refine OL.dp rfl ?_
 obtain ⟨a0, rfl⟩ : ∃ a, A = some a := by cases A with
  | none => simp at c4
  | some a => exact ⟨a, rfl⟩
 refine OL.cons trivial (OW.app (k := 0) (m := 0) (xs := []) rfl rfl (SlV.mk' (cap := 0) rfl (Nat.le_refl 0) (by decide)) rfl (vtxs_len l) (fun j u hj => hx.cons.at hj) (vtxs_one l) (by omega) (by unfold maxLen; omega)) ?_
 rintro v7 _ ⟨seg7, rfl, hsl7⟩
 change OL _ _ _ _ _ (seg7 :: S) _
 rw [Nat.zero_add, List.nil_append] at hsl7
 refine OL.dp rfl (OL.nil (PW.k1 2 rfl (PW.ret ?_)))
 change (Exit.ret = Exit.normal ∨ Exit.ret = Exit.ret) /\ ∃ v, resV _ _ = some v /\ _
 exact ⟨.inr rfl, _, rfl, _, Sub.refl _, _, rfl, hsl7⟩
theorem cloneS_fc {w0 : World} {S : SS} {A : Option Addr} {c : Nat} {l : List ByteArray} (hx : Rd w0 S A (strs l)) (hb : l.length <= 1000000000000) :
  FC Try.prog w0 57 [.slice A l.length c] S (fun v S' => ∃ seg, S' = seg :: S /\ SlV 9 1 v l.length (strs l) seg) := by
 refine FC.ofD Try.known57 (by simp) ?_
 unfold Try.pc57
 simp only [argT]
 refine PW.seqOps (OL.dp rfl (OL.nil (PW.k1 0 rfl ?_)))
 refine PW.seq fun K1 hK1 => ?_
 refine PW.seqOps (OL.dp rfl (OL.det trivial (Yields.slNil rfl) (OL.nil (PW.k2 0 4 rfl ?_))))
 refine PW.cond rfl (fun c4 => ?_) (fun c4 => ?_)
 ·try simp only [decide_eq_true_eq, decide_eq_false_iff_not, beq_iff_eq, bne_iff_ne, beq_eq_false_iff_ne, bne_eq_false_iff_eq, Bool.not_eq_true', Bool.not_eq_false', Bool.not_eq_true, ne_eq, Decidable.not_not] at c4
  refine PW.seqOps (OL.dp rfl (OL.nil (PW.k1 2 rfl (PW.ret ?_))))
  change (Exit.ret = Exit.normal ∨ Exit.ret = Exit.ret) /\ ∃ v, resV _ _ = some v /\ _
  obtain rfl : A = none := by cases A with
   | none => rfl
   | some a => simp at c4
  have hl : l = [] := by
   cases l with
   | nil => rfl
   | cons x l => obtain ⟨a, e⟩ := strs_some hx (by simp); cases e
  subst hl
  exact ⟨.inr rfl, _, rfl, _, Sub.nilL (Sub.refl _), [], rfl, SlV.nil 9 1⟩
 try simp only [decide_eq_true_eq, decide_eq_false_iff_not, beq_iff_eq, bne_iff_ne, beq_eq_false_iff_ne, bne_eq_false_iff_eq, Bool.not_eq_true', Bool.not_eq_false', Bool.not_eq_true, ne_eq, Decidable.not_not] at c4
 refine PW.skip ?_
 refine hK1 _ _ ?_
 refine PW.k1 0 rfl (PW.seqOps (OL.cons trivial OW.bsl0 ?_))
 rintro _ _ ⟨r5, rfl, rfl⟩
 refine OL.dp rfl ?_
 obtain ⟨a0, rfl⟩ : ∃ a, A = some a := by cases A with
  | none => simp at c4
  | some a => exact ⟨a, rfl⟩
 refine OL.cons trivial (OW.app (k := 0) (m := 0) (xs := []) rfl rfl (SlV.mk' (cap := 0) rfl (Nat.le_refl 0) (by decide)) rfl ((strs_len l).trans (Nat.mul_one _).symm) (fun j u hj => hx.cons.at hj) (strs_one l) (by omega) (by unfold maxLen; omega)) ?_
 rintro v7 _ ⟨seg7, rfl, hsl7⟩
 change OL _ _ _ _ _ (seg7 :: S) _
 rw [Nat.zero_add, List.nil_append] at hsl7
 refine OL.dp rfl (OL.nil (PW.k1 2 rfl (PW.ret ?_)))
 change (Exit.ret = Exit.normal ∨ Exit.ret = Exit.ret) /\ ∃ v, resV _ _ = some v /\ _
 exact ⟨.inr rfl, _, rfl, _, Sub.refl _, _, rfl, hsl7⟩
theorem delete_fc {w0 : World} {S : SS} {r cap i : Nat} {l : List Vtx} (hi : i < l.length) (hc : l.length <= cap) (hm : cap <= maxLen) (hb : l.length <= 1000000000000) :
  FC Try.prog w0 111 [.slice (some ⟨r, 0, none⟩) l.length cap, .int .i64 (i : Int), .int .i64 ((i : Int) + 1)] ([(r, .cells (vtxs l) 32 (cap * 33))] :: S) (fun v S' => ∃ seg, S' = seg :: S /\ SlV 32 33 v (l.length - 1) (vtxs (l.eraseIdx i)) seg) := by
 obtain ⟨z, hz1, hz2⟩ : ∃ z, Try.prog.info? 32 = some z /\ z.size = 33 := Option.map_eq_some_iff.1 (show (Try.prog.info? 32).map (·.size) = some 33 by kernel_rfl)
 have hrd : Rd w0 ([(r, .cells (vtxs l) 32 (cap * 33))] :: S) (some ⟨r, 0, none⟩) (vtxs l) := Rd.own (E := 32) (tot := cap * 33) (by simp)
 obtain ⟨a2, ha2, hrd2⟩ := cut_rd hrd (show i + 1 <= l.length by omega) hc
 have hn33 : (vtxs (l.drop (i + 1))).length = (l.length - (i + 1)) * 33 := by rw [vtxs_len, List.length_drop]
 refine FC.of Try.known111 (by simp) ?_
 unfold Try.pc111
 simp only [argT]
 refine PW.seqOps (OL.dp rfl (OL.nil (PW.k3 0 1 2 rfl (PW.seqOps (OL.dp rfl (OL.dp rfl (OL.dp rfl (OL.dp rfl (OL.dp rfl ?_)))))))))
 refine OL.det trivial (Yields.sl3 (l := i) (h := i + 1) (m := l.length) (A := some ⟨r, 0, none⟩) (cap := cap) (len := l.length) Try.underlying34 hz1 hz2 rfl rfl rfl rfl (by omega) (by omega) hc) ?_
 refine OL.nil (PW.k3 0 1 2 rfl ?_)
 refine PW.seq fun K1 hK1 => ?_
 refine PW.seqOps (OL.dp rfl (OL.dp rfl ?_))
 refine OL.det trivial (.to (v' := .bool false) (Yields.pure rfl) (congrArg Value.bool (decide_eq_false (by omega)))) ?_
 refine OL.nil (PW.k4 0 1 2 16 rfl (PW.ite (b := false) rfl ?_))
 rw [if_neg Bool.false_ne_true]
 refine PW.skip ?_
 refine hK1 _ _ ?_
 refine PW.k3 0 1 2 rfl (PW.seqOps (OL.dp rfl (OL.dp rfl (OL.dp rfl (OL.nil (PW.k4 0 1 2 7 rfl ?_))))))
 refine PW.seq fun K2 hK2 => ?_
 refine PW.quietK Try.mixed (QK.dp rfl (QK.dp rfl ?_))
 refine QK.det trivial (.to (v' := .slice (some ⟨r, 0, none⟩) i cap) (Yields.slS (A := some ⟨r, 0, none⟩) (len := l.length) (cap := cap) (l := 0) (h := i) rfl rfl rfl (.inr ⟨rfl, rfl⟩) (.inl rfl) (by omega) (by omega)) (cutV0 _ _ _ _)) ?_
 refine QK.dp rfl (QK.dp rfl ?_)
 refine QK.det trivial (.to (v' := .slice (some a2) (l.length - (i + 1)) (cap - (i + 1))) (Yields.slS (A := some ⟨r, 0, none⟩) (len := l.length) (cap := cap) (l := i + 1) (h := l.length) rfl rfl rfl (.inl rfl) (.inr ⟨rfl, rfl⟩) (by omega) (by omega)) (by unfold cutV; rw [ha2])) ?_
 refine QK.nil ?_
 change OL _ _ _ [_, _] _ _ _
 refine OL.cons trivial (OW.appIn (k := 0) (c := vtxs l) (news := vtxs (l.drop (i + 1))) rfl rfl rfl hn33 hrd2 (vtxs_one _) (by omega) (by rw [hn33, vtxs_len]; omega)) ?_
 rintro _ _ ⟨rfl, rfl⟩
 have hlen1 : i + (l.length - (i + 1)) = l.length - 1 := by omega
 rw [hlen1]
 refine OL.dp rfl (OL.nil ?_)
 refine hK2 _ _ ?_
 refine PW.k2 0 7 rfl (PW.seqOps (OL.dp rfl (OL.dp rfl (OL.dp rfl (OL.dp rfl ?_)))))
 refine OL.det trivial (.to (v' := .slice (some ⟨r, (l.length - 1) * 33, none⟩) 1 (cap - (l.length - 1))) (Yields.slS (A := some ⟨r, 0, none⟩) (len := l.length - 1) (cap := cap) (l := l.length - 1) (h := l.length) rfl rfl rfl (.inl rfl) (.inl rfl) (by omega) (by omega)) (by unfold cutV; rw [if_neg (by omega)]; simp [Addr.add_lit]; omega)) ?_
 refine OL.cons trivial (OW.clr (k := 0) (c := setAt (vtxs l) (i * 33) (vtxs (l.drop (i + 1)))) (news := vtxL v0) rfl rfl (by omega) (by decide) (by kernel_rfl) (by rw [setAt_length, vtxs_len, vtxL_len]; omega) (vtxL_one _)) ?_
 rintro _ _ ⟨rfl, rfl⟩
 refine OL.nil (PW.k1 0 rfl (PW.seqOps ?_))
 refine OL.tell (k := 0) rfl (fun w h => owns_take ((l.length - 1) * 33) h) ?_
 change OL _ _ _ _ _ ([(r, .cells ((setAt (setAt (vtxs l) (i * 33) (vtxs (l.drop (i + 1)))) ((l.length - 1) * 33) (vtxL v0)).take ((l.length - 1) * 33)) 32 (cap * 33))] :: S) _
 rw [del_cells hi (vtxL_len _)]
 refine OL.det trivial (.pure rfl) (OL.dp rfl (OL.nil (PW.k1 6 rfl (PW.ret ?_))))
 change (Exit.ret = Exit.normal ∨ Exit.ret = Exit.ret) /\ ∃ v, resV _ _ = some v /\ _
 exact ⟨.inr rfl, _, rfl, _, rfl, SlV.mk' (by rw [vtxs_len, List.length_eraseIdx, if_pos hi]) (by omega) hm⟩
theorem Sub.join3 {a b c d e : Seg} {S : SS} : Sub (a :: b :: c :: (d ++ e) :: S) (a :: b :: c :: d :: e :: S) := Sub.cons (Sub.cons (Sub.cons Sub.join))
theorem plN_mpt_gr {m : GrM} {a : Vtx} {n : NodeM} {seg : Seg} {k : Nat} : GrM.gr { m with nodes := mpt m.nodes a n, junk := m.junk ++ seg, lim := m.lim + k } = { m.gr with nodes := mpt m.gr.nodes a n.pl } := by
 unfold GrM.gr
 simp only [mpt_plN]
theorem okV_append {l : List Vtx} {b : Vtx} (h : ∀ v ∈ l, okV v) (hb : okV b) : ∀ v ∈ l ++ [b], okV v := fun v hv => by
 rcases List.mem_append.1 hv with h1 | h1
 ·exact h v h1
 rw [List.mem_singleton.1 h1]; exact hb
theorem link_fc {w0 : World} {S X : SS} {m : GrM} (hm : GOk w0 X m) (hX : Over X S) {a b : Vtx} (ha : okV a) (hb : okV b) (t : Bool) (hlim : m.lim + 1 <= 1000000000000) :
  FC Try.prog w0 87 [m.ptr, vtxV a, vtxV b, .bool t] (GS m ++ S) (fun v S' => v = .tuple #[] /\ ∃ m', S' = GS m' ++ S /\ GOk w0 X m' /\ m'.gr = linkG t m.gr (a, b) /\ m'.r = m.r /\ m'.lim = m.lim + 1 /\ ∀ x ∈ m.junk, x ∈ m'.junk) := by
 obtain ⟨z, hz1, hz2⟩ := zero100
 have hS : Over (GS m ++ X) (GS m ++ S) := Over.both hX
 obtain ⟨hb1, hb2, hb3⟩ := behA_ok hm a
 have hbl : ((behA m a).2.2).length <= 1000000000000 := by have := hm.lim; omega
 refine FC.ofD Try.known87 (by simp) ?_
 unfold Try.pc87
 simp only [argT]
 refine PW.seqOps (OL.cons trivial (OW.bx rfl) ?_)
 rintro _ _ ⟨r5, rfl, rfl⟩
 rw [vtx_box, vtxL_len]
 refine OL.cons trivial (OW.bx rfl) ?_
 rintro _ _ ⟨r6, rfl, rfl⟩
 rw [vtx_box, vtxL_len]
 refine OL.nil (PW.k4 0 3 5 6 rfl (PW.seqOps (OL.dp rfl (OL.det trivial (.ldA rfl (vtxL_len _) (all_at zM1)) (OL.call trivial rfl (behind_fc hm hS.cons.cons ha) ?_)))))
 rintro _ Sx ⟨rfl, hSx⟩
 rw [hSx]
 clear hSx
 refine OL.call trivial rfl (clone_fc (hb1.junk hS.cons.cons) hbl) ?_
 rintro v14 _ ⟨seg14, rfl, hs14⟩
 obtain ⟨A14, c14, rfl, -, -, hr14⟩ := slv_rdL (w0 := w0) hs14
 refine OL.dp rfl (OL.nil (PW.k5 0 3 5 6 8 rfl ?_))
 refine PW.seq fun K1 hK1 => ?_
 refine PW.seqOps (OL.dp rfl (OL.nil (PW.k5 0 5 6 8 15 rfl ?_)))
 refine PW.cond rfl (fun c15 => ?_) (fun c15 => ?_)
 ·try simp only [cvS] at c15
  refine PW.ops (OL.dp rfl (OL.det trivial (.ldA rfl (vtxL_len _) (all_at zM1)) ?_))
  apply OL.app1 (k := 0)
  ·rfl
  ·rfl
  ·exact (List.size_toArray).trans (vtxL_len _)
  ·rfl
  ·rfl
  ·rfl
  ·exact hs14
  ·exact vtxL_one b
  ·omega
  ·unfold maxLen; omega
  intro v19 seg19 hs19
  change OL _ _ _ _ _ (seg19 :: vseg r6 b :: vseg r5 a :: (GS m ++ S)) _
  change SlV 32 33 v19 (_ + 1) (vtxs _ ++ vtxL b) seg19 at hs19
  rw [<- vtxs_one1, <- vtxs_app] at hs19
  obtain ⟨nx, hnx0⟩ : ∃ z, z = (behA m a).2.2 ++ [b] := ⟨_, rfl⟩
  have hnx : nx = if t = true then behindG m.gr a ++ [b] else (behindG m.gr a).erase b := by rw [hnx0]; rw [if_pos c15, behA_gr]
  have hnlen : nx.length <= m.lim + 1 := by rw [hnx0]; simp; omega
  have hnok : ∀ v ∈ nx, okV v := by rw [hnx0]; exact okV_append hb2 hb
  obtain ⟨sgn, hsg0⟩ : ∃ z : Seg, z = seg19 := ⟨_, rfl⟩
  obtain ⟨vn, hvn0⟩ : ∃ z : Value, z = v19 := ⟨_, rfl⟩
  have hsn : SlV 32 33 vn nx.length (vtxs nx) sgn := by rw [hnx0, hsg0, hvn0]; rw [List.length_append]; exact hs19
  rw [<- hsg0, <- hvn0]
  clear hsg0 hvn0 hnx0
  obtain ⟨An, cn, rfl, -, -, hrdn⟩ := slv_rdL (w0 := w0) hsn
  have hS2 : Over (GS m ++ X) (sgn :: vseg r6 b :: vseg r5 a :: (GS m ++ S)) := hS.cons.cons.cons
  refine OL.dp rfl (OL.nil ?_)
  refine hK1 _ _ ?_
  refine PW.k3 0 5 8 rfl ?_
  refine PW.seq fun K2 hK2 => ?_
  refine PW.seq fun K3 hK3 => ?_
  refine PW.quietK Try.mixed (QK.det trivial (.ldA rfl (vtxL_len _) (all_at zM2)) (QK.call trivial rfl (root_fc) (QK.nil ?_)))
  change OL _ _ _ [_] _ _ _
  refine OL.det trivial (.eqD (neg := false) rfl rfl (eqL_vtx _ _)) (OL.nil ?_)
  refine hK3 _ _ ?_
  refine PW.k4 0 5 8 32 rfl ?_
  refine PW.cond rfl (fun c32 => ?_) (fun c32 => ?_)
  ·try simp only [cvS] at c32
   refine PW.seqOps (OL.dp rfl (OL.dp rfl (OL.det trivial (Yields.nilc rfl) (OL.dp rfl (OL.cons trivial (OW.st (k := 3) (c := m.cells) (u := .slice An nx.length cn) rfl rfl rfl rfl (Nat.le_refl 4) rfl) ?_)))))
   rintro _ _ rfl
   refine OL.nil (PW.keep (T' := []) trivial (PW.ret ?_))
   change (Exit.ret = Exit.normal ∨ Exit.ret = Exit.ret) /\ ∃ v, resV _ _ = some v /\ _
   refine ⟨.inr rfl, _, rfl, _, (Sub.join3).trans (Sub.sel [3, 4, 5, 6, 0] 7 (by decide) _), rfl, { m with FA := An, fc := cn, first := nx, junk := m.junk ++ sgn, lim := m.lim + 1 }, rfl, hm.first' (hrdn []).junkL hnok hnlen hlim, ?_, rfl, rfl, fun x hx => List.mem_append_left _ hx⟩
   show _ = if a = rootV then { m.gr with first := if t = true then behindG m.gr a ++ [b] else (behindG m.gr a).erase b } else _
   rw [if_pos c32, <- hnx]
   rfl
  try simp only [cvS] at c32
  refine PW.skip ?_
  refine hK2 _ _ ?_
  refine PW.k3 0 5 8 rfl ?_
  refine PW.seq fun K4 hK4 => ?_
  refine PW.quietG (Ss := Over _) (fr := true) [(0, 0), (1, 0), (2, 0), (3, 0), (4, 0), (5, 0), (6, 3)] Try.mixed (by decide +kernel) (Over.refl _) (fun _ _ _ h => h.cons) ?_
  refine GL.dp rfl ?_
  refine GL.det trivial (fun Sx hSx => Yields.nilc rfl) ?_
  refine GL.dp rfl ?_
  refine GL.det trivial (fun Sx hSx => Yields.ld rfl (g_nodes (hS2.trans hSx))) ?_
  refine GL.det trivial (fun Sx hSx => Yields.ldA rfl (vtxL_len _) (all_at (c := vtxL a) (E := 32) (tot := 33) (hSx _ zM2))) ?_
  refine GL.det trivial (fun Sx hSx => Yields.lookG (okc := false) (a := a) Try.underlying55 hz1 hz2 keys32 hm.nk ha rfl rfl (GS_mem (hS2.trans hSx)).2.2.1) ?_
  refine GL.fresh trivial fun r10 => ?_
  change OL _ _ _ _ _ ([(r10, .cells [.string ⟨#[]⟩, .int .i64 0, .int .i64 0, .slice none 0 0] 100 4)] :: sgn :: vseg r6 b :: vseg r5 a :: (GS m ++ S)) _
  change OL _ _ _ [_] _ _ _
  refine OL.cons trivial (node_st rfl rfl _ _ _ _) ?_
  rintro _ _ rfl
  obtain ⟨n0, hn0⟩ : ∃ z, z = (mgt m.nodes a).getD zM := ⟨_, rfl⟩
  rw [<- hn0]
  refine OL.nil ?_
  refine hK4 _ _ ?_
  refine PW.k4 0 5 8 10 rfl (PW.seqOps (OL.dp rfl (OL.dp rfl (OL.cons trivial (OW.st (k := 0) (c := nodeC n0) (u := .slice An nx.length cn) rfl rfl rfl rfl (Nat.le_refl 4) rfl) ?_))))
  rintro _ _ rfl
  obtain ⟨n2, hn2⟩ : ∃ z : NodeM, z = { n0 with A := An, c := cn, next := nx } := ⟨_, rfl⟩
  change OL _ _ _ _ _ ([(r10, .cells (nodeC { n0 with A := An, c := cn, next := nx }) 100 4)] :: sgn :: vseg r6 b :: vseg r5 a :: (GS m ++ S)) _
  rw [<- hn2]
  refine OL.nil (PW.k3 0 5 10 rfl (PW.quietK Try.mixed (QK.dp rfl (QK.det trivial (Yields.nilc rfl) (QK.dp rfl (QK.det trivial (.ld rfl (g_nodes hS2.cons)) (QK.det trivial (.ldA rfl (vtxL_len _) (all_at (c := vtxL a) (E := 32) (tot := 33) zM3)) (QK.det trivial (.ldA rfl (cs := nodeC n2) rfl (all_at (c := nodeC n2) (E := 100) (tot := 4) zM0)) (QK.nil ?_)))))))))
  change OL _ _ _ [_] _ _ _
  refine OL.cons trivial (OW.updG (j := 6) (v := n2) Try.underlying55 keys32 hm.nk ha rfl rfl rfl rfl) ?_
  rintro _ _ rfl
  refine OL.nil ?_
  change (Exit.normal = Exit.normal ∨ Exit.normal = Exit.ret) /\ ∃ v, resV _ _ = some v /\ _
  have hn0k := getD_ok hm a
  rw [<- hn0] at hn0k
  refine ⟨.inl rfl, _, rfl, _, (Sub.join3).trans (Sub.sel [4, 5, 6, 7, 1] 8 (by decide) _), rfl, { m with nodes := mpt m.nodes a n2, junk := m.junk ++ sgn, lim := m.lim + 1 }, rfl, hm.node' ha ?_ hlim, ?_, rfl, rfl, fun x hx => List.mem_append_left _ hx⟩
  ·rw [hn2]
   exact ⟨(hrdn []).junkL, hnok, hnlen, (hn0k.grow (b := sgn) (Nat.le_add_right _ 1)).gone, (hn0k.grow (b := sgn) (Nat.le_add_right _ 1)).named⟩
  rw [plN_mpt_gr]
  show _ = if a = rootV then _ else { m.gr with nodes := mpt m.gr.nodes a { nd m.gr.nodes a with next := if t = true then behindG m.gr a ++ [b] else (behindG m.gr a).erase b } }
  rw [if_neg c32, <- hnx, hn2]
  show _ = { m.gr with nodes := mpt m.gr.nodes a { nd (plN m.nodes) a with next := nx } }
  rw [nd_plN, <- hn0]
  rfl
 try simp only [cvS] at c15
 refine PW.seqOps (OL.dp rfl (OL.det trivial (.ldA rfl (vtxL_len _) (all_at zM1)) (OL.call trivial rfl (index_fc (l := (behA m a).2.2) (hr14 _) hbl) ?_)))
 rintro _ Sx ⟨rfl, hSx⟩
 rw [hSx]
 clear hSx
 refine OL.dp rfl (OL.nil (PW.k4 0 5 8 9 rfl (PW.seqOps (OL.dp rfl (OL.dp rfl (OL.nil (PW.k5 0 5 8 9 24 rfl ?_)))))))
 refine PW.cond rfl (fun c24 => ?_) (fun c24 => ?_)
 ·try simp only [cvS] at c24
  obtain ⟨k, hk⟩ := Int.eq_ofNat_of_zero_le c24
  rw [hk]
  obtain ⟨hkl, hke⟩ := erase_idx hk
  obtain ⟨r14, cap14, e14, rfl, hc14, hm14⟩ := slv_own hs14 (by omega)
  simp only [Value.slice.injEq, true_and] at e14
  obtain ⟨rfl, rfl⟩ := e14
  refine PW.ops (OL.dp rfl (OL.dp rfl (OL.dp rfl ?_)))
  refine OL.det trivial (.add64 rfl rfl (by omega) (by omega)) ?_
  refine OL.call trivial rfl (delete_fc hkl hc14 hm14 hbl) ?_
  rintro v29 _ ⟨seg29, rfl, hs29⟩
  obtain ⟨nx, hnx0⟩ : ∃ z, z = (behA m a).2.2.eraseIdx k := ⟨_, rfl⟩
  have hnx : nx = if t = true then behindG m.gr a ++ [b] else (behindG m.gr a).erase b := by rw [hnx0]; rw [if_neg (by rw [c15]; simp), <- behA_gr, hke]
  have hnlen : nx.length <= m.lim + 1 := by rw [hnx0]; rw [List.length_eraseIdx, if_pos hkl]; omega
  have hnok : ∀ v ∈ nx, okV v := by rw [hnx0]; exact fun v hv => hb2 v (List.mem_of_mem_eraseIdx hv)
  obtain ⟨sgn, hsg0⟩ : ∃ z : Seg, z = seg29 := ⟨_, rfl⟩
  obtain ⟨vn, hvn0⟩ : ∃ z : Value, z = v29 := ⟨_, rfl⟩
  have hsn : SlV 32 33 vn nx.length (vtxs nx) sgn := by rw [hnx0, hsg0, hvn0]; rw [List.length_eraseIdx, if_pos hkl]; exact hs29
  rw [<- hsg0, <- hvn0]
  clear hsg0 hvn0 hnx0
  obtain ⟨An, cn, rfl, -, -, hrdn⟩ := slv_rdL (w0 := w0) hsn
  have hS2 : Over (GS m ++ X) (sgn :: vseg r6 b :: vseg r5 a :: (GS m ++ S)) := hS.cons.cons.cons
  refine OL.dp rfl (OL.nil ?_)
  refine hK1 _ _ ?_
  refine PW.k3 0 5 8 rfl ?_
  refine PW.seq fun K5 hK5 => ?_
  refine PW.seq fun K6 hK6 => ?_
  refine PW.quietK Try.mixed (QK.det trivial (.ldA rfl (vtxL_len _) (all_at zM2)) (QK.call trivial rfl (root_fc) (QK.nil ?_)))
  change OL _ _ _ [_] _ _ _
  refine OL.det trivial (.eqD (neg := false) rfl rfl (eqL_vtx _ _)) (OL.nil ?_)
  refine hK6 _ _ ?_
  refine PW.k4 0 5 8 32 rfl ?_
  refine PW.cond rfl (fun c32 => ?_) (fun c32 => ?_)
  ·try simp only [cvS] at c32
   refine PW.seqOps (OL.dp rfl (OL.dp rfl (OL.det trivial (Yields.nilc rfl) (OL.dp rfl (OL.cons trivial (OW.st (k := 3) (c := m.cells) (u := .slice An nx.length cn) rfl rfl rfl rfl (Nat.le_refl 4) rfl) ?_)))))
   rintro _ _ rfl
   refine OL.nil (PW.keep (T' := []) trivial (PW.ret ?_))
   change (Exit.ret = Exit.normal ∨ Exit.ret = Exit.ret) /\ ∃ v, resV _ _ = some v /\ _
   refine ⟨.inr rfl, _, rfl, _, (Sub.join3).trans (Sub.sel [3, 4, 5, 6, 0] 7 (by decide) _), rfl, { m with FA := An, fc := cn, first := nx, junk := m.junk ++ sgn, lim := m.lim + 1 }, rfl, hm.first' (hrdn []).junkL hnok hnlen hlim, ?_, rfl, rfl, fun x hx => List.mem_append_left _ hx⟩
   show _ = if a = rootV then { m.gr with first := if t = true then behindG m.gr a ++ [b] else (behindG m.gr a).erase b } else _
   rw [if_pos c32, <- hnx]
   rfl
  try simp only [cvS] at c32
  refine PW.skip ?_
  refine hK5 _ _ ?_
  refine PW.k3 0 5 8 rfl ?_
  refine PW.seq fun K7 hK7 => ?_
  refine PW.quietG (Ss := Over _) (fr := true) [(0, 0), (1, 0), (2, 0), (3, 0), (4, 0), (5, 0), (6, 3)] Try.mixed (by decide +kernel) (Over.refl _) (fun _ _ _ h => h.cons) ?_
  refine GL.dp rfl ?_
  refine GL.det trivial (fun Sx hSx => Yields.nilc rfl) ?_
  refine GL.dp rfl ?_
  refine GL.det trivial (fun Sx hSx => Yields.ld rfl (g_nodes (hS2.trans hSx))) ?_
  refine GL.det trivial (fun Sx hSx => Yields.ldA rfl (vtxL_len _) (all_at (c := vtxL a) (E := 32) (tot := 33) (hSx _ zM2))) ?_
  refine GL.det trivial (fun Sx hSx => Yields.lookG (okc := false) (a := a) Try.underlying55 hz1 hz2 keys32 hm.nk ha rfl rfl (GS_mem (hS2.trans hSx)).2.2.1) ?_
  refine GL.fresh trivial fun r10 => ?_
  change OL _ _ _ _ _ ([(r10, .cells [.string ⟨#[]⟩, .int .i64 0, .int .i64 0, .slice none 0 0] 100 4)] :: sgn :: vseg r6 b :: vseg r5 a :: (GS m ++ S)) _
  change OL _ _ _ [_] _ _ _
  refine OL.cons trivial (node_st rfl rfl _ _ _ _) ?_
  rintro _ _ rfl
  obtain ⟨n0, hn0⟩ : ∃ z, z = (mgt m.nodes a).getD zM := ⟨_, rfl⟩
  rw [<- hn0]
  refine OL.nil ?_
  refine hK7 _ _ ?_
  refine PW.k4 0 5 8 10 rfl (PW.seqOps (OL.dp rfl (OL.dp rfl (OL.cons trivial (OW.st (k := 0) (c := nodeC n0) (u := .slice An nx.length cn) rfl rfl rfl rfl (Nat.le_refl 4) rfl) ?_))))
  rintro _ _ rfl
  obtain ⟨n2, hn2⟩ : ∃ z : NodeM, z = { n0 with A := An, c := cn, next := nx } := ⟨_, rfl⟩
  change OL _ _ _ _ _ ([(r10, .cells (nodeC { n0 with A := An, c := cn, next := nx }) 100 4)] :: sgn :: vseg r6 b :: vseg r5 a :: (GS m ++ S)) _
  rw [<- hn2]
  refine OL.nil (PW.k3 0 5 10 rfl (PW.quietK Try.mixed (QK.dp rfl (QK.det trivial (Yields.nilc rfl) (QK.dp rfl (QK.det trivial (.ld rfl (g_nodes hS2.cons)) (QK.det trivial (.ldA rfl (vtxL_len _) (all_at (c := vtxL a) (E := 32) (tot := 33) zM3)) (QK.det trivial (.ldA rfl (cs := nodeC n2) rfl (all_at (c := nodeC n2) (E := 100) (tot := 4) zM0)) (QK.nil ?_)))))))))
  change OL _ _ _ [_] _ _ _
  refine OL.cons trivial (OW.updG (j := 6) (v := n2) Try.underlying55 keys32 hm.nk ha rfl rfl rfl rfl) ?_
  rintro _ _ rfl
  refine OL.nil ?_
  change (Exit.normal = Exit.normal ∨ Exit.normal = Exit.ret) /\ ∃ v, resV _ _ = some v /\ _
  have hn0k := getD_ok hm a
  rw [<- hn0] at hn0k
  refine ⟨.inl rfl, _, rfl, _, (Sub.join3).trans (Sub.sel [4, 5, 6, 7, 1] 8 (by decide) _), rfl, { m with nodes := mpt m.nodes a n2, junk := m.junk ++ sgn, lim := m.lim + 1 }, rfl, hm.node' ha ?_ hlim, ?_, rfl, rfl, fun x hx => List.mem_append_left _ hx⟩
  ·rw [hn2]
   exact ⟨(hrdn []).junkL, hnok, hnlen, (hn0k.grow (b := sgn) (Nat.le_add_right _ 1)).gone, (hn0k.grow (b := sgn) (Nat.le_add_right _ 1)).named⟩
  rw [plN_mpt_gr]
  show _ = if a = rootV then _ else { m.gr with nodes := mpt m.gr.nodes a { nd m.gr.nodes a with next := if t = true then behindG m.gr a ++ [b] else (behindG m.gr a).erase b } }
  rw [if_neg c32, <- hnx, hn2]
  show _ = { m.gr with nodes := mpt m.gr.nodes a { nd (plN m.nodes) a with next := nx } }
  rw [nd_plN, <- hn0]
  rfl
 try simp only [cvS] at c24
 obtain ⟨nx, hnx0⟩ : ∃ z, z = (behA m a).2.2 := ⟨_, rfl⟩
 have hnx : nx = if t = true then behindG m.gr a ++ [b] else (behindG m.gr a).erase b := by rw [hnx0]; rw [if_neg (by rw [c15]; simp), <- behA_gr, erase_no (by omega)]
 have hnlen : nx.length <= m.lim + 1 := by rw [hnx0]; omega
 have hnok : ∀ v ∈ nx, okV v := by rw [hnx0]; exact hb2
 obtain ⟨sgn, hsg0⟩ : ∃ z : Seg, z = seg14 := ⟨_, rfl⟩
 obtain ⟨vn, hvn0⟩ : ∃ z : Value, z = .slice A14 (behA m a).2.2.length c14 := ⟨_, rfl⟩
 have hsn : SlV 32 33 vn nx.length (vtxs nx) sgn := by rw [hnx0, hsg0, hvn0]; exact hs14
 rw [<- hsg0, <- hvn0]
 clear hsg0 hvn0 hnx0
 obtain ⟨An, cn, rfl, -, -, hrdn⟩ := slv_rdL (w0 := w0) hsn
 have hS2 : Over (GS m ++ X) (sgn :: vseg r6 b :: vseg r5 a :: (GS m ++ S)) := hS.cons.cons.cons
 refine PW.skip ?_
 refine hK1 _ _ ?_
 refine PW.k3 0 5 8 rfl ?_
 refine PW.seq fun K8 hK8 => ?_
 refine PW.seq fun K9 hK9 => ?_
 refine PW.quietK Try.mixed (QK.det trivial (.ldA rfl (vtxL_len _) (all_at zM2)) (QK.call trivial rfl (root_fc) (QK.nil ?_)))
 change OL _ _ _ [_] _ _ _
 refine OL.det trivial (.eqD (neg := false) rfl rfl (eqL_vtx _ _)) (OL.nil ?_)
 refine hK9 _ _ ?_
 refine PW.k4 0 5 8 32 rfl ?_
 refine PW.cond rfl (fun c32 => ?_) (fun c32 => ?_)
 ·try simp only [cvS] at c32
  refine PW.seqOps (OL.dp rfl (OL.dp rfl (OL.det trivial (Yields.nilc rfl) (OL.dp rfl (OL.cons trivial (OW.st (k := 3) (c := m.cells) (u := .slice An nx.length cn) rfl rfl rfl rfl (Nat.le_refl 4) rfl) ?_)))))
  rintro _ _ rfl
  refine OL.nil (PW.keep (T' := []) trivial (PW.ret ?_))
  change (Exit.ret = Exit.normal ∨ Exit.ret = Exit.ret) /\ ∃ v, resV _ _ = some v /\ _
  refine ⟨.inr rfl, _, rfl, _, (Sub.join3).trans (Sub.sel [3, 4, 5, 6, 0] 7 (by decide) _), rfl, { m with FA := An, fc := cn, first := nx, junk := m.junk ++ sgn, lim := m.lim + 1 }, rfl, hm.first' (hrdn []).junkL hnok hnlen hlim, ?_, rfl, rfl, fun x hx => List.mem_append_left _ hx⟩
  show _ = if a = rootV then { m.gr with first := if t = true then behindG m.gr a ++ [b] else (behindG m.gr a).erase b } else _
  rw [if_pos c32, <- hnx]
  rfl
 try simp only [cvS] at c32
 refine PW.skip ?_
 refine hK8 _ _ ?_
 refine PW.k3 0 5 8 rfl ?_
 refine PW.seq fun K10 hK10 => ?_
 refine PW.quietG (Ss := Over _) (fr := true) [(0, 0), (1, 0), (2, 0), (3, 0), (4, 0), (5, 0), (6, 3)] Try.mixed (by decide +kernel) (Over.refl _) (fun _ _ _ h => h.cons) ?_
 refine GL.dp rfl ?_
 refine GL.det trivial (fun Sx hSx => Yields.nilc rfl) ?_
 refine GL.dp rfl ?_
 refine GL.det trivial (fun Sx hSx => Yields.ld rfl (g_nodes (hS2.trans hSx))) ?_
 refine GL.det trivial (fun Sx hSx => Yields.ldA rfl (vtxL_len _) (all_at (c := vtxL a) (E := 32) (tot := 33) (hSx _ zM2))) ?_
 refine GL.det trivial (fun Sx hSx => Yields.lookG (okc := false) (a := a) Try.underlying55 hz1 hz2 keys32 hm.nk ha rfl rfl (GS_mem (hS2.trans hSx)).2.2.1) ?_
 refine GL.fresh trivial fun r10 => ?_
 change OL _ _ _ _ _ ([(r10, .cells [.string ⟨#[]⟩, .int .i64 0, .int .i64 0, .slice none 0 0] 100 4)] :: sgn :: vseg r6 b :: vseg r5 a :: (GS m ++ S)) _
 change OL _ _ _ [_] _ _ _
 refine OL.cons trivial (node_st rfl rfl _ _ _ _) ?_
 rintro _ _ rfl
 obtain ⟨n0, hn0⟩ : ∃ z, z = (mgt m.nodes a).getD zM := ⟨_, rfl⟩
 rw [<- hn0]
 refine OL.nil ?_
 refine hK10 _ _ ?_
 refine PW.k4 0 5 8 10 rfl (PW.seqOps (OL.dp rfl (OL.dp rfl (OL.cons trivial (OW.st (k := 0) (c := nodeC n0) (u := .slice An nx.length cn) rfl rfl rfl rfl (Nat.le_refl 4) rfl) ?_))))
 rintro _ _ rfl
 obtain ⟨n2, hn2⟩ : ∃ z : NodeM, z = { n0 with A := An, c := cn, next := nx } := ⟨_, rfl⟩
 change OL _ _ _ _ _ ([(r10, .cells (nodeC { n0 with A := An, c := cn, next := nx }) 100 4)] :: sgn :: vseg r6 b :: vseg r5 a :: (GS m ++ S)) _
 rw [<- hn2]
 refine OL.nil (PW.k3 0 5 10 rfl (PW.quietK Try.mixed (QK.dp rfl (QK.det trivial (Yields.nilc rfl) (QK.dp rfl (QK.det trivial (.ld rfl (g_nodes hS2.cons)) (QK.det trivial (.ldA rfl (vtxL_len _) (all_at (c := vtxL a) (E := 32) (tot := 33) zM3)) (QK.det trivial (.ldA rfl (cs := nodeC n2) rfl (all_at (c := nodeC n2) (E := 100) (tot := 4) zM0)) (QK.nil ?_)))))))))
 change OL _ _ _ [_] _ _ _
 refine OL.cons trivial (OW.updG (j := 6) (v := n2) Try.underlying55 keys32 hm.nk ha rfl rfl rfl rfl) ?_
 rintro _ _ rfl
 refine OL.nil ?_
 change (Exit.normal = Exit.normal ∨ Exit.normal = Exit.ret) /\ ∃ v, resV _ _ = some v /\ _
 have hn0k := getD_ok hm a
 rw [<- hn0] at hn0k
 refine ⟨.inl rfl, _, rfl, _, (Sub.join3).trans (Sub.sel [4, 5, 6, 7, 1] 8 (by decide) _), rfl, { m with nodes := mpt m.nodes a n2, junk := m.junk ++ sgn, lim := m.lim + 1 }, rfl, hm.node' ha ?_ hlim, ?_, rfl, rfl, fun x hx => List.mem_append_left _ hx⟩
 ·rw [hn2]
  exact ⟨(hrdn []).junkL, hnok, hnlen, (hn0k.grow (b := sgn) (Nat.le_add_right _ 1)).gone, (hn0k.grow (b := sgn) (Nat.le_add_right _ 1)).named⟩
 rw [plN_mpt_gr]
 show _ = if a = rootV then _ else { m.gr with nodes := mpt m.gr.nodes a { nd m.gr.nodes a with next := if t = true then behindG m.gr a ++ [b] else (behindG m.gr a).erase b } }
 rw [if_neg c32, <- hnx, hn2]
 show _ = { m.gr with nodes := mpt m.gr.nodes a { nd (plN m.nodes) a with next := nx } }
 rw [nd_plN, <- hn0]
 rfl
theorem ptr_eq {m m' : GrM} (h : m'.r = m.r) : m'.ptr = m.ptr := by unfold GrM.ptr; rw [h]
theorem _root_.Go.SL.Rd.appR {w0 : World} {A B : SS} {a : Option Addr} {l : List Value} (h : Rd w0 B a l) : Rd w0 (A ++ B) a l := h.mono fun p hp => by simp only [List.flatten_append, List.mem_append]; exact .inr hp
def wayK (p : PartM) (k : Nat) : List Vtx := p.up :: (List.range k).map p.pl.vtx
theorem wayK_len (p : PartM) (k : Nat) : (wayK p k).length = k + 1 := by simp [wayK]
theorem wayK_succ (p : PartM) (k : Nat) : wayK p (k + 1) = wayK p k ++ [p.pl.vtx k] := by unfold wayK; rw [List.range_succ, List.map_append]; rfl
theorem way_eq (p : PartM) : wayK p p.lines.length ++ [p.down] = way p.pl := rfl
theorem way_ok {p : PartM} (hp : PartR p) : ∀ v ∈ way p.pl, okV v := by
 intro v hv
 unfold way at hv
 rcases List.mem_cons.1 hv with rfl | hv
 ·exact hp.up
 rcases List.mem_append.1 hv with h | h
 ·obtain ⟨i, hi, rfl⟩ := mem_own.1 h
  exact hp.vtx hi
 rw [List.mem_singleton.1 h]; exact hp.down
theorem links_fc {w0 : World} {S X : SS} {m : GrM} (hm : GOk w0 X m) (hX : Over X S) {p : PartM} (hp : PartR p) (t : Bool) (hlim : m.lim + p.lines.length + 1 <= 1000000000000) :
  FC Try.prog w0 59 [m.ptr, partV p, .bool t] (GS m ++ S) (fun v S' => v = .tuple #[] /\ ∃ m', S' = GS m' ++ S /\ GOk w0 X m' /\ m'.gr = linksG t m.gr (edges p.pl) /\ m'.r = m.r /\ m'.lim <= m.lim + p.lines.length + 1 /\ ∀ x ∈ m.junk, x ∈ m'.junk) := by
 have hll := hp.lines
 have hwl := way_len p.pl
 have hpl : p.pl.lines.length = p.lines.length := rfl
 refine FC.ofD Try.known59 (by simp) ?_
 unfold Try.pc59
 simp only [argT]
 refine PW.seqOps (OL.cons trivial (OW.bx rfl) ?_)
 rintro _ _ ⟨r4, rfl, rfl⟩
 rw [part_box, partC_len]
 refine OL.nil (PW.k3 0 2 4 rfl ?_)
 refine PW.seq fun K1 hK1 => ?_
 refine PW.seqOps (OL.dp rfl (OL.det trivial (.ld rfl (part_lines (p := p) (E := 36) (tot := 102) zM0)) (OL.dp rfl (OL.dp rfl (OL.nil (PW.k4 0 2 4 12 rfl ?_))))))
 refine PW.cond rfl (fun c12 => ?_) (fun c12 => ?_)
 ·try simp only [cvS] at c12
  refine PW.ret ?_
  change (Exit.ret = Exit.normal ∨ Exit.ret = Exit.ret) /\ ∃ v, resV _ _ = some v /\ _
  have he : edges p.pl = [] := by unfold edges; rw [if_pos (by omega)]
  refine ⟨.inr rfl, _, rfl, _, Sub.drop (Sub.refl _), rfl, m, rfl, hm, by rw [he]; rfl, rfl, by omega, fun _ h => h⟩
 try simp only [cvS] at c12
 refine PW.skip ?_
 refine hK1 _ _ ?_
 refine PW.k3 0 2 4 rfl (PW.seqOps (OL.dp rfl (OL.det trivial (.ldA rfl (vtxL_len _) (part_up (p := p) (E := 36) (tot := 102) zM0)) (OL.cons trivial (OW.bsl (fill_one (v := p.up) rfl rfl)) ?_))))
 rintro _ _ ⟨r15, rfl, rfl⟩
 rw [vtxL_len]
 have hs15 : SlV 32 33 (.slice (some ⟨r15, 0, none⟩) 1 1) (wayK p 0).length (vtxs (wayK p 0)) [(r15, .cells (vtxL p.up) 32 33)] := by
  have := SlV.mk' (E := 32) (sz := 33) (m := 1) (cap := 1) (r := r15) (xs := vtxL p.up) (by rw [vtxL_len]) (Nat.le_refl _) (by decide)
  simpa [wayK, vtxs] using this
 refine OL.dp rfl (OL.nil (PW.k4 0 2 4 6 rfl ?_))
 refine PW.seq fun K2 hK2 => ?_
 refine PW.seqOps (OL.dp rfl (OL.det trivial (.ld rfl (part_lines (p := p) (E := 36) (tot := 102) zM1)) (OL.dp rfl (OL.dp rfl (OL.nil (PW.k6 0 2 4 6 18 19 rfl (PW.block (PW.k6 0 2 4 6 18 19 rfl ?_))))))))
 refine PW.loopK (I := fun mm T S' => ∃ (k : Nat) (v : Value) (sg : Seg), (k <= p.lines.length /\ mm = p.lines.length - k /\ SlV 32 33 v (wayK p k).length (vtxs (wayK p k)) sg) /\ T = ([(0, m.ptr), (2, .bool t), (4, .pointer (some ⟨r4, 0, none⟩)), (6, v), (18, .int .i64 (p.lines.length : Int)), (19, .int .i64 k)] : TT) /\ S' = sg :: pseg r4 p :: (GS m ++ S)) (m := p.lines.length) ⟨0, _, _, ⟨by omega, by omega, hs15⟩, rfl, rfl⟩ ?_
 rintro mm _ _ ⟨k, v, sg, ⟨hk, hmm, hs⟩, rfl, rfl⟩
 refine PW.seqOps (OL.dp rfl (OL.nil (PW.k7 0 2 4 6 18 19 20 rfl ?_)))
 refine PW.seq fun K3 hK3 => ?_
 refine PW.cond rfl (fun c20 => ?_) (fun c20 => ?_)
 ·try simp only [cvS] at c20
  have hkl : k < p.lines.length := by omega
  refine PW.skip ?_
  refine hK3 _ _ ?_
  refine PW.k6 0 2 4 6 18 19 rfl ?_
  refine PW.seq fun K4 hK4 => ?_
  refine PW.block (PW.seqOps (OL.dp rfl (OL.dp rfl (OL.nil (PW.k7 0 2 4 6 7 18 19 rfl (PW.ops (OL.dp rfl (OL.det trivial (.ldA rfl (partC_len _) (all_at zM1)) (OL.dp rfl ?_)))))))))
  refine OL.call trivial rfl (vertex_fc (i := k) hp (by omega)) ?_
  rintro _ Sx ⟨rfl, hSx⟩
  rw [hSx]
  clear hSx
  apply OL.app1 (k := 0)
  ·rfl
  ·rfl
  ·exact (List.size_toArray).trans (vtxL_len _)
  ·rfl
  ·rfl
  ·rfl
  ·exact hs
  ·exact vtxL_one _
  ·rw [wayK_len]; omega
  ·rw [wayK_len]; unfold maxLen; omega
  intro v27 seg27 hs27
  change OL _ _ _ _ _ (seg27 :: pseg r4 p :: (GS m ++ S)) _
  change SlV 32 33 v27 (_ + 1) (vtxs _ ++ vtxL (p.pl.vtx k)) seg27 at hs27
  rw [<- vtxs_one1, <- vtxs_app, <- wayK_succ, wayK_len, <- wayK_len p (k + 1)] at hs27
  refine OL.dp rfl (OL.nil ?_)
  refine hK4 _ _ ?_
  refine PW.k6 0 2 4 6 18 19 rfl (PW.ops ?_)
  refine OL.det trivial (.add64 rfl rfl (by omega) (by omega)) ?_
  refine OL.dp rfl (OL.nil ?_)
  repeat rw [inBlk_n]
  try rw [thenK_n]
  refine LoopEnd.mk (T'' := [(0, _), (2, _), (4, _), (6, _), (18, _), (19, _)]) (wi rfl) ?_
  refine ⟨p.lines.length - (k + 1), by omega, k + 1, v27, seg27, ⟨by omega, rfl, hs27⟩, rfl, rfl⟩
 try simp only [cvS] at c20
 refine PW.exit ?_
 refine hK2 _ _ ?_
 refine PW.k4 0 2 4 6 rfl (PW.seqOps (OL.dp rfl (OL.dp rfl (OL.det trivial (.ldA rfl (vtxL_len _) (part_down (p := p) (E := 36) (tot := 102) zM1)) ?_))))
 apply OL.app1 (k := 0)
 ·rfl
 ·rfl
 ·exact (List.size_toArray).trans (vtxL_len _)
 ·rfl
 ·rfl
 ·rfl
 ·exact hs
 ·exact vtxL_one _
 ·rw [wayK_len]; omega
 ·rw [wayK_len]; unfold maxLen; omega
 intro v33 seg33 hs33
 change OL _ _ _ _ _ (seg33 :: pseg r4 p :: (GS m ++ S)) _
 change SlV 32 33 v33 (_ + 1) (vtxs _ ++ vtxL p.down) seg33 at hs33
 obtain rfl : k = p.lines.length := by omega
 rw [<- vtxs_one1, <- vtxs_app, way_eq, wayK_len, <- hpl, show p.pl.lines.length + 1 + 1 = (way p.pl).length by omega] at hs33
 obtain ⟨Aw, cw, rfl, -, -, hrdw⟩ := slv_rdL (w0 := w0) hs33
 obtain ⟨aw, rfl⟩ := vtxs_some (hrdw []) (by omega)
 refine OL.dp rfl (OL.nil (PW.k3 0 2 6 rfl (PW.seqOps ?_)))
 refine OL.subS (S' := GS m ++ (seg33 :: pseg r4 p :: S)) (Sub.sel [2, 3, 4, 5, 0, 1] 6 (by decide) (seg33 :: pseg r4 p :: (GS m ++ S))) ?_
 refine OL.det trivial (.pure rfl) (OL.nil (PW.k4 0 2 6 8 rfl (PW.block (PW.k4 0 2 6 8 rfl ?_))))
 refine PW.loopK (I := fun mm T S' => ∃ (i : Nat) (m1 : GrM), (i + 1 <= (way p.pl).length /\ mm = (way p.pl).length - (i + 1) /\ GOk w0 X m1 /\ m1.gr = linksG t m.gr ((edgeL (way p.pl)).take i) /\ m1.r = m.r /\ m1.lim <= m.lim + i /\ ∀ x ∈ m.junk, x ∈ m1.junk) /\ T = ([(0, m.ptr), (2, .bool t), (6, .slice (some aw) (way p.pl).length cw), (8, .int .i64 ((i : Int) + 1))] : TT) /\ S' = GS m1 ++ (seg33 :: pseg r4 p :: S)) (m := (way p.pl).length - 1) ⟨0, m, ⟨by omega, by omega, hm, rfl, rfl, Nat.le_refl _, fun _ h => h⟩, rfl, rfl⟩ ?_
 rintro mm _ _ ⟨i, m1, ⟨hi, hmm, hm1, hg1, hr1, hl1, hj1⟩, rfl, rfl⟩
 refine PW.seq fun K5 hK5 => ?_
 refine PW.seqOps (OL.dp rfl (OL.dp rfl (OL.dp rfl (OL.dp rfl (OL.nil (PW.k5 0 2 6 8 37 rfl ?_))))))
 refine PW.cond rfl (fun c37 => ?_) (fun c37 => ?_)
 ·try simp only [cvS] at c37
  have hlt : i + 1 < (way p.pl).length := by omega
  refine PW.skip ?_
  refine hK5 _ _ ?_
  refine PW.k4 0 2 6 8 rfl ?_
  refine PW.seq fun K6 hK6 => ?_
  refine PW.block (PW.quietK Try.mixed (QK.dp rfl (QK.dp rfl (QK.dp rfl ?_))))
  refine QK.det trivial (.sub64 rfl rfl (by omega) (by omega)) ?_
  refine QK.det trivial (.ixN rfl rfl (show (i : Int) + 1 - 1 = (i : Int) by omega) (by omega)) ?_
  refine QK.det trivial (.ldA rfl (vtxL_len _) (vtx_at (Rd.appR (hrdw _)) (k := i) (by omega))) ?_
  refine QK.dp rfl (QK.dp rfl ?_)
  refine QK.det trivial (.ixN rfl rfl rfl (by omega)) ?_
  refine QK.det trivial (.ldA rfl (vtxL_len _) (vtx_at (Rd.appR (hrdw _)) (k := i + 1) hlt)) (QK.dp rfl (QK.nil ?_))
  change OL _ _ _ [_] _ _ _
  refine OL.call trivial rfl (by rw [<- ptr_eq hr1]; exact link_fc hm1 hX.cons.cons (way_ok hp _ (List.getElem_mem _)) (way_ok hp _ (List.getElem_mem _)) t (by omega)) ?_
  rintro _ _ ⟨rfl, m2, rfl, hm2, hg2, hr2, hl2, hj2⟩
  refine OL.nil ?_
  refine hK6 _ _ ?_
  refine PW.k4 0 2 6 8 rfl (PW.ops (OL.dp rfl ?_))
  refine OL.det trivial (.add64 rfl rfl (by omega) (by omega)) ?_
  refine OL.dp rfl (OL.nil ?_)
  repeat rw [inBlk_n]
  try rw [thenK_n]
  refine LoopEnd.mk (T'' := [(0, _), (2, _), (6, _), (8, _)]) (wi rfl) ?_
  refine ⟨(way p.pl).length - (i + 2), by omega, i + 1, m2, ⟨by omega, by omega, hm2, ?_, hr2.trans hr1, by omega, fun x hx => hj2 x (hj1 x hx)⟩, rfl, rfl⟩
  rw [hg2, hg1, edgeL_take hlt, linksG_snoc]
 try simp only [cvS] at c37
 refine PW.exit ?_
 change (Exit.normal = Exit.normal ∨ Exit.normal = Exit.ret) /\ ∃ v, resV _ _ = some v /\ _
 have he : edges p.pl = edgeL (way p.pl) := by unfold edges; rw [if_neg (by omega)]
 have hie : i + 1 = (way p.pl).length := by omega
 refine ⟨.inl rfl, _, rfl, _, Sub.sel [0, 1, 2, 3] 6 (by decide) _, rfl, m1, rfl, hm1, ?_, hr1, by omega, hj1⟩
 rw [hg1, he, List.take_of_length_le (by rw [edgeL_len]; omega)]
theorem names_ok {p : PartM} (hp : PartR p) : ∀ v ∈ names p.pl, okV v := by
 intro v hv
 unfold names at hv
 rcases List.mem_cons.1 hv with rfl | hv
 ·exact hp.up
 rcases List.mem_cons.1 hv with rfl | hv
 ·exact hp.down
 exact hp.gone v hv
theorem foldl_snoc {α β : Type} (f : β -> α -> β) (b : β) {l : List α} {k : Nat} (hk : k < l.length) : (l.take (k + 1)).foldl f b = f ((l.take k).foldl f b) l[k] := by
 rw [List.take_add_one, List.getElem?_eq_getElem hk, List.foldl_append]; rfl
def okD (d : Int) : Prop := d = 1 ∨ d = -1
theorem count_fc {w0 : World} {S X : SS} {m : GrM} (hm : GOk w0 X m) (hX : Over X S) {p : PartM} (hp : PartR p) (hgo : Rd w0 S p.GA (vtxs p.gone) ∨ Rd w0 (m.junk :: X) p.GA (vtxs p.gone)) {d : Int} (hd : okD d) (hlim : m.lim + (p.gone.length + 2) + p.gone.length <= 1000000000000) :
  FC Try.prog w0 60 [m.ptr, partV p, .int .i64 d] (GS m ++ S) (fun v S' => v = .tuple #[] /\ ∃ m', S' = GS m' ++ S /\ GOk w0 X m' /\ m'.gr = { m.gr with nodes := countG d m.gr.nodes p.pl } /\ m'.r = m.r /\ m'.lim <= m.lim + (p.gone.length + 2) + p.gone.length /\ ∀ x ∈ m.junk, x ∈ m'.junk) := by
 have hgl := hp.gones
 have hnl : (names p.pl).length = p.gone.length + 2 := names_len p.pl
 obtain ⟨z, hz1, hz2⟩ := zero100
 have hdr : -1 <= d /\ d <= 1 := by rcases hd with rfl | rfl <;> decide
 have hgo2 : ∀ m1 : GrM, m1.junk = m.junk -> ∀ Y, Rd w0 (GS m1 ++ (Y ++ S)) p.GA (vtxs p.gone) := fun m1 hj Y => by
  rcases hgo with h | h
  ·exact (h.appR (A := Y)).appR
  exact (hj ▸ h).junk (Over.both (Over.appR hX))
 refine FC.ofD Try.known60 (by simp) ?_
 unfold Try.pc60
 simp only [argT]
 refine PW.seqOps (OL.cons trivial (OW.bx rfl) ?_)
 rintro _ _ ⟨r4, rfl, rfl⟩
 rw [part_box, partC_len]
 refine OL.nil (PW.k3 0 2 4 rfl ?_)
 refine PW.seq fun K1 hK1 => ?_
 refine PW.seqOps (OL.dp rfl (OL.det trivial (.ldA rfl (vtxL_len _) (part_up (p := p) (E := 36) (tot := 102) zM0)) (OL.dp rfl (OL.det trivial (.ldA rfl (vtxL_len _) (part_down (p := p) (E := 36) (tot := 102) zM0)) (OL.cons trivial (OW.bsl (fill_two (v := p.up) (u := p.down) rfl rfl rfl)) ?_)))))
 rintro _ _ ⟨r17, rfl, rfl⟩
 rw [vtxs_len]
 have hs17 : SlV 32 33 (.slice (some ⟨r17, 0, none⟩) 2 2) 2 (vtxs [p.up, p.down]) [(r17, .cells (vtxs [p.up, p.down]) 32 66)] := SlV.mk' (by rw [vtxs_len]; rfl) (Nat.le_refl _) (by decide)
 refine OL.dp rfl (OL.det trivial (.ld rfl (part_gone (p := p) (E := 36) (tot := 102) zM1)) ?_)
 refine OL.cons trivial (OW.appL (k := 0) (m := 2) (xs := vtxs [p.up, p.down]) (news := vtxs p.gone) rfl rfl hs17 rfl (vtxs_len _) (hgo2 m rfl []).cons.cons (by decide) hp.gnil (vtxs_one _) (by omega) (by unfold maxLen; omega)) ?_
 rintro v20 _ ⟨seg20, rfl, hs20⟩
 change OL _ _ _ _ _ (seg20 :: pseg r4 p :: (GS m ++ S)) _
 rw [<- vtxs_app] at hs20
 change SlV 32 33 v20 (2 + p.gone.length) (vtxs (names p.pl)) seg20 at hs20
 rw [show 2 + p.gone.length = (names p.pl).length by rw [hnl]; omega] at hs20
 obtain ⟨Aw, cw, rfl, -, -, hrdw⟩ := slv_rdL (w0 := w0) hs20
 obtain ⟨aw, rfl⟩ := vtxs_some (hrdw []) (by omega)
 refine OL.subS (S' := GS m ++ (seg20 :: pseg r4 p :: S)) (Sub.sel [2, 3, 4, 5, 0, 1] 6 (by decide) (seg20 :: pseg r4 p :: (GS m ++ S))) ?_
 refine OL.dp rfl (OL.dp rfl (OL.nil (PW.k6 0 2 4 20 21 22 rfl (PW.block (PW.k6 0 2 4 20 21 22 rfl ?_)))))
 refine PW.loopK (I := fun mm T S' => ∃ (k : Nat) (m1 : GrM), (k <= (names p.pl).length /\ mm = (names p.pl).length - k /\ GOk w0 X m1 /\ m1.parts = m.parts /\ m1.first = m.first /\ plN m1.nodes = ((names p.pl).take k).foldl (name1 d) m.gr.nodes /\ m1.r = m.r /\ m1.lim <= m.lim + k /\ m1.junk = m.junk) /\ T = ([(0, m.ptr), (2, .int .i64 d), (4, .pointer (some ⟨r4, 0, none⟩)), (20, .slice (some aw) (names p.pl).length cw), (21, .int .i64 ((names p.pl).length : Int)), (22, .int .i64 k)] : TT) /\ S' = GS m1 ++ (seg20 :: pseg r4 p :: S)) (m := (names p.pl).length) ⟨0, m, ⟨by omega, by omega, hm, rfl, rfl, rfl, rfl, Nat.le_refl _, rfl⟩, rfl, rfl⟩ ?_
 rintro mm _ _ ⟨k, m1, ⟨hk, hmm, hm1, hp1, hf1, hg1, hr1, hl1, hj1⟩, rfl, rfl⟩
 refine PW.seqOps (OL.dp rfl (OL.nil (PW.k7 0 2 4 20 21 22 23 rfl ?_)))
 refine PW.seq fun K2 hK2 => ?_
 refine PW.cond rfl (fun c23 => ?_) (fun c23 => ?_)
 ·try simp only [cvS] at c23
  have hkl : k < (names p.pl).length := by omega
  refine PW.skip ?_
  refine hK2 _ _ ?_
  refine PW.k6 0 2 4 20 21 22 rfl ?_
  refine PW.seq fun K3 hK3 => ?_
  refine PW.block (PW.seqOps ?_)
  refine OL.det trivial (.ixN rfl rfl rfl (by omega)) ?_
  refine OL.det trivial (.ldA rfl (vtxL_len _) (vtx_at (Rd.appR (hrdw _)) hkl)) (OL.cons trivial OW.al ?_)
  rintro _ _ ⟨r7, rfl, rfl⟩
  refine OL.cons trivial (vtx_st rfl rfl rfl) ?_
  rintro _ _ rfl
  obtain ⟨v, hv⟩ : ∃ z, z = (names p.pl)[k] := ⟨_, rfl⟩
  rw [<- hv]
  have hov : okV v := by rw [hv]; exact names_ok hp _ (List.getElem_mem hkl)
  have hS1 : Over (GS m1 ++ X) (vseg r7 v :: (GS m1 ++ (seg20 :: pseg r4 p :: S))) := (Over.both hX.cons.cons).cons
  refine OL.nil (PW.k7 0 2 4 7 20 21 22 rfl ?_)
  refine PW.seq fun K4 hK4 => ?_
  refine PW.quietG (Ss := Over (vseg r7 v :: (GS m1 ++ (seg20 :: pseg r4 p :: S)))) (fr := false) [(0, 0), (1, 0), (2, 0), (3, 0), (4, 0), (5, 0), (6, 0), (7, 0), (8, 0), (9, 2), (10, 2)] Try.mixed (by decide +kernel) (Over.refl _) (fun h => by cases h) ?_
  refine GL.dp rfl ?_
  refine GL.det trivial (fun Sx hSx => Yields.nilc rfl) ?_
  refine GL.dp rfl ?_
  refine GL.det trivial (fun Sx hSx => Yields.ld rfl (by rw [<- hr1]; exact g_nodes (hS1.trans hSx))) ?_
  refine GL.det trivial (fun Sx hSx => Yields.ldA rfl (vtxL_len _) (all_at (c := vtxL v) (E := 32) (tot := 33) (hSx _ zM0))) ?_
  refine GL.det trivial (fun Sx hSx => Yields.lookG (okc := true) (a := v) Try.underlying55 hz1 hz2 keys32 hm1.nk hov rfl rfl (GS_mem (hS1.trans hSx)).2.2.1) ?_
  refine GL.dp rfl ?_
  refine GL.dp rfl ?_
  refine GL.dp rfl ?_
  refine GL.lo trivial (OW.mono (OW.al) ?_)
  rintro _ _ ⟨r8, rfl, rfl⟩
  refine ⟨(Over.refl _).cons, ?_⟩
  refine GL.lo trivial (OW.mono (node_st rfl rfl _ _ _ _) ?_)
  rintro _ _ rfl
  refine ⟨(Over.refl _).cons, ?_⟩
  obtain ⟨n0, hn0⟩ : ∃ z, z = (mgt m1.nodes v).getD zM := ⟨_, rfl⟩
  rw [<- hn0]
  have hok0 := getD_ok hm1 v
  rw [<- hn0] at hok0
  change OL _ _ _ [_] _ _ _
  refine OL.dp rfl (OL.nil ?_)
  refine hK4 _ _ ?_
  refine PW.k9 0 2 4 7 8 9 20 21 22 rfl (PW.seqOps (OL.dp rfl (OL.nil (PW.k9 0 2 4 7 8 20 21 22 35 rfl ?_))))
  refine PW.cond rfl (fun c35 => ?_) (fun c35 => ?_)
  ·skip
   have hsm : mgt m1.nodes v = some n0 := by
    cases h : mgt m1.nodes v with
    | none => rw [h] at c35; cases c35
    | some n => rw [h] at hn0; rw [hn0]; rfl
   refine PW.seqOps (OL.dp rfl (OL.det trivial (.ld rfl (own_at (j := 2) (c := nodeC n0) (E := 100) (tot := 4) zM0 rfl)) (OL.dp rfl ?_)))
   refine OL.det trivial (.add64 rfl rfl (by have := hok0.named; omega) (by have := hok0.named; omega)) ?_
   refine OL.dp rfl (OL.cons trivial (OW.st (k := 0) (c := nodeC n0) (u := .int .i64 (n0.named + d)) rfl rfl rfl rfl (Nat.le_succ 3) rfl) ?_)
   rintro _ _ rfl
   obtain ⟨n2, hn2⟩ : ∃ z : NodeM, z = { n0 with named := n0.named + d } := ⟨_, rfl⟩
   change OL _ _ _ _ _ ([(r8, .cells (nodeC { n0 with named := n0.named + d }) 100 4)] :: vseg r7 v :: GS m1 ++ (seg20 :: pseg r4 p :: S)) _
   rw [<- hn2]
   refine OL.nil (PW.k8 0 2 4 7 8 20 21 22 rfl (PW.quietK Try.mixed (QK.dp rfl (QK.det trivial (Yields.nilc rfl) (QK.dp rfl ?_)))))
   refine QK.det trivial (.ld rfl (by rw [<- hr1]; exact g_nodes hS1.cons)) ?_
   refine QK.det trivial (.ldA rfl (vtxL_len _) (all_at (c := vtxL v) (E := 32) (tot := 33) zM1)) (QK.det trivial (.ldA rfl (cs := nodeC n2) rfl (all_at (c := nodeC n2) (E := 100) (tot := 4) zM0)) (QK.nil ?_))
   change OL _ _ _ [_] _ _ _
   refine OL.cons trivial (OW.updG (j := 4) (v := n2) Try.underlying55 keys32 hm1.nk hov rfl rfl rfl rfl) ?_
   rintro _ _ rfl
   refine OL.nil ?_
   refine hK3 _ _ ?_
   refine PW.k6 0 2 4 20 21 22 rfl (PW.ops ?_)
   refine OL.det trivial (.add64 rfl rfl (by omega) (by omega)) ?_
   refine OL.dp rfl (OL.nil ?_)
   repeat rw [inBlk_n]
   try rw [thenK_n]
   refine LoopEnd.mkS (Sub.drop (Sub.drop (Sub.refl _))) (T'' := [(0, _), (2, _), (4, _), (20, _), (21, _), (22, _)]) (wi rfl) ?_
   refine ⟨(names p.pl).length - (k + 1), by omega, k + 1, { m1 with nodes := mpt m1.nodes v n2, lim := m1.lim + 1 }, ⟨by omega, rfl, hm1.node0 hov ?_ (by omega), hp1, hf1, ?_, hr1, (by show m1.lim + 1 <= _; omega), hj1⟩, rfl, rfl⟩
   ·rw [hn2]
    exact ⟨hok0.rd, hok0.ok, Nat.le_trans hok0.len (Nat.le_add_right _ _), (hok0.grow (b := []) (Nat.le_add_right _ 1)).gone, (by have := hok0.named; show -((m1.lim + 1 : Nat) : Int) <= n0.named + d /\ n0.named + d <= ((m1.lim + 1 : Nat) : Int); omega)⟩
   show plN (mpt m1.nodes v n2) = _
   rw [mpt_plN, foldl_snoc _ _ hkl, <- hg1, <- hv]
   unfold name1
   rw [mgt_plN, hsm, hn2]
   rfl
  skip
  have hsm : mgt m1.nodes v = none := by
   cases h : mgt m1.nodes v with
   | none => rfl
   | some n => rw [h] at c35; cases c35
  refine PW.skip ?_
  refine hK3 _ _ ?_
  refine PW.k6 0 2 4 20 21 22 rfl (PW.ops ?_)
  refine OL.det trivial (.add64 rfl rfl (by omega) (by omega)) ?_
  refine OL.dp rfl (OL.nil ?_)
  repeat rw [inBlk_n]
  try rw [thenK_n]
  refine LoopEnd.mkS (Sub.drop (Sub.drop (Sub.refl _))) (T'' := [(0, _), (2, _), (4, _), (20, _), (21, _), (22, _)]) (wi rfl) ?_
  refine ⟨(names p.pl).length - (k + 1), by omega, k + 1, m1, ⟨by omega, rfl, hm1, hp1, hf1, ?_, hr1, by omega, hj1⟩, rfl, rfl⟩
  rw [foldl_snoc _ _ hkl, <- hg1, <- hv]
  unfold name1
  rw [mgt_plN, hsm]
  rfl
 try simp only [cvS] at c23
 refine PW.exit ?_
 refine hK1 _ _ ?_
 refine PW.k3 0 2 4 rfl (PW.seqOps ?_)
 have hg1e : plN m1.nodes = (names p.pl).foldl (name1 d) m.gr.nodes := by rw [hg1, List.take_of_length_le (by omega)]
 refine OL.dp rfl ?_
 refine OL.det trivial (.ld rfl (part_gone (p := p) (E := 36) (tot := 102) (by simp))) ?_
 refine OL.dp rfl (OL.dp rfl (OL.nil (PW.k5 0 2 49 50 51 rfl (PW.block (PW.k5 0 2 49 50 51 rfl ?_)))))
 refine PW.loopK (I := fun mm T S' => ∃ (k : Nat) (m1 : GrM), (k <= p.gone.length /\ mm = p.gone.length - k /\ GOk w0 X m1 /\ m1.parts = m.parts /\ m1.first = m.first /\ plN m1.nodes = (p.gone.take k).foldl (gone1 d) ((names p.pl).foldl (name1 d) m.gr.nodes) /\ m1.r = m.r /\ m1.lim <= m.lim + (p.gone.length + 2) + k /\ m1.junk = m.junk) /\ T = ([(0, m.ptr), (2, .int .i64 d), (49, .slice p.GA p.gone.length p.gc), (50, .int .i64 (p.gone.length : Int)), (51, .int .i64 k)] : TT) /\ S' = GS m1 ++ (seg20 :: pseg r4 p :: S)) (m := p.gone.length) ⟨0, m1, ⟨by omega, by omega, hm1, hp1, hf1, hg1e, hr1, by omega, hj1⟩, rfl, rfl⟩ ?_
 rintro mm _ _ ⟨k, m1, ⟨hk, hmm, hm1, hp1, hf1, hg1, hr1, hl1, hj1⟩, rfl, rfl⟩
 refine PW.seqOps (OL.dp rfl (OL.nil (PW.k6 0 2 49 50 51 52 rfl ?_)))
 refine PW.seq fun K5 hK5 => ?_
 refine PW.cond rfl (fun c52 => ?_) (fun c52 => ?_)
 ·try simp only [cvS] at c52
  have hkl : k < p.gone.length := by omega
  have hrg0 := hgo2 m1 hj1 [seg20, pseg r4 p]
  obtain ⟨ag, hag⟩ := vtxs_some hrg0 (by omega)
  have hrg : Rd w0 (GS m1 ++ (seg20 :: pseg r4 p :: S)) (some ag) (vtxs p.gone) := by rw [<- hag]; exact hrg0
  refine PW.skip ?_
  refine hK5 _ _ ?_
  refine PW.k5 0 2 49 50 51 rfl ?_
  refine PW.seq fun K6 hK6 => ?_
  refine PW.block (PW.seqOps ?_)
  rw [hag]
  refine OL.det trivial (.ixN rfl rfl rfl (by omega)) ?_
  refine OL.det trivial (.ldA rfl (vtxL_len _) (vtx_at hrg hkl)) (OL.cons trivial OW.al ?_)
  rintro _ _ ⟨r11, rfl, rfl⟩
  refine OL.cons trivial (vtx_st rfl rfl rfl) ?_
  rintro _ _ rfl
  obtain ⟨v, hv⟩ : ∃ z, z = p.gone[k] := ⟨_, rfl⟩
  rw [<- hv]
  have hov : okV v := by rw [hv]; exact hp.gone _ (List.getElem_mem hkl)
  have hS1 : Over (GS m1 ++ X) (vseg r11 v :: (GS m1 ++ (seg20 :: pseg r4 p :: S))) := (Over.both hX.cons.cons).cons
  refine OL.nil (PW.k6 0 2 11 49 50 51 rfl ?_)
  refine PW.seq fun K7 hK7 => ?_
  refine PW.quietG (Ss := Over _) (fr := true) [(0, 0), (1, 0), (2, 0), (3, 0), (4, 0), (5, 0), (6, 3)] Try.mixed (by decide +kernel) (Over.refl _) (fun _ _ _ h => h.cons) ?_
  refine GL.dp rfl ?_
  refine GL.det trivial (fun Sx hSx => Yields.nilc rfl) ?_
  refine GL.dp rfl ?_
  refine GL.det trivial (fun Sx hSx => Yields.ld rfl (by rw [<- hr1]; exact g_nodes (hS1.trans hSx))) ?_
  refine GL.det trivial (fun Sx hSx => Yields.ldA rfl (vtxL_len _) (all_at (c := vtxL v) (E := 32) (tot := 33) (hSx _ zM0))) ?_
  refine GL.det trivial (fun Sx hSx => Yields.lookG (okc := false) (a := v) Try.underlying55 hz1 hz2 keys32 hm1.nk hov rfl rfl (GS_mem (hS1.trans hSx)).2.2.1) ?_
  refine GL.fresh trivial fun r12 => ?_
  change OL _ _ _ _ _ ([(r12, .cells [.string ⟨#[]⟩, .int .i64 0, .int .i64 0, .slice none 0 0] 100 4)] :: vseg r11 v :: (GS m1 ++ (seg20 :: pseg r4 p :: S))) _
  change OL _ _ _ [_] _ _ _
  refine OL.cons trivial (node_st rfl rfl _ _ _ _) ?_
  rintro _ _ rfl
  obtain ⟨n0, hn0⟩ : ∃ z, z = (mgt m1.nodes v).getD zM := ⟨_, rfl⟩
  rw [<- hn0]
  have hok0 := getD_ok hm1 v
  rw [<- hn0] at hok0
  refine OL.nil ?_
  refine hK7 _ _ ?_
  refine PW.k7 0 2 11 12 49 50 51 rfl (PW.seqOps (OL.dp rfl (OL.det trivial (.ld rfl (own_at (j := 1) (c := nodeC n0) (E := 100) (tot := 4) zM0 rfl)) (OL.dp rfl ?_))))
  refine OL.det trivial (.add64 rfl rfl (by have := hok0.gone; omega) (by have := hok0.gone; omega)) ?_
  refine OL.dp rfl (OL.cons trivial (OW.st (k := 0) (c := nodeC n0) (u := .int .i64 (n0.gone + d)) rfl rfl rfl rfl (Nat.le_add_right 2 2) rfl) ?_)
  rintro _ _ rfl
  obtain ⟨n2, hn2⟩ : ∃ z : NodeM, z = { n0 with gone := n0.gone + d } := ⟨_, rfl⟩
  change OL _ _ _ _ _ ([(r12, .cells (nodeC { n0 with gone := n0.gone + d }) 100 4)] :: vseg r11 v :: GS m1 ++ (seg20 :: pseg r4 p :: S)) _
  rw [<- hn2]
  refine OL.nil (PW.k7 0 2 11 12 49 50 51 rfl (PW.quietK Try.mixed (QK.dp rfl (QK.det trivial (Yields.nilc rfl) (QK.dp rfl ?_)))))
  refine QK.det trivial (.ld rfl (by rw [<- hr1]; exact g_nodes hS1.cons)) ?_
  refine QK.det trivial (.ldA rfl (vtxL_len _) (all_at (c := vtxL v) (E := 32) (tot := 33) zM1)) (QK.det trivial (.ldA rfl (cs := nodeC n2) rfl (all_at (c := nodeC n2) (E := 100) (tot := 4) zM0)) (QK.nil ?_))
  change OL _ _ _ [_] _ _ _
  refine OL.cons trivial (OW.updG (j := 4) (v := n2) Try.underlying55 keys32 hm1.nk hov rfl rfl rfl rfl) ?_
  rintro _ _ rfl
  refine OL.nil ?_
  refine hK6 _ _ ?_
  refine PW.k5 0 2 49 50 51 rfl (PW.ops ?_)
  refine OL.det trivial (.add64 rfl rfl (by omega) (by omega)) ?_
  refine OL.dp rfl (OL.nil ?_)
  repeat rw [inBlk_n]
  try rw [thenK_n]
  refine LoopEnd.mkS (Sub.drop (Sub.drop (Sub.refl _))) (T'' := [(0, _), (2, _), (49, _), (50, _), (51, _)]) (wi rfl) ?_
  rw [hag]
  refine ⟨p.gone.length - (k + 1), by omega, k + 1, { m1 with nodes := mpt m1.nodes v n2, lim := m1.lim + 1 }, ⟨by omega, rfl, hm1.node0 hov ?_ (by omega), hp1, hf1, ?_, hr1, (by show m1.lim + 1 <= _; omega), hj1⟩, rfl, rfl⟩
  ·rw [hn2]
   exact ⟨hok0.rd, hok0.ok, Nat.le_trans hok0.len (Nat.le_add_right _ _), (by have := hok0.gone; show -((m1.lim + 1 : Nat) : Int) <= n0.gone + d /\ n0.gone + d <= ((m1.lim + 1 : Nat) : Int); omega), (hok0.grow (b := []) (Nat.le_add_right _ 1)).named⟩
  show plN (mpt m1.nodes v n2) = _
  rw [mpt_plN, foldl_snoc _ _ hkl, <- hg1, <- hv]
  unfold gone1
  rw [nd_plN, <- hn0, hn2]
  rfl
 try simp only [cvS] at c52
 refine PW.exit ?_
 change (Exit.normal = Exit.normal ∨ Exit.normal = Exit.ret) /\ ∃ v, resV _ _ = some v /\ _
 have hke : k = p.gone.length := by omega
 refine ⟨.inl rfl, _, rfl, _, Sub.sel [0, 1, 2, 3] 6 (by decide) _, rfl, m1, rfl, hm1, ?_, hr1, by omega, fun x hx => hj1 ▸ hx⟩
 rw [hke, List.take_length] at hg1
 unfold GrM.gr
 rw [hp1, hf1, hg1]
 rfl
end Go.Proofs.Gr

namespace Go.GP
open Go.SL
theorem mem_EG {N : List (Vtx × NodeP)} (hn : (mks N).Nodup) {v w : Vtx} : (v, w) ∈ EG N ↔ w ∈ (nd N v).next := by
 unfold EG
 simp only [List.mem_flatMap, List.mem_map, Prod.mk.injEq]
 constructor
 ·rintro ⟨p, hp, x, hx, rfl, rfl⟩
  have : mgt N p.1 = some p.2 := (mgt_mem hn).2 hp
  unfold nd
  rw [this]; exact hx
 intro h
 unfold nd at h
 cases e : mgt N v with
 | none => rw [e] at h; simp [zN] at h
 | some n => rw [e] at h; exact ⟨(v, n), mgt_some_mem e, w, h, rfl, rfl⟩
def unS (T s : List Vtx) : Nat := (T.filter fun x => !decide (x ∈ s)).length
theorem unS_le (T s : List Vtx) : unS T s <= T.length := List.length_filter_le _ _
theorem unS_lt {T s s' : List Vtx} {w : Vtx} (hw : w ∈ T) (hs : w ∉ s) (h1 : w ∈ s') (h2 : ∀ x ∈ s, x ∈ s') : unS T s' + 1 <= unS T s := by
 unfold unS
 induction T with
 | nil => simp at hw
 | cons x T ih =>
  have mono : (T.filter fun x => !decide (x ∈ s')).length <= (T.filter fun x => !decide (x ∈ s)).length := by
   clear ih hw
   induction T with
   | nil => simp
   | cons y T ih2 =>
    simp only [List.filter_cons]
    by_cases hy : y ∈ s
    ·simp [hy, h2 y hy, ih2]
    by_cases hy2 : y ∈ s'
    ·simp only [hy, hy2, decide_true, Bool.not_true, decide_false, Bool.not_false, if_true, Bool.false_eq_true, if_false, List.length_cons]; omega
    simp only [hy, hy2, decide_false, Bool.not_false, if_true, List.length_cons]; omega
  simp only [List.filter_cons]
  by_cases hx : x = w
  ·subst hx
   simp only [hs, h1, decide_true, Bool.not_true, decide_false, Bool.not_false, if_true, Bool.false_eq_true, if_false, List.length_cons]
   omega
  have hw2 : w ∈ T := by
   rcases List.mem_cons.1 hw with h | h
   ·exact absurd h.symm hx
   exact h
  have := ih hw2
  by_cases hy : x ∈ s
  ·simp only [hy, h2 x hy, decide_true, Bool.not_true, Bool.false_eq_true, if_false]; omega
  by_cases hy2 : x ∈ s'
  ·simp only [hy, hy2, decide_true, Bool.not_true, decide_false, Bool.not_false, if_true, Bool.false_eq_true, if_false, List.length_cons]; omega
  simp only [hy, hy2, decide_false, Bool.not_false, if_true, List.length_cons]; omega
structure Bfs (E : List (Vtx × Vtx)) (a b : Vtx) (seen opn : List Vtx) (part : Vtx -> Vtx -> Prop) : Prop where
 ain : a ∈ seen
 rch : ∀ v ∈ seen, v = a ∨ Rch E a v
 sub : ∀ v ∈ opn, v ∈ seen
 nob : b ∉ seen
 done : ∀ v ∈ seen, v ∉ opn -> ∀ w, (v, w) ∈ E -> w ∈ seen ∨ part v w
variable {E : List (Vtx × Vtx)} {a b : Vtx} {seen opn : List Vtx}
theorem Bfs.start (hab : a ≠ b) : Bfs E a b [a] [a] fun _ _ => False :=
 ⟨by simp, fun v hv => .inl (List.mem_singleton.1 hv), fun v hv => hv, fun h => hab (List.mem_singleton.1 h).symm, fun v hv hn => absurd hv hn⟩
theorem Bfs.fin (h : Bfs E a b seen [] fun _ _ => False) : ¬ Rch E a b := by
 intro hr
 have key : ∀ {x y}, Rch E x y -> x ∈ seen -> y ∈ seen := by
  intro x y hxy
  induction hxy with
  | one h1 => exact fun hx => ((h.done _ hx (by simp) _ h1).resolve_right id)
  | cons h1 _ ih => exact fun hx => ih ((h.done _ hx (by simp) _ h1).resolve_right id)
 exact h.nob (key hr h.ain)
theorem Bfs.pop {v : Vtx} {nx : List Vtx} (h : Bfs E a b seen (opn ++ [v]) fun _ _ => False) (hnx : ∀ w, (v, w) ∈ E -> w ∈ nx) : Bfs E a b seen opn fun u w => u = v /\ w ∈ nx.drop 0 :=
 ⟨h.ain, h.rch, fun u hu => h.sub u (List.mem_append_left _ hu), h.nob, fun u hu hn w hw => by
  by_cases e : u = v
  ·subst e; exact .inr ⟨rfl, by simpa using hnx w hw⟩
  exact .inl ((h.done u hu (fun hm => by
   rcases List.mem_append.1 hm with h1 | h1
   ·exact hn h1
   exact e (List.mem_singleton.1 h1)) w hw).resolve_right id)⟩
theorem Bfs.pass {v : Vtx} {nx : List Vtx} {k : Nat} (hk : k < nx.length) (h : Bfs E a b seen opn fun u w => u = v /\ w ∈ nx.drop k) (hs : nx[k] ∈ seen) : Bfs E a b seen opn fun u w => u = v /\ w ∈ nx.drop (k + 1) :=
 ⟨h.ain, h.rch, h.sub, h.nob, fun u hu hn w hw => by
  rcases h.done u hu hn w hw with h1 | ⟨h1, h2⟩
  ·exact .inl h1
  rw [List.drop_eq_getElem_cons hk] at h2
  rcases List.mem_cons.1 h2 with rfl | h2
  ·exact .inl hs
  exact .inr ⟨h1, h2⟩⟩
theorem Bfs.push {v : Vtx} {nx : List Vtx} {k : Nat} (hk : k < nx.length) (h : Bfs E a b seen opn fun u w => u = v /\ w ∈ nx.drop k) (hv : v ∈ seen) (he : (v, nx[k]) ∈ E) (hb : nx[k] ≠ b) : Bfs E a b (seen ++ [nx[k]]) (opn ++ [nx[k]]) fun u w => u = v /\ w ∈ nx.drop (k + 1) where
 ain := List.mem_append_left _ h.ain
 rch := fun u hu => by
  rcases List.mem_append.1 hu with h1 | h1
  ·exact h.rch u h1
  rw [List.mem_singleton.1 h1]
  rcases h.rch v hv with rfl | h2
  ·exact .inr (.one he)
  exact .inr (h2.trans (.one he))
 sub := fun u hu => by
  rcases List.mem_append.1 hu with h1 | h1
  ·exact List.mem_append_left _ (h.sub u h1)
  exact List.mem_append_right _ h1
 nob := fun hm => by
  rcases List.mem_append.1 hm with h1 | h1
  ·exact h.nob h1
  exact hb (List.mem_singleton.1 h1).symm
 done := fun u hu hn w hw => by
  rcases List.mem_append.1 hu with h1 | h1
  ·rcases h.done u h1 (fun h2 => hn (List.mem_append_left _ h2)) w hw with h3 | ⟨h3, h4⟩
   ·exact .inl (List.mem_append_left _ h3)
   rw [List.drop_eq_getElem_cons hk] at h4
   rcases List.mem_cons.1 h4 with rfl | h4
   ·exact .inl (List.mem_append_right _ (by simp))
   exact .inr ⟨h3, h4⟩
  exact absurd (List.mem_append_right _ h1) hn
theorem Bfs.over {v : Vtx} {nx : List Vtx} {k : Nat} (hk : nx.length <= k) (h : Bfs E a b seen opn fun u w => u = v /\ w ∈ nx.drop k) : Bfs E a b seen opn fun _ _ => False :=
 ⟨h.ain, h.rch, h.sub, h.nob, fun u hu hn w hw => (h.done u hu hn w hw).imp_right fun ⟨_, h2⟩ => by rw [List.drop_eq_nil_of_le hk] at h2; exact absurd h2 (by simp)⟩
end Go.GP
