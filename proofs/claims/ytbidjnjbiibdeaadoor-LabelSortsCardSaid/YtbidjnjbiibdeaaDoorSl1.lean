/- A walk's state as known slots, owned blocks and facts on the world in which the law began: definitions and the first rules. -/
import Derived.Below
import Derived.Calls
import Derived.Orders
import Derived.OwnWalk
import Derived.Laws.MakeOwn
import Derived.Laws.OwnMore
import Derived.Laws.Rows
import Derived.Laws.Tables
import Derived.Laws.CopyRow
import Derived.Laws.AppendOwn
import Derived.KernelRfl
set_option linter.unusedVariables false
set_option linter.unusedSimpArgs false
namespace Go
/-! ### draws: no run takes one back -/
theorem ask_drawn {α : Type} : ∀ (x : Ask α) (w : World), w.drawn ≤ (w.ask x).2.drawn
  | .done a, w => Nat.le_refl _
  | .ask what range k, w => by
    simp only [World.ask]
    split
    · exact ask_drawn (k 0) w
    · exact Nat.le_trans (Nat.le_succ _) (ask_drawn (k _) { w with drawn := w.drawn + 1 })
theorem sys_drawn (w : World) (c : Sys) : w.drawn ≤ (w.sys c).2.drawn := by
  have := ask_drawn (Kernel.perform c w.os) w
  unfold World.sys
  split
  · exact Nat.le_refl _
  · rename_i h
    rw [h] at this
    exact this
theorem setCell_drawn (w : World) (a : Addr) (v : Value) : (w.setCell a v).drawn = w.drawn := rfl
theorem viewStore_drawn (p : Program) (w w' : World) (at_ : Addr) (u : TypeId) (k : Addr) (v : Value) (m : Bool) {x} (h : w.viewStore p at_ u k v m = .ok (w', x)) : w'.drawn = w.drawn := by
  unfold World.viewStore at h
  simp only [bind, Except.bind, pure, Except.pure] at h
  repeat' split at h
  all_goals first | (cases h; done) | (cases h; rfl) | (simp only [Except.ok.injEq, Prod.mk.injEq] at h; rw [← h.1])
theorem farStore_drawn (p : Program) (w w' : World) (a : Addr) (v : Value) (m : Bool) {x} (h : w.farStore p a v m = .ok (w', x)) : w'.drawn = w.drawn := by
  unfold World.farStore at h
  split at h
  · split at h
    · rename_i hv
      cases h
      exact viewStore_drawn _ _ _ _ _ _ _ _ hv
    · cases h
  · cases h
theorem run_drawn {α : Type} {P : Program} (s : Sem α) : ∀ {w w' : World} {v : α}, s.run P w = .ok v w' → w.drawn ≤ w'.drawn := by
  induction s with
  | pure a => intro w w' v h; simp only [Sem.run, Result.ok.injEq] at h; rw [h.2]; exact Nat.le_refl _
  | load m a k ih =>
    intro w w' v h
    simp only [Sem.run] at h
    split at h
    · exact ih _ h
    · split at h
      · exact ih _ h
      · cases h
  | store m a v k ih =>
    intro w w' x h
    cases v
    case agg => simp [Sem.run] at h
    case tuple => simp [Sem.run] at h
    all_goals
      simp only [Sem.run] at h
      split at h
      · split at h
        · cases h
        · have := ih h; rwa [setCell_drawn] at this
      · split at h
        · rename_i hf
          have := ih h; rwa [farStore_drawn _ _ _ _ _ _ hf] at this
        · cases h
  | new o k ih => intro w w' v h; simp only [Sem.run] at h; have := ih _ h; exact this
  | shape r k ih => intro w w' v h; simp only [Sem.run] at h; exact ih _ h
  | freeze a n k ih =>
    intro w w' v h
    simp only [Sem.run] at h
    have := ih h
    refine Nat.le_trans ?_ this
    unfold World.freeze
    split <;> exact Nat.le_refl _
  | frozen a k ih => intro w w' v h; simp only [Sem.run] at h; exact ih _ h
  | getObj r k ih =>
    intro w w' v h
    simp only [Sem.run] at h
    split at h
    · cases h
    · exact ih _ h
    · cases h
  | setObj r o k ih =>
    intro w w' v h
    simp only [Sem.run] at h
    split at h
    · cases h
    · have := ih h; exact this
    · cases h
  | choose q k ih =>
    intro w w' v h
    simp only [Sem.run] at h
    split at h
    · exact ih _ h
    · exact Nat.le_trans (Nat.le_succ _) (ih _ h)
  | sys c k ih => intro w w' v h; simp only [Sem.run] at h; exact Nat.le_trans (sys_drawn w c) (ih _ h)
  | program k ih => intro w w' v h; simp only [Sem.run] at h; exact ih _ h
  | mark m k ih => intro w w' v h; simp only [Sem.run] at h; exact ih h
  | halt h => intro w w' v h; simp [Sem.run] at h
end Go
namespace Go.SL
open Go.RowKit

abbrev TT := List (Nat × Value)
/-- what a block of the walk's own holds: the first cells of a row; the entries of a map; another object -/
inductive AO where
  | cells (c : List Value) (E : TypeId) (tot : Nat)
  | map (es : List (Value × Value))
  | obj (o : Obj)
  | ro (c : List Value)
abbrev Seg := List (Nat × AO)
abbrev SS := List Seg

def Owns (w : World) (b : Nat) : AO → Prop
  | .cells c E tot => ∃ C : Array Value, w.heap[b]? = some (.cells C E (0, 0)) ∧ C.size = tot ∧ C.toList.take c.length = c
  | .map es => ∃ en clk, w.heap[b]? = some (.map en clk) ∧ en.toList.map (fun e => (e.key, e.val)) = es
  | .obj o => w.heap[b]? = some o
  | .ro c => ∃ C E fr, w.heap[b]? = some (.cells C E fr) ∧ C.toList.take c.length = c

theorem Owns.congr {w w' : World} {b : Nat} {o : AO} (h : Owns w b o) (e : w'.heap[b]? = w.heap[b]?) : Owns w' b o := by
  cases o <;> simp only [Owns, e] at * <;> exact h
theorem Owns.lt {w : World} {b : Nat} {o : AO} (h : Owns w b o) : b < w.heap.size := by
  have key : ∀ x, w.heap[b]? = some x → b < w.heap.size := fun x hx => (Array.getElem?_eq_some_iff.1 hx).1
  cases o with
  | cells c E tot => obtain ⟨C, h, _⟩ := h; exact key _ h
  | map es => obtain ⟨en, clk, h, _⟩ := h; exact key _ h
  | obj o => exact key _ h
  | ro c => obtain ⟨C, E, fr, h, _⟩ := h; exact key _ h

@[irreducible] def Loose : Prop := False
structure Rep (w0 : World) (S : SS) (w : World) : Prop where
  below : Below w0.heap.size w0 w
  nodup : (S.flatten.map Prod.fst).Nodup
  own : ∀ p ∈ S.flatten, w0.heap.size ≤ p.1 ∧ Owns w p.1 p.2
  drawn : Loose ∨ w0.drawn ≤ w.drawn

theorem Rep.start (w : World) : Rep w [] w := ⟨Below.refl _ _, by simp, by simp, .inr (Nat.le_refl _)⟩
theorem Rep.base {w0 : World} {S : SS} {w : World} (h : Rep w0 S w) : w0.heap.size ≤ w.heap.size := h.below.size
theorem Rep.lt {w0 : World} {S : SS} {w : World} (h : Rep w0 S w) {p : Nat × AO} (hp : p ∈ S.flatten) : p.1 < w.heap.size := (h.own p hp).2.lt

/-- any part of what is known may be forgotten, in any order -/
theorem Rep.sub {w0 : World} {S S' : SS} {w : World} (h : Rep w0 S w) (hs : ∀ p ∈ S'.flatten, p ∈ S.flatten) (hn : (S'.flatten.map Prod.fst).Nodup) : Rep w0 S' w :=
  ⟨h.below, hn, fun p hp => h.own p (hs p hp), h.drawn⟩

/-- segments chosen by their places, the rest of the first n dropped -/
def sel (is : List Nat) (n : Nat) (S : SS) : SS := (is.map fun i => S.getD i []) ++ S.drop n

theorem flatten_mem_getD {S : SS} {i : Nat} {p : Nat × AO} (h : p ∈ S.getD i []) : p ∈ S.flatten := by
  rw [List.getD_eq_getElem?_getD] at h
  cases e : S[i]? with
  | none => simp [e] at h
  | some s => simp [e] at h; exact List.mem_flatten.2 ⟨s, List.mem_of_getElem? e, h⟩

theorem sel_mem {is : List Nat} {n : Nat} {S : SS} {p : Nat × AO} (h : p ∈ (sel is n S).flatten) : p ∈ S.flatten := by
  simp only [sel, List.flatten_append, List.mem_append] at h
  rcases h with h | h
  · obtain ⟨s, hs, hp⟩ := List.mem_flatten.1 h
    obtain ⟨i, _, rfl⟩ := List.mem_map.1 hs
    exact flatten_mem_getD hp
  · obtain ⟨s, hs, hp⟩ := List.mem_flatten.1 h
    exact List.mem_flatten.2 ⟨s, List.mem_of_mem_drop hs, hp⟩

theorem nodup_disj {S : SS} (h : (S.flatten.map Prod.fst).Nodup) {i j : Nat} (hij : i < j) {p q : Nat × AO} (hp : p ∈ S.getD i []) (hq : q ∈ S.getD j []) : p.1 ≠ q.1 := by
  induction S generalizing i j with
  | nil => simp at hp
  | cons s S ih =>
    simp only [List.flatten_cons, List.map_append, List.nodup_append] at h
    obtain ⟨h1, h2, h3⟩ := h
    cases j with
    | zero => omega
    | succ j =>
      cases i with
      | zero =>
        simp at hp hq
        exact h3 _ (List.mem_map.2 ⟨p, hp, rfl⟩) _ (List.mem_map.2 ⟨q, flatten_mem_getD (S := S) (i := j) (by simpa using hq), rfl⟩)
      | succ i => exact ih h2 (i := i) (j := j) (by omega) (by rwa [List.getD_cons_succ] at hp) (by rwa [List.getD_cons_succ] at hq)

theorem nodup_getD {S : SS} (h : (S.flatten.map Prod.fst).Nodup) (i : Nat) : ((S.getD i []).map Prod.fst).Nodup := by
  induction S generalizing i with
  | nil => simp
  | cons s S ih =>
    simp only [List.flatten_cons, List.map_append, List.nodup_append] at h
    cases i with
    | zero => simpa using h.1
    | succ i => simpa using ih h.2.1 i

theorem drop_mem_getD {S : SS} {n : Nat} {p : Nat × AO} (h : p ∈ (S.drop n).flatten) : ∃ j, n ≤ j ∧ p ∈ S.getD j [] := by
  obtain ⟨s, hs, hp⟩ := List.mem_flatten.1 h
  obtain ⟨k, hk⟩ := List.getElem?_of_mem hs
  refine ⟨n + k, by omega, ?_⟩
  rw [List.getElem?_drop] at hk
  simp [hk, hp]

theorem nodup_drop {S : SS} (h : (S.flatten.map Prod.fst).Nodup) (n : Nat) : ((S.drop n).flatten.map Prod.fst).Nodup := by
  induction n generalizing S with
  | zero => simpa using h
  | succ n ih =>
    cases S with
    | nil => simp
    | cons s S =>
      simp only [List.flatten_cons, List.map_append, List.nodup_append] at h
      simpa using ih h.2.1

theorem sel_nodup {is : List Nat} {n : Nat} {S : SS} (h : (S.flatten.map Prod.fst).Nodup) (hi : is.Nodup) (hn : ∀ i ∈ is, i < n) : ((sel is n S).flatten.map Prod.fst).Nodup := by
  simp only [sel]
  induction is with
  | nil => simpa using nodup_drop h n
  | cons i is ih =>
    simp only [List.map_cons, List.cons_append, List.flatten_cons, List.map_append, List.nodup_append]
    rw [List.nodup_cons] at hi
    refine ⟨nodup_getD h i, ?_, ?_⟩
    · simpa using ih hi.2 (fun j hj => hn j (by simp [hj]))
    · intro a ha b hb hab
      subst hab
      obtain ⟨p, hp, rfl⟩ := List.mem_map.1 ha
      obtain ⟨q, hq, he⟩ := List.mem_map.1 hb
      simp only [List.flatten_append, List.mem_append] at hq
      have hd : ∀ j, j ≠ i → q ∈ S.getD j [] → False := fun j hj hqj => by
        rcases Nat.lt_or_gt_of_ne hj with h' | h'
        · exact nodup_disj h h' hqj hp he
        · exact nodup_disj h h' hp hqj he.symm
      rcases hq with hq | hq
      · obtain ⟨s, hs, hqs⟩ := List.mem_flatten.1 hq
        obtain ⟨j, hj, rfl⟩ := List.mem_map.1 hs
        exact hd j (fun e => hi.1 (e ▸ hj)) hqs
      · obtain ⟨j, hj, hqj⟩ := drop_mem_getD hq
        have := hn i (by simp)
        exact hd j (by omega) hqj

theorem Rep.sel {w0 : World} {S : SS} {w : World} (h : Rep w0 S w) (is : List Nat) (n : Nat) (hi : (decide is.Nodup && is.all (· < n)) = true) : Rep w0 (SL.sel is n S) w := by
  simp only [Bool.and_eq_true, decide_eq_true_eq, List.all_eq_true] at hi
  exact h.sub (fun p hp => sel_mem hp) (sel_nodup h.nodup hi.1 hi.2)

/-! ### cells that can be read -/
/-- a cell that reads so: of the world in which the law began, or of an owned row -/
def Cell (w0 : World) (S : SS) (a : Addr) (v : Value) : Prop :=
  w0.cell? a = some v ∨ (∃ c E tot, (a.block, AO.cells c E tot) ∈ S.flatten ∧ a.spot = none ∧ c[a.off]? = some v) ∨ ∃ c, (a.block, AO.ro c) ∈ S.flatten ∧ a.spot = none ∧ c[a.off]? = some v

theorem Rep.cell {w0 : World} {S : SS} {w : World} (h : Rep w0 S w) {a : Addr} {v : Value} (hc : Cell w0 S a v) : w.cell? a = some v := by
  have key : ∀ (C : Array Value) (E : TypeId) (fr : Nat × Nat) (c : List Value), w.heap[a.block]? = some (.cells C E fr) → C.toList.take c.length = c → a.spot = none → c[a.off]? = some v → w.cell? a = some v := by
    intro C E fr c hC hp hs hv
    unfold World.cell?
    rw [hC]
    simp only [hs, Option.isSome_none, Bool.false_eq_true, if_false]
    have hlt : a.off < c.length := (List.getElem?_eq_some_iff.1 hv).1
    have : (C.toList.take c.length)[a.off]? = some v := by rw [hp]; exact hv
    rw [List.getElem?_take_of_lt hlt] at this
    simpa using this
  rcases hc with hc | ⟨c, E, tot, hm, hs, hv⟩ | ⟨c, hm, hs, hv⟩
  · rw [h.below.cell (World.block_lt_of_cell? w0 a hc)]; exact hc
  · obtain ⟨_, C, hC, ht, hp⟩ := h.own _ hm
    exact key C E _ c hC hp hs hv
  · obtain ⟨_, C, E, fr, hC, hp⟩ := h.own _ hm
    exact key C E fr c hC hp hs hv

theorem Cell.mono {w0 : World} {S S' : SS} {a : Addr} {v : Value} (h : Cell w0 S a v) (hs : ∀ p ∈ S.flatten, p ∈ S'.flatten) : Cell w0 S' a v := by
  rcases h with h | ⟨c, E, tot, hm, h⟩ | ⟨c, hm, h⟩
  · exact .inl h
  · exact .inr (.inl ⟨c, E, tot, hs _ hm, h⟩)
  · exact .inr (.inr ⟨c, hs _ hm, h⟩)

/-! ### slots -/
def look : TT → Nat → Option Value
  | [], _ => none
  | (i, v) :: r, n => bif Nat.beq i n then some v else look r n
def put (d : Option Nat) (v : Value) (T : TT) : TT := match d with | some d => (d, v) :: T | none => T
/-- a slot of which nothing is known any more -/
def del (d : Option Nat) (T : TT) : TT := match d with | some d => T.filter fun p => !Nat.beq p.1 d | none => T

theorem look_put_same (d : Nat) (v : Value) (T : TT) : look ((d, v) :: T) d = some v := by simp [look, Nat.beq_refl]
theorem look_cons_ne {d i : Nat} (v : Value) (T : TT) (h : d ≠ i) : look ((d, v) :: T) i = look T i := by
  have : Nat.beq d i = false := by
    cases e : Nat.beq d i with
    | false => rfl
    | true => exact absurd (Nat.eq_of_beq_eq_true e) h
  simp [look, this]
theorem look_del {d i : Nat} {T : TT} {v : Value} (h : look (T.filter fun p => !Nat.beq p.1 d) i = some v) : d ≠ i ∧ look T i = some v := by
  induction T with
  | nil => simp [look] at h
  | cons p T ih =>
    obtain ⟨j, u⟩ := p
    by_cases hj : j = d
    · subst hj
      simp [List.filter_cons, Nat.beq_refl] at h
      obtain ⟨h1, h2⟩ := ih h
      exact ⟨h1, by rw [look_cons_ne u T h1]; exact h2⟩
    · have hb : Nat.beq j d = false := by
        cases e : Nat.beq j d with
        | false => rfl
        | true => exact absurd (Nat.eq_of_beq_eq_true e) hj
      simp only [List.filter_cons, hb, Bool.not_false, if_true] at h
      by_cases hji : j = i
      · subst hji
        rw [look_put_same] at h
        exact ⟨fun e => hj e.symm, by rw [look_put_same]; exact h⟩
      · rw [look_cons_ne _ _ hji] at h
        obtain ⟨h1, h2⟩ := ih h
        exact ⟨h1, by rw [look_cons_ne _ _ hji]; exact h2⟩

structure Sat (n : Nat) (T : TT) (a : Act) : Prop where
  size : a.tmps.size = n
  defers : a.defers = []
  get : ∀ i v, look T i = some v → a.tmps[i]? = some v

def dstOk (n : Nat) (d : Option Nat) : Bool := match d with | some d => d < n | none => true

theorem Sat.put {n : Nat} {T : TT} {a : Act} (h : Sat n T a) {d : Option Nat} (hd : dstOk n d = true) (v : Value) : Sat n (SL.put d v T) (a.put d v) := by
  cases d with
  | none => exact h
  | some d =>
    simp [dstOk] at hd
    refine ⟨by simp [Act.put, h.size], h.defers, fun i u hu => ?_⟩
    by_cases e : d = i
    · subst e
      simp only [SL.put, look_put_same] at hu
      obtain rfl := Option.some.inj hu
      simp [Act.put, h.size, hd]
    · simp only [SL.put] at hu
      rw [look_cons_ne _ _ e] at hu
      simp only [Act.put, Array.getElem?_setIfInBounds_ne e]
      exact h.get i u hu
theorem Sat.del {n : Nat} {T : TT} {a : Act} (h : Sat n T a) {d : Option Nat} (v : Value) : Sat n (SL.del d T) (a.put d v) := by
  cases d with
  | none => exact h
  | some d =>
    refine ⟨by simp [Act.put, h.size], h.defers, fun i u hu => ?_⟩
    obtain ⟨h1, h2⟩ := look_del hu
    simp only [Act.put, Array.getElem?_setIfInBounds_ne h1]
    exact h.get i u h2
theorem Sat.keep {n : Nat} {T T' : TT} {a : Act} (h : Sat n T a) (hk : ∀ i v, look T' i = some v → look T i = some v) : Sat n T' a := ⟨h.size, h.defers, fun i v hv => h.get i v (hk i v hv)⟩

/-- T' says no more than T does: a computed question, the values by unification -/
def Within : TT → TT → Prop
  | [], _ => True
  | (i, v) :: r, T => look T i = some v ∧ Within r T
theorem Within.spec {T' T : TT} (h : Within T' T) : ∀ i v, look T' i = some v → look T i = some v := by
  induction T' with
  | nil => intro i v hv; simp [look] at hv
  | cons p r ih =>
    obtain ⟨j, u⟩ := p
    intro i v hv
    by_cases e : j = i
    · subst e
      rw [look_put_same] at hv
      obtain rfl := Option.some.inj hv
      exact h.1
    · rw [look_cons_ne _ _ e] at hv
      exact ih h.2 i v hv

/-- an operand: a slot, a value -/
inductive PV where
  | t (n : Nat)
  | v (x : Value)
def cV : Operand → PV
  | .tmp n => .t n
  | .const v => .v v
  | .global g => .v (.pointer (some ⟨g, 0, none⟩))
  | .func f => .v (.func (.func f) #[] #[])
def PV.val (T : TT) : PV → Option Value
  | .v x => some x
  | .t n => look T n
theorem Sat.eval {n : Nat} {T : TT} {a : Act} (h : Sat n T a) {x : Operand} {v : Value} (hv : (cV x).val T = some v) : a.eval x = v := by
  cases x with
  | tmp t =>
    simp only [cV, PV.val] at hv
    have := h.get t v hv
    simp [Act.eval, Array.getD_eq_getD_getElem?, this]
  | const u => simpa [cV, PV.val, Act.eval] using hv
  | global g => simpa [cV, PV.val, Act.eval] using hv
  | func f => simpa [cV, PV.val, Act.eval] using hv

end Go.SL
