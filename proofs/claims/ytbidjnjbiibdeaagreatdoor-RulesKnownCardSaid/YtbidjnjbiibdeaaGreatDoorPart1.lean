/- Walks. -/
import Derived.Below
import Derived.Calls
import Derived.Orders
import Derived.OwnWalk
import Derived.Laws.MakeOwn
import Derived.Laws.OwnMore
import Derived.Laws.Rows
import Derived.Laws.Tables
import Derived.Laws.CopyRow
import Derived.Laws.AppendOwn
import Derived.KernelRfl
import Derived.Scope
import Derived.Deep.MidRow
import Derived.Laws.Slices
import Derived.Laws.AppendOwnNone
import Derived.Laws.Small
import Derived.IntWalk
import Derived.MapKept
import Derived.Laws.StructEq
set_option linter.unusedVariables false
set_option linter.unusedSimpArgs false
set_option linter.unusedSectionVars false
theorem cvS : (∀ {p : Prop} [Decidable p], (decide p = true) = p) ∧ (∀ {p : Prop} [Decidable p], decide p = false ↔ ¬p) ∧ (∀ {α : Type} [BEq α] [LawfulBEq α] {a b : α}, (a == b) = true ↔ a = b) ∧ (∀ {α : Type} [BEq α] [LawfulBEq α] {a b : α}, (a != b) = true ↔ a ≠ b) ∧ (∀ {α : Type} [BEq α] [LawfulBEq α] {a b : α}, (a == b) = false ↔ a ≠ b) ∧ (∀ {α : Type} [BEq α] [LawfulBEq α] {a b : α}, (a != b) = false ↔ a = b) ∧ (∀ {b : Bool}, ((!b) = true) = (b = false)) ∧ (∀ {b : Bool}, ((!b) = false) = (b = true)) ∧ (∀ {b : Bool}, (¬(b = true)) = (b = false)) ∧ (∀ {α : Type} (a b : α), (a ≠ b) = ¬(a = b)) ∧ (∀ {p : Prop} [Decidable p], ¬¬p ↔ p) ∧ ((false = true) = False) ∧ (∀ {α : Type} {h : Decidable False} (t e : α), (ite False t e) = e) ∧ (∀ {α : Type} {h : Decidable True} (t e : α), (ite True t e) = t) :=
 ⟨decide_eq_true_eq, decide_eq_false_iff_not, beq_iff_eq, bne_iff_ne, beq_eq_false_iff_ne, bne_eq_false_iff_eq, by intro b; cases b <;> simp, by intro b; cases b <;> simp, by intro b; cases b <;> simp, fun _ _ => rfl, Decidable.not_not, by simp, fun _ _ => if_neg not_false, fun _ _ => if_pos trivial⟩

namespace Go
theorem ask_drawn {α : Type} : ∀ (x : Ask α) (w : World), w.drawn <= (w.ask x).2.drawn
 | .done a, w => Nat.le_refl _
 | .ask what range k, w => by
  simp only [World.ask]
  split
  ·exact ask_drawn (k 0) w
  exact Nat.le_trans (Nat.le_succ _) (ask_drawn (k _) { w with drawn := w.drawn + 1 })
theorem sys_drawn (w : World) (c : Sys) : w.drawn <= (w.sys c).2.drawn := by
 have := ask_drawn (Kernel.perform c w.os) w
 unfold World.sys
 split
 ·exact Nat.le_refl _
 rename_i h
 rw [h] at this
 exact this
theorem setCell_drawn (w : World) (a : Addr) (v : Value) : (w.setCell a v).drawn = w.drawn := rfl
theorem viewStore_drawn (p : Program) (w w' : World) (at_ : Addr) (u : TypeId) (k : Addr) (v : Value) (m : Bool) {x} (h : w.viewStore p at_ u k v m = .ok (w', x)) : w'.drawn = w.drawn := by
 unfold World.viewStore at h
 simp only [bind, Except.bind, pure, Except.pure] at h
 repeat' split at h
 all_goals first | (cases h; done) | (cases h; rfl) | (simp only [Except.ok.injEq, Prod.mk.injEq] at h; rw [<- h.1])
theorem farStore_drawn (p : Program) (w w' : World) (a : Addr) (v : Value) (m : Bool) {x} (h : w.farStore p a v m = .ok (w', x)) : w'.drawn = w.drawn := by
 unfold World.farStore at h
 split at h
 ·split at h
  ·rename_i hv
   cases h
   exact viewStore_drawn _ _ _ _ _ _ _ _ hv
  cases h
 cases h
theorem run_drawn {α : Type} {P : Program} (s : Sem α) : ∀ {w w' : World} {v : α}, s.run P w = .ok v w' -> w.drawn <= w'.drawn := by
 induction s with
 | pure a => intro w w' v h; simp only [Sem.run, Result.ok.injEq] at h; rw [h.2]; exact Nat.le_refl _
 | load m a k ih =>
  intro w w' v h
  simp only [Sem.run] at h
  split at h
  ·exact ih _ h
  split at h
  ·exact ih _ h
  cases h
 | store m a v k ih =>
  intro w w' x h
  cases v
  case agg => simp [Sem.run] at h
  case tuple => simp [Sem.run] at h
  all_goals
   simp only [Sem.run] at h
   split at h
   ·split at h
    ·cases h
    have := ih h; rwa [setCell_drawn] at this
   split at h
   ·rename_i hf
    have := ih h; rwa [farStore_drawn _ _ _ _ _ _ hf] at this
   cases h
 | new o k ih => intro w w' v h; simp only [Sem.run] at h; have := ih _ h; exact this
 | shape r k ih => intro w w' v h; simp only [Sem.run] at h; exact ih _ h
 | freeze a n k ih =>
  intro w w' v h
  simp only [Sem.run] at h
  have := ih h
  refine Nat.le_trans ?_ this
  unfold World.freeze
  split <;> exact Nat.le_refl _
 | frozen a k ih => intro w w' v h; simp only [Sem.run] at h; exact ih _ h
 | getObj r k ih =>
  intro w w' v h
  simp only [Sem.run] at h
  split at h
  ·cases h
  ·exact ih _ h
  cases h
 | setObj r o k ih =>
  intro w w' v h
  simp only [Sem.run] at h
  split at h
  ·cases h
  ·have := ih h; exact this
  cases h
 | choose q k ih =>
  intro w w' v h
  simp only [Sem.run] at h
  split at h
  ·exact ih _ h
  exact Nat.le_trans (Nat.le_succ _) (ih _ h)
 | sys c k ih => intro w w' v h; simp only [Sem.run] at h; exact Nat.le_trans (sys_drawn w c) (ih _ h)
 | program k ih => intro w w' v h; simp only [Sem.run] at h; exact ih _ h
 | mark m k ih => intro w w' v h; simp only [Sem.run] at h; exact ih h
 | halt h => intro w w' v h; simp [Sem.run] at h
end Go
namespace Go.SL
open Go.RowKit
abbrev TT := List (Nat × Value)
inductive AO where
 | cells (c : List Value) (E : TypeId) (tot : Nat)
 | map (es : List (Value × Value))
 | obj (o : Obj)
 | ro (c : List Value)
 | gm (es : List (Value × Value))
abbrev Seg := List (Nat × AO)
abbrev SS := List Seg
def Owns (w : World) (b : Nat) : AO -> Prop
 | .cells c E tot => ∃ C : Array Value, w.heap[b]? = some (.cells C E (0, 0)) /\ C.size = tot /\ C.toList.take c.length = c
 | .map es => ∃ en clk, w.heap[b]? = some (.map en clk) /\ en.toList.map (fun e => (e.key, e.val)) = es
 | .obj o => w.heap[b]? = some o
 | .ro c => ∃ C E fr, w.heap[b]? = some (.cells C E fr) /\ C.toList.take c.length = c
 | .gm es => ∃ en clk, w.heap[b]? = some (.map en clk) /\ en.toList.map (fun e => (e.key, e.val)) = es /\ (en.toList.map (·.born)).Nodup /\ (∀ e ∈ en.toList, e.born < clk) /\ (en.toList.map (·.key)).Nodup
theorem Owns.congr {w w' : World} {b : Nat} {o : AO} (h : Owns w b o) (e : w'.heap[b]? = w.heap[b]?) : Owns w' b o := by
 cases o <;> simp only [Owns, e] at * <;> exact h
theorem Owns.lt {w : World} {b : Nat} {o : AO} (h : Owns w b o) : b < w.heap.size := by
 have key : ∀ x, w.heap[b]? = some x -> b < w.heap.size := fun x hx => (Array.getElem?_eq_some_iff.1 hx).1
 cases o with
 | cells c E tot => obtain ⟨C, h, _⟩ := h; exact key _ h
 | map es => obtain ⟨en, clk, h, _⟩ := h; exact key _ h
 | obj o => exact key _ h
 | ro c => obtain ⟨C, E, fr, h, _⟩ := h; exact key _ h
 | gm es => obtain ⟨en, clk, h, _⟩ := h; exact key _ h
@[irreducible] def Loose : Prop := False
structure Rep (w0 : World) (S : SS) (w : World) : Prop where
 below : Below w0.heap.size w0 w
 nodup : (S.flatten.map Prod.fst).Nodup
 own : ∀ p ∈ S.flatten, w0.heap.size <= p.1 /\ Owns w p.1 p.2
 drawn : Loose ∨ w0.drawn <= w.drawn
theorem Rep.start (w : World) : Rep w [] w := ⟨Below.refl _ _, by simp, by simp, .inr (Nat.le_refl _)⟩
theorem Rep.base {w0 : World} {S : SS} {w : World} (h : Rep w0 S w) : w0.heap.size <= w.heap.size := h.below.size
theorem Rep.lt {w0 : World} {S : SS} {w : World} (h : Rep w0 S w) {p : Nat × AO} (hp : p ∈ S.flatten) : p.1 < w.heap.size := (h.own p hp).2.lt
theorem Rep.sub {w0 : World} {S S' : SS} {w : World} (h : Rep w0 S w) (hs : ∀ p ∈ S'.flatten, p ∈ S.flatten) (hn : (S'.flatten.map Prod.fst).Nodup) : Rep w0 S' w :=
 ⟨h.below, hn, fun p hp => h.own p (hs p hp), h.drawn⟩
theorem flatten_mem_getD {S : SS} {i : Nat} {p : Nat × AO} (h : p ∈ S.getD i []) : p ∈ S.flatten := by
 rw [List.getD_eq_getElem?_getD] at h
 cases e : S[i]? with
 | none => simp [e] at h
 | some s => simp [e] at h; exact List.mem_flatten.2 ⟨s, List.mem_of_getElem? e, h⟩
theorem nodup_disj {S : SS} (h : (S.flatten.map Prod.fst).Nodup) {i j : Nat} (hij : i < j) {p q : Nat × AO} (hp : p ∈ S.getD i []) (hq : q ∈ S.getD j []) : p.1 ≠ q.1 := by
 induction S generalizing i j with
 | nil => simp at hp
 | cons s S ih =>
  simp only [List.flatten_cons, List.map_append, List.nodup_append] at h
  obtain ⟨h1, h2, h3⟩ := h
  cases j with
  | zero => omega
  | succ j =>
   cases i with
   | zero =>
    simp at hp hq
    exact h3 _ (List.mem_map.2 ⟨p, hp, rfl⟩) _ (List.mem_map.2 ⟨q, flatten_mem_getD (S := S) (i := j) (by simpa using hq), rfl⟩)
   | succ i => exact ih h2 (i := i) (j := j) (by omega) (by rwa [List.getD_cons_succ] at hp) (by rwa [List.getD_cons_succ] at hq)
def Cell (w0 : World) (S : SS) (a : Addr) (v : Value) : Prop :=
 w0.cell? a = some v ∨ (∃ c E tot, (a.block, AO.cells c E tot) ∈ S.flatten /\ a.spot = none /\ c[a.off]? = some v) ∨ ∃ c, (a.block, AO.ro c) ∈ S.flatten /\ a.spot = none /\ c[a.off]? = some v
theorem Rep.cell {w0 : World} {S : SS} {w : World} (h : Rep w0 S w) {a : Addr} {v : Value} (hc : Cell w0 S a v) : w.cell? a = some v := by
 have key : ∀ (C : Array Value) (E : TypeId) (fr : Nat × Nat) (c : List Value), w.heap[a.block]? = some (.cells C E fr) -> C.toList.take c.length = c -> a.spot = none -> c[a.off]? = some v -> w.cell? a = some v := by
  intro C E fr c hC hp hs hv
  unfold World.cell?
  rw [hC]
  simp only [hs, Option.isSome_none, Bool.false_eq_true, if_false]
  have hlt : a.off < c.length := (List.getElem?_eq_some_iff.1 hv).1
  have : (C.toList.take c.length)[a.off]? = some v := by rw [hp]; exact hv
  rw [List.getElem?_take_of_lt hlt] at this
  simpa using this
 rcases hc with hc | ⟨c, E, tot, hm, hs, hv⟩ | ⟨c, hm, hs, hv⟩
 ·rw [h.below.cell (World.block_lt_of_cell? w0 a hc)]; exact hc
 ·obtain ⟨_, C, hC, ht, hp⟩ := h.own _ hm
  exact key C E _ c hC hp hs hv
 obtain ⟨_, C, E, fr, hC, hp⟩ := h.own _ hm
 exact key C E fr c hC hp hs hv
theorem Cell.mono {w0 : World} {S S' : SS} {a : Addr} {v : Value} (h : Cell w0 S a v) (hs : ∀ p ∈ S.flatten, p ∈ S'.flatten) : Cell w0 S' a v := by
 rcases h with h | ⟨c, E, tot, hm, h⟩ | ⟨c, hm, h⟩
 ·exact .inl h
 ·exact .inr (.inl ⟨c, E, tot, hs _ hm, h⟩)
 exact .inr (.inr ⟨c, hs _ hm, h⟩)
def look : TT -> Nat -> Option Value
 | [], _ => none
 | (i, v) :: r, n => bif Nat.beq i n then some v else look r n
def put (d : Option Nat) (v : Value) (T : TT) : TT := match d with | some d => (d, v) :: T | none => T
def del (d : Option Nat) (T : TT) : TT := match d with | some d => T.filter fun p => !Nat.beq p.1 d | none => T
theorem look_put_same (d : Nat) (v : Value) (T : TT) : look ((d, v) :: T) d = some v := by simp [look, Nat.beq_refl]
theorem look_cons_ne {d i : Nat} (v : Value) (T : TT) (h : d ≠ i) : look ((d, v) :: T) i = look T i := by
 have : Nat.beq d i = false := by
  cases e : Nat.beq d i with
  | false => rfl
  | true => exact absurd (Nat.eq_of_beq_eq_true e) h
 simp [look, this]
theorem look_del {d i : Nat} {T : TT} {v : Value} (h : look (T.filter fun p => !Nat.beq p.1 d) i = some v) : d ≠ i /\ look T i = some v := by
 induction T with
 | nil => simp [look] at h
 | cons p T ih =>
  obtain ⟨j, u⟩ := p
  by_cases hj : j = d
  ·subst hj
   simp [List.filter_cons, Nat.beq_refl] at h
   obtain ⟨h1, h2⟩ := ih h
   exact ⟨h1, by rw [look_cons_ne u T h1]; exact h2⟩
  have hb : Nat.beq j d = false := by
   cases e : Nat.beq j d with
   | false => rfl
   | true => exact absurd (Nat.eq_of_beq_eq_true e) hj
  simp only [List.filter_cons, hb, Bool.not_false, if_true] at h
  by_cases hji : j = i
  ·subst hji
   rw [look_put_same] at h
   exact ⟨fun e => hj e.symm, by rw [look_put_same]; exact h⟩
  rw [look_cons_ne _ _ hji] at h
  obtain ⟨h1, h2⟩ := ih h
  exact ⟨h1, by rw [look_cons_ne _ _ hji]; exact h2⟩
structure Sat (n : Nat) (T : TT) (a : Act) : Prop where
 size : a.tmps.size = n
 defers : a.defers = []
 get : ∀ i v, look T i = some v -> a.tmps[i]? = some v
def dstOk (n : Nat) (d : Option Nat) : Bool := match d with | some d => d < n | none => true
theorem Sat.put {n : Nat} {T : TT} {a : Act} (h : Sat n T a) {d : Option Nat} (hd : dstOk n d = true) (v : Value) : Sat n (SL.put d v T) (a.put d v) := by
 cases d with
 | none => exact h
 | some d =>
  simp [dstOk] at hd
  refine ⟨by simp [Act.put, h.size], h.defers, fun i u hu => ?_⟩
  by_cases e : d = i
  ·subst e
   simp only [SL.put, look_put_same] at hu
   obtain rfl := Option.some.inj hu
   simp [Act.put, h.size, hd]
  simp only [SL.put] at hu
  rw [look_cons_ne _ _ e] at hu
  simp only [Act.put, Array.getElem?_setIfInBounds_ne e]
  exact h.get i u hu
theorem Sat.keep {n : Nat} {T T' : TT} {a : Act} (h : Sat n T a) (hk : ∀ i v, look T' i = some v -> look T i = some v) : Sat n T' a := ⟨h.size, h.defers, fun i v hv => h.get i v (hk i v hv)⟩
def Within : TT -> TT -> Prop
 | [], _ => True
 | (i, v) :: r, T => look T i = some v /\ Within r T
theorem Within.spec {T' T : TT} (h : Within T' T) : ∀ i v, look T' i = some v -> look T i = some v := by
 induction T' with
 | nil => intro i v hv; simp [look] at hv
 | cons p r ih =>
  obtain ⟨j, u⟩ := p
  intro i v hv
  by_cases e : j = i
  ·subst e
   rw [look_put_same] at hv
   obtain rfl := Option.some.inj hv
   exact h.1
  rw [look_cons_ne _ _ e] at hv
  exact ih h.2 i v hv
inductive PV where
 | t (n : Nat)
 | v (x : Value)
def cV : Operand -> PV
 | .tmp n => .t n
 | .const v => .v v
 | .global g => .v (.pointer (some ⟨g, 0, none⟩))
 | .func f => .v (.func (.func f) #[] #[])
def PV.val (T : TT) : PV -> Option Value
 | .v x => some x
 | .t n => look T n
theorem Sat.eval {n : Nat} {T : TT} {a : Act} (h : Sat n T a) {x : Operand} {v : Value} (hv : (cV x).val T = some v) : a.eval x = v := by
 cases x with
 | tmp t =>
  simp only [cV, PV.val] at hv
  have := h.get t v hv
  simp [Act.eval, Array.getD_eq_getD_getElem?, this]
 | const u => simpa [cV, PV.val, Act.eval] using hv
 | global g => simpa [cV, PV.val, Act.eval] using hv
 | func f => simpa [cV, PV.val, Act.eval] using hv
end Go.SL

namespace Go.SL
open Go.RowKit
inductive CK where
 | int (k : IntKind)
 | str
 | bool
inductive RO where
 | any
 | cap (x : PV)
 | appM (t u E sz bytes : Nat) (zero : Value) (s l : PV)
 | xf (f : Nat) (args : List PV)
 | gen (x : Op)
inductive MO where
 | other (r : RO)
 | neg (x : PV)
 | slAr (len sz : Nat) (x : PV) (lo hi : Option PV)
 | mkI (t : TypeId) (x : PV)
 | eqI (neg : Bool) (x : PV)
 | eqJ (neg : Bool) (tys : List (TypeId × IntKind)) (x y : PV)
 | slNil (neg : Bool) (x : PV)
 | cvS (x : PV)
 | rngS (x : PV)
 | nxtS (x : PV)
 | clr (E sz : Nat) (zero : Value) (x : PV)
 | xc (row : Nat) (args : List PV)
 | uss (e : TypeId) (x y : PV)
 | usd (x : PV)
 | eqD (neg : Bool) (t : TypeId) (sh : List CK) (x y : PV)
 | bldA (zero : List Value) (parts : List (Nat × Nat × PV))
inductive PO where
 | mov (x : PV)
 | bin (op : BinOp) (x y : PV)
 | binB (op : BinOp) (x y : PV)
 | not (x : PV)
 | cvt (k : IntKind) (x : PV)
 | pick (c a b : PV)
 | ld (x : PV)
 | ldA (n : Nat) (x : PV)
 | st (sz : Nat) (x v : PV)
 | fa (off : Nat) (x : PV)
 | fld (off : Nat) (x : PV)
 | fldA (off n : Nat) (x : PV)
 | ixS (sz : Nat) (x i : PV)
 | ixStr (x i : PV)
 | lenS (x : PV)
 | lenStr (x : PV)
 | lenM (x : PV)
 | slS (sz : Nat) (x : PV) (lo hi : Option PV)
 | slStr (x : PV) (lo hi : Option PV)
 | build (zero : List Value) (parts : List (Nat × Nat × PV))
 | bsl (E : TypeId) (zero : List Value) (len : Nat) (parts : List (Nat × Nat × PV))
 | mkS (t E sz bytes : Nat) (zero : Value) (l c : PV)
 | mkM
 | lookS (zero : Value) (ok : Bool) (m k : PV)
 | updS (m k v : PV)
 | ext (i : Nat) (x : PV)
 | app (t E sz bytes : Nat) (zero : Value) (s x : PV)
 | mnx (mx : Bool) (xs : List PV)
 | call (f : FuncId) (args : List PV)
 | eqA (neg : Bool) (t : TypeId) (sh : List CK) (x y : PV)
 | al (E : TypeId) (zero : List Value)
 | bx (E : TypeId) (x : PV)
 | nilc (x : PV)
 | eqP (neg : Bool) (x y : PV)
 | strOf (x : PV)
 | bytesOf (E : TypeId) (x : PV)
 | appStr (t u E bytes : Nat) (zero : Value) (s x : PV)
 | slA (len : Nat) (x : PV)
 | ixA (len sz : Nat) (x i : PV)
 | callv (f : PV) (args : List PV)
 | mkF (f : FuncId) (caps : List PV)
 | bsl0 (E : TypeId)
 | cpy (E sz : Nat) (d s : PV)
 | more (o : MO)
structure PI where
 d : Option Nat
 g : Option (Nat × Bool)
 o : PO
inductive PC where
 | skip
 | ops (l : List PI)
 | quietR (b : List Nat) (k : Nat) (l : List PI)
 | seq (a b : PC)
 | cond (x : PV) (a b : PC)
 | block (id : Nat) (c : PC)
 | loop (c : PC)
 | exit (id : Nat)
 | ret
 | label
 | scope (c : PC)
section comp
variable (P : Program)
def aggOf (t : TypeId) : Option (Option Nat) :=
 match P.underlying t with
 | some (.struct _) | some (.array _ _) => (P.info? t).map fun i => some i.size
 | some _ => some none
 | none => none
def plainB (t : TypeId) : Bool := match P.underlying t with | some (.int _) | some .string => true | _ => false
def boolB (t : TypeId) : Bool := match P.underlying t with | some .bool => true | _ => false
def ptrB (t : TypeId) : Bool := match P.underlying t with | some (.pointer _) => true | _ => false
def partsAt (place : Nat -> Option (Nat × Nat)) (parts : List (Nat × Operand)) : Option (List (Nat × Nat × PV)) :=
 parts.mapM fun (i, x) => (place i).map fun (off, size) => (off, size, cV x)
def placesOf (P : Program) (fs : List Field) : Option (List (Nat × Nat)) := fs.mapM fun f => (P.info? f.type).map fun i => (f.offset, i.size)
def fnOk (f : FuncId) : Bool := match P.funcs[f]? with | some fn => fn.name != "runtime.NumGoroutine" && fn.body.isSome | none => false
def intTys (P : Program) : List (TypeId × IntKind) := (List.range P.types.size).filterMap fun t => match P.underlying t, P.info? t with
 | some (.int k), some i => if i.comparable then some (t, k) else none
 | _, _ => none
def ckOf (t : TypeId) : Option CK := match P.underlying t with | some (.int k) => some (.int k) | some .string => some .str | some .bool => some .bool | _ => none
def flatFrom : Nat -> List Field -> Option (List CK)
 | _, [] => some []
 | i, f :: fs => match ckOf P f.type, flatFrom (i + 1) fs with
  | some c, some cs => if f.offset = i /\ f.name ≠ "_" then some (c :: cs) else none
  | _, _ => none
def flatOf (t : TypeId) : Option (List CK) := match P.underlying t with
 | some (.struct fs) => if P.stoodInHeld t = false /\ P.eqGuardType P.depth t = false then flatFrom P 0 fs.toList else none
 | _ => none
def rowOf : Nat -> String
 | 0 => "internal/bytealg.IndexByteString"
 | 1 => "internal/bytealg.CountString"
 | _ => "internal/bytealg.abigen_runtime_cmpstring"
def rowCode (s : String) : Option Nat := if s = rowOf 0 then some 0 else if s = rowOf 1 then some 1 else if s = rowOf 2 then some 2 else none
theorem rowCode_spec {s : String} {k : Nat} (h : rowCode s = some k) : s = rowOf k := by
 unfold rowCode at h
 split at h
 ·obtain rfl := Option.some.inj h; assumption
 split at h
 ·obtain rfl := Option.some.inj h; assumption
 split at h
 ·obtain rfl := Option.some.inj h; assumption
 cases h
def structQ (g : TypeId -> Option (List CK)) : Nat -> List Field -> Option (List CK)
 | _, [] => some []
 | off, f :: fs => match g f.type with
  | some s => if f.offset = off /\ P.cellsOf f.type = s.length /\ f.name ≠ "_" then (structQ g (off + s.length) fs).map (s ++ ·) else none
  | none => none
def deepQ : Nat -> TypeId -> Option (List CK)
 | 0, _ => none
 | d + 1, t => match ckOf P t with
  | some c => some [c]
  | none => match P.underlying t with
   | some (.struct fs) => if P.stoodInHeld t = false then structQ P (deepQ d) 0 fs.toList else none
   | some (.array n e) => match deepQ d e with
    | some s => if P.cellsOf e = s.length then some ((List.replicate n s).flatten) else none
    | none => none
   | _ => none
def constNil : Operand -> Nat
 | .const .nilIface => 1
 | .const (.slice none 0 0) => 2
 | _ => 0
def cOp0 (o : Oper) : Option PO :=
 match o.op with
 | .move x => some (.mov (cV x))
 | .assign x => some (.mov (cV x))
 | .binOp op t x y _ => match plainB P t, boolB P t with
  | true, _ => some (.bin op (cV x) (cV y))
  | false, true => some (.binB op (cV x) (cV y))
  | _, _ => match flatOf P t with
   | some sh => match op with
    | .eql => some (.eqA false t sh (cV x) (cV y))
    | .neq => some (.eqA true t sh (cV x) (cV y))
    | _ => none
   | none => if ptrB P t then match op with
    | .eql => some (.eqP false (cV x) (cV y))
    | .neq => some (.eqP true (cV x) (cV y))
    | _ => none
    else match P.underlying t with
     | some (.interface _) => if constNil y = 1 then match op with
      | .eql => some (.more (.eqI false (cV x)))
      | .neq => some (.more (.eqI true (cV x)))
      | _ => none
      else match op with
      | .eql => some (.more (.eqJ false (intTys P) (cV x) (cV y)))
      | .neq => some (.more (.eqJ true (intTys P) (cV x) (cV y)))
      | _ => none
     | some (.slice _) => if constNil y = 2 then match op with
      | .eql => some (.more (.slNil false (cV x)))
      | .neq => some (.more (.slNil true (cV x)))
      | _ => none
      else none
     | some (.struct _) | some (.array _ _) => match deepQ P 8 t with
      | some sh => if P.eqGuardType P.depth t = false then match op with
       | .eql => some (.more (.eqD false t sh (cV x) (cV y)))
       | .neq => some (.more (.eqD true t sh (cV x) (cV y)))
       | _ => none
       else none
      | none => none
     | _ => none
 | .unOp .not _ x => some (.not (cV x))
 | .unOp .neg _ x => some (.more (.neg (cV x)))
 | .convert s t x => match P.underlying s, P.underlying t with
  | some (.int _), some (.int k) => some (.cvt k (cV x))
  | some (.slice e), some .string => match P.underlying e with
   | some (.int .u8) => some (.strOf (cV x))
   | _ => none
  | some .string, some (.slice e) => match P.underlying e with
   | some (.int .u8) => some (.bytesOf e (cV x))
   | _ => none
  | some (.slice _), some (.slice e) => if s = t then match P.underlying e with
   | some (.int .u8) => some (.more (.cvS (cV x)))
   | _ => none
   else none
  | _, _ => none
 | .pick c a b => some (.pick (cV c) (cV a) (cV b))
 | .load t x => match aggOf P t with
  | some none => some (.ld (cV x))
  | some (some n) => some (.ldA n (cV x))
  | none => none
 | .store t x v => match P.info? t with
  | some i => some (.st i.size (cV x) (cV v))
  | none => none
 | .fieldAddr s x f => match P.underlying s with
  | some (.struct fs) => match fs[f]? with
   | some f => match P.info? f.type with
    | some fi => if fi.size = 0 then none else some (.fa f.offset (cV x))
    | none => none
   | none => none
  | _ => none
 | .field s x f => match P.underlying s with
  | some (.struct fs) => match fs[f]? with
   | some f => match aggOf P f.type with
    | some none => some (.fld f.offset (cV x))
    | some (some n) => some (.fldA f.offset n (cV x))
    | none => none
   | none => none
  | _ => none
 | .indexAddr t x i => match P.underlying t with
  | some (.slice e) => match P.info? e with
   | some ie => some (.ixS ie.size (cV x) (cV i))
   | none => none
  | some (.array n e) => match P.info? e with
   | some ie => some (.ixA n ie.size (cV x) (cV i))
   | none => none
  | _ => none
 | .index t x i => match P.underlying t with
  | some .string => some (.ixStr (cV x) (cV i))
  | _ => none
 | .slice t x lo hi none => match P.underlying t with
  | some (.slice e) => match P.info? e with
   | some ie => some (.slS ie.size (cV x) (lo.map cV) (hi.map cV))
   | none => none
  | some .string => some (.slStr (cV x) (lo.map cV) (hi.map cV))
  | some (.array n e) => match lo, hi with
   | none, none => match P.info? e with
    | some _ => some (.slA n (cV x))
    | none => none
   | lo, hi => match P.info? e with
    | some ie => some (.more (.slAr n ie.size (cV x) (lo.map cV) (hi.map cV)))
    | none => none
  | _ => none
 | .build t parts => match P.underlying t, P.info? t with
  | some (.struct fs), some i => match i.zero, placesOf P fs.toList with
   | some z, some ps => match partsAt (fun j => ps[j]?) parts.toList with
    | some l => some (.build z.cells.toList l)
    | none => none
   | _, _ => none
  | some (.array _ e), some i => match i.zero, P.info? e with
   | some z, some ie => match partsAt (fun j => some (j * ie.size, ie.size)) parts.toList with
    | some l => some (.more (.bldA z.cells.toList l))
    | none => none
   | _, _ => none
  | _, _ => none
 | .buildSlice t len parts => match P.underlying t with
  | some (.slice e) => match P.info? e with
   | some i => match i.zero with
    | some z => if len * i.size <= 16777216 /\ len * i.size ≠ 0 then
      match partsAt (fun j => some (j * i.size, i.size)) parts.toList with
      | some l => some (.bsl e ((Array.range (len * i.size)).map (z.cells[· % z.cells.size]!)).toList len l)
      | none => none
     else if len = 0 then match parts.toList with
      | [] => some (.bsl0 e)
      | _ => none
     else none
    | none => none
   | none => none
  | _ => none
 | .makeSlice t l c => match P.underlying t with
  | some (.slice e) => match P.info? e with
   | some i => match i.zero with
    | some z => if z.cells.size = i.size /\ 0 < i.size then some (.mkS t e i.size i.bytes z (cV l) (cV c)) else none
    | none => none
   | none => none
  | _ => none
 | .makeMap t none => some .mkM
 | .lookup t m k ok => match P.underlying t with
  | some (.map kt et) => match P.underlying kt with
   | some .string => match P.info? et with
    | some i => match i.zero with
     | some z => some (.lookS z ok (cV m) (cV k))
     | none => none
    | none => none
   | _ => none
  | _ => none
 | .mapUpdate t m k v => match P.underlying t with
  | some (.map kt _) => match P.underlying kt with
   | some .string => some (.updS (cV m) (cV k) (cV v))
   | _ => none
  | _ => none
 | .extract x i => some (.ext i (cV x))
 | .alloc e => match P.info? e with
  | some i => match i.zero with
   | some z => some (.al e z.cells.toList)
   | none => none
  | none => none
 | .box e x => some (.bx e (cV x))
 | .nilCheck x => some (.nilc (cV x))
 | .makeInterface t x => match P.underlying t with
  | some (.interface _) => none
  | some _ => some (.more (.mkI t (cV x)))
  | none => none
 | .range t x => match P.underlying t with
  | some .string => some (.more (.rngS (cV x)))
  | _ => none
 | .next x true => some (.more (.nxtS (cV x)))
 | .makeFunc (.func f) first caps => match first.toList with
  | [] => some (.mkF f (caps.toList.map cV))
  | _ => none
 | .call c =>
  match c.callee with
  | .builtin .len => match c.argTypes[0]?, c.args[0]? with
   | some t, some x => match P.underlying t with
    | some (.slice _) => some (.lenS (cV x))
    | some .string => some (.lenStr (cV x))
    | some (.map _ _) => some (.lenM (cV x))
    | _ => none
   | _, _ => none
  | .builtin .min => some (.mnx false (c.args.toList.map cV))
  | .builtin .max => some (.mnx true (c.args.toList.map cV))
  | .builtin .append => match c.argTypes.toList, c.args.toList with
   | [t, u], [s, x] => if t = u then match P.underlying t with
     | some (.slice e) => match P.info? e with
      | some i => match i.zero with
       | some z => if z.cells.size = i.size /\ 0 < i.size then some (.app t e i.size i.bytes z (cV s) (cV x)) else none
       | none => none
      | none => none
     | _ => none
    else match P.underlying t, P.underlying u with
     | some (.slice e), some .string => match P.info? e with
      | some i => match i.zero with
       | some z => if z.cells.size = i.size /\ i.size = 1 then some (.appStr t u e i.bytes z (cV s) (cV x)) else none
       | none => none
      | none => none
     | _, _ => none
   | _, _ => none
  | .builtin .unsafeString => match c.argTypes.toList, c.args.toList with
   | [t, _], [x, y] => match P.underlying t with
    | some (.pointer e) => if P.cellsOf e = 1 then some (.more (.uss e (cV x) (cV y))) else none
    | _ => none
   | _, _ => none
  | .builtin .unsafeSliceData => match c.args.toList with
   | [x] => some (.more (.usd (cV x)))
   | _ => none
  | .builtin .clear => match c.argTypes.toList, c.args.toList with
   | [t], [x] => match P.underlying t with
    | some (.slice e) => match P.info? e with
     | some i => match i.zero with
      | some z => if z.cells.size = i.size /\ 0 < i.size then some (.more (.clr e i.size z (cV x))) else none
      | none => none
     | none => none
    | _ => none
   | _, _ => none
  | .builtin .copy => match c.argTypes.toList, c.args.toList with
   | [t, _], [d, s] => match P.underlying t with
    | some (.slice e) => match P.info? e with
     | some i => some (.cpy e i.size (cV d) (cV s))
     | none => none
    | _ => none
   | _, _ => none
  | .value (.func f) => if fnOk P f then some (.call f (c.args.toList.map cV)) else match P.funcs[f]? with
   | some fn => if fn.body.isNone && fn.origin == "" && fn.name != "runtime.NumGoroutine" then match rowCode fn.name with
    | some k => some (.more (.xc k (c.args.toList.map cV)))
    | none => none
    else none
   | none => none
  | .value (.tmp j) => some (.callv (cV (.tmp j)) (c.args.toList.map cV))
  | _ => none
 | _ => none
def rawGen : Op -> Bool
 | .lookup _ _ _ _ | .mapUpdate _ _ _ _ | .insert _ _ _ _ | .mapEntry _ _ _ | .entryStore _ _ _ _ | .range _ _ | .next _ false | .entry _ | .typeAssert _ _ _ _ | .makeMap _ (some _) | .binOp _ _ _ _ _ | .slice _ _ _ _ (some _) => true
 | .call c => match c.callee with | .invoke _ _ => true | .builtin .delete => true | _ => false
 | _ => false
def rawOp (o : Oper) : RO := if rawGen o.op = true then .gen o.op else match o.op with
 | .call c => match c.callee with
  | .builtin .cap => match c.argTypes.toList, c.args.toList with
   | [t], [x] => match P.underlying t with
    | some (.slice _) => .cap (cV x)
    | _ => .any
   | _, _ => .any
  | .builtin .append => match c.argTypes.toList, c.args.toList with
   | [t, u], [s, x] => match P.underlying t, P.underlying u with
    | some (.slice e), some (.int _) => match P.info? e with
     | some i => match i.zero with
      | some z => if z.cells.size = i.size /\ 0 < i.size then .appM t u e i.size i.bytes z (cV s) (cV x) else .any
      | none => .any
     | none => .any
    | _, _ => .any
   | _, _ => .any
  | .value (.func f) => .xf f (c.args.toList.map cV)
  | _ => .any
 | _ => .any
def cOp (o : Oper) : Option PO := match cOp0 P o with | some po => some po | none => some (.more (.other (rawOp P o)))
def RSpec (o : Oper) : RO -> Prop
 | .any => True
 | .cap x => ∃ c t y e, o.op = .call c /\ c.callee = .builtin .cap /\ c.argTypes = #[t] /\ c.args = #[y] /\ x = cV y /\ P.underlying t = some (.slice e)
 | .appM t u E sz bytes zero s l => ∃ a b c i kn, o.op = .call c /\ c.callee = .builtin .append /\ c.argTypes = #[t, u] /\ c.args = #[a, b] /\ s = cV a /\ l = cV b /\ P.underlying t = some (.slice E) /\ P.underlying u = some (.int kn) /\ P.info? E = some i /\ i.zero = some zero /\ i.size = sz /\ i.bytes = bytes /\ zero.cells.size = sz /\ 0 < sz
 | .xf f args => ∃ c, o.op = .call c /\ c.callee = .value (.func f) /\ args = c.args.toList.map cV
 | .gen x => o.op = x
theorem rawOp_spec (o : Oper) : RSpec P o (rawOp P o) := by
 unfold rawOp
 split
 ·exact rfl
 split
 ·rename_i c hc
  split
  ·rename_i hcal
   split
   ·rename_i t x ht hx
    split
    ·rename_i e hu
     exact ⟨c, t, x, e, hc, hcal, Array.toList_inj.1 (by simpa using ht), Array.toList_inj.1 (by simpa using hx), rfl, hu⟩
    trivial
   trivial
  ·rename_i hcal
   split
   ·rename_i t u s' x' ht hx
    split
    ·rename_i e kn h1 h2
     split
     ·rename_i i hi
      split
      ·rename_i z hz
       split
       ·rename_i hzz
        exact ⟨s', x', c, i, kn, hc, hcal, Array.toList_inj.1 (by simpa using ht), Array.toList_inj.1 (by simpa using hx), rfl, rfl, h1, h2, hi, hz, rfl, rfl, hzz.1, hzz.2⟩
       trivial
      trivial
     trivial
    trivial
   trivial
  ·rename_i f hcal
   exact ⟨c, hc, hcal, rfl⟩
  trivial
 trivial
def Spec (o : Oper) : PO -> Prop
 | .mov x => (∃ y, o.op = .move y /\ x = cV y) ∨ (∃ y, o.op = .assign y /\ x = cV y)
 | .bin op x y => ∃ t a b u, o.op = .binOp op t a b u /\ x = cV a /\ y = cV b /\ plainB P t = true
 | .binB op x y => ∃ t a b u, o.op = .binOp op t a b u /\ x = cV a /\ y = cV b /\ boolB P t = true
 | .not x => ∃ t a, o.op = .unOp .not t a /\ x = cV a
 | .cvt k x => ∃ s t a j, o.op = .convert s t a /\ x = cV a /\ P.underlying s = some (.int j) /\ P.underlying t = some (.int k)
 | .pick c a b => ∃ c2 a2 b2, o.op = .pick c2 a2 b2 /\ c = cV c2 /\ a = cV a2 /\ b = cV b2
 | .ld x => ∃ t y, o.op = .load t y /\ x = cV y /\ aggOf P t = some none
 | .ldA n x => ∃ t y, o.op = .load t y /\ x = cV y /\ aggOf P t = some (some n)
 | .st sz x v => ∃ t y u i, o.op = .store t y u /\ x = cV y /\ v = cV u /\ P.info? t = some i /\ i.size = sz
 | .fa off x => ∃ s y j fs f fi, o.op = .fieldAddr s y j /\ x = cV y /\ P.underlying s = some (.struct fs) /\ fs[j]? = some f /\ f.offset = off /\ P.info? f.type = some fi /\ fi.size ≠ 0
 | .fld off x => ∃ s y j fs f, o.op = .field s y j /\ x = cV y /\ P.underlying s = some (.struct fs) /\ fs[j]? = some f /\ f.offset = off /\ aggOf P f.type = some none
 | .fldA off n x => ∃ s y j fs f, o.op = .field s y j /\ x = cV y /\ P.underlying s = some (.struct fs) /\ fs[j]? = some f /\ f.offset = off /\ aggOf P f.type = some (some n)
 | .ixS sz x i => ∃ t a b e ie, o.op = .indexAddr t a b /\ x = cV a /\ i = cV b /\ P.underlying t = some (.slice e) /\ P.info? e = some ie /\ ie.size = sz
 | .ixStr x i => ∃ t a b, o.op = .index t a b /\ x = cV a /\ i = cV b /\ P.underlying t = some .string
 | .lenS x => ∃ t u a c, o.op = .call c /\ c.callee = .builtin .len /\ c.argTypes[0]? = some t /\ c.args[0]? = some a /\ x = cV a /\ P.underlying t = some (.slice u)
 | .lenStr x => ∃ t a c, o.op = .call c /\ c.callee = .builtin .len /\ c.argTypes[0]? = some t /\ c.args[0]? = some a /\ x = cV a /\ P.underlying t = some .string
 | .lenM x => ∃ t k v a c, o.op = .call c /\ c.callee = .builtin .len /\ c.argTypes[0]? = some t /\ c.args[0]? = some a /\ x = cV a /\ P.underlying t = some (.map k v)
 | .slS sz x lo hi => ∃ t a l h e ie, o.op = .slice t a l h none /\ x = cV a /\ lo = l.map cV /\ hi = h.map cV /\ P.underlying t = some (.slice e) /\ P.info? e = some ie /\ ie.size = sz
 | .slStr x lo hi => ∃ t a l h, o.op = .slice t a l h none /\ x = cV a /\ lo = l.map cV /\ hi = h.map cV /\ P.underlying t = some .string
 | .mkS t E sz bytes zero l c => ∃ a b i, o.op = .makeSlice t a b /\ l = cV a /\ c = cV b /\ P.underlying t = some (.slice E) /\ P.info? E = some i /\ i.zero = some zero /\ i.size = sz /\ i.bytes = bytes /\ zero.cells.size = sz /\ 0 < sz
 | .mkM => ∃ t, o.op = .makeMap t none
 | .lookS zero ok m k => ∃ t a b kt et i, o.op = .lookup t a b ok /\ m = cV a /\ k = cV b /\ P.underlying t = some (.map kt et) /\ P.underlying kt = some .string /\ P.info? et = some i /\ i.zero = some zero
 | .updS m k v => ∃ t a b u kt et, o.op = .mapUpdate t a b u /\ m = cV a /\ k = cV b /\ v = cV u /\ P.underlying t = some (.map kt et) /\ P.underlying kt = some .string
 | .ext i x => ∃ a, o.op = .extract a i /\ x = cV a
 | .app t E sz bytes zero s x => ∃ a b c i, o.op = .call c /\ c.callee = .builtin .append /\ c.argTypes = #[t, t] /\ c.args = #[a, b] /\ s = cV a /\ x = cV b /\ P.underlying t = some (.slice E) /\ P.info? E = some i /\ i.zero = some zero /\ i.size = sz /\ i.bytes = bytes /\ zero.cells.size = sz /\ 0 < sz
 | .mnx mx xs => ∃ c, o.op = .call c /\ c.callee = .builtin (if mx then .max else .min) /\ xs = c.args.toList.map cV
 | .eqA neg t sh x y => ∃ a b u, o.op = .binOp (if neg then .neq else .eql) t a b u /\ x = cV a /\ y = cV b /\ flatOf P t = some sh
 | .al E zero => ∃ i z, o.op = .alloc E /\ P.info? E = some i /\ i.zero = some z /\ zero = z.cells.toList
 | .bx E x => ∃ a, o.op = .box E a /\ x = cV a
 | .nilc x => ∃ a, o.op = .nilCheck a /\ x = cV a
 | .eqP neg x y => ∃ t a b u, o.op = .binOp (if neg then .neq else .eql) t a b u /\ x = cV a /\ y = cV b /\ ptrB P t = true
 | .strOf x => ∃ s t a e, o.op = .convert s t a /\ x = cV a /\ P.underlying s = some (.slice e) /\ P.underlying t = some .string /\ P.underlying e = some (.int .u8)
 | .bytesOf E x => ∃ s t a, o.op = .convert s t a /\ x = cV a /\ P.underlying s = some .string /\ P.underlying t = some (.slice E) /\ P.underlying E = some (.int .u8)
 | .appStr t u E bytes zero s x => ∃ a b c i, o.op = .call c /\ c.callee = .builtin .append /\ c.argTypes = #[t, u] /\ c.args = #[a, b] /\ s = cV a /\ x = cV b /\ P.underlying t = some (.slice E) /\ P.underlying u = some .string /\ P.info? E = some i /\ i.zero = some zero /\ i.bytes = bytes /\ zero.cells.size = i.size /\ i.size = 1
 | .slA len x => ∃ t a e ie, o.op = .slice t a none none none /\ x = cV a /\ P.underlying t = some (.array len e) /\ P.info? e = some ie
 | .ixA len sz x i => ∃ t a b e ie, o.op = .indexAddr t a b /\ x = cV a /\ i = cV b /\ P.underlying t = some (.array len e) /\ P.info? e = some ie /\ ie.size = sz
 | .callv f args => ∃ c y, o.op = .call c /\ c.callee = .value y /\ f = cV y /\ args = c.args.toList.map cV
 | .mkF f caps => ∃ fi cs, o.op = .makeFunc (.func f) fi cs /\ fi.toList = [] /\ caps = cs.toList.map cV
 | .bsl0 E => ∃ t l qs i, o.op = .buildSlice t l qs /\ l = 0 /\ qs.toList = [] /\ P.underlying t = some (.slice E) /\ P.info? E = some i
 | .more (.other r) => RSpec P o r
 | .more (.neg x) => ∃ t a, o.op = .unOp .neg t a /\ x = cV a
 | .more (.slAr len sz x lo hi) => ∃ t a l h e ie, o.op = .slice t a l h none /\ x = cV a /\ lo = l.map cV /\ hi = h.map cV /\ P.underlying t = some (.array len e) /\ P.info? e = some ie /\ ie.size = sz
 | .more (.mkI t x) => ∃ a d, o.op = .makeInterface t a /\ x = cV a /\ P.underlying t = some d /\ ∀ ms, d ≠ .interface ms
 | .more (.eqI neg x) => ∃ t a b u ms, o.op = .binOp (if neg then .neq else .eql) t a b u /\ x = cV a /\ constNil b = 1 /\ P.underlying t = some (.interface ms)
 | .more (.eqJ neg tys x y) => ∃ t a b u ms, o.op = .binOp (if neg then .neq else .eql) t a b u /\ x = cV a /\ y = cV b /\ tys = intTys P /\ P.underlying t = some (.interface ms)
 | .more (.slNil neg x) => ∃ t a b u e, o.op = .binOp (if neg then .neq else .eql) t a b u /\ x = cV a /\ constNil b = 2 /\ P.underlying t = some (.slice e)
 | .more (.cvS x) => ∃ s t a e, o.op = .convert s t a /\ x = cV a /\ s = t /\ P.underlying t = some (.slice e) /\ P.underlying e = some (.int .u8)
 | .more (.rngS x) => ∃ t a, o.op = .range t a /\ x = cV a /\ P.underlying t = some .string
 | .more (.nxtS x) => ∃ a, o.op = .next a true /\ x = cV a
 | .more (.clr E sz zero x) => ∃ t a c i, o.op = .call c /\ c.callee = .builtin .clear /\ c.argTypes = #[t] /\ c.args = #[a] /\ x = cV a /\ P.underlying t = some (.slice E) /\ P.info? E = some i /\ i.zero = some zero /\ i.size = sz /\ zero.cells.size = sz /\ 0 < sz
 | .more (.uss e x y) => ∃ t u c a b, o.op = .call c /\ c.callee = .builtin .unsafeString /\ c.argTypes = #[t, u] /\ c.args = #[a, b] /\ x = cV a /\ y = cV b /\ P.underlying t = some (.pointer e) /\ P.cellsOf e = 1
 | .more (.usd x) => ∃ c a, o.op = .call c /\ c.callee = .builtin .unsafeSliceData /\ c.args = #[a] /\ x = cV a
 | .more (.eqD neg t sh x y) => ∃ a b u, o.op = .binOp (if neg then .neq else .eql) t a b u /\ x = cV a /\ y = cV b /\ deepQ P 8 t = some sh /\ P.eqGuardType P.depth t = false /\ ∃ d, P.underlying t = some d /\ (match d with | .struct _ | .array _ _ => true | _ => false) = true
 | .more (.bldA zero parts) => ∃ t qs m e i ie z, o.op = .build t qs /\ P.underlying t = some (.array m e) /\ P.info? t = some i /\ P.info? e = some ie /\ i.zero = some z /\ zero = z.cells.toList /\ partsAt (fun j => some (j * ie.size, ie.size)) qs.toList = some parts
 | .more (.xc row args) => ∃ c f fn, o.op = .call c /\ c.callee = .value (.func f) /\ args = c.args.toList.map cV /\ P.funcs[f]? = some fn /\ fn.name = rowOf row /\ fn.origin = "" /\ fn.body.isNone = true /\ (fn.name == "runtime.NumGoroutine") = false
 | .cpy E sz d s => ∃ t u a b c i, o.op = .call c /\ c.callee = .builtin .copy /\ c.argTypes = #[t, u] /\ c.args = #[a, b] /\ d = cV a /\ s = cV b /\ P.underlying t = some (.slice E) /\ P.info? E = some i /\ i.size = sz
 | .call f args => ∃ c, o.op = .call c /\ c.callee = .value (.func f) /\ args = c.args.toList.map cV /\ fnOk P f = true
 | .build zero parts => ∃ t qs fs i z ps, o.op = .build t qs /\ P.underlying t = some (.struct fs) /\ P.info? t = some i /\ i.zero = some z /\ zero = z.cells.toList /\ placesOf P fs.toList = some ps /\ partsAt (fun j => ps[j]?) qs.toList = some parts
 | .bsl E zero len parts => ∃ t qs i z, o.op = .buildSlice t len qs /\ P.underlying t = some (.slice E) /\ P.info? E = some i /\ i.zero = some z /\ len * i.size <= 16777216 /\ len * i.size ≠ 0 /\ zero = ((Array.range (len * i.size)).map (z.cells[· % z.cells.size]!)).toList /\ partsAt (fun j => some (j * i.size, i.size)) qs.toList = some parts
theorem toList2 {α : Type} {xs : Array α} {a b : α} (h : xs.toList = [a, b]) : xs = #[a, b] := by
 apply Array.toList_inj.1
 simpa using h
theorem toList1 {α : Type} {xs : Array α} {a : α} (h : xs.toList = [a]) : xs = #[a] := by
 apply Array.toList_inj.1
 simpa using h
set_option maxHeartbeats 32000000 in
theorem cOp0_spec {o : Oper} {po : PO} (h : cOp0 P o = some po) : Spec P o po := by
 unfold cOp0 at h
 split at h
 all_goals (repeat' (split at h))
 all_goals (first | (simp at h; done) | skip)
 all_goals (obtain rfl := Option.some.inj h; clear h)
 all_goals simp only [Spec]
 all_goals (first
  | exact .inl ⟨_, by assumption, rfl⟩
  | exact .inr ⟨_, by assumption, rfl⟩
  | skip)
 all_goals (repeat (apply Exists.intro))
 all_goals (repeat' (apply And.intro))
 all_goals (first | assumption | rfl | exact rowCode_spec (by assumption) | exact toList2 (by assumption) | exact toList2 (by simp_all) | exact toList1 (by assumption) | (simp_all; done))
theorem cOp_spec {o : Oper} {po : PO} (h : cOp P o = some po) : Spec P o po := by
 unfold cOp at h
 split at h
 ·rename_i po' h'
  obtain rfl := Option.some.inj h
  exact cOp0_spec P h'
 obtain rfl := Option.some.inj h
 exact rawOp_spec P o
def cI (n : Nat) (ops : Array Oper) (i : Nat) : Option PI :=
 match ops[i]? with
 | none => none
 | some o => match cOp P o with
  | none => none
  | some po => if dstOk n o.dst then
    match o.guard with
    | none => some ⟨o.dst, none, po⟩
    | some (j, b) => match (ops[j]?).bind (·.dst) with
     | some s => some ⟨o.dst, some (s, b), po⟩
     | none => none
   else none
def cIs (n : Nat) (ops : Array Oper) : List Nat -> Option (List PI)
 | [] => some []
 | i :: r => match cI P n ops i, cIs n ops r with
  | some x, some l => some (x :: l)
  | _, _ => none
def ancOf (acc : List Nat) (o : Oper) : Nat := o.after.toList.foldl (fun s e => if Region.binds .any e then s ||| 2 ^ e.on ||| acc.getD e.on 0 else s) 0
def ancs (ops : List Oper) : List Nat -> List Nat
 | acc => match ops with
  | [] => acc
  | o :: r => ancs r (acc ++ [ancOf acc o])
def reach (ops : Array Oper) : List Nat := ancs ops.toList []
def behind (b : List Nat) (j i : Nat) : Bool := (b.getD j 0).testBit i
def apartB (ops : Array Oper) : Bool :=
 let b := reach ops
 (List.range ops.size).all fun j => (List.range j).all fun i => behind b j i || match ops[i]?, ops[j]? with | some x, some y => x.apart ops y | _, _ => false
def hoistable (o : Oper) : Bool := o.guard.isNone && match o.op with | .move _ | .assign _ => true | _ => false
def hoistable? (ops : Array Oper) (i : Nat) : Bool := match ops[i]? with | some o => hoistable o | none => false
def hoistB (ops : Array Oper) : List Nat -> Array Bool -> Bool
 | [], _ => true
 | i :: r, L => hoistable? ops i && Region.free .any ops L i && (Region.ready .any ops L).contains i && hoistB ops r (L.setIfInBounds i true)
def hoistOf (ops : Array Oper) : List Nat -> Array Bool -> List Nat
 | [], _ => []
 | i :: r, L => if hoistable? ops i && Region.free .any ops L i && (Region.ready .any ops L).contains i then i :: hoistOf ops r (L.setIfInBounds i true) else hoistOf ops r L
def headB (ops : Array Oper) (H : List Nat) (k : Nat) : Bool :=
 let b := reach ops
 (List.range ops.size).all fun t => decide (t < k) || (List.range t).all fun i => H.contains i || behind b t i
def backB (ops : Array Oper) : Bool := (List.range ops.size).all fun t => match ops[t]? with | some o => o.after.all fun e => !Region.binds .any e || decide (e.on < t) | none => false
def headOf (ops : Array Oper) (H : List Nat) : Nat -> Nat
 | 0 => ops.size
 | d + 1 => if headB ops (H.filter (· < ops.size - (d + 1))) (ops.size - (d + 1)) then ops.size - (d + 1) else headOf ops H d
def hoists (ops : Array Oper) : List Nat := hoistOf ops (List.range ops.size) (Array.replicate ops.size false)
def quietAt (ops : Array Oper) : Nat := headOf ops (hoists ops) ops.size
def turnsOp (o : Oper) : Bool := match o.op with
 | .alloc _ | .box _ _ | .buildSlice _ _ _ | .makeSlice _ _ _ | .makeMap _ _ | .store _ _ _ | .mapUpdate _ _ _ _ | .insert _ _ _ _ | .mapEntry _ _ _ | .entryStore _ _ _ _ | .range _ _ | .next _ _ => true
 | .call c => match c.callee with | .value _ => true | .invoke _ _ => true | .builtin .append => true | .builtin .copy => true | .builtin .clear => true | .builtin .delete => true | _ => false
 | _ => false
def turnsB (ops : Array Oper) : Bool := (List.range (quietAt ops)).any fun p => match ops[p]? with | some o => turnsOp o | none => false
def mkQ (ops : Array Oper) (l : List PI) : PC := .quietR (if turnsB ops then (reach ops).take (quietAt ops) else []) (quietAt ops) l
theorem mkQ_quietR {ops : Array Oper} {l l' b : List _} {k : Nat} (h : mkQ ops l = .quietR b k l') : quietAt ops = k /\ l = l' /\ (b = [] ∨ b = (reach ops).take k) := by
 unfold mkQ at h
 simp only [PC.quietR.injEq] at h
 obtain ⟨h1, h2, h3⟩ := h
 refine ⟨h2, h3, ?_⟩
 split at h1
 ·exact .inr (by rw [<- h2, <- h1])
 exact .inl h1.symm
@[simp] theorem mkQ_nskip {ops : Array Oper} {l : List PI} : (mkQ ops l = .skip) = False := by simp [mkQ]
@[simp] theorem mkQ_nlabel {ops : Array Oper} {l : List PI} : (mkQ ops l = .label) = False := by simp [mkQ]
@[simp] theorem mkQ_nscope {ops : Array Oper} {l : List PI} {x : PC} : (mkQ ops l = .scope x) = False := by simp [mkQ]
@[simp] theorem mkQ_nops {ops : Array Oper} {l : List PI} {x : List PI} : (mkQ ops l = .ops x) = False := by simp [mkQ]
@[simp] theorem mkQ_nseq {ops : Array Oper} {l : List PI} {x y : PC} : (mkQ ops l = .seq x y) = False := by simp [mkQ]
@[simp] theorem mkQ_ncond {ops : Array Oper} {l : List PI} {v : PV} {x y : PC} : (mkQ ops l = .cond v x y) = False := by simp [mkQ]
@[simp] theorem mkQ_nblock {ops : Array Oper} {l : List PI} {i : Nat} {x : PC} : (mkQ ops l = .block i x) = False := by simp [mkQ]
@[simp] theorem mkQ_nloop {ops : Array Oper} {l : List PI} {x : PC} : (mkQ ops l = .loop x) = False := by simp [mkQ]
@[simp] theorem mkQ_nexit {ops : Array Oper} {l : List PI} {i : Nat} : (mkQ ops l = .exit i) = False := by simp [mkQ]
@[simp] theorem mkQ_nret {ops : Array Oper} {l : List PI} : (mkQ ops l = .ret) = False := by simp [mkQ]
def cC (n : Nat) : Code -> Option PC
 | .skip => some .skip
 | .region _ ops false => (cIs P n ops (List.range ops.size)).map .ops
 | .region _ ops true => if apartB ops && backB ops && Region.noSelect ops && hoistB ops ((hoists ops).filter (· < quietAt ops)) (Array.replicate ops.size false) then (cIs P n ops (List.range ops.size)).map (mkQ ops) else none
 | .seq a b => match cC n a, cC n b with | some x, some y => some (.seq x y) | _, _ => none
 | .cond c x y => match cC n x, cC n y with | some x, some y => some (.cond (cV c) x y) | _, _ => none
 | .block id c => (cC n c).map (.block id)
 | .loop c => (cC n c).map .loop
 | .exit id => some (.exit id)
 | .ret => some .ret
 | .label _ => some .label
 | .scope c => (cC n c).map .scope
 | _ => none
end comp
section
variable (P : Program) (w0 : World) (n : Nat)
def Yields (po : PO) (T : TT) (S : SS) (v : Value) : Prop :=
 ∀ o a w, cOp P o = some po -> Sat n T a -> Rep w0 S w -> (execOp a.eval o).run P w = .ok (.value v) w
def OW (po : PO) (T : TT) (S : SS) (K : Value -> SS -> Prop) : Prop :=
 ∀ o a w (Q : Exit -> Act -> World -> Prop), cOp P o = some po -> Sat n T a -> Rep w0 S w -> o.wp P a w (fun a' w' => ∃ v S', a' = a.put o.dst v /\ Rep w0 S' w' /\ K v S') Q
def OL (l : List PI) (T : TT) (S : SS) (K : TT -> SS -> Prop) : Prop :=
 ∀ (ops : Array Oper) (is : List Nat) a w (Q : Exit -> Act -> World -> Prop), cIs P n ops is = some l -> Sat n T a -> Rep w0 S w ->
  (∀ a' w' T' S', Sat n T' a' -> Rep w0 S' w' -> K T' S' -> Q .normal a' w') -> wpOps P ops Q is a w
def PW (pc : PC) (T : TT) (S : SS) (Q : Exit -> TT -> SS -> Prop) : Prop :=
 ∀ c, cC P n c = some pc -> ∀ a w, Sat n T a -> Rep w0 S w -> c.wp P (fun e a' w' => ∃ T' S', Sat n T' a' /\ Rep w0 S' w' /\ Q e T' S') a w
def FC (k : FuncId) (args : List Value) (S : SS) (post : Value -> SS -> Prop) : Prop :=
 ∀ w, Rep w0 S w -> Calls P k args.toArray w fun e w' => ∃ v S', e = .returned v /\ Rep w0 S' w' /\ post v S'
end
section rules
variable {P : Program} {w0 : World} {n : Nat} {T : TT} {S : SS}
theorem FC.mono {k : FuncId} {args : List Value} {post post' : Value -> SS -> Prop} (h : FC P w0 k args S post) (hp : ∀ v S', post v S' -> post' v S') : FC P w0 k args S post' :=
 fun w hw => (h w hw).mono fun _ _ ⟨v, S', e, r, p⟩ => ⟨v, S', e, r, hp _ _ p⟩
theorem OW.of_yields {po : PO} {v : Value} (h : Yields P w0 n po T S v) : OW P w0 n po T S (fun v' S' => v' = v /\ S' = S) := by
 intro o a w Q hc hs hr
 unfold Oper.wp
 rw [h o a w hc hs hr]
 exact ⟨v, S, rfl, hr, rfl, rfl⟩
theorem OW.mono {po : PO} {K K' : Value -> SS -> Prop} (h : OW P w0 n po T S K) (hk : ∀ v S', K v S' -> K' v S') : OW P w0 n po T S K' := by
 intro o a w Q hc hs hr
 exact Oper.wp_mono (fun a' w' ⟨v, S', e, r, k⟩ => ⟨v, S', e, r, hk _ _ k⟩) (h o a w Q hc hs hr)
theorem OL.nil {K : TT -> SS -> Prop} (h : K T S) : OL P w0 n [] T S K := by
 intro ops is a w Q hc hs hr hk
 cases is with
 | nil => exact hk a w T S hs hr h
 | cons i is =>
  simp only [cIs] at hc
  split at hc
  ·simp at hc
  simp at hc
theorem cI_spec {ops : Array Oper} {i : Nat} {x : PI} (h : cI P n ops i = some x) : ∃ o, ops[i]? = some o /\ cOp P o = some x.o /\ dstOk n o.dst = true /\ o.dst = x.d /\
  ((o.guard = none /\ x.g = none) ∨ ∃ j b s, o.guard = some (j, b) /\ (ops[j]?).bind (·.dst) = some s /\ x.g = some (s, b)) := by
 unfold cI at h
 split at h
 ·simp at h
 rename_i o ho
 split at h
 ·simp at h
 rename_i po hpo
 split at h
 ·rename_i hd
  split at h
  ·rename_i hg
   obtain rfl := Option.some.inj h
   exact ⟨o, ho, hpo, hd, rfl, .inl ⟨hg, rfl⟩⟩
  rename_i j b hg
  split at h
  ·rename_i s hj
   obtain rfl := Option.some.inj h
   exact ⟨o, ho, hpo, hd, rfl, .inr ⟨j, b, s, hg, hj, rfl⟩⟩
  simp at h
 simp at h
theorem cIs_cons {ops : Array Oper} {is : List Nat} {x : PI} {l : List PI} (h : cIs P n ops is = some (x :: l)) : ∃ i r, is = i :: r /\ cI P n ops i = some x /\ cIs P n ops r = some l := by
 cases is with
 | nil => simp [cIs] at h
 | cons i r =>
  simp only [cIs] at h
  split at h
  ·rename_i y m h1 h2
   simp only [Option.some.injEq, List.cons.injEq] at h
   obtain ⟨rfl, rfl⟩ := h
   exact ⟨i, r, rfl, h1, h2⟩
  simp at h
def gOk (T : TT) : Option (Nat × Bool) -> Prop
 | none => True
 | some (s, b) => look T s = some (.bool b)
theorem Sat.yielded {a : Act} (hs : Sat n T a) {ops : Array Oper} {j s : Nat} {b : Bool} (hj : (ops[j]?).bind (·.dst) = some s) (hl : look T s = some (.bool b)) : yielded ops a.tmps j = some b := by
 have := hs.get s _ hl
 simp [Go.yielded, hj, this]
def boolOf : Value -> Option Bool
 | .bool b => some b
 | _ => none
theorem Sat.yieldedV {a : Act} (hs : Sat n T a) {ops : Array Oper} {j s : Nat} {u : Value} (hj : (ops[j]?).bind (·.dst) = some s) (hl : look T s = some u) : Go.yielded ops a.tmps j = boolOf u := by
 have := hs.get s u hl
 simp only [Go.yielded, hj, Option.bind_some, this]
 cases u <;> rfl
theorem OL.cons {po : PO} {d : Option Nat} {g : Option (Nat × Bool)} {r : List PI} {K : TT -> SS -> Prop} {K' : Value -> SS -> Prop} (hgo : gOk T g) (h : OW P w0 n po T S K') (hk : ∀ v S', K' v S' -> OL P w0 n r (put d v T) S' K) : OL P w0 n (⟨d, g, po⟩ :: r) T S K := by
 intro ops is a w Q hc hs hr hq
 obtain ⟨i, is, rfl, hi, hrest⟩ := cIs_cons hc
 obtain ⟨o, ho, hpo, hd, hdst, hg⟩ := cI_spec hi
 have hw : Region.wanted o (yielded ops a.tmps) = true := by
  rcases hg with ⟨hg, _⟩ | ⟨j, b, s, hg, hj, he⟩
  ·simp [Region.wanted, hg]
  simp only at he
  subst he
  simp [Region.wanted, hg, hs.yielded hj hgo]
 rw [wpOps_cons]
 unfold wpOp
 simp only [ho]
 rw [if_pos hw]
 refine .inl (Oper.wp_mono ?_ (h o a w Q hpo hs hr))
 rintro a' w' ⟨v, S', rfl, hr', hk'⟩
 have hs' := hs.put (d := o.dst) hd v
 rw [hdst] at hs' ⊢
 exact hk v S' hk' ops is _ w' Q hrest hs' hr' hq
theorem OL.det {po : PO} {d : Option Nat} {g : Option (Nat × Bool)} {r : List PI} {K : TT -> SS -> Prop} {v : Value} (hgo : gOk T g) (h : Yields P w0 n po T S v) (hk : OL P w0 n r (put d v T) S K) : OL P w0 n (⟨d, g, po⟩ :: r) T S K :=
 OL.cons hgo (OW.of_yields h) (by rintro _ _ ⟨rfl, rfl⟩; exact hk)
theorem OL.off {po : PO} {d : Option Nat} {s : Nat} {b : Bool} {u : Value} {r : List PI} {K : TT -> SS -> Prop} (hl : look T s = some u) (hc : (boolOf u == some b) = false) (h : OL P w0 n r (put d undef T) S K) : OL P w0 n (⟨d, some (s, b), po⟩ :: r) T S K := by
 intro ops is a w Q hcs hs hr hq
 obtain ⟨i, is, rfl, hi, hrest⟩ := cIs_cons hcs
 obtain ⟨o, ho, hpo, hd, hdst, hg⟩ := cI_spec hi
 have hw : Region.wanted o (yielded ops a.tmps) = false := by
  rcases hg with ⟨_, hg⟩ | ⟨j, b', s', hg, hj, he⟩
  ·simp at hg
  simp only [Option.some.injEq, Prod.mk.injEq] at he
  obtain ⟨rfl, rfl⟩ := he
  simp only [Region.wanted, hg, hs.yieldedV hj hl]; exact hc
 rw [wpOps_cons]
 unfold wpOp
 simp only [ho]
 rw [hw]
 simp only [Bool.false_eq_true, if_false]
 have hs' := hs.put (d := o.dst) hd undef
 rw [hdst] at hs' ⊢
 exact h ops is _ w Q hrest hs' hr hq
theorem PW.keep {pc : PC} {T' : TT} {Q : Exit -> TT -> SS -> Prop} (hk : Within T' T) (h : PW P w0 n pc T' S Q) : PW P w0 n pc T S Q :=
 fun c hc a w hs hr => h c hc a w (hs.keep hk.spec) hr
theorem PW.sub {pc : PC} {S' : SS} {Q : Exit -> TT -> SS -> Prop} (hs : ∀ p ∈ S'.flatten, p ∈ S.flatten) (hn : (S.flatten.map Prod.fst).Nodup -> (S'.flatten.map Prod.fst).Nodup) (h : PW P w0 n pc T S' Q) : PW P w0 n pc T S Q :=
 fun c hc a w hsat hr => h c hc a w hsat (hr.sub hs (hn hr.nodup))
theorem PW.mono {pc : PC} {Q Q' : Exit -> TT -> SS -> Prop} (h : PW P w0 n pc T S Q) (hq : ∀ e T S, Q e T S -> Q' e T S) : PW P w0 n pc T S Q' :=
 fun c hc a w hs hr => wp_mono (h c hc a w hs hr) fun e a' w' ⟨T', S', hs', hr', q⟩ => ⟨T', S', hs', hr', hq _ _ _ q⟩
theorem PW.skip {Q : Exit -> TT -> SS -> Prop} (h : Q .normal T S) : PW P w0 n .skip T S Q := by
 intro c hc a w hs hr
 cases c
 case skip => exact wp_skip ⟨T, S, hs, hr, h⟩
 case region id ops dr => cases dr <;> simp [cC] at hc
 all_goals (first | (simp [cC] at hc; done) | (simp only [cC] at hc; split at hc <;> simp at hc; done))
def noGoto (Q : Exit -> TT -> SS -> Prop) : Exit -> TT -> SS -> Prop
 | .goto _, _, _ => False
 | e, T, S => Q e T S
theorem PW.scope {x : PC} {Q : Exit -> TT -> SS -> Prop} (h : PW P w0 n x T S (noGoto Q)) : PW P w0 n (.scope x) T S Q := by
 intro c hc a w hs hr
 cases c
 case scope c1 =>
  simp only [cC, Option.map_eq_some_iff] at hc
  obtain ⟨x', h1, he⟩ := hc
  simp only [PC.scope.injEq] at he
  subst he
  refine wp_scope_straight (wp_mono (h c1 h1 a w hs hr) ?_)
  rintro e a' w' ⟨T', S', hs', hr', q⟩
  cases e with
  | goto l => exact q.elim
  | _ => exact ⟨T', S', hs', hr', q⟩
 case region id ops dr => cases dr <;> simp [cC] at hc
 all_goals (first | (simp [cC] at hc; done) | (simp only [cC] at hc; split at hc <;> simp at hc; done))
theorem PW.ret {Q : Exit -> TT -> SS -> Prop} (h : Q .ret T S) : PW P w0 n .ret T S Q := by
 intro c hc a w hs hr
 cases c
 case ret => exact wp_ret ⟨T, S, hs, hr, h⟩
 case region id ops dr => cases dr <;> simp [cC] at hc
 all_goals (first | (simp [cC] at hc; done) | (simp only [cC] at hc; split at hc <;> simp at hc; done))
theorem PW.exit {id : Nat} {Q : Exit -> TT -> SS -> Prop} (h : Q (.exit id) T S) : PW P w0 n (.exit id) T S Q := by
 intro c hc a w hs hr
 cases c
 case exit id' =>
  obtain rfl : id' = id := by simpa [cC] using hc
  exact wp_exit ⟨T, S, hs, hr, h⟩
 case region id ops dr => cases dr <;> simp [cC] at hc
 all_goals (first | (simp [cC] at hc; done) | (simp only [cC] at hc; split at hc <;> simp at hc; done))
def thenK (K : TT -> SS -> Prop) (Q : Exit -> TT -> SS -> Prop) : Exit -> TT -> SS -> Prop
 | .normal => K
 | e => Q e
theorem PW.seq {x y : PC} {Q : Exit -> TT -> SS -> Prop} (h : ∀ K : TT -> SS -> Prop, (∀ T' S', PW P w0 n y T' S' Q -> K T' S') -> PW P w0 n x T S (thenK K Q)) : PW P w0 n (.seq x y) T S Q := by
 intro c hc a w hs hr
 cases c
 case seq c1 c2 =>
  simp only [cC] at hc
  split at hc
  ·rename_i x' y' h1 h2
   simp only [Option.some.injEq, PC.seq.injEq] at hc
   obtain ⟨rfl, rfl⟩ := hc
   refine wp_seq (wp_mono (h (fun T' S' => PW P w0 n y' T' S' Q) (fun _ _ h => h) c1 h1 a w hs hr) ?_)
   rintro e a' w' ⟨T', S', hs', hr', q⟩
   cases e with
   | normal => exact q c2 h2 a' w' hs' hr'
   | _ => exact ⟨T', S', hs', hr', q⟩
  simp at hc
 case region id ops dr => cases dr <;> simp [cC] at hc
 all_goals (first | (simp [cC] at hc; done) | (simp only [cC] at hc; split at hc <;> simp at hc; done))
theorem PW.cond {v : PV} {x y : PC} {Q : Exit -> TT -> SS -> Prop} {b : Bool} (hv : v.val T = some (.bool b)) (ht : b = true -> PW P w0 n x T S Q) (hf : b = false -> PW P w0 n y T S Q) : PW P w0 n (.cond v x y) T S Q := by
 intro c hc a w hs hr
 cases c
 case cond c c1 c2 =>
  simp only [cC] at hc
  split at hc
  ·rename_i x' y' h1 h2
   simp only [Option.some.injEq, PC.cond.injEq] at hc
   obtain ⟨rfl, rfl, rfl⟩ := hc
   exact wp_cond_split (hs.eval hv) (fun e => ht e c1 h1 a w hs hr) (fun e => hf e c2 h2 a w hs hr)
  simp at hc
 case region id ops dr => cases dr <;> simp [cC] at hc
 all_goals (first | (simp [cC] at hc; done) | (simp only [cC] at hc; split at hc <;> simp at hc; done))
def inBlk (id : Nat) (Q : Exit -> TT -> SS -> Prop) : Exit -> TT -> SS -> Prop
 | .exit j, T, S => if j = id then Q .normal T S else Q (.exit j) T S
 | e, T, S => Q e T S
theorem PW.block {id : Nat} {x : PC} {Q : Exit -> TT -> SS -> Prop} (h : PW P w0 n x T S (inBlk id Q)) : PW P w0 n (.block id x) T S Q := by
 intro c hc a w hs hr
 cases c
 case block id' c1 =>
  simp only [cC, Option.map_eq_some_iff] at hc
  obtain ⟨x', h1, he⟩ := hc
  simp only [PC.block.injEq] at he
  obtain ⟨rfl, rfl⟩ := he
  refine wp_block (wp_mono (h c1 h1 a w hs hr) ?_)
  rintro e a' w' ⟨T', S', hs', hr', q⟩
  cases e with
  | exit j =>
   simp only [Exit.inBlock, inBlk] at q ⊢
   split <;> rename_i hj
   ·rw [if_pos hj] at q; exact ⟨T', S', hs', hr', q⟩
   rw [if_neg hj] at q; exact ⟨T', S', hs', hr', q⟩
  | _ => exact ⟨T', S', hs', hr', q⟩
 case region id ops dr => cases dr <;> simp [cC] at hc
 all_goals (first | (simp [cC] at hc; done) | (simp only [cC] at hc; split at hc <;> simp at hc; done))
theorem PW.ops {l : List PI} {Q : Exit -> TT -> SS -> Prop} (h : OL P w0 n l T S (Q .normal)) : PW P w0 n (.ops l) T S Q := by
 intro c hc a w hs hr
 cases c
 case region id ops dr =>
  cases dr with
  | false =>
   simp only [cC, Option.map_eq_some_iff] at hc
   obtain ⟨l', h1, he⟩ := hc
   simp only [PC.ops.injEq] at he
   subst he
   exact wp_region (h ops _ a w _ h1 hs hr fun a' w' T' S' hs' hr' k => ⟨T', S', hs', hr', k⟩)
  | true =>
   simp only [cC] at hc
   split at hc
   ·simp at hc
   simp at hc
 all_goals (first | (simp [cC] at hc; done) | (simp only [cC] at hc; split at hc <;> simp at hc; done))
theorem wp_loop_down {c : Code} {Q : Exit -> Act -> World -> Prop} (I : Nat -> Act -> World -> Prop) {m : Nat} {a : Act} {w : World} (h0 : I m a w)
  (round : ∀ m a w, I m a w -> c.wp P (Exit.then (fun a' w' => ∃ k, k < m /\ I k a' w') Q) a w) : (Code.loop c).wp P Q a w := by
 intro b k cs
 have key : ∀ m a w, I m a w -> ∃ e a' w', Q e a' w' /\ Arrives P (lone (b.at a (.code c :: .inLoop c :: k)) cs w) b k cs e a' w' := by
  intro m
  induction m using Nat.strongRecOn with
  | _ m ih =>
   intro a w hI
   obtain ⟨e, a1, w1, hq, harr⟩ := round m a w hI b (.inLoop c :: k) cs
   cases e with
   | normal =>
    obtain ⟨j, hj, hI1⟩ := hq
    obtain ⟨e2, a2, w2, hq2, harr2⟩ := ih j hj a1 w1 hI1
    exact ⟨e2, a2, w2, hq2, .of_steps (Steps.trans harr (.one step_inLoop)) harr2⟩
   | exit id => exact ⟨_, a1, w1, hq, .pass (x := .inLoop c) rfl (fun _ _ => .inl (by simp)) harr⟩
   | goto l => exact ⟨_, a1, w1, hq, .pass (x := .inLoop c) rfl (fun _ _ => .inl (by simp)) harr⟩
   | ret => exact ⟨_, a1, w1, hq, .pass (x := .inLoop c) rfl (fun _ _ => .inl (by simp)) harr⟩
   | panic ch => exact ⟨_, a1, w1, hq, .pass (x := .inLoop c) rfl (fun _ _ => .inl (by simp)) harr⟩
   | outgrown => exact ⟨_, a1, w1, hq, .pass (x := .inLoop c) rfl (fun _ _ => .inl (by simp)) harr⟩
 obtain ⟨e, a', w', hq, harr⟩ := key m a w h0
 exact ⟨e, a', w', hq, .of_steps (.one step_loop) harr⟩
theorem PW.loop {x : PC} {Q : Exit -> TT -> SS -> Prop} (I : Nat -> TT -> SS -> Prop) {m : Nat} (h0 : I m T S)
  (round : ∀ m T S, I m T S -> PW P w0 n x T S (thenK (fun T' S' => ∃ k, k < m /\ I k T' S') Q)) : PW P w0 n (.loop x) T S Q := by
 intro c hc a w hs hr
 cases c
 case loop c1 =>
  simp only [cC, Option.map_eq_some_iff] at hc
  obtain ⟨x', h1, he⟩ := hc
  simp only [PC.loop.injEq] at he
  subst he
  refine wp_loop_down (fun m a w => ∃ T S, Sat n T a /\ Rep w0 S w /\ I m T S) ⟨T, S, hs, hr, h0⟩ ?_
  rintro m a w ⟨T, S, hs, hr, hI⟩
  refine wp_mono (round m T S hI c1 h1 a w hs hr) ?_
  rintro e a' w' ⟨T', S', hs', hr', q⟩
  cases e with
  | normal => obtain ⟨k, hk, q⟩ := q; exact ⟨k, hk, T', S', hs', hr', q⟩
  | _ => exact ⟨T', S', hs', hr', q⟩
 case region id ops dr => cases dr <;> simp [cC] at hc
 all_goals (first | (simp [cC] at hc; done) | (simp only [cC] at hc; split at hc <;> simp at hc; done))
def argT : Nat -> List Value -> TT
 | _, [] => []
 | i, v :: r => (i, v) :: argT (i + 1) r
theorem look_argT {i j : Nat} {l : List Value} {v : Value} (h : look (argT i l) j = some v) : i <= j /\ l[j - i]? = some v := by
 induction l generalizing i with
 | nil => simp [argT, look] at h
 | cons u r ih =>
  by_cases e : i = j
  ·subst e
   simp only [argT, look_put_same] at h
   simpa using h
  simp only [argT] at h
  rw [look_cons_ne _ _ e] at h
  obtain ⟨h1, h2⟩ := ih h
  refine ⟨by omega, ?_⟩
  obtain ⟨k, hk⟩ : ∃ k, j - i = k + 1 := ⟨j - i - 1, by omega⟩
  rw [hk, List.getElem?_cons_succ]
  rwa [show j - (i + 1) = k by omega] at h2
def resV (T : TT) : List Nat -> Option Value
 | [r] => look T r
 | [] => some (.tuple #[])
 | [r, s] => match look T r, look T s with | some a, some b => some (.tuple #[a, b]) | _, _ => none
 | [r, s, t] => match look T r, look T s, look T t with | some a, some b, some c => some (.tuple #[a, b, c]) | _, _, _ => none
 | _ => none
def Known (P : Program) (k : FuncId) (pc : PC) (n : Nat) (rs : List Nat) : Prop :=
 ∃ fn c, P.funcs[k]? = some fn /\ fn.body = some c /\ cC P fn.ntmps c = some pc /\ fn.ntmps = n /\ fn.results = (rs.map ResultVar.tmp).toArray
theorem results_run {fn : Func} {rs : List Nat} {tmps : Array Value} {w : World} {v : Value} {T : TT} (hr : fn.results = (rs.map ResultVar.tmp).toArray)
  (ht : ∀ i v, look T i = some v -> tmps[i]? = some v) (hv : resV T rs = some v) : (results fn tmps).run P w = .ok v w := by
 match rs, hr, hv with
 | [], hr, hv =>
  simp [resV] at hv
  subst hv
  simp [results, hr]
 | [r], hr, hv =>
  simp only [resV] at hv
  simp [results, hr, ht _ _ hv]
 | [r, s], hr, hv =>
  simp only [resV] at hv
  cases h1 : look T r with
  | none => simp [h1] at hv
  | some v1 =>
   cases h2 : look T s with
   | none => simp [h1, h2] at hv
   | some v2 =>
    simp [h1, h2] at hv
    subst hv
    simp [results, hr, ht _ _ h1, ht _ _ h2]
 | [r, s, t], hr, hv =>
  simp only [resV] at hv
  cases h1 : look T r with
  | none => simp [h1] at hv
  | some v1 =>
   cases h2 : look T s with
   | none => simp [h1, h2] at hv
   | some v2 =>
    cases h3 : look T t with
    | none => simp [h1, h2, h3] at hv
    | some v3 =>
     simp [h1, h2, h3] at hv
     subst hv
     simp [results, hr, ht _ _ h1, ht _ _ h2, ht _ _ h3]
 | r :: s :: t :: u :: l, hr, hv => simp [resV] at hv
theorem argT_sat {args : List Value} (hn : args.length <= n) : Sat n (argT 0 args) { tmps := args.toArray ++ Array.replicate (n - args.toArray.size) undef, defers := [] } := by
 refine ⟨by simp; omega, rfl, fun i v hv => ?_⟩
 obtain ⟨_, h⟩ := look_argT hv
 have hlt : i - 0 < args.length := (List.getElem?_eq_some_iff.1 h).1
 simp at hlt
 rw [Array.getElem?_append_left (by simpa using hlt)]
 simpa using h
theorem FC.of {k : FuncId} {pc : PC} {rs : List Nat} {args : List Value} {post : Value -> SS -> Prop} (hk : Known P k pc n rs) (hn : args.length <= n)
  (h : PW P w0 n pc (argT 0 args) S (fun e T' S' => (e = .normal ∨ e = .ret) /\ ∃ v, resV T' rs = some v /\ post v S')) : FC P w0 k args S post := by
 obtain ⟨fn, c, hf, hb, hc, rfl, hres⟩ := hk
 intro w hw
 refine calls_of_wp hf hb (wp_mono (h c hc _ w (argT_sat hn) hw) ?_)
 rintro e a' w' ⟨T', S', hs', hr', he, v, hv, hp⟩
 have hrun := results_run (P := P) (w := w') hres hs'.get hv
 rcases he with rfl | rfl
 ·exact ⟨hs'.defers, v, hrun, v, S', rfl, hr', hp⟩
 exact ⟨hs'.defers, v, hrun, v, S', rfl, hr', hp⟩
end rules
end Go.SL
namespace Go.SL
open Go Go.RowKit
theorem zM0 {p : Nat × AO} {S : SS} : p ∈ ([p] :: S).flatten := List.mem_flatten.2 ⟨_, .head _, List.mem_singleton.2 rfl⟩
theorem zM1 {a0 : Seg} {p : Nat × AO} {S : SS} : p ∈ (a0 :: [p] :: S).flatten := List.mem_flatten.2 ⟨_, .tail _ (.head _), List.mem_singleton.2 rfl⟩
theorem zM2 {a0 a1 : Seg} {p : Nat × AO} {S : SS} : p ∈ (a0 :: a1 :: [p] :: S).flatten := List.mem_flatten.2 ⟨_, .tail _ (.tail _ (.head _)), List.mem_singleton.2 rfl⟩
theorem zM3 {a0 a1 a2 : Seg} {p : Nat × AO} {S : SS} : p ∈ (a0 :: a1 :: a2 :: [p] :: S).flatten := List.mem_flatten.2 ⟨_, .tail _ (.tail _ (.tail _ (.head _))), List.mem_singleton.2 rfl⟩
theorem zM4 {a0 a1 a2 a3 : Seg} {p : Nat × AO} {S : SS} : p ∈ (a0 :: a1 :: a2 :: a3 :: [p] :: S).flatten := List.mem_flatten.2 ⟨_, .tail _ (.tail _ (.tail _ (.tail _ (.head _)))), List.mem_singleton.2 rfl⟩
theorem zM5 {a0 a1 a2 a3 a4 : Seg} {p : Nat × AO} {S : SS} : p ∈ (a0 :: a1 :: a2 :: a3 :: a4 :: [p] :: S).flatten := List.mem_flatten.2 ⟨_, .tail _ (.tail _ (.tail _ (.tail _ (.tail _ (.head _))))), List.mem_singleton.2 rfl⟩
theorem zM6 {a0 a1 a2 a3 a4 a5 : Seg} {p : Nat × AO} {S : SS} : p ∈ (a0 :: a1 :: a2 :: a3 :: a4 :: a5 :: [p] :: S).flatten := List.mem_flatten.2 ⟨_, .tail _ (.tail _ (.tail _ (.tail _ (.tail _ (.tail _ (.head _)))))), List.mem_singleton.2 rfl⟩
theorem zM7 {a0 a1 a2 a3 a4 a5 a6 : Seg} {p : Nat × AO} {S : SS} : p ∈ (a0 :: a1 :: a2 :: a3 :: a4 :: a5 :: a6 :: [p] :: S).flatten := List.mem_flatten.2 ⟨_, .tail _ (.tail _ (.tail _ (.tail _ (.tail _ (.tail _ (.tail _ (.head _))))))), List.mem_singleton.2 rfl⟩
theorem zM8 {a0 a1 a2 a3 a4 a5 a6 a7 : Seg} {p : Nat × AO} {S : SS} : p ∈ (a0 :: a1 :: a2 :: a3 :: a4 :: a5 :: a6 :: a7 :: [p] :: S).flatten := List.mem_flatten.2 ⟨_, .tail _ (.tail _ (.tail _ (.tail _ (.tail _ (.tail _ (.tail _ (.tail _ (.head _)))))))), List.mem_singleton.2 rfl⟩
theorem zM9 {a0 a1 a2 a3 a4 a5 a6 a7 a8 : Seg} {p : Nat × AO} {S : SS} : p ∈ (a0 :: a1 :: a2 :: a3 :: a4 :: a5 :: a6 :: a7 :: a8 :: [p] :: S).flatten := List.mem_flatten.2 ⟨_, .tail _ (.tail _ (.tail _ (.tail _ (.tail _ (.tail _ (.tail _ (.tail _ (.tail _ (.head _))))))))), List.mem_singleton.2 rfl⟩
theorem zM10 {a0 a1 a2 a3 a4 a5 a6 a7 a8 a9 : Seg} {p : Nat × AO} {S : SS} : p ∈ (a0 :: a1 :: a2 :: a3 :: a4 :: a5 :: a6 :: a7 :: a8 :: a9 :: [p] :: S).flatten := List.mem_flatten.2 ⟨_, .tail _ (.tail _ (.tail _ (.tail _ (.tail _ (.tail _ (.tail _ (.tail _ (.tail _ (.tail _ (.head _)))))))))), List.mem_singleton.2 rfl⟩
theorem zM11 {a0 a1 a2 a3 a4 a5 a6 a7 a8 a9 a10 : Seg} {p : Nat × AO} {S : SS} : p ∈ (a0 :: a1 :: a2 :: a3 :: a4 :: a5 :: a6 :: a7 :: a8 :: a9 :: a10 :: [p] :: S).flatten := List.mem_flatten.2 ⟨_, .tail _ (.tail _ (.tail _ (.tail _ (.tail _ (.tail _ (.tail _ (.tail _ (.tail _ (.tail _ (.tail _ (.head _))))))))))), List.mem_singleton.2 rfl⟩
theorem zM12 {a0 a1 a2 a3 a4 a5 a6 a7 a8 a9 a10 a11 : Seg} {p : Nat × AO} {S : SS} : p ∈ (a0 :: a1 :: a2 :: a3 :: a4 :: a5 :: a6 :: a7 :: a8 :: a9 :: a10 :: a11 :: [p] :: S).flatten := List.mem_flatten.2 ⟨_, .tail _ (.tail _ (.tail _ (.tail _ (.tail _ (.tail _ (.tail _ (.tail _ (.tail _ (.tail _ (.tail _ (.tail _ (.head _)))))))))))), List.mem_singleton.2 rfl⟩
theorem zM13 {a0 a1 a2 a3 a4 a5 a6 a7 a8 a9 a10 a11 a12 : Seg} {p : Nat × AO} {S : SS} : p ∈ (a0 :: a1 :: a2 :: a3 :: a4 :: a5 :: a6 :: a7 :: a8 :: a9 :: a10 :: a11 :: a12 :: [p] :: S).flatten := List.mem_flatten.2 ⟨_, .tail _ (.tail _ (.tail _ (.tail _ (.tail _ (.tail _ (.tail _ (.tail _ (.tail _ (.tail _ (.tail _ (.tail _ (.tail _ (.head _))))))))))))), List.mem_singleton.2 rfl⟩
theorem zM14 {a0 a1 a2 a3 a4 a5 a6 a7 a8 a9 a10 a11 a12 a13 : Seg} {p : Nat × AO} {S : SS} : p ∈ (a0 :: a1 :: a2 :: a3 :: a4 :: a5 :: a6 :: a7 :: a8 :: a9 :: a10 :: a11 :: a12 :: a13 :: [p] :: S).flatten := List.mem_flatten.2 ⟨_, .tail _ (.tail _ (.tail _ (.tail _ (.tail _ (.tail _ (.tail _ (.tail _ (.tail _ (.tail _ (.tail _ (.tail _ (.tail _ (.tail _ (.head _)))))))))))))), List.mem_singleton.2 rfl⟩
theorem zM15 {a0 a1 a2 a3 a4 a5 a6 a7 a8 a9 a10 a11 a12 a13 a14 : Seg} {p : Nat × AO} {S : SS} : p ∈ (a0 :: a1 :: a2 :: a3 :: a4 :: a5 :: a6 :: a7 :: a8 :: a9 :: a10 :: a11 :: a12 :: a13 :: a14 :: [p] :: S).flatten := List.mem_flatten.2 ⟨_, .tail _ (.tail _ (.tail _ (.tail _ (.tail _ (.tail _ (.tail _ (.tail _ (.tail _ (.tail _ (.tail _ (.tail _ (.tail _ (.tail _ (.tail _ (.head _))))))))))))))), List.mem_singleton.2 rfl⟩
theorem wi : ∀ {l T : TT}, l.map (fun p => look T p.1) = l.map (fun p => some p.2) → Within l T
 | [], _, _ => trivial
 | (i, v) :: l, T, g => by simp only [List.map_cons, List.cons.injEq] at g; exact ⟨g.1, wi g.2⟩
section
variable {P : Program} {w0 : World} {n : Nat} {T : TT} {S : SS} {pc : PC} {Q : Exit → TT → SS → Prop}
theorem PW.kx {l : TT} (h : PW P w0 n pc l S Q) (g : l.map (fun p => look T p.1) = l.map (fun p => some p.2)) : PW P w0 n pc T S Q := .keep (wi g) h
theorem PW.k1 (a0 : Nat) {v0 : Value} (g : [look T a0] = [some v0]) (h : PW P w0 n pc [(a0, v0)] S Q) : PW P w0 n pc T S Q := .kx h g
theorem PW.k2 (a0 a1 : Nat) {v0 v1 : Value} (g : [look T a0, look T a1] = [some v0, some v1]) (h : PW P w0 n pc [(a0, v0), (a1, v1)] S Q) : PW P w0 n pc T S Q := .kx h g
theorem PW.k3 (a0 a1 a2 : Nat) {v0 v1 v2 : Value} (g : [look T a0, look T a1, look T a2] = [some v0, some v1, some v2]) (h : PW P w0 n pc [(a0, v0), (a1, v1), (a2, v2)] S Q) : PW P w0 n pc T S Q := .kx h g
theorem PW.k4 (a0 a1 a2 a3 : Nat) {v0 v1 v2 v3 : Value} (g : [look T a0, look T a1, look T a2, look T a3] = [some v0, some v1, some v2, some v3]) (h : PW P w0 n pc [(a0, v0), (a1, v1), (a2, v2), (a3, v3)] S Q) : PW P w0 n pc T S Q := .kx h g
theorem PW.k5 (a0 a1 a2 a3 a4 : Nat) {v0 v1 v2 v3 v4 : Value} (g : [look T a0, look T a1, look T a2, look T a3, look T a4] = [some v0, some v1, some v2, some v3, some v4]) (h : PW P w0 n pc [(a0, v0), (a1, v1), (a2, v2), (a3, v3), (a4, v4)] S Q) : PW P w0 n pc T S Q := .kx h g
theorem PW.k6 (a0 a1 a2 a3 a4 a5 : Nat) {v0 v1 v2 v3 v4 v5 : Value} (g : [look T a0, look T a1, look T a2, look T a3, look T a4, look T a5] = [some v0, some v1, some v2, some v3, some v4, some v5]) (h : PW P w0 n pc [(a0, v0), (a1, v1), (a2, v2), (a3, v3), (a4, v4), (a5, v5)] S Q) : PW P w0 n pc T S Q := .kx h g
theorem PW.k7 (a0 a1 a2 a3 a4 a5 a6 : Nat) {v0 v1 v2 v3 v4 v5 v6 : Value} (g : [look T a0, look T a1, look T a2, look T a3, look T a4, look T a5, look T a6] = [some v0, some v1, some v2, some v3, some v4, some v5, some v6]) (h : PW P w0 n pc [(a0, v0), (a1, v1), (a2, v2), (a3, v3), (a4, v4), (a5, v5), (a6, v6)] S Q) : PW P w0 n pc T S Q := .kx h g
theorem PW.k8 (a0 a1 a2 a3 a4 a5 a6 a7 : Nat) {v0 v1 v2 v3 v4 v5 v6 v7 : Value} (g : [look T a0, look T a1, look T a2, look T a3, look T a4, look T a5, look T a6, look T a7] = [some v0, some v1, some v2, some v3, some v4, some v5, some v6, some v7]) (h : PW P w0 n pc [(a0, v0), (a1, v1), (a2, v2), (a3, v3), (a4, v4), (a5, v5), (a6, v6), (a7, v7)] S Q) : PW P w0 n pc T S Q := .kx h g
theorem PW.k9 (a0 a1 a2 a3 a4 a5 a6 a7 a8 : Nat) {v0 v1 v2 v3 v4 v5 v6 v7 v8 : Value} (g : [look T a0, look T a1, look T a2, look T a3, look T a4, look T a5, look T a6, look T a7, look T a8] = [some v0, some v1, some v2, some v3, some v4, some v5, some v6, some v7, some v8]) (h : PW P w0 n pc [(a0, v0), (a1, v1), (a2, v2), (a3, v3), (a4, v4), (a5, v5), (a6, v6), (a7, v7), (a8, v8)] S Q) : PW P w0 n pc T S Q := .kx h g
theorem PW.k10 (a0 a1 a2 a3 a4 a5 a6 a7 a8 a9 : Nat) {v0 v1 v2 v3 v4 v5 v6 v7 v8 v9 : Value} (g : [look T a0, look T a1, look T a2, look T a3, look T a4, look T a5, look T a6, look T a7, look T a8, look T a9] = [some v0, some v1, some v2, some v3, some v4, some v5, some v6, some v7, some v8, some v9]) (h : PW P w0 n pc [(a0, v0), (a1, v1), (a2, v2), (a3, v3), (a4, v4), (a5, v5), (a6, v6), (a7, v7), (a8, v8), (a9, v9)] S Q) : PW P w0 n pc T S Q := .kx h g
theorem PW.k11 (a0 a1 a2 a3 a4 a5 a6 a7 a8 a9 a10 : Nat) {v0 v1 v2 v3 v4 v5 v6 v7 v8 v9 v10 : Value} (g : [look T a0, look T a1, look T a2, look T a3, look T a4, look T a5, look T a6, look T a7, look T a8, look T a9, look T a10] = [some v0, some v1, some v2, some v3, some v4, some v5, some v6, some v7, some v8, some v9, some v10]) (h : PW P w0 n pc [(a0, v0), (a1, v1), (a2, v2), (a3, v3), (a4, v4), (a5, v5), (a6, v6), (a7, v7), (a8, v8), (a9, v9), (a10, v10)] S Q) : PW P w0 n pc T S Q := .kx h g
theorem PW.k12 (a0 a1 a2 a3 a4 a5 a6 a7 a8 a9 a10 a11 : Nat) {v0 v1 v2 v3 v4 v5 v6 v7 v8 v9 v10 v11 : Value} (g : [look T a0, look T a1, look T a2, look T a3, look T a4, look T a5, look T a6, look T a7, look T a8, look T a9, look T a10, look T a11] = [some v0, some v1, some v2, some v3, some v4, some v5, some v6, some v7, some v8, some v9, some v10, some v11]) (h : PW P w0 n pc [(a0, v0), (a1, v1), (a2, v2), (a3, v3), (a4, v4), (a5, v5), (a6, v6), (a7, v7), (a8, v8), (a9, v9), (a10, v10), (a11, v11)] S Q) : PW P w0 n pc T S Q := .kx h g
end
end Go.SL

namespace Go.SL
open Go.RowKit
section
variable {P : Program} {w0 : World} {n : Nat} {T : TT} {S : SS}
def binI (op : BinOp) (k : IntKind) (a b : Int) : Option Value :=
 match op with
 | .add => some (.int k (k.wrap (a + b)))
 | .sub => some (.int k (k.wrap (a - b)))
 | .mul => some (.int k (k.wrap (a * b)))
 | .and => some (.int k (k.wrap (BitVec.ofInt k.bits a &&& BitVec.ofInt k.bits b).toNat))
 | .or => some (.int k (k.wrap (BitVec.ofInt k.bits a ||| BitVec.ofInt k.bits b).toNat))
 | .xor => some (.int k (k.wrap (BitVec.ofInt k.bits a ^^^ BitVec.ofInt k.bits b).toNat))
 | .andNot => some (.int k (k.wrap (BitVec.ofInt k.bits a &&& ~~~BitVec.ofInt k.bits b).toNat))
 | .eql => some (.bool (a == b))
 | .neq => some (.bool (a != b))
 | .lss => some (.bool (decide (a < b)))
 | .leq => some (.bool (decide (a <= b)))
 | .gtr => some (.bool (decide (a > b)))
 | .geq => some (.bool (decide (a ≥ b)))
 | _ => none
def binS (op : BinOp) (a b : ByteArray) : Option Value :=
 match op with
 | .eql => some (.bool (a.toList == b.toList))
 | .neq => some (.bool !(a.toList == b.toList))
 | .lss => some (.bool (Op.bytesLess a.toList b.toList))
 | .leq => some (.bool (Op.bytesLess a.toList b.toList || a.toList == b.toList))
 | .gtr => some (.bool !(Op.bytesLess a.toList b.toList || a.toList == b.toList))
 | .geq => some (.bool !(Op.bytesLess a.toList b.toList))
 | _ => none
def binv (op : BinOp) : Value -> Value -> Option Value
 | .int k a, .int k' b => if k = k' then binI op k a b else none
 | .string a, .string b => binS op a b
 | _, _ => none
def binB (op : BinOp) : Value -> Value -> Option Value
 | .bool a, .bool b => match op with | .eql => some (.bool (a == b)) | .neq => some (.bool !(a == b)) | _ => none
 | _, _ => none
def evalP : PO -> TT -> Option Value
 | .mov x, T => x.val T
 | .bin op x y, T => match x.val T, y.val T with | some a, some b => binv op a b | _, _ => none
 | .binB op x y, T => match x.val T, y.val T with | some a, some b => binB op a b | _, _ => none
 | .not x, T => match x.val T with | some (.bool b) => some (.bool !b) | _ => none
 | .cvt k x, T => match x.val T with | some (.int _ a) => some (.int k (k.wrap a)) | _ => none
 | .pick c a b, T => match c.val T with | some (.bool true) => a.val T | some (.bool false) => b.val T | _ => none
 | .lenS x, T => match x.val T with | some (.slice _ m _) => some (.int .i64 m) | _ => none
 | .lenStr x, T => match x.val T with | some (.string s) => some (.int .i64 s.size) | _ => none
 | .ext i x, T => match x.val T with | some (.tuple vs) => vs[i]? | _ => none
 | .fa off x, T => match x.val T with | some (.pointer (some a)) => some (.pointer (some (a.add off))) | _ => none
 | .mnx mx [x, y], T => match x.val T, y.val T with
  | some (.int k a), some (.int _ b) => some (.int k (if mx then (if b > a then b else a) else (if b < a then b else a)))
  | _, _ => none
 | _, _ => none
theorem run_bin {t : TypeId} {op : BinOp} {x y : Operand} {u v r : Value} (h : binv op u v = some r) (w : World) :
  eqGuard op t x y u v = pure () /\ (binOp op t u v).run P w = .ok r w := by
 refine ⟨by
  unfold eqGuard
  unfold binv at h
  split at h <;> (first | (simp at h; done) | (split <;> rfl)), ?_⟩
 unfold binv at h
 split at h
 ·rename_i k a k' b
  split at h
  ·rename_i hk
   subst hk
   cases op <;> simp [binI] at h <;> subst h <;> simp [binOp, Op.intArith, Op.intBits, Op.intCmp]
  simp at h
 ·rename_i a b
  cases op <;> simp [binS] at h <;> (first | (subst h; simp [binOp, Op.stringOp]; done) | skip)
 simp at h
theorem run_binB {t : TypeId} {op : BinOp} {x y : Operand} {u v r : Value} (hp : P.underlying t = some .bool) (h : binB op u v = some r) (w : World) :
  eqGuard op t x y u v = pure () /\ (binOp op t u v).run P w = .ok r w := by
 unfold binB at h
 split at h
 ·rename_i a b
  refine ⟨by unfold eqGuard; split <;> rfl, ?_⟩
  cases op <;> simp at h <;> subst h
  ·exact run_eql_bool w t a b hp
  exact run_neq_bool w t a b hp
 simp at h
theorem boolB_spec {t : TypeId} (h : boolB P t = true) : P.underlying t = some .bool := by
 unfold boolB at h
 split at h
 ·assumption
 simp at h
theorem run_fieldPlace {a : Addr} {f : Field} {fi : TypeInfo} (h : P.info? f.type = some fi) (h0 : fi.size ≠ 0) (w : World) : (fieldPlace a f).run P w = .ok (a.add f.offset) w := by
 simp [fieldPlace, sizeOf, typeInfo, program, Sem.run, h, h0]
theorem Yields.pure {po : PO} {v : Value} (h : evalP po T = some v) : Yields P w0 n po T S v := by
 intro o a w hc hs hr
 have hsp := cOp_spec P hc
 cases po <;> simp only [Spec] at hsp <;> (first | (simp [evalP] at h; done) | skip)
 all_goals (try simp only [evalP] at h)
 case mov x =>
  rcases hsp with ⟨y, ho, rfl⟩ | ⟨y, ho, rfl⟩ <;> simp [execOp, ho, hs.eval h, Sem.run, Pure.pure]
 case bin op x y =>
  obtain ⟨t, c, d, u, ho, rfl, rfl, hp⟩ := hsp
  split at h
  ·rename_i u v h1 h2
   simp only [execOp, ho, hs.eval h1, hs.eval h2]
   obtain ⟨e1, e2⟩ := run_bin (P := P) (t := t) (x := c) (y := d) h w
   simp [e1, e2]
  simp at h
 case binB op x y =>
  obtain ⟨t, c, d, u, ho, rfl, rfl, hp⟩ := hsp
  split at h
  ·rename_i u v h1 h2
   simp only [execOp, ho, hs.eval h1, hs.eval h2]
   obtain ⟨e1, e2⟩ := run_binB (P := P) (t := t) (x := c) (y := d) (boolB_spec hp) h w
   simp [e1, e2]
  simp at h
 case not x =>
  obtain ⟨t, c, ho, rfl⟩ := hsp
  split at h
  ·rename_i b h1
   obtain rfl := Option.some.inj h
   simp [execOp, ho, hs.eval h1, Op.unary]
  simp at h
 case cvt k x =>
  obtain ⟨s, t, c, j, ho, rfl, hu1, hu2⟩ := hsp
  split at h
  ·rename_i j' b h1
   obtain rfl := Option.some.inj h
   simp [execOp, ho, hs.eval h1, convert, run_underlying hu1, run_underlying hu2, Conv.intToInt]
  simp at h
 case pick c x y =>
  obtain ⟨c', x', y', ho, rfl, rfl, rfl⟩ := hsp
  split at h
  ·rename_i h1
   simp [execOp, ho, hs.eval h1, hs.eval h, asBool]
  ·rename_i h1
   simp [execOp, ho, hs.eval h1, hs.eval h, asBool]
  simp at h
 case lenS x =>
  obtain ⟨t, u, c, cl, ho, hca, hat, har, rfl, hu⟩ := hsp
  split at h
  ·rename_i A m cp h1
   obtain rfl := Option.some.inj h
   simp [execOp, ho, resolve, hca, invoke, builtin, Builtin.len_, hat, har, hs.eval h1, run_underlying hu, goInt]
  simp at h
 case lenStr x =>
  obtain ⟨t, c, cl, ho, hca, hat, har, rfl, hu⟩ := hsp
  split at h
  ·rename_i s h1
   obtain rfl := Option.some.inj h
   simp [execOp, ho, resolve, hca, invoke, builtin, Builtin.len_, hat, har, hs.eval h1, run_underlying hu, goInt]
  simp at h
 case ext i x =>
  obtain ⟨c, ho, rfl⟩ := hsp
  split at h
  ·rename_i vs h1
   simp [execOp, ho, Instr.extract, hs.eval h1, h]
  simp at h
 case fa off x =>
  obtain ⟨s, y, j, fs, f, fi, ho, rfl, hu, hf, rfl, hi, h0⟩ := hsp
  split at h
  ·rename_i ad h1
   obtain rfl := Option.some.inj h
   simp [execOp, ho, Instr.fieldAt, run_underlying hu, hf, hs.eval h1, Instr.sureAddr, run_fieldPlace hi h0]
  simp at h
 case mnx mx xs =>
  obtain ⟨c, ho, hca, hxs⟩ := hsp
  match hl : c.args.toList, hxs with
  | [], hxs => subst hxs; simp at h
  | [_], hxs => subst hxs; simp at h
  | _ :: _ :: _ :: _, hxs => subst hxs; simp at h
  | [x, y], hxs =>
   subst hxs
   simp only [List.map_cons, List.map_nil] at h
   have ha : c.args = #[x, y] := toList2 hl
   split at h
   ·rename_i k b k' d h1 h2
    obtain rfl := Option.some.inj h
    cases mx <;> simp [execOp, ho, resolve, hca, ha, invoke, builtin, Builtin.max_, Builtin.min_, Builtin.max2, Builtin.min2, hs.eval h1, hs.eval h2]
   simp at h
theorem wrap_i64 {x : Int} (h1 : -9223372036854775808 <= x) (h2 : x <= 9223372036854775807) : IntKind.i64.wrap x = x := IntWalk.i64_in _ ⟨h1, h2⟩
theorem Yields.arith {op : BinOp} {x y : PV} {k : IntKind} {a b r : Int} (hx : x.val T = some (.int k a)) (hy : y.val T = some (.int k b))
  (h : binI op k a b = some (.int k r)) : Yields P w0 n (.bin op x y) T S (.int k r) :=
 Yields.pure (by simp [evalP, hx, hy, binv, h])
theorem Yields.add64 {x y : PV} {a b : Int} (hx : x.val T = some (.int .i64 a)) (hy : y.val T = some (.int .i64 b)) (h1 : -9223372036854775808 <= a + b) (h2 : a + b <= 9223372036854775807) :
  Yields P w0 n (.bin .add x y) T S (.int .i64 (a + b)) := Yields.arith hx hy (by simp [binI, wrap_i64 h1 h2])
theorem Yields.sub64 {x y : PV} {a b : Int} (hx : x.val T = some (.int .i64 a)) (hy : y.val T = some (.int .i64 b)) (h1 : -9223372036854775808 <= a - b) (h2 : a - b <= 9223372036854775807) :
  Yields P w0 n (.bin .sub x y) T S (.int .i64 (a - b)) := Yields.arith hx hy (by simp [binI, wrap_i64 h1 h2])
theorem Yields.mul64 {x y : PV} {a b : Int} (hx : x.val T = some (.int .i64 a)) (hy : y.val T = some (.int .i64 b)) (h1 : -9223372036854775808 <= a * b) (h2 : a * b <= 9223372036854775807) :
  Yields P w0 n (.bin .mul x y) T S (.int .i64 (a * b)) := Yields.arith hx hy (by simp [binI, wrap_i64 h1 h2])
def rowD : TypeDesc -> Bool
 | .struct _ | .array _ _ => true
 | _ => false
theorem aggOf_none {t : TypeId} (h : aggOf P t = some none) : ∃ d, P.underlying t = some d /\ rowD d = false := by
 unfold aggOf at h
 split at h
 ·simp at h
 ·simp at h
 ·rename_i d h1 h2 hd
  refine ⟨d, hd, ?_⟩
  cases d <;> simp_all [rowD]
 simp at h
theorem aggOf_some {t : TypeId} {m : Nat} (h : aggOf P t = some (some m)) : ∃ d i, P.underlying t = some d /\ rowD d = true /\ P.info? t = some i /\ i.size = m := by
 unfold aggOf at h
 split at h
 all_goals (first | (simp at h; done) | skip)
 all_goals (simp at h; obtain ⟨i, hi, he⟩ := h; exact ⟨_, i, by assumption, rfl, hi, he⟩)
theorem run_isAgg {t : TypeId} {d : TypeDesc} (h : P.underlying t = some d) (w : World) : (isAgg t).run P w = .ok (rowD d) w := by
 unfold isAgg
 simp only [Sem.run_bind, run_underlying h, Result.andThen_ok]
 cases d <;> rfl
theorem Yields.ld {x : PV} {a : Addr} {v : Value} (hx : x.val T = some (.pointer (some a))) (hc : Cell w0 S a v) : Yields P w0 n (.ld x) T S v := by
 intro o ac w hco hs hr
 obtain ⟨t, y, ho, rfl, hagg⟩ := cOp_spec P hco
 obtain ⟨d, hu, hd⟩ := aggOf_none hagg
 have hcell := hr.cell hc
 simp only [execOp, ho, hs.eval hx, Instr.loadAt, Instr.sureAddr, loadVar]
 simp [run_isAgg hu, hd, load, Sem.run, hcell]
theorem Yields.ldA {x : PV} {a : Addr} {m : Nat} {cs : List Value} (hx : x.val T = some (.pointer (some a))) (hl : cs.length = m) (hc : ∀ j v, cs[j]? = some v -> Cell w0 S (a.add j) v) :
  Yields P w0 n (.ldA m x) T S (.agg cs.toArray) := by
 intro o ac w hco hs hr
 obtain ⟨t, y, ho, rfl, hagg⟩ := cOp_spec P hco
 obtain ⟨d, i, hu, hd, hi, hsz⟩ := aggOf_some hagg
 have hload := run_loadCells_list (P := P) w a cs (fun j v hv => hr.cell (hc j v hv))
 simp only [execOp, ho, hs.eval hx, Instr.loadAt, Instr.sureAddr, loadVar]
 rw [hl] at hload
 simp [run_isAgg hu, hd, sizeOf, typeInfo, program, hi, hsz, hload, Sem.run]
theorem Yields.ixS {sz : Nat} {x i : PV} {a : Addr} {len cap : Nat} {k : IntKind} {j : Int} (hx : x.val T = some (.slice (some a) len cap)) (hi : i.val T = some (.int k j)) (h0 : 0 <= j) (h1 : j < len) :
  Yields P w0 n (.ixS sz x i) T S (.pointer (some (a.add (j.toNat * sz)))) := by
 intro o ac w hco hs hr
 obtain ⟨t, b, c, e, ie, ho, rfl, rfl, hu, hie, rfl⟩ := cOp_spec P hco
 simp only [execOp, ho, hs.eval hx, hs.eval hi, Instr.indexAt]
 simp [asIntOf, run_underlying hu, h0, h1, sizeOf, typeInfo, program, hie, Sem.run]
theorem Yields.ixStr {x i : PV} {s : ByteArray} {k : IntKind} {j : Nat} {b : UInt8} (hx : x.val T = some (.string s)) (hi : i.val T = some (.int k j)) (hb : s[j]? = some b) :
  Yields P w0 n (.ixStr x i) T S (.int .u8 b.toNat) := by
 intro o ac w hco hs hr
 obtain ⟨t, y, z, ho, rfl, rfl, hu⟩ := cOp_spec P hco
 simp only [execOp, ho, hs.eval hx, hs.eval hi, Instr.index]
 simp [asIntOf, run_underlying hu, hb]
end
section
variable {P : Program} {w0 : World} {n : Nat} {T : TT} {S : SS}
theorem split_at {S : SS} {k : Nat} {seg : Seg} (h : S[k]? = some seg) : ∃ A R, S = A ++ seg :: R /\ A.length = k := by
 have hk : k < S.length := (List.getElem?_eq_some_iff.1 h).1
 refine ⟨S.take k, S.drop (k + 1), ?_, by simp; omega⟩
 have : S[k] = seg := (List.getElem?_eq_some_iff.1 h).2
 rw [<- this]
 simp
theorem set_at {A R : SS} {seg seg' : Seg} {k : Nat} (h : A.length = k) : (A ++ seg :: R).set k seg' = A ++ seg' :: R := by
 subst h
 simp
theorem Rep.replace {w w' : World} {k : Nat} {seg seg' : Seg} (h : Rep w0 S w) (hk : S[k]? = some seg) (hB : Below w0.heap.size w w')
  (hs : ∀ i, i < w.heap.size -> i ∉ seg.map Prod.fst -> w'.heap[i]? = w.heap[i]?) (hn : (seg'.map Prod.fst).Nodup)
  (hi : ∀ p ∈ seg', w0.heap.size <= p.1 /\ Owns w' p.1 p.2 /\ (p.1 ∈ seg.map Prod.fst ∨ w.heap.size <= p.1))
  (hd : w.drawn <= w'.drawn := by first | assumption | exact Nat.le_refl _ | exact Nat.le_succ _ | exact run_drawn _ (by assumption)) : Rep w0 (S.set k seg') w' := by
 obtain ⟨A, R, rfl, hA⟩ := split_at hk
 rw [set_at hA]
 have hnd := h.nodup
 simp only [List.flatten_append, List.flatten_cons, List.map_append, List.nodup_append, List.mem_append] at hnd
 obtain ⟨n1, ⟨n2, n3, n4⟩, n5⟩ := hnd
 have hown := h.own
 simp only [List.flatten_append, List.flatten_cons, List.mem_append] at hown
 have old : ∀ p, (p ∈ A.flatten ∨ p ∈ R.flatten) -> p.1 < w.heap.size /\ p.1 ∉ seg.map Prod.fst := by
  rintro p (hp | hp)
  ·exact ⟨(hown p (.inl hp)).2.lt, fun hc => n5 _ (List.mem_map.2 ⟨p, hp, rfl⟩) _ (.inl hc) rfl⟩
  exact ⟨(hown p (.inr (.inr hp))).2.lt, fun hc => n4 _ hc _ (List.mem_map.2 ⟨p, hp, rfl⟩) rfl⟩
 have apart : ∀ p, (p ∈ A.flatten ∨ p ∈ R.flatten) -> ∀ q ∈ seg', p.1 ≠ q.1 := by
  intro p hp q hq e
  obtain ⟨h1, h2⟩ := old p hp
  rcases (hi q hq).2.2 with h3 | h3
  ·exact h2 (e ▸ h3)
  omega
 refine ⟨h.below.trans hB, ?_, ?_, h.drawn.imp_right fun h => Nat.le_trans h hd⟩
 ·simp only [List.flatten_append, List.flatten_cons, List.map_append, List.nodup_append, List.mem_append]
  refine ⟨n1, ⟨hn, n3, ?_⟩, ?_⟩
  ·rintro a ha b hb rfl
   obtain ⟨q, hq, rfl⟩ := List.mem_map.1 ha
   obtain ⟨p, hp, e⟩ := List.mem_map.1 hb
   exact apart p (.inr hp) q hq e
  rintro a ha b hb rfl
  obtain ⟨p, hp, rfl⟩ := List.mem_map.1 ha
  rcases hb with hb | hb
  ·obtain ⟨q, hq, e⟩ := List.mem_map.1 hb
   exact apart p (.inl hp) q hq e.symm
  exact n5 _ ha _ (.inr hb) rfl
 simp only [List.flatten_append, List.flatten_cons, List.mem_append]
 rintro p (hp | hp | hp)
 ·obtain ⟨h1, h2⟩ := old p (.inl hp)
  exact ⟨(hown p (.inl hp)).1, (hown p (.inl hp)).2.congr (hs _ h1 h2)⟩
 ·exact ⟨(hi p hp).1, (hi p hp).2.1⟩
 obtain ⟨h1, h2⟩ := old p (.inr hp)
 exact ⟨(hown p (.inr (.inr hp))).1, (hown p (.inr (.inr hp))).2.congr (hs _ h1 h2)⟩
theorem Rep.push {w w' : World} {seg : Seg} (h : Rep w0 S w) (hB : Below w0.heap.size w w') (hs : ∀ i, i < w.heap.size -> w'.heap[i]? = w.heap[i]?)
  (hn : (seg.map Prod.fst).Nodup) (hi : ∀ p ∈ seg, Owns w' p.1 p.2 /\ w.heap.size <= p.1)
  (hd : w.drawn <= w'.drawn := by first | assumption | exact Nat.le_refl _ | exact Nat.le_succ _ | exact run_drawn _ (by assumption)) : Rep w0 (seg :: S) w' := by
 have h0 : Rep w0 ([] :: S) w := h.sub (by simp) (by simpa using h.nodup)
 have := h0.replace (k := 0) (seg := []) (seg' := seg) rfl hB (fun i hi _ => hs i hi) hn (fun p hp => ⟨Nat.le_trans h.base (hi p hp).2, (hi p hp).1, .inr (hi p hp).2⟩) hd
 simpa using this
theorem Rep.same {w w' : World} (h : Rep w0 S w) (hB : Below w0.heap.size w w') (hs : ∀ i, i < w.heap.size -> w'.heap[i]? = w.heap[i]?)
  (hd : w.drawn <= w'.drawn := by first | assumption | exact Nat.le_refl _ | exact Nat.le_succ _ | exact run_drawn _ (by assumption)) : Rep w0 S w' :=
 ⟨h.below.trans hB, h.nodup, fun p hp => ⟨(h.own p hp).1, (h.own p hp).2.congr (hs _ (h.own p hp).2.lt)⟩, h.drawn.imp_right fun h => Nat.le_trans h hd⟩
theorem Rep.nilseg {w : World} (h : Rep w0 S w) : Rep w0 ([] :: S) w := h.sub (by simp) (by simpa using h.nodup)
theorem OL.nilseg {l : List PI} {K : TT -> SS -> Prop} (h : OL P w0 n l T ([] :: S) K) : OL P w0 n l T S K :=
 fun ops is a w Q hc hs hr hk => h ops is a w Q hc hs hr.nilseg hk
def setAt : List Value -> Nat -> List Value -> List Value
 | c :: cs, 0, v :: vs => v :: setAt cs 0 vs
 | cs, 0, [] => cs
 | c :: cs, k + 1, vs => c :: setAt cs k vs
 | [], _, _ => []
theorem setAt_nil (cs : List Value) (k : Nat) : setAt cs k [] = cs := by
 induction cs generalizing k with
 | nil => cases k <;> simp [setAt]
 | cons c cs ih => cases k <;> simp [setAt, ih]
theorem setAt_eq (cs : List Value) (k : Nat) (vs : List Value) (h : k + vs.length <= cs.length) : setAt cs k vs = cs.take k ++ vs ++ cs.drop (k + vs.length) := by
 induction cs generalizing k vs with
 | nil =>
  simp at h
  obtain ⟨rfl, rfl⟩ := h
  simp [setAt]
 | cons c cs ih =>
  cases k with
  | zero =>
   cases vs with
   | nil => simp [setAt]
   | cons v vs =>
    simp only [setAt]
    rw [ih 0 vs (by simp at h ⊢; omega)]
    simp
  | succ k =>
   simp only [setAt]
   rw [ih k vs (by simp at h ⊢; omega)]
   simp [Nat.add_right_comm]
theorem setAt_length (cs : List Value) (k : Nat) (vs : List Value) : (setAt cs k vs).length = cs.length := by
 induction cs generalizing k vs with
 | nil => cases k <;> cases vs <;> simp [setAt]
 | cons c cs ih => cases k <;> cases vs <;> simp [setAt, ih]
theorem setRow_heap_other (w : World) (g i : Nat) (cs : Array Value) (h : i ≠ g) : (w.setRow g cs).heap[i]? = w.heap[i]? := by
 simp [World.setRow, Array.getElem?_modify]
 intro e
 exact absurd e.symm h
theorem below_setRow (w : World) (g : Nat) (cs : Array Value) (h : w0.heap.size <= g) : Below w0.heap.size w (w.setRow g cs) :=
 ⟨rfl, rfl, rfl, by simp [World.setRow], fun k hk => setRow_heap_other w g k cs (by omega)⟩
theorem take_lay (C : List Value) (k : Nat) (vs : List Value) (m : Nat) (h1 : k + vs.length <= m) (h2 : m <= C.length) :
  (C.take k ++ vs ++ C.drop (k + vs.length)).take m = (C.take m).take k ++ vs ++ (C.take m).drop (k + vs.length) := by
 rw [List.take_append, List.take_append, List.take_take, List.drop_take]
 have e1 : (C.take k).length = k := by simp; omega
 rw [e1, List.take_of_length_le (l := vs) (by omega), List.take_take]
 simp only [List.length_append, e1]
 rw [Nat.min_comm]
theorem OW.stU {sz : Nat} {x v : PV} {b o E tot k : Nat} {c : List Value} {u : Value} (hx : x.val T = some (.pointer (some ⟨b, o, none⟩))) (hv : v.val T = some u)
  (hk : S[k]? = some [(b, .cells c E tot)]) (hu : u.cells.size = sz) (hb : o + sz <= c.length) (h1 : u.cells.toList.all (·.oneCell') = true) :
  OW P w0 n (.st sz x v) T S (fun v' S' => v' = undef /\ S' = S.set k [(b, .cells (setAt c o u.cells.toList) E tot)]) := by
 intro op a w Q hco hs hr
 obtain ⟨t, y, z, i, ho, rfl, rfl, hi, hsz⟩ := cOp_spec P hco
 obtain ⟨hge, C, hC, htot, hpre⟩ := hr.own (b, .cells c E tot) (List.mem_flatten.2 ⟨_, List.mem_of_getElem? hk, by simp⟩)
 simp only at hge hC
 have hlen : c.length <= C.size := by
  have := congrArg List.length hpre
  simp at this
  omega
 have hlu : u.cells.toList.length = sz := by simpa using hu
 have hst := run_storeCells_at P b o E u.cells.toList 0 C w hC (by omega) (fun v hv => (List.all_eq_true.1 h1) v hv)
 simp only [Nat.add_zero] at hst
 unfold Oper.wp
 have hrun : (execOp a.eval op).run P w = .ok .skip (w.setRow b (C.toList.take o ++ u.cells.toList ++ C.toList.drop (o + u.cells.toList.length)).toArray) := by
  simp only [execOp, ho, hs.eval hx, hs.eval hv, Instr.storeAt, Instr.sureAddr, storeVar]
  simp [sizeOf, typeInfo, program, Sem.run, hi, hsz, hu, hst]
 rw [hrun]
 refine ⟨undef, _, rfl, ?_, rfl, rfl⟩
 have hheap := setRow_heap w b C (C.toList.take o ++ u.cells.toList ++ C.toList.drop (o + u.cells.toList.length)).toArray E (0, 0) hC
 refine hr.replace hk (below_setRow w b _ hge) (fun i _ hne => setRow_heap_other w b i _ (by simpa using hne)) (by simp) ?_
 intro p hp
 simp only [List.mem_singleton] at hp
 subst hp
 refine ⟨hge, ⟨_, hheap, ?_, ?_⟩, .inl (by simp)⟩
 ·simp only [List.size_toArray, List.length_append, List.length_take, List.length_drop, Array.length_toList]; omega
 rw [setAt_length, setAt_eq c o _ (by omega)]
 have := take_lay C.toList o u.cells.toList c.length (by omega) (by simp; omega)
 rw [hpre] at this
 simpa using this
theorem OW.st {sz : Nat} {x v : PV} {b o E tot k : Nat} {c : List Value} {u : Value} (hx : x.val T = some (.pointer (some ⟨b, o, none⟩))) (hv : v.val T = some u)
  (hk : S[k]? = some [(b, .cells c E tot)]) (hu : u.cells.size = sz) (hb : o + sz <= c.length) (h1 : u.cells.toList.all (·.oneCell') = true) :
  OW P w0 n (.st sz x v) T S (fun _ S' => S' = S.set k [(b, .cells (setAt c o u.cells.toList) E tot)]) := by
 exact (OW.stU hx hv hk hu hb h1).mono fun _ _ h => h.2
def ovI : Option PV -> TT -> Option (Option Int)
 | none, _ => some none
 | some x, T => match x.val T with | some (.int _ i) => some (some i) | _ => none
def cutV (A : Option Addr) (cap sz l h : Nat) : Value := .slice (if cap = l then A else A.map (·.add (l * sz))) (h - l) (cap - l)
theorem run_bounds (is : Bool) (len cap : Nat) (lo hi : Option Value) (l h : Nat) (hl : (∃ k, lo = some (.int k (l : Int))) ∨ (lo = none /\ l = 0)) (hh : (∃ k, hi = some (.int k (h : Int))) ∨ (hi = none /\ h = len))
  (h1 : l <= h) (h2 : h <= cap) (w : World) : (Instr.sliceBounds is len cap lo hi none).run P w = .ok (l, h, cap) w := by
 have h1' : (l : Int) <= (h : Int) := by omega
 have h2' : (h : Int) <= (cap : Int) := by omega
 rcases hl with ⟨k, rfl⟩ | ⟨rfl, rfl⟩ <;> rcases hh with ⟨k', rfl⟩ | ⟨rfl, rfl⟩ <;> simp [Instr.sliceBounds, Instr.sliceBound, asIntOf, h1, h2]
theorem ovI_spec {x : Option Operand} {a : Act} {i : Option Int} (hs : Sat n T a) (h : ovI (x.map cV) T = some i) : (i = none /\ x.map a.eval = none) ∨ ∃ j k, i = some j /\ x.map a.eval = some (.int k j) := by
 cases x with
 | none => simp [ovI] at h; exact .inl ⟨h.symm, rfl⟩
 | some y =>
  simp only [Option.map_some, ovI] at h
  split at h
  ·rename_i k j hj
   simp at h
   exact .inr ⟨j, k, h.symm, by simp [hs.eval hj]⟩
  simp at h
theorem Yields.slS {sz : Nat} {x : PV} {lo hi : Option PV} {A : Option Addr} {len cap l h : Nat} {li hi' : Option Int} (hx : x.val T = some (.slice A len cap))
  (hl : ovI lo T = some li) (hh : ovI hi T = some hi') (el : li = some (l : Int) ∨ (li = none /\ l = 0)) (eh : hi' = some (h : Int) ∨ (hi' = none /\ h = len)) (h1 : l <= h) (h2 : h <= cap) :
  Yields P w0 n (.slS sz x lo hi) T S (cutV A cap sz l h) := by
 intro o a w hco hs hr
 obtain ⟨t, y, l', h', e, ie, ho, rfl, rfl, rfl, hu, hie, rfl⟩ := cOp_spec P hco
 have hl2 := ovI_spec hs hl
 have hh2 := ovI_spec hs hh
 have hb : (Instr.sliceBounds true len cap (l'.map a.eval) (h'.map a.eval) none).run P w = .ok (l, h, cap) w := by
  refine run_bounds true len cap _ _ l h ?_ ?_ h1 h2 w
  ·rcases hl2 with ⟨rfl, e1⟩ | ⟨j, k, rfl, e1⟩
   ·rcases el with h | ⟨_, rfl⟩
    ·simp at h
    exact .inr ⟨e1, rfl⟩
   rcases el with h | ⟨h, _⟩
   ·simp at h; subst h; exact .inl ⟨k, e1⟩
   simp at h
  rcases hh2 with ⟨rfl, e1⟩ | ⟨j, k, rfl, e1⟩
  ·rcases eh with h | ⟨_, rfl⟩
   ·simp at h
   exact .inr ⟨e1, rfl⟩
  rcases eh with h | ⟨h, _⟩
  ·simp at h; subst h; exact .inl ⟨k, e1⟩
  simp at h
 simp only [execOp, ho, hs.eval hx, Instr.sliceAt, Option.map_none]
 simp [run_underlying hu, Instr.slice, hb, sizeOf, typeInfo, program, hie, Sem.run, cutV]
theorem Yields.slStr {x : PV} {lo hi : Option PV} {s : ByteArray} {l h : Nat} {li hi' : Option Int} (hx : x.val T = some (.string s))
  (hl : ovI lo T = some li) (hh : ovI hi T = some hi') (el : li = some (l : Int) ∨ (li = none /\ l = 0)) (eh : hi' = some (h : Int) ∨ (hi' = none /\ h = s.size)) (h1 : l <= h) (h2 : h <= s.size) :
  Yields P w0 n (.slStr x lo hi) T S (.string (s.extract l h)) := by
 intro o a w hco hs hr
 obtain ⟨t, y, l', h', ho, rfl, rfl, rfl, hu⟩ := cOp_spec P hco
 have hl2 := ovI_spec hs hl
 have hh2 := ovI_spec hs hh
 have hb : (Instr.sliceBounds false s.size s.size (l'.map a.eval) (h'.map a.eval) none).run P w = .ok (l, h, s.size) w := by
  refine run_bounds false s.size s.size _ _ l h ?_ ?_ h1 h2 w
  ·rcases hl2 with ⟨rfl, e1⟩ | ⟨j, k, rfl, e1⟩
   ·rcases el with h | ⟨_, rfl⟩
    ·simp at h
    exact .inr ⟨e1, rfl⟩
   rcases el with h | ⟨h, _⟩
   ·simp at h; subst h; exact .inl ⟨k, e1⟩
   simp at h
  rcases hh2 with ⟨rfl, e1⟩ | ⟨j, k, rfl, e1⟩
  ·rcases eh with h | ⟨_, rfl⟩
   ·simp at h
   exact .inr ⟨e1, rfl⟩
  rcases eh with h | ⟨h, _⟩
  ·simp at h; subst h; exact .inl ⟨k, e1⟩
  simp at h
 simp only [execOp, ho, hs.eval hx, Instr.sliceAt, Option.map_none]
 simp [run_underlying hu, Instr.slice, hb]
theorem below_alloc {w : World} (h : Rep w0 S w) (o : Obj) : Below w0.heap.size w (w.alloc o) := (Below.refl _ w).alloc h.base o
theorem alloc_heap_lt (w : World) (o : Obj) (i : Nat) (h : i < w.heap.size) : (w.alloc o).heap[i]? = w.heap[i]? := Below.heap_alloc w o i h
theorem alloc_heap_new (w : World) (o : Obj) : (w.alloc o).heap[w.heap.size]? = some o := by simp only [World.alloc]; simp
theorem Rep.alloc {w : World} (h : Rep w0 S w) (C : Array Value) (E : TypeId) : Rep w0 ([(w.heap.size, .cells C.toList E C.size)] :: S) (w.alloc (.cells C E)) := by
 refine h.push (below_alloc h _) (fun i hi => alloc_heap_lt w _ i hi) (by simp) ?_
 intro p hp
 simp only [List.mem_singleton] at hp
 subst hp
 exact ⟨⟨C, alloc_heap_new w _, rfl, by rw [Array.length_toList, <- Array.length_toList, List.take_length]⟩, Nat.le_refl _⟩
def SlV (E sz : Nat) (v : Value) (m : Nat) (xs : List Value) (seg : Seg) : Prop :=
 xs.length = m * sz /\ ((v = .slice none 0 0 /\ m = 0 /\ seg = []) ∨ ∃ r cap, v = .slice (some ⟨r, 0, none⟩) m cap /\ seg = [(r, .cells xs E (cap * sz))] /\ m <= cap /\ cap <= maxLen)
theorem SlV.nil (E sz : Nat) : SlV E sz (.slice none 0 0) 0 [] [] := ⟨by simp, .inl ⟨rfl, rfl, rfl⟩⟩
theorem SlV.mk' {E sz m cap r : Nat} {xs : List Value} (hl : xs.length = m * sz) (h1 : m <= cap) (h2 : cap <= maxLen) : SlV E sz (.slice (some ⟨r, 0, none⟩) m cap) m xs [(r, .cells xs E (cap * sz))] :=
 ⟨hl, .inr ⟨r, cap, rfl, rfl, h1, h2⟩⟩
theorem Rep.owns {w : World} {k E sz m : Nat} {v : Value} {xs : List Value} {seg : Seg} (h : Rep w0 S w) (hk : S[k]? = some seg) (hv : SlV E sz v m xs seg) : w.ownsRow w0.heap.size E sz v m xs := by
 obtain ⟨hl, ⟨rfl, rfl, rfl⟩ | ⟨r, cap, rfl, rfl, h1, h2⟩⟩ := hv
 ·exact ⟨hl, .inl ⟨rfl, rfl⟩⟩
 obtain ⟨hge, C, hC, htot, hpre⟩ := h.own (r, .cells xs E (cap * sz)) (List.mem_flatten.2 ⟨_, List.mem_of_getElem? hk, by simp⟩)
 exact ⟨hl, .inr ⟨r, cap, C, rfl, hge, hC, h1, h2, htot, by rw [<- hl]; exact hpre⟩⟩
theorem Rep.ofOwns {w w' : World} {k E sz m m' : Nat} {v v' : Value} {xs xs' : List Value} {seg : Seg} (h : Rep w0 S w) (hk : S[k]? = some seg) (hv : SlV E sz v m xs seg)
  (ho : w'.ownsRow w0.heap.size E sz v' m' xs') (hg : w.grownBy w' v.ownBlock) (hnew : ∀ r, v'.ownBlock = some r -> v.ownBlock = some r ∨ w.heap.size <= r)
  (hd : w.drawn <= w'.drawn := by first | assumption | exact Nat.le_refl _ | exact Nat.le_succ _ | exact run_drawn _ (by assumption)) :
  ∃ seg', SlV E sz v' m' xs' seg' /\ Rep w0 (S.set k seg') w' := by
 have hB : Below w0.heap.size w w' := (Below.refl _ w).grown hg h.base (fun j hj => by
  obtain ⟨_, ⟨rfl, _, _⟩ | ⟨r, cap, rfl, rfl, _⟩⟩ := hv
  ·simp [Value.ownBlock] at hj
  simp [Value.ownBlock] at hj
  subst hj
  exact (h.own (r, .cells xs E (cap * sz)) (List.mem_flatten.2 ⟨_, List.mem_of_getElem? hk, by simp⟩)).1)
 have hsame : ∀ i, i < w.heap.size -> i ∉ seg.map Prod.fst -> w'.heap[i]? = w.heap[i]? := by
  intro i hi hne
  refine hg.block i hi ?_
  obtain ⟨_, ⟨rfl, _, _⟩ | ⟨r, cap, rfl, rfl, _⟩⟩ := hv
  ·simp [Value.ownBlock]
  simp [Value.ownBlock] at *
  omega
 obtain ⟨hl, ⟨rfl, rfl⟩ | ⟨g, cap, cur, rfl, hge, hcur, h1, h2, h3, h4⟩⟩ := ho
 ·refine ⟨[], ⟨hl, .inl ⟨rfl, rfl, rfl⟩⟩, h.replace hk hB hsame (by simp) (by simp)⟩
 refine ⟨[(g, .cells xs' E (cap * sz))], ⟨hl, .inr ⟨g, cap, rfl, rfl, h1, h2⟩⟩, h.replace hk hB hsame (by simp) ?_⟩
 intro p hp
 simp only [List.mem_singleton] at hp
 subst hp
 refine ⟨hge, ⟨cur, hcur, h3, by rw [hl]; exact h4⟩, ?_⟩
 rcases hnew g (by simp [Value.ownBlock]) with hh | hh
 ·left
  obtain ⟨_, ⟨rfl, _, _⟩ | ⟨r, cap', rfl, rfl, _⟩⟩ := hv
  ·simp [Value.ownBlock] at hh
  simpa [Value.ownBlock] using hh.symm
 exact .inr hh
theorem oneCells {cs : List Value} (h : cs.all (·.oneCell') = true) : ∀ u ∈ cs, u.oneCell' = true := fun u hu => List.all_eq_true.1 h u hu
theorem app_new {w : World} (t ty e : TypeId) (i : TypeInfo) (z : Value) (ht : P.underlying t = some (.slice e)) (hi : P.info? e = some i) (hz : i.zero = some z) (hzs : z.cells.size = i.size) (hsz : 0 < i.size)
  {base : Nat} (v : Value) (m : Nat) (xs : List Value) (hown : w.ownsRow base e i.size v m xs) (a : Addr) (q c : Nat) (news : List Value) (hl : news.length = q * i.size) (hnews : ∀ j u, news[j]? = some u -> w.cell? (a.add j) = some u) (h1 : ∀ u ∈ news, u.oneCell' = true)
  (h63 : m + q <= maxLen) (hbytes : (m + q) * i.bytes <= 140737488355328) (hbase : base <= w.heap.size) :
  ∃ v' w', (Builtin.append_ #[t, t] ty #[v, .slice (some a) q c]).run P w = .ok v' w' /\ w'.ownsRow base e i.size v' (m + q) (xs ++ news) /\ w.grownBy w' v.ownBlock /\
   (∀ r, v'.ownBlock = some r -> v.ownBlock = some r ∨ w.heap.size <= r) := by
 obtain ⟨v', w', hrun, ho, hg, hnil⟩ := run_append_own (P := P) w base t ty e i z i.size i.bytes ht hi hz rfl rfl hzs hsz v m xs hown a q c news hl hnews h1 h63 hbytes hbase
 refine ⟨v', w', hrun, ho, hg, fun r hr => ?_⟩
 have hsmall : m + q <= 9223372036854775807 := by simp only [maxLen] at h63; omega
 obtain ⟨hxl, ⟨rfl, rfl⟩ | ⟨g, cap, cur, rfl, hbg, hgc, hnc, hcm, hcs, htake⟩⟩ := hown
 ·by_cases hm : q = 0
  ·rw [hnil.2 ⟨rfl, hm⟩] at hr
   simp [Value.ownBlock] at hr
  have h2 := run_append_nil (P := P) w t ty e i z ht hi hz a q c news hl hnews (by omega) (by omega) (by have hb := hbytes; simp only [Nat.zero_add] at hb; omega)
  rw [h2] at hrun
  injection hrun with e1 e2
  subst e1
  simp [Value.ownBlock] at hr
  exact .inr (by omega)
 by_cases hroom : m + q <= cap
 ·have hfit : m * i.size + news.length <= cur.size := by rw [hl, hcs, <- Nat.add_mul]; exact Nat.mul_le_mul_right _ hroom
  have h2 := run_append_room (P := P) w t ty e i ht hi g m cap cur hgc a q c news hl hnews h1 hroom hfit
  rw [h2] at hrun
  injection hrun with e1 e2
  subst e1
  exact .inl hr
 have holds : ∀ j u, xs[j]? = some u -> w.cell? ((⟨g, 0, none⟩ : Addr).add j) = some u := (show w.ownsRow base e i.size _ m xs from ⟨hxl, .inr ⟨g, cap, cur, rfl, hbg, hgc, hnc, hcm, hcs, htake⟩⟩).cells (g := g) rfl
 have h2 := run_append_grow (P := P) w t ty e i z ht hi hz ⟨g, 0, none⟩ m cap xs hxl holds a q c news hl hnews (by omega) (by omega) (growslice_fits (by omega) hbytes)
 rw [h2] at hrun
 injection hrun with e1 e2
 subst e1
 simp [Value.ownBlock] at hr
 exact .inr (by omega)
theorem OW.app {t E sz bytes m q c k : Nat} {z v : Value} {s x : PV} {a : Addr} {xs news : List Value} {seg : Seg} (hs' : s.val T = some v) (hk : S[k]? = some seg) (hv : SlV E sz v m xs seg)
  (hx : x.val T = some (.slice (some a) q c)) (hl : news.length = q * sz) (hc : ∀ j u, news[j]? = some u -> Cell w0 S (a.add j) u) (h1 : news.all (·.oneCell') = true)
  (hb : (m + q) * bytes <= 140737488355328) (h63 : m + q <= maxLen) :
  OW P w0 n (.app t E sz bytes z s x) T S (fun v' S' => ∃ seg', S' = S.set k seg' /\ SlV E sz v' (m + q) (xs ++ news) seg') := by
 intro op ac w Q hco hs hr
 obtain ⟨y, y', cl, i, ho, hca, hat, har, rfl, rfl, hu, hi, hz, rfl, rfl, hzs, hsz⟩ := cOp_spec P hco
 obtain ⟨v', w', hrun, hown, hg, hnew⟩ := app_new (P := P) t op.type E i z hu hi hz hzs hsz v m xs (hr.owns hk hv) a q c news hl (fun j u hj => hr.cell (hc j u hj)) (oneCells h1) h63 hb hr.base
 obtain ⟨seg', hsl, hrep⟩ := hr.ofOwns hk hv hown hg hnew
 unfold Oper.wp
 have hrun' : (execOp ac.eval op).run P w = .ok (.value v') w' := by
  simp only [execOp, ho, resolve, hca, invoke, builtin, hat, har]
  simp [hs.eval hs', hs.eval hx, hrun]
 rw [hrun']
 exact ⟨v', _, rfl, hrep, seg', rfl, hsl⟩
theorem OW.mkS_full {t E sz bytes m : Nat} {z : Value} {l c : PV} {k k' : IntKind} (hl : l.val T = some (.int k (m : Int))) (hc : c.val T = some (.int k' (m : Int))) (hb : bytes * m <= 281474976710656) (h63 : m <= maxLen) :
  OW P w0 n (.mkS t E sz bytes z l c) T S (fun v S' => ∃ r, v = .slice (some ⟨r, 0, none⟩) m m /\ S' = [(r, .cells (madeCells z.cells (m * sz)).toList E (m * sz))] :: S) := by
 intro op ac w Q hco hs hr
 obtain ⟨y, y', i, ho, rfl, rfl, hu, hi, hz, rfl, rfl, hzs, hsz⟩ := cOp_spec P hco
 obtain ⟨w', hrun, hown, hg⟩ := run_make_full (P := P) w w0.heap.size t E i z i.size hu hi hz rfl k k' m hb h63 hr.base
 obtain ⟨hxl, ⟨he, _⟩ | ⟨g, cap, cur, he, hge, hcur, h1, h2, h3, h4⟩⟩ := hown
 ·simp at he
 simp only [Value.slice.injEq, Option.some.injEq, Addr.mk.injEq, and_true, true_and] at he
 obtain ⟨rfl, rfl⟩ := he
 have hk' : k = k /\ True := ⟨rfl, trivial⟩
 unfold Oper.wp
 have hrun' : (execOp ac.eval op).run P w = .ok (.value (.slice (some ⟨w.heap.size, 0, none⟩) m m)) w' := by
  simp only [execOp, ho, hs.eval hl, hs.eval hc]
  simp [hrun]
 rw [hrun']
 refine ⟨_, _, rfl, ?_, w.heap.size, rfl, rfl⟩
 refine hr.push ((Below.refl _ w).grown hg hr.base (by simp)) (fun i hi => hg.block i hi (by simp)) (by simp) ?_
 intro p hp
 simp only [List.mem_singleton] at hp
 subst hp
 exact ⟨⟨cur, hcur, h3, by rw [hxl]; exact h4⟩, Nat.le_refl _⟩
def valsP (T : TT) : List PV -> Option (List Value)
 | [] => some []
 | x :: r => match x.val T, valsP T r with | some v, some vs => some (v :: vs) | _, _ => none
theorem valsP_spec {a : Act} (hs : Sat n T a) {xs : List Operand} {vs : List Value} (h : valsP T (xs.map cV) = some vs) : xs.map a.eval = vs := by
 induction xs generalizing vs with
 | nil => simpa [valsP] using h
 | cons x xs ih =>
  simp only [List.map_cons, valsP] at h
  split at h
  ·rename_i v vs' h1 h2
   obtain rfl := Option.some.inj h
   simp [hs.eval h1, ih h2]
  simp at h
theorem OW.call {f : FuncId} {args : List PV} {vs : List Value} {post : Value -> SS -> Prop} (hv : valsP T args = some vs) (h : FC P w0 f vs S post) : OW P w0 n (.call f args) T S post := by
 intro op ac w Q hco hs hr
 obtain ⟨cl, ho, hca, rfl, hok⟩ := cOp_spec P hco
 have hargs : cl.args.map ac.eval = vs.toArray := by
  have := valsP_spec hs hv
  rw [<- this, <- Array.toArray_toList (xs := cl.args.map ac.eval), Array.toList_map]
 have hrun : (execOp ac.eval op).run P w = .ok (.enter f vs.toArray) w := by
  unfold fnOk at hok
  split at hok
  ·rename_i fn hfn
   simp only [Bool.and_eq_true, bne_iff_ne, ne_eq] at hok
   have hb : ¬ fn.body = none := by intro hh; simp [hh] at hok
   simp only [execOp, ho, resolve, hca, Act.eval, Deferred.ofValue]
   simp [invoke, callFunc, program, Sem.run, hfn, hok.1, hb, hargs]
  simp at hok
 unfold Oper.wp
 rw [hrun]
 refine (h w hr).mono ?_
 rintro e w' ⟨v, S', rfl, hr', hp⟩
 exact ⟨v, S', rfl, hr', hp⟩
end
section
variable {P : Program} {w0 : World} {n : Nat} {T : TT} {S : SS}
theorem foldl_bit {acc : List Nat} {es : List Edge} {s j : Nat} (h : (es.foldl (fun s e => if Region.binds .any e then s ||| 2 ^ e.on ||| acc.getD e.on 0 else s) s).testBit j = true) :
  s.testBit j = true ∨ ∃ e ∈ es, Region.binds .any e = true /\ (e.on = j ∨ (acc.getD e.on 0).testBit j = true) := by
 induction es generalizing s with
 | nil => exact .inl h
 | cons e es ih =>
  simp only [List.foldl_cons] at h
  rcases ih h with h | ⟨e', he, hb, hj⟩
  ·split at h
   ·rename_i hb
    simp only [Nat.testBit_or, Bool.or_eq_true, Nat.testBit_two_pow] at h
    rcases h with (h | h) | h
    ·exact .inl h
    ·exact .inr ⟨e, by simp, hb, .inl (by simpa using h)⟩
    exact .inr ⟨e, by simp, hb, .inr h⟩
   exact .inl h
  exact .inr ⟨e', by simp [he], hb, hj⟩
def Closed (ops : Array Oper) (X : Nat -> Prop) : Prop := ∀ i o, ops[i]? = some o -> X i -> ∀ e ∈ o.after, Region.binds .any e = true -> X e.on
theorem ancs_spec {all : Array Oper} {X : Nat -> Prop} (hX : Closed all X) : ∀ (ops : List Oper) (acc : List Nat), all.toList = all.toList.take acc.length ++ ops -> acc.length + ops.length = all.size ->
  (∀ i, i < acc.length -> ∀ j, (acc.getD i 0).testBit j = true -> X i -> X j) -> ∀ i j, i < all.size -> ((ancs ops acc).getD i 0).testBit j = true -> X i -> X j
 | [], acc, h1, h2, hacc => fun i j hi hj hx => hacc i (by simp at h2; omega) j (by simpa [ancs] using hj) hx
 | o :: r, acc, h1, h2, hacc => by
  have ho : all[acc.length]? = some o := by
   have := congrArg (fun l => l[acc.length]?) h1
   simp only [Array.getElem?_toList] at this
   rw [this, List.getElem?_append_right (by simp [Nat.min_le_left])]
   simp at h2 ⊢
   have : min acc.length all.size = acc.length := by omega
   rw [this]
   simp
  refine ancs_spec hX r (acc ++ [ancOf acc o]) ?_ (by simp at h2 ⊢; omega) ?_
  ·have hlen : acc.length < all.toList.length := by simp at h2 ⊢; omega
   have e1 : all.toList.take (acc.length + 1) = all.toList.take acc.length ++ [o] := by
    rw [List.take_add_one]
    simp [ho]
   simp only [List.length_append, List.length_singleton, e1, List.append_assoc, List.singleton_append]
   exact h1
  intro i hi j hj hx
  simp only [List.length_append, List.length_singleton] at hi
  by_cases hlt : i < acc.length
  ·rw [List.getD_eq_getElem?_getD, List.getElem?_append_left hlt, <- List.getD_eq_getElem?_getD] at hj
   exact hacc i hlt j hj hx
  obtain rfl : i = acc.length := by omega
  simp only [List.getD_eq_getElem?_getD, List.getElem?_concat_length, Option.getD_some] at hj
  rcases foldl_bit hj with h | ⟨e, he, hb, h⟩
  ·simp at h
  have hxe : X e.on := hX _ o ho hx e (by simpa using he) hb
  rcases h with rfl | h
  ·exact hxe
  by_cases hle : e.on < acc.length
  ·exact hacc _ hle j h hxe
  rw [List.getD_eq_getElem?_getD, List.getElem?_eq_none (by omega)] at h
  simp at h
inductive QL (P : Program) (w0 : World) (n : Nat) (S : SS) : List PI -> TT -> TT -> Prop
 | nil {T : TT} : QL P w0 n S [] T T
 | step {T T' : TT} {d : Option Nat} {g : Option (Nat × Bool)} {po : PO} {v : Value} {r : List PI} (hg : gOk T g) (h : OW P w0 n po T S (fun v' S' => v' = v /\ S' = S)) (k : QL P w0 n S r (put d v T) T') : QL P w0 n S (⟨d, g, po⟩ :: r) T T'
 | off {T T' : TT} {d : Option Nat} {s : Nat} {b : Bool} {u : Value} {po : PO} {r : List PI} (hl : look T s = some u) (hc : (boolOf u == some b) = false) (k : QL P w0 n S r (put d undef T) T') : QL P w0 n S (⟨d, some (s, b), po⟩ :: r) T T'
theorem wpAny_tail {ops : Array Oper} {Q : Exit -> Act -> World -> Prop} (hb : backB ops = true) : ∀ (m s : Nat) (listed : Array Bool) (a : Act) (w : World), s + m = ops.size -> listed.size = ops.size ->
  (∀ j, j < ops.size -> listed.getD j true = decide (j < s)) -> (∀ t i, s < t -> t < ops.size -> i < t -> s <= i -> listed.getD i false = false -> t ∉ Region.ready .any ops listed) ->
  (∀ listed' : Array Bool, ∀ t s', s <= s' -> s' < t -> t < ops.size -> (∀ j, j < ops.size -> listed'.getD j true = decide (j < s')) -> listed'.size = ops.size -> t ∉ Region.ready .any ops listed') ->
  wpOps P ops Q (List.range' s m) a w -> wpAny P .any ops Q m listed a w
 | 0, s, listed, a, w, hs, hsz, hl, _, _, h => by
  refine ⟨?_, by simpa [wpOps] using h⟩
  unfold Region.ready
  rw [List.filter_eq_nil_iff]
  intro i hi
  have := hl i (List.mem_range.1 hi)
  have h2 : i < s := by have := List.mem_range.1 hi; omega
  simp [hl i (List.mem_range.1 hi), h2]
 | m + 1, s, listed, a, w, hs, hsz, hl, hr, hr2, h => by
  rw [List.range'_succ, wpOps_cons] at h
  have hnext : ∀ a w, wpOps P ops Q (List.range' (s + 1) m) a w -> wpAny P .any ops Q m (listed.setIfInBounds s true) a w := by
   intro a w h
   have hl' : ∀ j, j < ops.size -> (listed.setIfInBounds s true).getD j true = decide (j < s + 1) := by
    intro j hj
    by_cases e : s = j
    ·subst e
     simp [hsz, hj]
    rw [getD_set_ne true e, hl j hj]
    simp; omega
   exact wpAny_tail hb m (s + 1) _ a w (by omega) (by simp [hsz]) hl' (fun t i h1 h2 h3 h4 h5 => hr2 _ t (s + 1) (by omega) h1 h2 hl' (by simp [hsz])) (fun l' t s' h1 h2 h3 h4 h5 => hr2 l' t s' (by omega) h2 h3 h4 h5) h
  have hready : s ∈ Region.ready .any ops listed := by
   rw [mem_ready]
   have hlt : s < ops.size := by omega
   refine ⟨by rw [hl s hlt]; simp, ops[s], by simp [hlt], fun e he hbd => ?_⟩
   have h1 := List.all_eq_true.1 hb s (List.mem_range.2 hlt)
   simp only [Array.getElem?_eq_getElem hlt] at h1
   have h2 := (Array.all_eq_true_iff_forall_mem.1 h1) e he
   simp only [hbd, Bool.not_true, Bool.false_or, decide_eq_true_eq] at h2
   have h3 := hl e.on (by omega)
   simp only [h2, decide_true] at h3
   have : e.on < listed.size := by omega
   simpa [this] using h3
  refine ⟨fun h0 => by rw [h0] at hready; simp at hready, fun i hi => ?_⟩
  have hi' := mem_ready.1 hi
  have hilt : i < ops.size := by obtain ⟨_, o, ho, _⟩ := hi'; exact (Array.getElem?_eq_some_iff.1 ho).1
  have hge : s <= i := by
   have := hi'.1
   rw [hl i hilt] at this
   simpa using this
  have : i = s := by
   rcases Nat.lt_or_ge s i with h' | h'
   ·exact absurd hi (hr2 listed i s (Nat.le_refl _) h' hilt hl hsz)
   omega
  subst this
  exact wpOp_mono hnext h
def cnt (f : Nat -> Bool) : Nat -> Nat
 | 0 => 0
 | m + 1 => cnt f m + (if f m then 0 else 1)
theorem cnt_set {f g : Nat -> Bool} {i : Nat} (hf : f i = false) (hg : g i = true) (he : ∀ j, j ≠ i -> g j = f j) : ∀ m, cnt f m = cnt g m + (if i < m then 1 else 0)
 | 0 => by simp [cnt]
 | m + 1 => by
  simp only [cnt]
  rw [cnt_set hf hg he m]
  by_cases e : m = i
  ·subst e; simp [hf, hg]
  rw [he m e]
  by_cases h : i < m
  ·have : i < m + 1 := by omega
   simp [h, this]; omega
  have : ¬ i < m + 1 := by omega
  simp [h, this]
theorem cnt_congr {f g : Nat -> Bool} : ∀ m, (∀ j, j < m -> f j = g j) -> cnt f m = cnt g m
 | 0, _ => rfl
 | m + 1, h => by simp only [cnt]; rw [cnt_congr m (fun j hj => h j (by omega)), h m (by omega)]
theorem cnt_below (s : Nat) : ∀ m, cnt (fun j => decide (j < s)) m = m - s
 | 0 => by simp [cnt]
 | m + 1 => by
  simp only [cnt]
  rw [cnt_below s m]
  by_cases h : m < s
  ·simp [h]; omega
  simp [h]; omega
theorem cnt_pos {f : Nat -> Bool} : ∀ m, 0 < cnt f m -> ∃ i, i < m /\ f i = false /\ ∀ j, j < i -> f j = true
 | 0, h => by simp [cnt] at h
 | m + 1, h => by
  by_cases h0 : 0 < cnt f m
  ·obtain ⟨i, h1, h2⟩ := cnt_pos m h0
   exact ⟨i, by omega, h2⟩
  have hz : cnt f m = 0 := by omega
  simp only [cnt, hz] at h
  refine ⟨m, by omega, by cases hf : f m <;> simp_all, fun j hj => ?_⟩
  clear h
  induction m with
  | zero => omega
  | succ m ih =>
   simp only [cnt] at hz
   by_cases e : j = m
   ·subst e; cases hf : f j <;> simp_all
   exact ih (by simp only [cnt] at h0; omega) (by omega) (by omega)
theorem cIs_length {ops : Array Oper} : ∀ {is : List Nat} {l : List PI}, cIs P n ops is = some l -> l.length = is.length
 | [], l, h => by simp [cIs] at h; subst h; rfl
 | i :: is, l, h => by
  cases l with
  | nil => simp only [cIs] at h; split at h <;> simp at h
  | cons x l =>
   obtain ⟨i', r, he, _, h2⟩ := cIs_cons h
   simp only [List.cons.injEq] at he
   obtain ⟨rfl, rfl⟩ := he
   simp [cIs_length h2]
theorem cIs_append {ops : Array Oper} : ∀ {is js : List Nat} {l : List PI}, cIs P n ops (is ++ js) = some l -> cIs P n ops is = some (l.take is.length) /\ cIs P n ops js = some (l.drop is.length)
 | [], js, l, h => by simpa [cIs] using h
 | i :: is, js, l, h => by
  cases l with
  | nil => simp only [List.cons_append, cIs] at h; split at h <;> simp at h
  | cons x l =>
   rw [List.cons_append] at h
   obtain ⟨i', r, he, h1, h2⟩ := cIs_cons h
   simp only [List.cons.injEq] at he
   obtain ⟨rfl, rfl⟩ := he
   obtain ⟨h3, h4⟩ := cIs_append h2
   simp [cIs, h1, h3, h4]
theorem headB_all (ops : Array Oper) (H : List Nat) : headB ops H ops.size = true := by
 simp only [headB, List.all_eq_true, List.mem_range, Bool.or_eq_true, decide_eq_true_eq]
 exact fun t ht => .inl ht
theorem headOf_spec (ops : Array Oper) (H : List Nat) : ∀ d, d <= ops.size -> headB ops (H.filter (· < headOf ops H d)) (headOf ops H d) = true /\ headOf ops H d <= ops.size
 | 0, _ => ⟨headB_all ops _, Nat.le_refl _⟩
 | d + 1, h => by
  simp only [headOf]
  split
  ·rename_i h1; exact ⟨h1, by omega⟩
  exact headOf_spec ops H d (by omega)
theorem backB_spec {ops : Array Oper} (h : backB ops = true) {t : Nat} {o : Oper} (ho : ops[t]? = some o) {e : Edge} (he : e ∈ o.after) (hb : Region.binds .any e = true) : e.on < t := by
 have hlt : t < ops.size := (Array.getElem?_eq_some_iff.1 ho).1
 have h1 := List.all_eq_true.1 h t (List.mem_range.2 hlt)
 rw [ho] at h1
 have h2 := (Array.all_eq_true_iff_forall_mem.1 h1) e he
 simpa [hb] using h2
theorem behind_spec {ops : Array Oper} {X : Nat -> Prop} (hX : Closed ops X) {i j : Nat} (hi : i < ops.size) (h : behind (reach ops) i j = true) (hx : X i) : X j :=
 ancs_spec hX ops.toList [] (by simp) (by simp) (fun i hi => by simp at hi) i j hi h hx
theorem eval_agree {a b : Act} {x : Operand} (h : ∀ t, x = .tmp t -> a.tmps[t]? = b.tmps[t]?) : a.eval x = b.eval x := by
 cases x with
 | tmp t => simp [Act.eval, Array.getD_eq_getD_getElem?, h t rfl]
 | const v => rfl
 | global g => rfl
 | func f => rfl
theorem looks_op {ops : Array Oper} {o : Oper} {t : Nat} (h : Operand.tmp t ∈ o.op.operands) : t ∈ o.looksAt ops := by
 unfold Oper.looksAt
 rw [List.mem_append]
 left
 rw [List.mem_filterMap]
 exact ⟨.tmp t, by simpa using h, rfl⟩
theorem wanted_agree {ops : Array Oper} {o : Oper} {a b : Act} (h : ∀ t, t ∈ o.looksAt ops -> a.tmps[t]? = b.tmps[t]?) : Region.wanted o (yielded ops a.tmps) = Region.wanted o (yielded ops b.tmps) := by
 unfold Region.wanted
 cases hg : o.guard with
 | none => rfl
 | some p =>
  obtain ⟨j, c⟩ := p
  simp only
  have : yielded ops a.tmps j = yielded ops b.tmps j := by
   unfold yielded
   cases hd : (ops[j]?).bind (·.dst) with
   | none => simp
   | some d =>
    have := h d (by unfold Oper.looksAt; rw [List.mem_append]; right; simp [hg, hd])
    simp [this]
  rw [this]
theorem cIs_pos {ops : Array Oper} {l : List PI} {k i : Nat} {x : PI} (h : cIs P n ops (List.range' 0 k) = some l) (hi : i < k) (hx : l[i]? = some x) : ∃ o, ops[i]? = some o /\ cOp P o = some x.o /\ dstOk n o.dst = true /\ o.dst = x.d /\ ((o.guard = none /\ x.g = none) ∨ ∃ j b s, o.guard = some (j, b) /\ (ops[j]?).bind (·.dst) = some s /\ x.g = some (s, b)) := by
 have hl := cIs_length h
 rw [List.length_range'] at hl
 have hsplit : List.range' 0 k = List.range' 0 i ++ List.range' i (k - i) := by
  have := List.range'_append (s := 0) (m := i) (n := k - i) (step := 1)
  simp only [Nat.one_mul, Nat.zero_add] at this
  rw [this]; congr 1; omega
 rw [hsplit] at h
 obtain ⟨h1, h2⟩ := cIs_append h
 simp only [List.length_range'] at h2
 have hd : l.drop i = x :: l.drop (i + 1) := by
  have hlt : i < l.length := (List.getElem?_eq_some_iff.1 hx).1
  rw [List.drop_eq_getElem_cons hlt]
  congr 1
  exact (List.getElem?_eq_some_iff.1 hx).2
 have hr : List.range' i (k - i) = i :: List.range' (i + 1) (k - i - 1) := by
  obtain ⟨m, hm⟩ : ∃ m, k - i = m + 1 := ⟨k - i - 1, by omega⟩
  rw [hm, List.range'_succ]; rfl
 rw [hd, hr] at h2
 obtain ⟨i', is, he, hi', _⟩ := cIs_cons h2
 simp only [List.cons.injEq] at he
 obtain ⟨rfl, rfl⟩ := he
 obtain ⟨o, ho, hpo, hdok, hdst, hgd⟩ := cI_spec hi'
 exact ⟨o, ho, hpo, hdok, hdst, hgd⟩
theorem wp_transfer_any {o : Oper} {a a' : Act} {w : World} {R : Value -> SS -> World -> Prop} {Q : Exit -> Act -> World -> Prop} (he : execOp a.eval o = execOp a'.eval o) (hn : a.tmps.size = a'.tmps.size) (hd : dstOk a.tmps.size o.dst = true)
  (hdf : a.defers = [])
  (h : o.wp P a w (fun b w' => ∃ v S', b = a.put o.dst v /\ R v S' w') (fun _ _ _ => False)) : o.wp P a' w (fun b w' => ∃ v S', b = a'.put o.dst v /\ R v S' w') Q := by
 have put_eq : ∀ x v : Value, a.put o.dst x = a.put o.dst v -> a'.put o.dst x = a'.put o.dst v := by
  intro x v hx
  cases hdst : o.dst with
  | none => rfl
  | some d =>
   rw [hdst] at hx hd
   simp only [dstOk, decide_eq_true_eq] at hd
   have : x = v := by
    have := congrArg (fun b : Act => b.tmps[d]?) hx
    simpa [Act.put, hd] using this
   rw [this]
 unfold Oper.wp at *
 rw [<- he]
 generalize (execOp a.eval o).run P w = r at *
 cases r with
 | ok x w' =>
  cases x <;> simp only [Oper.upon] at h ⊢
  case value x => obtain ⟨v, S', h1, h2⟩ := h; exact ⟨v, S', put_eq _ _ h1, h2⟩
  case skip => obtain ⟨v, S', h1, h2⟩ := h; exact ⟨v, S', put_eq _ _ h1, h2⟩
  case defer d =>
   exfalso
   obtain ⟨v, S', h1, h2⟩ := h
   have := congrArg Act.defers h1
   cases hdst : o.dst <;> simp [Act.put, hdst, hdf] at this
  case enter f args =>
   refine h.mono ?_
   intro e w'' he
   cases e with
   | returned x => obtain ⟨v, S', h1, h2⟩ := he; exact ⟨v, S', put_eq _ _ h1, h2⟩
   | panicked c => exact he.elim
   | outgrown => obtain ⟨_, _, hf⟩ := he; exact hf.elim
  case row row args => exact h.mono fun v w'' ⟨v', S', h1, h2⟩ => ⟨v', S', put_eq _ _ h1, h2⟩
  all_goals exact h.elim
 | halt x w' => cases x <;> simp only [Oper.upon] at h ⊢
theorem Rep.permS {w : World} {S' : SS} (h : Rep w0 S w) (hp : S.Perm S') : Rep w0 S' w :=
 h.sub (fun p hx => hp.flatten.mem_iff.2 hx) ((hp.flatten.map _).nodup_iff.1 h.nodup)
def Over (base : SS) (S : SS) : Prop := ∀ q ∈ base.flatten, q ∈ S.flatten
theorem Over.cons {base : SS} {s : Seg} (h : Over base S) : Over base (s :: S) := fun q hq => by simp [h q hq]
theorem Over.refl (S : SS) : Over S S := fun _ h => h
theorem Over.hd (s : Seg) (S : SS) : Over [s] (s :: S) := fun q hq => by simp only [List.flatten_cons, List.flatten_nil, List.append_nil] at hq; simp [hq]
theorem wp_some {o : Oper} {a : Act} {w : World} {K : Act -> World -> Prop} (h : o.wp P a w K (fun _ _ _ => False)) : ∃ a' w', K a' w' := by
 unfold Oper.wp at h
 generalize (execOp a.eval o).run P w = r at h
 cases r with
 | ok x w' =>
  cases x <;> simp only [Oper.upon] at h
  case value x => exact ⟨_, _, h⟩
  case skip => exact ⟨_, _, h⟩
  case defer d => exact ⟨_, _, h⟩
  case enter f args =>
   obtain ⟨e, w2, fr, hr, _⟩ := h []
   cases e with
   | returned v => exact ⟨_, _, hr⟩
   | panicked c => exact hr.elim
   | outgrown => obtain ⟨_, _, hf⟩ := hr; exact hf.elim
  case row row args =>
   obtain ⟨v, w2, hr, _⟩ := h (Frame.enter P 0 #[] .normal) []
   exact ⟨_, _, hr⟩
  all_goals exact h.elim
 | halt x w' => cases x <;> simp only [Oper.upon] at h
theorem wp_anyQ {o : Oper} {a : Act} {w : World} {K : Act -> World -> Prop} {Q : Exit -> Act -> World -> Prop} (h : o.wp P a w K (fun _ _ _ => False)) : o.wp P a w K Q := by
 unfold Oper.wp at *
 generalize (execOp a.eval o).run P w = r at *
 cases r with
 | ok x w' =>
  cases x <;> simp only [Oper.upon] at h ⊢ <;> first | exact h | skip
  case enter f args =>
   refine h.mono ?_
   intro e w'' he
   cases e with
   | returned x => exact he
   | panicked c => exact he.elim
   | outgrown => obtain ⟨_, _, hf⟩ := he; exact hf.elim
 | halt x w' => cases x <;> simp only [Oper.upon] at h ⊢
variable {ops : Array Oper} {o : Oper}
def Twin (n : Nat) (ops : Array Oper) (o : Oper) (T T' : TT) : Prop := ∀ a', Sat n T' a' -> ∃ a, Sat n T a /\ (∀ x ∈ o.looksAt ops, a.tmps[x]? = a'.tmps[x]?)
theorem Twin.add {d : Option Nat} {v : Value} (hd : dstOk n d = true) (hi : ∀ x, d = some x -> x ∉ o.looksAt ops) : Twin n ops o (put d v T) T := by
 intro a ha
 refine ⟨a.put d v, ha.put hd v, fun x hx => ?_⟩
 cases d with
 | none => rfl
 | some d =>
  have : d ≠ x := fun e => hi d rfl (e ▸ hx)
  simp [Act.put, Array.getElem?_setIfInBounds_ne this]
theorem sat_drop {d : Option Nat} {v : Value} {a' : Act} (hd : dstOk n d = true) (ha : Sat n (put d v T) a') : ∃ a, Sat n T a /\ ∀ x, d ≠ some x -> a.tmps[x]? = a'.tmps[x]? := by
 cases d with
 | none => exact ⟨a', ha, fun _ _ => rfl⟩
 | some d =>
  simp only [dstOk, decide_eq_true_eq] at hd
  refine ⟨a'.put (some d) ((look T d).getD undef), ⟨by simp [Act.put, ha.size], ha.defers, fun i w hw => ?_⟩, fun x hx => ?_⟩
  ·by_cases e : d = i
   ·subst e
    rw [hw]
    simp [Act.put, ha.size, hd]
   simp only [Act.put, Array.getElem?_setIfInBounds_ne e]
   exact ha.get i w (by simp only [SL.put]; rw [look_cons_ne _ _ e]; exact hw)
  have : d ≠ x := fun e => hx (by rw [e])
  simp [Act.put, Array.getElem?_setIfInBounds_ne this]
theorem Twin.drop {d : Option Nat} {v : Value} (hd : dstOk n d = true) (hi : ∀ x, d = some x -> x ∉ o.looksAt ops) : Twin n ops o T (put d v T) := fun a' ha =>
 let ⟨a, h1, h2⟩ := sat_drop hd ha
 ⟨a, h1, fun x hx => h2 x fun e => hi x e hx⟩
def LE (T T' : TT) : Prop := ∀ i, look T i = look T' i
theorem LE.tr {T' : TT} (h : LE T T') : Twin n ops o T T' := fun a ha => ⟨a, ⟨ha.size, ha.defers, fun i v hv => ha.get i v (by rw [<- h i]; exact hv)⟩, fun _ _ => rfl⟩
theorem LE.put {T' : TT} (h : LE T T') (d : Option Nat) (v : Value) : LE (SL.put d v T) (SL.put d v T') := by
 intro i
 cases d with
 | none => exact h i
 | some d =>
  by_cases e : d = i
  ·subst e; simp only [SL.put, look_put_same]
  simp only [SL.put]; rw [look_cons_ne _ _ e, look_cons_ne _ _ e]; exact h i
theorem LE.swap {d e : Option Nat} {u v : Value} (hne : ∀ x, d = some x -> e ≠ some x) : LE (SL.put d u (SL.put e v T)) (SL.put e v (SL.put d u T)) := by
 intro i
 cases d with
 | none => rfl
 | some d =>
  cases e with
  | none => rfl
  | some e =>
   have hde : d ≠ e := fun h => hne d rfl (by rw [h])
   simp only [SL.put]
   by_cases h1 : d = i
   ·subst h1; rw [look_put_same, look_cons_ne _ _ (Ne.symm hde), look_put_same]
   by_cases h2 : e = i
   ·subst h2; rw [look_put_same, look_cons_ne _ _ hde, look_put_same]
   rw [look_cons_ne _ _ h1, look_cons_ne _ _ h2, look_cons_ne _ _ h2, look_cons_ne _ _ h1]
def WN (n : Nat) (ops : Array Oper) (o : Oper) (T : TT) (b : Bool) : Prop := ∀ a, Sat n T a -> Region.wanted o (yielded ops a.tmps) = b
def YI (P : Program) (w0 : World) (n : Nat) (o : Oper) (T : TT) (S : SS) (v : Value) : Prop := ∀ a w, Sat n T a -> Rep w0 S w -> (execOp a.eval o).run P w = .ok (.value v) w
def WI (P : Program) (w0 : World) (n : Nat) (o : Oper) (T : TT) (S : SS) (K : Value -> SS -> Prop) : Prop :=
 ∀ a w, Sat n T a -> Rep w0 S w -> o.wp P a w (fun a' w' => ∃ v S', a' = a.put o.dst v /\ Rep w0 S' w' /\ K v S') (fun _ _ _ => False)
structure Fit (n : Nat) (o : Oper) : Prop where
 ns : ∀ cs b, o.op ≠ .select cs b
 dst : dstOk n o.dst = true
theorem exec_ag {a a' : Act} (hf : Fit n o) (h : ∀ x ∈ o.looksAt ops, a.tmps[x]? = a'.tmps[x]?) : execOp a.eval o = execOp a'.eval o :=
 execOp_congr o hf.ns fun x hx => eval_agree fun t ht => h t (looks_op (ht ▸ hx))
theorem WN.tr {T' : TT} {b : Bool} (h : WN n ops o T b) (ht : Twin n ops o T T') : WN n ops o T' b := fun a' ha => by
 obtain ⟨a, hs, hag⟩ := ht a' ha
 rw [<- wanted_agree hag]
 exact h a hs
theorem YI.tr {T' : TT} {v : Value} (hf : Fit n o) (h : YI P w0 n o T S v) (ht : Twin n ops o T T') : YI P w0 n o T' S v := fun a' w ha hr => by
 obtain ⟨a, hs, hag⟩ := ht a' ha
 rw [<- exec_ag hf hag]
 exact h a w hs hr
theorem WI.tr {T' : TT} {K : Value -> SS -> Prop} (hf : Fit n o) (h : WI P w0 n o T S K) (ht : Twin n ops o T T') : WI P w0 n o T' S K := fun a' w ha hr => by
 obtain ⟨a, hs, hag⟩ := ht a' ha
 exact wp_transfer_any (R := fun v S' w' => Rep w0 S' w' /\ K v S') (exec_ag hf hag) (by rw [hs.size, ha.size]) (by rw [hs.size]; exact hf.dst) hs.defers (h a w hs hr)
theorem WI.mono {K K' : Value -> SS -> Prop} (h : WI P w0 n o T S K) (hk : ∀ v S' a w, Sat n (put o.dst v T) a -> Rep w0 S' w -> K v S' -> K' v S') (hf : Fit n o) : WI P w0 n o T S K' := fun a w hs hr =>
 Oper.wp_mono (fun a' w' ⟨v, S', e, hr', k⟩ => ⟨v, S', e, hr', hk v S' a' w' (e ▸ hs.put hf.dst v) hr' k⟩) (h a w hs hr)
theorem WI.perm {S' : SS} {K : Value -> SS -> Prop} (h : WI P w0 n o T S K) (hp : S'.Perm S) : WI P w0 n o T S' K := fun a w hs hr => h a w hs (hr.permS hp)
def Inh (w0 : World) (n : Nat) (T : TT) (S : SS) : Prop := ∃ a w, Sat n T a /\ Rep w0 S w
def CL (P : Program) (w0 : World) (n : Nat) (ops : Array Oper) (Ss : SS -> Prop) (k : Nat) (o : Oper) (T : TT) (v : Value) : Prop :=
 (WN n ops o T false /\ v = undef) ∨ (WN n ops o T true /\ ((k = 0 /\ ∀ S, Ss S -> YI P w0 n o T S v) ∨ (k = 1 /\ ∀ S, Ss S -> WI P w0 n o T S (fun v' S' => v' = v /\ S' = S))))
abbrev FZ := TypeId × List Value × (Nat -> Value)
def fresh (e : FZ) (r : Nat) : Seg := [(r, .cells e.2.1 e.1 e.2.1.length)]
def ptrOf (e : FZ) (r : Nat) : Value := e.2.2 r
def AL (P : Program) (w0 : World) (n : Nat) (o : Oper) (T : TT) (e : FZ) : Prop := ∀ S, WI P w0 n o T S (fun v S' => ∃ r, v = ptrOf e r /\ S' = fresh e r :: S)
def GO (P : Program) (w0 : World) (n : Nat) (ops : Array Oper) (Ss : SS -> Prop) (fr : Bool) (ez : Nat -> FZ) (K : TT -> SS -> Prop) (oc : Nat -> Oper) : List (Nat × Nat) -> TT -> SS -> Prop
 | [], T, S => K T S
 | x :: r, T, S =>
  (∃ v, CL P w0 n ops Ss x.2 (oc x.1) T v /\ GO P w0 n ops Ss fr ez K oc r (put (oc x.1).dst v T) S) ∨
  (x.2 = 2 /\ WN n ops (oc x.1) T true /\ ∀ F, (fr = false -> F = []) -> WI P w0 n (oc x.1) T (F ++ S) (fun v S' => ∃ S1, (F ++ S1).Perm S' /\ Ss S1 /\ GO P w0 n ops Ss fr ez K oc r (put (oc x.1).dst v T) S1)) ∨
  (x.2 = 3 /\ fr = true /\ WN n ops (oc x.1) T true /\ AL P w0 n (oc x.1) T (ez x.1) /\ ∀ r', Inh w0 n (put (oc x.1).dst (ptrOf (ez x.1) r') T) (fresh (ez x.1) r' :: S) -> GO P w0 n ops Ss fr ez K oc r (put (oc x.1).dst (ptrOf (ez x.1) r') T) (fresh (ez x.1) r' :: S))
section
variable {Ss : SS -> Prop} {fr : Bool} {ez : Nat -> FZ} {K : TT -> SS -> Prop} {oc : Nat -> Oper} {k : Nat}
theorem CL.tr {T' : TT} {v : Value} (hf : Fit n o) (h : CL P w0 n ops Ss k o T v) (ht : Twin n ops o T T') : CL P w0 n ops Ss k o T' v := by
 rcases h with ⟨h1, h2⟩ | ⟨h1, h2⟩
 ·exact .inl ⟨h1.tr ht, h2⟩
 refine .inr ⟨h1.tr ht, ?_⟩
 rcases h2 with ⟨h3, h4⟩ | ⟨h3, h4⟩
 ·exact .inl ⟨h3, fun S hS => (h4 S hS).tr hf ht⟩
 exact .inr ⟨h3, fun S hS => (h4 S hS).tr hf ht⟩
theorem AL.tr {T' : TT} {e : FZ} (hf : Fit n o) (h : AL P w0 n o T e) (ht : Twin n ops o T T') : AL P w0 n o T' e := fun S => (h S).tr hf ht
theorem Inh.le {T' : TT} (h : LE T T') (hi : Inh w0 n T' S) : Inh w0 n T S := let ⟨a, w, h1, h2⟩ := hi; ⟨a, w, ⟨h1.size, h1.defers, fun i v hv => h1.get i v (by rw [<- h i]; exact hv)⟩, h2⟩
theorem Inh.drop {d : Option Nat} {v : Value} (hd : dstOk n d = true) (hi : Inh w0 n (put d v T) S) : Inh w0 n T S := let ⟨_, w, h1, h2⟩ := hi; let ⟨a, h3, _⟩ := sat_drop hd h1; ⟨a, w, h3, h2⟩
theorem Rep.tailS {F S' : SS} {w : World} (h : Rep w0 S w) (hp : (F ++ S').Perm S) : Rep w0 S' w := by
 have h2 := h.permS hp.symm
 refine h2.sub (fun q hq => by simp [hq]) ?_
 have := h2.nodup
 rw [List.flatten_append, List.map_append, List.nodup_append] at this
 exact this.2.1
theorem GO.congr : ∀ {l : List (Nat × Nat)} {T T' : TT} {S : SS} (hK : ∀ T T' S, LE T T' -> K T S -> K T' S) (hf : ∀ x ∈ l, Fit n (oc x.1)), LE T T' -> GO P w0 n ops Ss fr ez K oc l T S -> GO P w0 n ops Ss fr ez K oc l T' S
 | [], _, _, _, hK, _, hl, h => hK _ _ _ hl h
 | x :: r, T, T', S, hK, hf, hl, h => by
  have hx := hf x (List.mem_cons_self ..)
  have hr := fun y hy => hf y (List.mem_cons_of_mem _ hy)
  rcases h with ⟨v, h1, h2⟩ | ⟨h1, h2, h3⟩ | ⟨h1, h2, h3, h4, h5⟩
  ·exact .inl ⟨v, h1.tr hx hl.tr, h2.congr hK hr (hl.put _ _)⟩
  ·exact .inr (.inl ⟨h1, h2.tr hl.tr, fun F hF => ((h3 F hF).tr (ops := ops) hx hl.tr).mono (fun v S' _ _ _ _ ⟨S1, p, s, g⟩ => ⟨S1, p, s, g.congr hK hr (hl.put _ _)⟩) hx⟩)
  exact .inr (.inr ⟨h1, h2, h3.tr hl.tr, h4.tr (ops := ops) hx hl.tr, fun r' hi => (h5 r' (hi.le (hl.put _ _))).congr hK hr (hl.put _ _)⟩)
theorem GO.perm : ∀ {l : List (Nat × Nat)} {T : TT} {S S' : SS} (hK : ∀ T S S', S.Perm S' -> K T S -> K T S'), S.Perm S' -> GO P w0 n ops Ss fr ez K oc l T S -> GO P w0 n ops Ss fr ez K oc l T S'
 | [], _, _, _, hK, hp, h => hK _ _ _ hp h
 | x :: r, T, S, S', hK, hp, h => by
  rcases h with ⟨v, h1, h2⟩ | ⟨h1, h2, h3⟩ | ⟨h1, h2, h3, h4, h5⟩
  ·exact .inl ⟨v, h1, h2.perm hK hp⟩
  ·exact .inr (.inl ⟨h1, h2, fun F hF => (h3 F hF).perm (hp.symm.append_left F)⟩)
  exact .inr (.inr ⟨h1, h2, h3, h4, fun r' ⟨a, w, hs, hr⟩ => (h5 r' ⟨a, w, hs, hr.permS (hp.symm.cons _)⟩).perm hK (hp.cons _)⟩)
structure Apart (ops : Array Oper) (p x : Oper) : Prop where
 a : ∀ d, p.dst = some d -> d ∉ x.looksAt ops
 b : ∀ d, p.dst = some d -> x.dst ≠ some d
 c : ∀ d, x.dst = some d -> d ∉ p.looksAt ops
def okPair (p x : Nat) : Bool := !(decide (2 <= p) && (Nat.beq x 1 || Nat.beq x 2))
theorem CL.same {v v' : Value} (h : CL P w0 n ops Ss 0 o T v) (h' : CL P w0 n ops Ss 0 o T v') (hi : Inh w0 n T S) (hs : Ss S) : v = v' := by
 obtain ⟨a, w, hsat, hr⟩ := hi
 rcases h with ⟨h1, h2⟩ | ⟨h1, h2⟩ <;> rcases h' with ⟨h3, h4⟩ | ⟨h3, h4⟩
 ·rw [h2, h4]
 ·have := h1 a hsat; rw [h3 a hsat] at this; cases this
 ·have := h1 a hsat; rw [h3 a hsat] at this; cases this
 rcases h2 with ⟨_, h2⟩ | ⟨h2, _⟩
 ·rcases h4 with ⟨_, h4⟩ | ⟨h4, _⟩
  ·have e1 := h2 S hs a w hsat hr
   rw [h4 S hs a w hsat hr] at e1
   simp only [Result.ok.injEq, Next.value.injEq, and_true] at e1
   exact e1.symm
  cases h4
 cases h2
variable (hKc : ∀ T T' S, LE T T' -> K T S -> K T' S) (hKp : ∀ T S S', S.Perm S' -> K T S -> K T S') (hmono : fr = true -> ∀ s S, Ss S -> Ss (s :: S))
include hKc in
theorem GO.det0 : ∀ {A B : List (Nat × Nat)} {x : Nat × Nat} {T : TT} {S : SS} (hx : x.2 = 0) (hf : ∀ y ∈ A ++ x :: B, Fit n (oc y.1)) (hap : ∀ p ∈ A, Apart ops (oc p.1) (oc x.1)) (hi : Inh w0 n T S) (hs : Ss S) (hm : fr = true -> ∀ s S, Ss S -> Ss (s :: S)),
  GO P w0 n ops Ss fr ez K oc (A ++ x :: B) T S -> ∃ v, CL P w0 n ops Ss 0 (oc x.1) T v /\ GO P w0 n ops Ss fr ez K oc (A ++ B) (put (oc x.1).dst v T) S
 | [], B, x, T, S, hx, hf, hap, hi, hs, hm, h => by
  rcases h with ⟨v, h1, h2⟩ | ⟨h1, _⟩ | ⟨h1, _⟩
  ·exact ⟨v, hx ▸ h1, h2⟩
  ·rw [hx] at h1; cases h1
  rw [hx] at h1; cases h1
 | p :: A, B, x, T, S, hx, hf, hap, hi, hs, hm, h => by
  have hfp := hf p (List.mem_cons_self ..)
  have hfr : ∀ y ∈ A ++ x :: B, Fit n (oc y.1) := fun y hy => hf y (List.mem_cons_of_mem _ hy)
  have hfAB : ∀ y ∈ A ++ B, Fit n (oc y.1) := fun y hy => hfr y (by rcases List.mem_append.1 hy with h | h <;> simp [h])
  have hfx := hfr x (by simp)
  have ha := hap p (List.mem_cons_self ..)
  have hap' : ∀ q ∈ A, Apart ops (oc q.1) (oc x.1) := fun q hq => hap q (List.mem_cons_of_mem _ hq)
  have hsw : ∀ {u v : Value} {T : TT}, LE (put (oc x.1).dst u (put (oc p.1).dst v T)) (put (oc p.1).dst v (put (oc x.1).dst u T)) := fun {u v T} => .swap fun d hd he => ha.b d he hd
  have tp : ∀ {v : Value}, Twin n ops (oc p.1) T (put (oc x.1).dst v T) := fun {v} => .drop hfx.dst ha.c
  have tx : ∀ {v : Value}, Twin n ops (oc x.1) (put (oc p.1).dst v T) T := fun {v} => .add hfp.dst ha.a
  rcases h with ⟨v, h1, h2⟩ | ⟨h1, h2, h3⟩ | ⟨h1, h2, h3, h4, h5⟩
  ·obtain ⟨a, w, hsa, hr⟩ := hi
   obtain ⟨u, g1, g2⟩ := GO.det0 hx hfr hap' ⟨_, w, hsa.put hfp.dst v, hr⟩ hs hm h2
   exact ⟨u, g1.tr hfx tx, .inl ⟨v, h1.tr hfp tp, g2.congr hKc hfAB hsw⟩⟩
  ·obtain ⟨a, w, hsa, hr⟩ := hi
   obtain ⟨a1, w1, v1, S1', rfl, hr1, S1, hp1, hs1, hg1⟩ := wp_some (h3 [] (fun _ => rfl) a w hsa hr)
   obtain ⟨u, g1, _⟩ := GO.det0 hx hfr hap' ⟨_, w1, hsa.put hfp.dst v1, hr1.permS hp1.symm⟩ hs1 hm hg1
   refine ⟨u, g1.tr hfx tx, .inr (.inl ⟨h1, h2.tr tp, fun F hF => ((h3 F hF).tr (ops := ops) hfp tp).mono ?_ hfp⟩)⟩
   rintro v S' a' w' hsa' hr' ⟨S2, hp2, hs2, hg2⟩
   have hi2 : Inh w0 n (put (oc p.1).dst v T) S2 := Inh.drop hfx.dst (Inh.le hsw ⟨a', w', hsa', Rep.tailS hr' hp2⟩)
   obtain ⟨u2, g3, g4⟩ := GO.det0 hx hfr hap' hi2 hs2 hm hg2
   have : u2 = u := (g3.tr hfx tx).same (g1.tr hfx tx) ⟨a, w, hsa, hr⟩ hs
   subst this
   exact ⟨S2, hp2, hs2, g4.congr hKc hfAB hsw⟩
  obtain ⟨a, w, hsa, hr⟩ := hi
  obtain ⟨a1, w1, v1, S1', rfl, hr1, r1, rfl, rfl⟩ := wp_some (h4 S a w hsa hr)
  have hi1 : Inh w0 n (put (oc p.1).dst (ptrOf (ez p.1) r1) T) (fresh (ez p.1) r1 :: S) := ⟨_, w1, hsa.put hfp.dst _, hr1⟩
  obtain ⟨u, g1, _⟩ := GO.det0 hx hfr hap' hi1 (hm h2 _ _ hs) hm (h5 r1 hi1)
  refine ⟨u, g1.tr hfx tx, .inr (.inr ⟨h1, h2, h3.tr tp, h4.tr (ops := ops) hfp tp, fun r' hi' => ?_⟩)⟩
  have hi2 : Inh w0 n (put (oc p.1).dst (ptrOf (ez p.1) r') T) (fresh (ez p.1) r' :: S) := Inh.drop hfx.dst (Inh.le hsw hi')
  obtain ⟨u2, g3, g4⟩ := GO.det0 hx hfr hap' hi2 (hm h2 _ _ hs) hm (h5 r' hi2)
  have : u2 = u := (g3.tr hfx tx).same (g1.tr hfx tx) ⟨a, w, hsa, hr⟩ hs
  subst this
  exact g4.congr hKc hfAB hsw
include hKc in
theorem GO.loud0 : ∀ {A B : List (Nat × Nat)} {x : Nat × Nat} {T : TT} {S : SS} {a : Act} {w : World} (hx : x.2 = 1 ∨ x.2 = 2) (hf : ∀ y ∈ A ++ x :: B, Fit n (oc y.1)) (hap : ∀ p ∈ A, Apart ops (oc p.1) (oc x.1)) (hlo : ∀ p ∈ A, p.2 < 2) (hsa : Sat n T a) (hr : Rep w0 S w) (hs : Ss S),
  GO P w0 n ops Ss fr ez K oc (A ++ x :: B) T S -> (WN n ops (oc x.1) T false /\ GO P w0 n ops Ss fr ez K oc (A ++ B) (put (oc x.1).dst undef T) S) ∨
   (WN n ops (oc x.1) T true /\ (oc x.1).wp P a w (fun a' w' => ∃ v S', a' = a.put (oc x.1).dst v /\ Rep w0 S' w' /\ Ss S' /\ GO P w0 n ops Ss fr ez K oc (A ++ B) (put (oc x.1).dst v T) S') (fun _ _ _ => False))
 | [], B, x, T, S, a, w, hx, hf, hap, hlo, hsa, hr, hs, h => by
  rcases h with ⟨v, ⟨h1, rfl⟩ | ⟨h1, h2⟩, h3⟩ | ⟨h1, h2, h3⟩ | ⟨h1, _⟩
  ·exact .inl ⟨h1, h3⟩
  ·rcases h2 with ⟨h2, _⟩ | ⟨h2, h4⟩
   ·rw [h2] at hx; rcases hx with h | h <;> cases h
   exact .inr ⟨h1, Oper.wp_mono (fun a' w' ⟨v', S', e, r, e2, e3⟩ => ⟨v, S', by rw [e, e2], r, e3 ▸ hs, e3 ▸ h3⟩) (h4 S hs a w hsa hr)⟩
  ·exact .inr ⟨h2, Oper.wp_mono (fun a' w' ⟨v', S', e, r, S1, p, s, g⟩ => ⟨v', S1, e, r.tailS p, s, g⟩) (h3 [] (fun _ => rfl) a w hsa hr)⟩
  rw [h1] at hx; rcases hx with h | h <;> cases h
 | p :: A, B, x, T, S, a, w, hx, hf, hap, hlo, hsa, hr, hs, h => by
  have hfp := hf p (List.mem_cons_self ..)
  have hfr : ∀ y ∈ A ++ x :: B, Fit n (oc y.1) := fun y hy => hf y (List.mem_cons_of_mem _ hy)
  have hfAB : ∀ y ∈ A ++ B, Fit n (oc y.1) := fun y hy => hfr y (by rcases List.mem_append.1 hy with h | h <;> simp [h])
  have hfx := hfr x (by simp)
  have ha := hap p (List.mem_cons_self ..)
  have hsw : ∀ {u v : Value} {T : TT}, LE (put (oc x.1).dst u (put (oc p.1).dst v T)) (put (oc p.1).dst v (put (oc x.1).dst u T)) := fun {u v T} => .swap fun d hd he => ha.b d he hd
  have tp : ∀ {v : Value}, Twin n ops (oc p.1) T (put (oc x.1).dst v T) := fun {v} => .drop hfx.dst ha.c
  have tx : ∀ {v : Value}, Twin n ops (oc x.1) (put (oc p.1).dst v T) T := fun {v} => .add hfp.dst ha.a
  have hpl := hlo p (List.mem_cons_self ..)
  rcases h with ⟨v, h1, h2⟩ | ⟨h1, _⟩ | ⟨h1, _⟩
  ·have hsp := hsa.put hfp.dst v
   have hag : ∀ y ∈ (oc x.1).looksAt ops, (a.put (oc p.1).dst v).tmps[y]? = a.tmps[y]? := fun y hy => by
    cases hd : (oc p.1).dst with
    | none => rfl
    | some d =>
     have : d ≠ y := fun e => ha.a d hd (e ▸ hy)
     simp [Act.put, Array.getElem?_setIfInBounds_ne this]
   rcases GO.loud0 hx hfr (fun q hq => hap q (List.mem_cons_of_mem _ hq)) (fun q hq => hlo q (List.mem_cons_of_mem _ hq)) hsp hr hs h2 with ⟨g1, g2⟩ | ⟨g1, g2⟩
   ·exact .inl ⟨g1.tr tx, .inl ⟨v, h1.tr hfp tp, g2.congr hKc hfAB hsw⟩⟩
   refine .inr ⟨g1.tr tx, ?_⟩
   refine Oper.wp_mono ?_ (wp_transfer_any (R := fun v' S' w' => Rep w0 S' w' /\ Ss S' /\ GO P w0 n ops Ss fr ez K oc (A ++ B) (put (oc x.1).dst v' (put (oc p.1).dst v T)) S') (exec_ag hfx hag) (by rw [hsp.size, hsa.size]) (by rw [hsp.size]; exact hfx.dst) hsp.defers g2)
   rintro a' w' ⟨v', S', rfl, r, s, g⟩
   exact ⟨v', S', rfl, r, s, .inl ⟨v, h1.tr hfp tp, g.congr hKc hfAB hsw⟩⟩
  ·rw [h1] at hpl; omega
  rw [h1] at hpl; omega
include hKc hKp in
theorem GO.free0 : ∀ {A B : List (Nat × Nat)} {x : Nat × Nat} {T : TT} {S : SS} (hx : x.2 = 3) (hf : ∀ y ∈ A ++ x :: B, Fit n (oc y.1)) (hap : ∀ p ∈ A, Apart ops (oc p.1) (oc x.1)) (hi : Inh w0 n T S) (hs : Ss S) (hm : fr = true -> ∀ s S, Ss S -> Ss (s :: S)),
  GO P w0 n ops Ss fr ez K oc (A ++ x :: B) T S -> (WN n ops (oc x.1) T false /\ GO P w0 n ops Ss fr ez K oc (A ++ B) (put (oc x.1).dst undef T) S) ∨
   (fr = true /\ WN n ops (oc x.1) T true /\ AL P w0 n (oc x.1) T (ez x.1) /\ ∀ r', Inh w0 n (put (oc x.1).dst (ptrOf (ez x.1) r') T) (fresh (ez x.1) r' :: S) -> GO P w0 n ops Ss fr ez K oc (A ++ B) (put (oc x.1).dst (ptrOf (ez x.1) r') T) (fresh (ez x.1) r' :: S))
 | [], B, x, T, S, hx, hf, hap, hi, hs, hm, h => by
  rcases h with ⟨v, ⟨h1, rfl⟩ | ⟨h1, h2⟩, h3⟩ | ⟨h1, _⟩ | ⟨h1, h2, h3, h4, h5⟩
  ·exact .inl ⟨h1, h3⟩
  ·rw [hx] at h2; rcases h2 with ⟨h2, _⟩ | ⟨h2, _⟩ <;> cases h2
  ·rw [hx] at h1; cases h1
  exact .inr ⟨h2, h3, h4, h5⟩
 | p :: A, B, x, T, S, hx, hf, hap, hi, hs, hm, h => by
  have hfp := hf p (List.mem_cons_self ..)
  have hfr : ∀ y ∈ A ++ x :: B, Fit n (oc y.1) := fun y hy => hf y (List.mem_cons_of_mem _ hy)
  have hfAB : ∀ y ∈ A ++ B, Fit n (oc y.1) := fun y hy => hfr y (by rcases List.mem_append.1 hy with h | h <;> simp [h])
  have hfx := hfr x (by simp)
  have ha := hap p (List.mem_cons_self ..)
  have hap' : ∀ q ∈ A, Apart ops (oc q.1) (oc x.1) := fun q hq => hap q (List.mem_cons_of_mem _ hq)
  have hsw : ∀ {u v : Value} {T : TT}, LE (put (oc x.1).dst u (put (oc p.1).dst v T)) (put (oc p.1).dst v (put (oc x.1).dst u T)) := fun {u v T} => .swap fun d hd he => ha.b d he hd
  have hsw' : ∀ {u v : Value} {T : TT}, LE (put (oc p.1).dst v (put (oc x.1).dst u T)) (put (oc x.1).dst u (put (oc p.1).dst v T)) := fun {u v T} i => (hsw i).symm
  have tp : ∀ {v : Value}, Twin n ops (oc p.1) T (put (oc x.1).dst v T) := fun {v} => .drop hfx.dst ha.c
  have tx : ∀ {v : Value}, Twin n ops (oc x.1) (put (oc p.1).dst v T) T := fun {v} => .add hfp.dst ha.a
  have noff : ∀ {T' : TT} {S' : SS}, Inh w0 n T' S' -> WN n ops (oc x.1) T' true -> WN n ops (oc x.1) T' false -> False := fun ⟨a, w, h1, _⟩ g1 g2 => by have := g1 a h1; rw [g2 a h1] at this; cases this
  obtain ⟨a, w, hsa, hr⟩ := hi
  rcases h with ⟨v, h1, h2⟩ | ⟨h1, h2, h3⟩ | ⟨h1, h2, h3, h4, h5⟩
  ·rcases GO.free0 hx hfr hap' ⟨_, w, hsa.put hfp.dst v, hr⟩ hs hm h2 with ⟨g1, g2⟩ | ⟨g0, g1, g2, g3⟩
   ·exact .inl ⟨g1.tr tx, .inl ⟨v, h1.tr hfp tp, g2.congr hKc hfAB hsw⟩⟩
   refine .inr ⟨g0, g1.tr tx, g2.tr (ops := ops) hfx tx, fun r' ⟨a', w', h6, h7⟩ => .inl ⟨v, h1.tr hfp tp, (g3 r' ?_).congr hKc hfAB hsw⟩⟩
   exact Inh.le hsw ⟨_, w', h6.put hfp.dst v, h7⟩
  ·obtain ⟨a1, w1, v1, S1', rfl, hr1, S1, hp1, hs1, hg1⟩ := wp_some (h3 [] (fun _ => rfl) a w hsa hr)
   rcases GO.free0 hx hfr hap' ⟨_, w1, hsa.put hfp.dst v1, hr1.permS hp1.symm⟩ hs1 hm hg1 with ⟨g1, _⟩ | ⟨g0, g1, g2, _⟩
   ·refine .inl ⟨g1.tr tx, .inr (.inl ⟨h1, h2.tr tp, fun F hF => ((h3 F hF).tr (ops := ops) hfp tp).mono ?_ hfp⟩)⟩
    rintro v S' a' w' hsa' hr' ⟨S2, hp2, hs2, hg2⟩
    have hi2 : Inh w0 n (put (oc p.1).dst v T) S2 := Inh.drop hfx.dst (Inh.le hsw ⟨a', w', hsa', Rep.tailS hr' hp2⟩)
    rcases GO.free0 hx hfr hap' hi2 hs2 hm hg2 with ⟨_, k2⟩ | ⟨_, k1, _⟩
    ·exact ⟨S2, hp2, hs2, k2.congr hKc hfAB hsw⟩
    exact (noff ⟨a, w, hsa, hr⟩ (k1.tr tx) (g1.tr tx)).elim
   refine .inr ⟨g0, g1.tr tx, g2.tr (ops := ops) hfx tx, fun r' _ => .inr (.inl ⟨h1, h2.tr tp, fun F hF => ?_⟩)⟩
   have hW := h3 (F ++ [fresh (ez x.1) r']) (fun e => by rw [g0] at e; cases e)
   rw [List.append_assoc] at hW
   refine (WI.tr (ops := ops) hfp hW tp).mono ?_ hfp
   rintro v S' a' w' hsa' hr' ⟨S2, hp2, hs2, hg2⟩
   rw [List.append_assoc] at hp2
   refine ⟨fresh (ez x.1) r' :: S2, hp2, hm g0 _ _ hs2, ?_⟩
   have hr2 := Rep.tailS hr' hp2
   have hi2 : Inh w0 n (put (oc p.1).dst v T) S2 := Inh.drop hfx.dst (Inh.le hsw ⟨a', w', hsa', Rep.tailS (F := [fresh (ez x.1) r']) hr2 (List.Perm.refl _)⟩)
   rcases GO.free0 hx hfr hap' hi2 hs2 hm hg2 with ⟨k1, _⟩ | ⟨_, _, _, k3⟩
   ·exact (noff ⟨a, w, hsa, hr⟩ (g1.tr tx) (k1.tr tx)).elim
   exact (k3 r' (Inh.le hsw ⟨a', w', hsa', hr2⟩)).congr hKc hfAB hsw
  obtain ⟨a1, w1, v1, S1', rfl, hr1, r1, rfl, rfl⟩ := wp_some (h4 S a w hsa hr)
  have hi1 : Inh w0 n (put (oc p.1).dst (ptrOf (ez p.1) r1) T) (fresh (ez p.1) r1 :: S) := ⟨_, w1, hsa.put hfp.dst _, hr1⟩
  rcases GO.free0 hx hfr hap' hi1 (hm h2 _ _ hs) hm (h5 r1 hi1) with ⟨g1, _⟩ | ⟨g0, g1, g2, _⟩
  ·refine .inl ⟨g1.tr tx, .inr (.inr ⟨h1, h2, h3.tr tp, h4.tr (ops := ops) hfp tp, fun r' hi' => ?_⟩)⟩
   have hi2 : Inh w0 n (put (oc p.1).dst (ptrOf (ez p.1) r') T) (fresh (ez p.1) r' :: S) := Inh.drop hfx.dst (Inh.le hsw hi')
   rcases GO.free0 hx hfr hap' hi2 (hm h2 _ _ hs) hm (h5 r' hi2) with ⟨_, k2⟩ | ⟨_, k1, _⟩
   ·exact k2.congr hKc hfAB hsw
   exact (noff ⟨a, w, hsa, hr⟩ (k1.tr tx) (g1.tr tx)).elim
  refine .inr ⟨g0, g1.tr tx, g2.tr (ops := ops) hfx tx, fun r' _ => .inr (.inr ⟨h1, h2, h3.tr tp, h4.tr (ops := ops) hfp tp, fun q hi' => ?_⟩)⟩
  obtain ⟨a', w', h6, h7⟩ := hi'
  have hi2 : Inh w0 n (put (oc p.1).dst (ptrOf (ez p.1) q) T) (fresh (ez p.1) q :: S) := Inh.drop hfx.dst (Inh.le hsw ⟨a', w', h6, Rep.tailS (F := [fresh (ez x.1) r']) h7 (List.Perm.swap ..)⟩)
  rcases GO.free0 hx hfr hap' hi2 (hm h2 _ _ hs) hm (h5 q hi2) with ⟨k1, _⟩ | ⟨_, _, _, k3⟩
  ·exact (noff ⟨a, w, hsa, hr⟩ (g1.tr tx) (k1.tr tx)).elim
  exact ((k3 r' (Inh.le hsw ⟨a', w', h6, h7.permS (List.Perm.swap ..)⟩)).congr hKc hfAB hsw).perm hKp (List.Perm.swap ..)
end
def offG (T : TT) (g : Option (Nat × Bool)) : Prop := ∃ s b u, g = some (s, b) /\ look T s = some u /\ (boolOf u == some b) = false
def ezOf (c : PI) : FZ := match c.o with | .al E z => (E, z, fun r => .pointer (some ⟨r, 0, none⟩)) | _ => (0, [], fun _ => undef)
def GL (P : Program) (w0 : World) (n : Nat) (ez : PI -> FZ) (Ss : SS -> Prop) (fr : Bool) (K : TT -> SS -> Prop) : List (Nat × PI) -> TT -> SS -> Prop
 | [], T, S => K T S
 | x :: r, T, S =>
  (offG T x.2.g /\ GL P w0 n ez Ss fr K r (put x.2.d undef T) S) ∨ (gOk T x.2.g /\ (
   (x.1 = 0 /\ ∃ v, (∀ S', Ss S' -> Yields P w0 n x.2.o T S' v) /\ GL P w0 n ez Ss fr K r (put x.2.d v T) S) ∨
   (x.1 = 1 /\ ∃ v, (∀ S', Ss S' -> OW P w0 n x.2.o T S' (fun v' S'' => v' = v /\ S'' = S')) /\ GL P w0 n ez Ss fr K r (put x.2.d v T) S) ∨
   (x.1 = 2 /\ ∀ F, (fr = false -> F = []) -> OW P w0 n x.2.o T (F ++ S) (fun v S' => ∃ S1, (F ++ S1).Perm S' /\ Ss S1 /\ GL P w0 n ez Ss fr K r (put x.2.d v T) S1)) ∨
   (x.1 = 3 /\ fr = true /\ (∀ S', OW P w0 n x.2.o T S' (fun v S'' => ∃ r', v = ptrOf (ez x.2) r' /\ S'' = fresh (ez x.2) r' :: S')) /\ ∀ r', GL P w0 n ez Ss fr K r (put x.2.d (ptrOf (ez x.2) r') T) (fresh (ez x.2) r' :: S))))
section
variable {ez : PI -> FZ} {Ss : SS -> Prop} {fr : Bool} {K : TT -> SS -> Prop} {oc : Nat -> Oper} {pc : Nat -> PI}
theorem GL.go : ∀ {pl : List (Nat × Nat)} {T : TT} {S : SS} (hf : ∀ x ∈ pl, cOp P (oc x.1) = some (pc x.1).o /\ (oc x.1).dst = (pc x.1).d /\ (((oc x.1).guard = none /\ (pc x.1).g = none) ∨ ∃ j b s, (oc x.1).guard = some (j, b) /\ (ops[j]?).bind (·.dst) = some s /\ (pc x.1).g = some (s, b))),
  GL P w0 n ez Ss fr K (pl.map fun x => (x.2, pc x.1)) T S -> GO P w0 n ops Ss fr (fun i => ez (pc i)) K oc pl T S
 | [], _, _, _, h => h
 | x :: r, T, S, hf, h => by
  obtain ⟨hpo, hd, hg⟩ := hf x (List.mem_cons_self ..)
  have hr := fun y hy => hf y (List.mem_cons_of_mem _ hy)
  have won : gOk T (pc x.1).g -> WN n ops (oc x.1) T true := by
   intro hk a ha
   rcases hg with ⟨h1, _⟩ | ⟨j, b, s, h1, h2, h3⟩
   ·simp [Region.wanted, h1]
   rw [h3] at hk
   simp [Region.wanted, h1, ha.yielded h2 hk]
  have woff : offG T (pc x.1).g -> WN n ops (oc x.1) T false := by
   rintro ⟨s, b, u, h0, hl, hc⟩ a ha
   rcases hg with ⟨_, h1⟩ | ⟨j, b', s', h1, h2, h3⟩
   ·rw [h1] at h0; cases h0
   rw [h3] at h0
   simp only [Option.some.injEq, Prod.mk.injEq] at h0
   obtain ⟨rfl, rfl⟩ := h0
   simp only [Region.wanted, h1, ha.yieldedV h2 hl]; exact hc
  have wi : ∀ {S' : SS} {K' : Value -> SS -> Prop}, OW P w0 n (pc x.1).o T S' K' -> WI P w0 n (oc x.1) T S' K' := fun h a w ha hw => h (oc x.1) a w _ hpo ha hw
  simp only [List.map_cons, GL] at h
  rw [<- hd] at h
  rcases h with ⟨h1, h2⟩ | ⟨h1, ⟨h2, v, h3, h4⟩ | ⟨h2, v, h3, h4⟩ | ⟨h2, h3⟩ | ⟨h2, h3, h4, h5⟩⟩
  ·exact .inl ⟨undef, .inl ⟨woff h1, rfl⟩, GL.go hr h2⟩
  ·exact .inl ⟨v, .inr ⟨won h1, .inl ⟨h2, fun S' hS a w ha hw => h3 S' hS (oc x.1) a w hpo ha hw⟩⟩, GL.go hr h4⟩
  ·exact .inl ⟨v, .inr ⟨won h1, .inr ⟨h2, fun S' hS => wi (h3 S' hS)⟩⟩, GL.go hr h4⟩
  ·exact .inr (.inl ⟨h2, won h1, fun F hF a w ha hw => Oper.wp_mono (fun a' w' ⟨v, S', e, r', S1, p, s, g⟩ => ⟨v, S', e, r', S1, p, s, GL.go hr g⟩) (wi (h3 F hF) a w ha hw)⟩)
  exact .inr (.inr ⟨h2, h3, won h1, fun S' => wi (h4 S'), fun r' _ => GL.go hr (h5 r')⟩)
theorem OL.congrT {l : List PI} {T' : TT} {K : TT -> SS -> Prop} (hl : LE T T') (h : OL P w0 n l T S K) : OL P w0 n l T' S K := fun ops is a w Q hc hs hr hq => h ops is a w Q hc ⟨hs.size, hs.defers, fun i v hv => hs.get i v (by rw [<- hl i]; exact hv)⟩ hr hq
theorem OL.permS {l : List PI} {S' : SS} {K : TT -> SS -> Prop} (hp : S.Perm S') (h : OL P w0 n l T S K) : OL P w0 n l T S' K := fun ops is a w Q hc hs hr hq => h ops is a w Q hc hs (hr.permS hp.symm) hq
structure Plan (ops : Array Oper) (k : Nat) (pl : List (Nat × Nat)) : Prop where
 all : ∀ i, i < k -> ∃ kd, (i, kd) ∈ pl
 lt : ∀ x ∈ pl, x.1 < k /\ x.2 <= 3
 ord : pl.Pairwise fun x y => x.1 ≠ y.1 /\ behind (reach ops) x.1 y.1 = false /\ (okPair x.2 y.2 = true ∨ behind (reach ops) y.1 x.1 = true)
def pi0 : PI := ⟨none, none, .mov (.v undef)⟩
set_option maxHeartbeats 4000000 in
theorem region_plan {id : Nat} {l : List PI} {pl : List (Nat × Nat)} {Q : Exit -> TT -> SS -> Prop} {a : Act} {w : World} (hm : P.follows .mixedOrders = true) (hs : Sat n T a) (hr : Rep w0 S w)
  (hcond : (apartB ops && backB ops && Region.noSelect ops && hoistB ops ((hoists ops).filter (· < quietAt ops)) (Array.replicate ops.size false)) = true) (hcis : cIs P n ops (List.range ops.size) = some l)
  (hp : Plan ops (quietAt ops) pl) (hS : Ss S) (hmo : fr = true -> ∀ s S, Ss S -> Ss (s :: S))
  (h : GL P w0 n ez Ss fr (fun T' S' => OL P w0 n (l.drop (quietAt ops)) T' S' (Q .normal)) (pl.map fun x => (x.2, l.getD x.1 pi0)) T S) :
  (Code.region id ops true).wp P (fun e a' w' => ∃ T' S', Sat n T' a' /\ Rep w0 S' w' /\ Q e T' S') a w := by
 simp only [Bool.and_eq_true] at hcond
 obtain ⟨⟨⟨hap, hback⟩, hsel⟩, hhoist⟩ := hcond
 obtain ⟨hhead, hkle⟩ := headOf_spec ops (hoists ops) ops.size (Nat.le_refl _)
 change headB ops ((hoists ops).filter (· < quietAt ops)) (quietAt ops) = true at hhead
 change quietAt ops <= ops.size at hkle
 generalize hk : quietAt ops = k at *
 generalize hH : (hoists ops).filter (· < k) = Hs at *
 have hHk : ∀ i ∈ Hs, i < k := fun i hi => by rw [<- hH] at hi; simpa using (List.mem_filter.1 hi).2
 have hsplit : List.range ops.size = List.range' 0 k ++ List.range' k (ops.size - k) := by
  rw [List.range_eq_range']
  have := List.range'_append (s := 0) (m := k) (n := ops.size - k) (step := 1)
  simp only [Nat.one_mul, Nat.zero_add] at this
  rw [this]
  congr 1
  omega
 rw [hsplit] at hcis
 obtain ⟨hc1, hc2⟩ := cIs_append hcis
 simp only [List.length_range'] at hc1 hc2
 have hlen : (l.take k).length = k := by simpa using cIs_length hc1
 let oc : Nat -> Oper := fun i => (ops[i]?).getD { dst := none, op := .move (.const undef), type := 0, pos := default, after := #[], guard := none }
 have hoc : ∀ {i : Nat} {o : Oper}, ops[i]? = some o -> oc i = o := fun {i o} h => by simp only [oc]; rw [h]; rfl
 have hfit : ∀ i, i < k -> ops[i]? = some (oc i) /\ cOp P (oc i) = some (l.getD i pi0).o /\ dstOk n (oc i).dst = true /\ (oc i).dst = (l.getD i pi0).d /\ (((oc i).guard = none /\ (l.getD i pi0).g = none) ∨ ∃ j b s, (oc i).guard = some (j, b) /\ (ops[j]?).bind (·.dst) = some s /\ (l.getD i pi0).g = some (s, b)) := by
  intro i hi
  have hil : i < (l.take k).length := by omega
  have hx : (l.take k)[i]? = some (l.getD i pi0) := by
   have h2 : i < l.length := by rw [List.length_take] at hil; omega
   rw [List.getElem?_take_of_lt hi, List.getD_eq_getElem?_getD, List.getElem?_eq_getElem h2]; rfl
  obtain ⟨o, h1, h2, h3, h4, h5⟩ := cIs_pos hc1 hi hx
  rw [hoc h1]
  exact ⟨h1, h2, h3, h4, h5⟩
 have hF : ∀ i, i < k -> Fit n (oc i) := fun i hi => ⟨fun cs b => Region.noSelect_spec hsel i _ cs b (hfit i hi).1, (hfit i hi).2.2.1⟩
 have hgo : GO P w0 n ops Ss fr (fun i => ez (l.getD i pi0)) (fun T' S' => OL P w0 n (l.drop k) T' S' (Q .normal)) oc pl T S :=
  GL.go (fun x hx => let ⟨_, h2, _, h4, h5⟩ := hfit x.1 (hp.lt x hx).1; ⟨h2, h4, h5⟩) h
 generalize hez : (fun i => ez (l.getD i pi0)) = ez at *
 generalize hKK : (fun T' S' => OL P w0 n (l.drop k) T' S' (Q .normal)) = KK at *
 have hKc : ∀ T T' S, LE T T' -> KK T S -> KK T' S := by rw [<- hKK]; exact fun _ _ _ hl h => OL.congrT hl h
 have hKp : ∀ T S S', S.Perm S' -> KK T S -> KK T S' := by rw [<- hKK]; exact fun _ _ _ hl h => OL.permS hl h
 have hpair : ∀ i j, i < j -> j < ops.size -> ∀ oi oj, ops[i]? = some oi -> ops[j]? = some oj -> behind (reach ops) j i = true ∨ oi.apart ops oj = true := by
  intro i j hij hj oi oj hoi hoj
  have := List.all_eq_true.1 (List.all_eq_true.1 hap j (List.mem_range.2 hj)) i (List.mem_range.2 hij)
  simpa [hoi, hoj] using this
 have htail : ∀ t i, k <= t -> t < ops.size -> i < t -> i ∉ Hs -> behind (reach ops) t i = true := by
  intro t i hkt ht hi hnH
  have := List.all_eq_true.1 hhead t (List.mem_range.2 ht)
  simp only [Bool.or_eq_true, decide_eq_true_eq] at this
  rcases this with h | h
  ·omega
  have := List.all_eq_true.1 h i (List.mem_range.2 hi)
  simpa [hnH] using this
 have hreadyX : ∀ (listed : Array Bool) i, (∀ j o, ops[j]? = some o -> listed.getD j true = true -> ∀ e ∈ o.after, Region.binds .any e = true -> listed.getD e.on true = true) -> i ∈ Region.ready .any ops listed ->
   ∀ j, j < ops.size -> behind (reach ops) i j = true -> j ≠ i -> listed.getD j true = true := by
  intro listed i hcl hi j hj hb hne
  obtain ⟨hun, o, ho, hall⟩ := mem_ready.1 hi
  have hX : Closed ops (fun x => listed.getD x true = true ∨ x = i) := by
   rintro x ox hox (hx | rfl) e he hbd
   ·exact .inl (hcl x ox hox hx e he hbd)
   obtain rfl : o = ox := by rw [ho] at hox; exact Option.some.inj hox
   have := hall e he hbd
   left
   cases hlt : listed[e.on]? with
   | none => simp [hlt] at this
   | some b => simpa [hlt] using this
  rcases behind_spec hX (Array.getElem?_eq_some_iff.1 ho).1 hb (.inr rfl) with h | h
  ·exact h
  exact absurd h hne
 have hgetset : ∀ (listed : Array Bool) i, listed.size = ops.size -> i < ops.size -> (listed.setIfInBounds i true).getD i true = true := by
  intro listed i h1 h2
  have : i < listed.size := by omega
  simp [this]
 have hclset : ∀ (listed : Array Bool) i o, listed.size = ops.size -> (∀ j o, ops[j]? = some o -> listed.getD j true = true -> ∀ e ∈ o.after, Region.binds .any e = true -> listed.getD e.on true = true) -> i ∈ Region.ready .any ops listed -> ops[i]? = some o ->
   (∀ j o, ops[j]? = some o -> (listed.setIfInBounds i true).getD j true = true -> ∀ e ∈ o.after, Region.binds .any e = true -> (listed.setIfInBounds i true).getD e.on true = true) := by
  intro listed i o hsz hcl hi ho j oj hoj hj e he hbd
  have hilt : i < ops.size := (Array.getElem?_eq_some_iff.1 ho).1
  obtain ⟨hun, o', ho', hpre⟩ := mem_ready.1 hi
  obtain rfl : o = o' := by rw [ho] at ho'; exact Option.some.inj ho'
  have hgj : ∀ j, j ≠ i -> (listed.setIfInBounds i true).getD j true = listed.getD j true := fun j hj => getD_set_ne true (Ne.symm hj)
  by_cases e1 : e.on = i
  ·rw [e1]; exact hgetset listed i hsz hilt
  rw [hgj _ e1]
  by_cases e2 : j = i
  ·subst e2
   obtain rfl : o = oj := by rw [ho] at hoj; exact Option.some.inj hoj
   have := hpre e he hbd
   cases hlt : listed[e.on]? with
   | none => simp [hlt] at this
   | some bb => simpa [hlt] using this
  rw [hgj _ e2] at hj
  exact hcl j oj hoj hj e he hbd
 have hcntset : ∀ (listed : Array Bool) i, listed.size = ops.size -> i ∈ Region.ready .any ops listed -> i < ops.size -> cnt (fun j => listed.getD j true) ops.size = cnt (fun j => (listed.setIfInBounds i true).getD j true) ops.size + 1 := by
  intro listed i hsz hi hilt
  have := cnt_set (f := fun j => listed.getD j true) (g := fun j => (listed.setIfInBounds i true).getD j true) (i := i) (mem_ready.1 hi).1 (hgetset listed i hsz hilt) (fun j hj => getD_set_ne true (Ne.symm hj)) ops.size
  simpa [hilt] using this
 -- what is left of the plan
 let Inv : Array Bool -> Act -> World -> Prop := fun listed b w => ∃ T S, Sat n T b /\ Rep w0 S w /\ Ss S /\ GO P w0 n ops Ss fr ez KK oc (pl.filter fun x => !listed.getD x.1 true) T S
 have step : ∀ (listed : Array Bool) (b : Act) (w : World) (i : Nat), listed.size = ops.size -> (∀ j o, ops[j]? = some o -> listed.getD j true = true -> ∀ e ∈ o.after, Region.binds .any e = true -> listed.getD e.on true = true) -> i ∈ Region.ready .any ops listed -> i < k -> Inv listed b w ->
   (Region.wanted (oc i) (yielded ops b.tmps) = false /\ Inv (listed.setIfInBounds i true) (b.put (oc i).dst undef) w) ∨
   (Region.wanted (oc i) (yielded ops b.tmps) = true /\ (oc i).wp P b w (fun b' w' => Inv (listed.setIfInBounds i true) b' w') (fun _ _ _ => False)) := by
  rintro listed b w i hsz hcl hi hik ⟨T, S, hsa, hr, hss, hg⟩
  obtain ⟨hun, _⟩ := mem_ready.1 hi
  obtain ⟨kd, hmem⟩ := hp.all i hik
  obtain ⟨A0, B0, hpl⟩ := List.append_of_mem hmem
  have hord := hp.ord
  rw [hpl, List.pairwise_append] at hord
  obtain ⟨_, hordB, hordA⟩ := hord
  rw [List.pairwise_cons] at hordB
  have hgj : ∀ j, j ≠ i -> (listed.setIfInBounds i true).getD j true = listed.getD j true := fun j hj => getD_set_ne true (Ne.symm hj)
  have hrem : (pl.filter fun x => !listed.getD x.1 true) = (A0.filter fun x => !listed.getD x.1 true) ++ (i, kd) :: (B0.filter fun x => !listed.getD x.1 true) := by
   rw [hpl, List.filter_append, List.filter_cons, if_pos (by simp [hun])]
  have hA : (A0.filter fun x => !(listed.setIfInBounds i true).getD x.1 true) = A0.filter fun x => !listed.getD x.1 true :=
   List.filter_congr fun x hx => by rw [hgj _ (hordA x hx (i, kd) (List.mem_cons_self ..)).1]
  have hB : (B0.filter fun x => !(listed.setIfInBounds i true).getD x.1 true) = B0.filter fun x => !listed.getD x.1 true :=
   List.filter_congr fun x hx => by rw [hgj _ (Ne.symm (hordB.1 x hx).1)]
  have hrem' : (pl.filter fun x => !(listed.setIfInBounds i true).getD x.1 true) = (A0.filter fun x => !listed.getD x.1 true) ++ (B0.filter fun x => !listed.getD x.1 true) := by
   rw [hpl, List.filter_append, List.filter_cons, if_neg (by rw [hgetset listed i hsz (by omega)]; simp), hA, hB]
  rw [hrem] at hg
  show (_ /\ ∃ T S, _ /\ _ /\ _ /\ GO _ _ _ _ _ _ _ _ _ (pl.filter fun x => !(listed.setIfInBounds i true).getD x.1 true) T S) ∨ (_ /\ Oper.wp _ _ _ _ (fun b' w' => ∃ T S, _ /\ _ /\ _ /\ GO _ _ _ _ _ _ _ _ _ (pl.filter fun x => !(listed.setIfInBounds i true).getD x.1 true) T S) _)
  rw [hrem']
  generalize hAe : (A0.filter fun x => !listed.getD x.1 true) = A at *
  generalize hBe : (B0.filter fun x => !listed.getD x.1 true) = B at *
  have hAm : ∀ p ∈ A, p ∈ A0 /\ listed.getD p.1 true = false := fun p hp => by rw [<- hAe] at hp; simpa using List.mem_filter.1 hp
  have hBm : ∀ p ∈ B, p ∈ B0 := fun p hp => by rw [<- hBe] at hp; exact (List.mem_filter.1 hp).1
  have hfA : ∀ y ∈ A ++ (i, kd) :: B, Fit n (oc y.1) := by
   intro y hy
   have hy' : y ∈ pl := by
    rw [hpl]
    rcases List.mem_append.1 hy with h | h
    ·exact List.mem_append_left _ (hAm y h).1
    rcases List.mem_cons.1 h with h | h
    ·exact List.mem_append_right _ (by rw [h]; exact List.mem_cons_self ..)
    exact List.mem_append_right _ (List.mem_cons_of_mem _ (hBm y h))
   exact hF _ (hp.lt y hy').1
  have hnb : ∀ p ∈ A, p.1 ≠ i /\ p.1 < k /\ behind (reach ops) p.1 i = false /\ behind (reach ops) i p.1 = false /\ okPair p.2 kd = true := by
   intro p hpA
   obtain ⟨h1, h2⟩ := hAm p hpA
   obtain ⟨h3, h4, h5⟩ := hordA p h1 (i, kd) (List.mem_cons_self ..)
   have hpk := (hp.lt p (by rw [hpl]; exact List.mem_append_left _ h1)).1
   have h6 : behind (reach ops) i p.1 = false := by
    cases e : behind (reach ops) i p.1 with
    | false => rfl
    | true => have := hreadyX listed i hcl hi p.1 (by omega) e h3; rw [h2] at this; cases this
   refine ⟨h3, hpk, h4, h6, h5.resolve_right ?_⟩
   show ¬ behind (reach ops) i p.1 = true
   rw [h6]; simp
  have hapA : ∀ p ∈ A, Apart ops (oc p.1) (oc i) := by
   intro p hpA
   obtain ⟨h1, h2, h3, h4, _⟩ := hnb p hpA
   rcases Nat.lt_or_gt_of_ne h1 with h | h
   ·rcases hpair p.1 i h (by omega) _ _ (hfit p.1 h2).1 (hfit i hik).1 with h5 | h5
    ·rw [h4] at h5; cases h5
    obtain ⟨e1, e2, e3⟩ := Oper.apart_spec h5
    exact ⟨e1, e2, e3⟩
   rcases hpair i p.1 h (by omega) _ _ (hfit i hik).1 (hfit p.1 h2).1 with h5 | h5
   ·rw [h3] at h5; cases h5
   obtain ⟨e1, e2, e3⟩ := Oper.apart_spec h5
   exact ⟨e3, fun d h6 h7 => e2 d h7 h6, e1⟩
  have hFi := hF i hik
  have hkd := (hp.lt _ hmem).2
  simp only at hkd
  by_cases h0 : kd = 0
  ·subst h0
   obtain ⟨v, hcl0, hg2⟩ := GO.det0 hKc rfl hfA hapA ⟨b, w, hsa, hr⟩ hss hmo hg
   rcases hcl0 with ⟨h1, rfl⟩ | ⟨h1, h2⟩
   ·exact .inl ⟨h1 b hsa, _, _, hsa.put hFi.dst _, hr, hss, hg2⟩
   rcases h2 with ⟨_, h2⟩ | ⟨h2, _⟩
   ·refine .inr ⟨h1 b hsa, ?_⟩
    unfold Oper.wp
    rw [h2 S hss b w hsa hr]
    exact ⟨_, _, hsa.put hFi.dst _, hr, hss, hg2⟩
   cases h2
  by_cases h3 : kd = 3
  ·subst h3
   rcases GO.free0 hKc hKp rfl hfA hapA ⟨b, w, hsa, hr⟩ hss hmo hg with ⟨h1, h2⟩ | ⟨g0, h1, h2, h4⟩
   ·exact .inl ⟨h1 b hsa, _, _, hsa.put hFi.dst _, hr, hss, h2⟩
   refine .inr ⟨h1 b hsa, Oper.wp_mono ?_ (h2 S b w hsa hr)⟩
   rintro b' w' ⟨v, S', rfl, hr', r', rfl, rfl⟩
   exact ⟨_, _, hsa.put hFi.dst _, hr', hmo g0 _ _ hss, h4 r' ⟨_, w', hsa.put hFi.dst _, hr'⟩⟩
  have h12 : kd = 1 ∨ kd = 2 := by omega
  have hlo : ∀ p ∈ A, p.2 < 2 := by
   intro p hpA
   have h5 := (hnb p hpA).2.2.2.2
   rcases Nat.lt_or_ge p.2 2 with h | h
   ·exact h
   exfalso
   unfold okPair at h5
   rw [decide_eq_true h] at h5
   rcases h12 with rfl | rfl <;> simp at h5
  rcases GO.loud0 hKc h12 hfA hapA hlo hsa hr hss hg with ⟨h1, h2⟩ | ⟨h1, h2⟩
  ·exact .inl ⟨h1 b hsa, _, _, hsa.put hFi.dst _, hr, hss, h2⟩
  refine .inr ⟨h1 b hsa, Oper.wp_mono ?_ h2⟩
  rintro b' w' ⟨v, S', rfl, hr', hs', g⟩
  exact ⟨_, _, hsa.put hFi.dst _, hr', hs', g⟩
 refine wp_mono (Q := fun e a' w' => e = .normal /\ ∃ T' S', Sat n T' a' /\ Rep w0 S' w' /\ Q e T' S') ?_ (fun e a' w' h => h.2)
 refine wp_region_any hm ?_
 have key : ∀ (fuel : Nat) (listed : Array Bool) (b : Act) (w' : World), listed.size = ops.size ->
   (∀ j o, ops[j]? = some o -> listed.getD j true = true -> ∀ e ∈ o.after, Region.binds .any e = true -> listed.getD e.on true = true) -> (∀ i ∈ Hs, listed.getD i true = true) ->
   (∀ t, k <= t -> t < ops.size -> listed.getD t true = false) -> Inv listed b w' -> cnt (fun j => listed.getD j true) ops.size = fuel ->
   wpAny P .any ops (fun e a' w' => e = .normal /\ ∃ T' S', Sat n T' a' /\ Rep w0 S' w' /\ Q e T' S') fuel listed b w' := by
  intro fuel
  have done : ∀ (listed : Array Bool) (b : Act) (w' : World), (∀ j, j < k -> listed.getD j true = true) -> Inv listed b w' -> ∃ T S, Sat n T b /\ Rep w0 S w' /\ OL P w0 n (l.drop k) T S (Q .normal) := by
   rintro listed b w' hall ⟨T, S, h1, h2, _, h4⟩
   have : (pl.filter fun x => !listed.getD x.1 true) = [] := by
    rw [List.filter_eq_nil_iff]
    intro x hx
    rw [hall x.1 (hp.lt x hx).1]; simp
   rw [this] at h4
   have h5 : KK T S := h4
   rw [<- hKK] at h5
   exact ⟨T, S, h1, h2, h5⟩
  induction fuel with
  | zero =>
   intro listed b w' hsz hcl hHl htl hinv hcnt
   have hall : ∀ j, j < ops.size -> listed.getD j true = true := by
    intro j hj
    cases hx : listed.getD j true with
    | true => rfl
    | false =>
     exfalso
     have : ∀ m, j < m -> 0 < cnt (fun j => listed.getD j true) m := by
      intro m
      induction m with
      | zero => intro h; omega
      | succ m ih =>
       intro h
       simp only [cnt]
       by_cases e : j = m
       ·subst e; simp [hx]
       have := ih (by omega); omega
     have := this ops.size hj
     omega
   obtain ⟨T, S, h1, h2, h3⟩ := done listed b w' (fun j hj => hall j (by omega)) hinv
   have hkeq : k = ops.size := by
    rcases Nat.lt_or_ge k ops.size with h | h
    ·have h1 := htl k (Nat.le_refl _) h
     have h2 := hall k h
     rw [h1] at h2
     cases h2
    omega
   refine ⟨?_, ?_⟩
   ·unfold Region.ready
    rw [List.filter_eq_nil_iff]
    intro i hi
    rw [hall i (List.mem_range.1 hi)]
    simp
   have := h3 ops [] b w' (fun e a' w' => e = .normal /\ ∃ T' S', Sat n T' a' /\ Rep w0 S' w' /\ Q e T' S') (by
    rw [hkeq, Nat.sub_self] at hc2
    rw [hkeq]
    simpa using hc2) h1 h2 (fun a' w' T' S' h3 h4 h5 => ⟨rfl, T', S', h3, h4, h5⟩)
   simpa [wpOps] using this
  | succ fuel ih =>
   intro listed b w' hsz hcl hHl htl hinv hcnt
   by_cases hall : ∀ j, j < k -> listed.getD j true = true
   ·obtain ⟨T, S, h1, h2, h3⟩ := done listed b w' hall hinv
    have hexact : ∀ j, j < ops.size -> listed.getD j true = decide (j < k) := by
     intro j hj
     by_cases h : j < k
     ·rw [hall j h]; simp [h]
     rw [htl j (by omega) hj]; simp [h]
    have hfuel : fuel + 1 = ops.size - k := by
     rw [<- hcnt, cnt_congr ops.size hexact, cnt_below]
    rw [hfuel]
    have htl2 : ∀ listed' : Array Bool, ∀ t s', k <= s' -> s' < t -> t < ops.size -> (∀ j, j < ops.size -> listed'.getD j true = decide (j < s')) -> listed'.size = ops.size -> t ∉ Region.ready .any ops listed' := by
     intro l'' t s' h1 h2 h3 h4 h5 hmem
     have := hreadyX l'' t (fun j o ho hj e he hbd => by
      have hlt := backB_spec hback ho he hbd
      have hjs : j < ops.size := (Array.getElem?_eq_some_iff.1 ho).1
      rw [h4 j hjs] at hj
      rw [h4 e.on (by omega)]
      simp only [decide_eq_true_eq] at hj ⊢
      omega) hmem s' (by omega) (htail t s' (by omega) h3 h2 (fun hm' => by have := hHk s' hm'; omega)) (by omega)
     rw [h4 s' (by omega)] at this
     simp at this
    refine wpAny_tail hback (ops.size - k) k listed b w' (by omega) hsz hexact (fun t i h1 h2 h3 h4 h5 => htl2 listed t k (Nat.le_refl _) h1 h2 hexact hsz) htl2 ?_
    exact h3 ops _ b w' _ hc2 h1 h2 (fun a' w' T' S' h3 h4 h5 => ⟨rfl, T', S', h3, h4, h5⟩)
   refine ⟨fun h0 => ?_, fun i hi => ?_⟩
   ·exfalso
    obtain ⟨i, hi1, hi2, hi3⟩ := cnt_pos ops.size (by rw [hcnt]; omega : 0 < cnt (fun j => listed.getD j true) ops.size)
    have : i ∈ Region.ready .any ops listed := by
     rw [mem_ready]
     refine ⟨hi2, ops[i], by simp [hi1], fun e he hbd => ?_⟩
     have hlt := backB_spec hback (show ops[i]? = some ops[i] by simp [hi1]) he hbd
     have h3 := hi3 e.on hlt
     have : e.on < listed.size := by omega
     simpa [this] using h3
    rw [h0] at this
    simp at this
   obtain ⟨hun, o, ho, hpre⟩ := mem_ready.1 hi
   have hilt : i < ops.size := (Array.getElem?_eq_some_iff.1 ho).1
   have hik : i < k := by
    rcases Nat.lt_or_ge i k with h | h
    ·exact h
    exfalso
    refine hall fun j hj => ?_
    by_cases hjH : j ∈ Hs
    ·exact hHl j hjH
    exact hreadyX listed i hcl hi j (by omega) (htail i j h hilt (by omega) hjH) (by omega)
   have hgj : ∀ j, j ≠ i -> (listed.setIfInBounds i true).getD j true = listed.getD j true := fun j hj => getD_set_ne true (Ne.symm hj)
   have hnext : ∀ b2 w2, Inv (listed.setIfInBounds i true) b2 w2 -> wpAny P .any ops (fun e a' w' => e = .normal /\ ∃ T' S', Sat n T' a' /\ Rep w0 S' w' /\ Q e T' S') fuel (listed.setIfInBounds i true) b2 w2 := by
    intro b2 w2 hi2
    refine ih _ _ w2 (by simpa using hsz) (hclset listed i o hsz hcl hi ho) ?_ ?_ hi2 ?_
    ·intro j hj
     by_cases e : j = i
     ·subst e; exact hgetset listed j hsz hilt
     rw [hgj j e]; exact hHl j hj
    ·intro t h3 h4'
     rw [hgj t (by omega)]
     exact htl t h3 h4'
    have := hcntset listed i hsz hi hilt
    omega
   unfold wpOp
   simp only [ho]
   have heq := hoc ho
   rcases step listed b w' i hsz hcl hi hik hinv with ⟨h1, h2⟩ | ⟨h1, h2⟩
   ·rw [heq] at h1 h2
    rw [h1]
    simp only [Bool.false_eq_true, if_false]
    exact hnext _ _ h2
   rw [heq] at h1 h2
   rw [if_pos h1]
   left
   have hd : dstOk b.tmps.size o.dst = true := by
    obtain ⟨T, S, hsa, _⟩ := hinv
    rw [hsa.size, <- heq]; exact (hF i hik).dst
   have h3 : o.wp P b w' (fun b' w' => Inv (listed.setIfInBounds i true) b' w') (fun e a' w' => e = .normal /\ ∃ T' S', Sat n T' a' /\ Rep w0 S' w' /\ Q e T' S') := wp_anyQ h2
   exact Oper.wp_mono hnext h3
 have phase0 : ∀ (Hr : List Nat) (listed : Array Bool) (b : Act) (w' : World), hoistB ops Hr listed = true -> (∀ i ∈ Hr, i < k) -> listed.size = ops.size ->
   (∀ j o, ops[j]? = some o -> listed.getD j true = true -> ∀ e ∈ o.after, Region.binds .any e = true -> listed.getD e.on true = true) -> (∀ i ∈ Hs, listed.getD i true = true ∨ i ∈ Hr) ->
   (∀ t, k <= t -> t < ops.size -> listed.getD t true = false) -> Inv listed b w' ->
   wpAny P .any ops (fun e a' w' => e = .normal /\ ∃ T' S', Sat n T' a' /\ Rep w0 S' w' /\ Q e T' S') (cnt (fun j => listed.getD j true) ops.size) listed b w' := by
  intro Hr
  induction Hr with
  | nil =>
   intro listed b w' _ _ hsz hcl hHl htl hinv
   exact key _ listed b w' hsz hcl (fun i hi => (hHl i hi).resolve_right (by simp)) htl hinv rfl
  | cons i Hr ih =>
   intro listed b w' hh hlt hsz hcl hHl htl hinv
   simp only [hoistB, Bool.and_eq_true] at hh
   obtain ⟨⟨⟨hho, hfree⟩, hready⟩, hrest⟩ := hh
   have hi : i ∈ Region.ready .any ops listed := by simpa using hready
   obtain ⟨hun, o, ho, hpre⟩ := mem_ready.1 hi
   have hilt : i < ops.size := (Array.getElem?_eq_some_iff.1 ho).1
   have hik : i < k := hlt i (by simp)
   have heq := hoc ho
   simp only [hoistable?, ho, hoistable, Bool.and_eq_true, Option.isNone_iff_eq_none] at hho
   obtain ⟨hgn, hmv⟩ := hho
   have hwant : ∀ f, Region.wanted o f = true := fun f => by simp [Region.wanted, hgn]
   have hgj : ∀ j, j ≠ i -> (listed.setIfInBounds i true).getD j true = listed.getD j true := fun j hj => getD_set_ne true (Ne.symm hj)
   have hmove : ∃ x, (o.op = .move x ∨ o.op = .assign x) := by
    cases hop : o.op <;> rw [hop] at hmv <;> simp at hmv
    ·exact ⟨_, .inl rfl⟩
    exact ⟨_, .inr rfl⟩
   obtain ⟨x, hx⟩ := hmove
   have hexec : ∀ ρ, execOp ρ o = pure (.value (ρ x)) := by
    intro ρ
    rcases hx with hx | hx <;> simp [execOp, hx]
   have hcs := hcntset listed i hsz hi hilt
   rw [hcs]
   refine wpAny_take (oi := o) (v := b.eval x) ho hsel hfree hready (fun c a w hq => by simp at hq) (.inl ⟨hwant _, fun w => by rw [hexec]; rfl⟩) ?_
   refine ih _ _ w' hrest (fun j hj => hlt j (by simp [hj])) (by simpa using hsz) (hclset listed i o hsz hcl hi ho) ?_ ?_ ?_
   ·intro j hj
    by_cases e : j = i
    ·subst e; exact .inl (hgetset listed j hsz hilt)
    rw [hgj j e]
    rcases hHl j hj with h | h
    ·exact .inl h
    rcases List.mem_cons.1 h with h | h
    ·exact absurd h e
    exact .inr h
   ·intro t h3 h4
    rw [hgj t (by omega)]
    exact htl t h3 h4
   rcases step listed b w' i hsz hcl hi hik hinv with ⟨h1, _⟩ | ⟨_, h2⟩
   ·rw [heq, hwant] at h1; cases h1
   rw [heq] at h2
   unfold Oper.wp at h2
   rw [hexec] at h2
   exact h2
 have hcnt0 : cnt (fun j => (Array.replicate ops.size false).getD j true) ops.size = ops.size := by
  rw [cnt_congr (g := fun j => decide (j < 0)) ops.size (fun j hj => by simp [hj]), cnt_below]
  omega
 have := phase0 Hs (Array.replicate ops.size false) a { w with drawn := w.drawn + 1 } hhoist hHk (by simp) ?_ (fun i hi => .inr hi) ?_ ?_
 ·rwa [hcnt0] at this
 ·intro j o ho hj
  exfalso
  have hlt : j < ops.size := (Array.getElem?_eq_some_iff.1 ho).1
  simp [hlt] at hj
 ·intro t _ ht
  simp [ht]
 refine ⟨T, S, hs, hr.same ((Below.refl _ w).drew) (fun _ _ => rfl), hS, ?_⟩
 have : (pl.filter fun x => !(Array.replicate ops.size false).getD x.1 true) = pl := by
  rw [List.filter_eq_self]
  intro x hx
  have := (hp.lt x hx).1
  have : x.1 < ops.size := by omega
  simp [this]
 rw [this]
 exact hgo
theorem mkQ_cases {c : Code} {b : List Nat} {k : Nat} {l : List PI} (hc : cC P n c = some (.quietR b k l)) : ∃ id ops, c = .region id ops true /\ (apartB ops && backB ops && Region.noSelect ops && hoistB ops ((hoists ops).filter (· < quietAt ops)) (Array.replicate ops.size false)) = true /\ cIs P n ops (List.range ops.size) = some l /\ quietAt ops = k /\ (b = [] ∨ b = (reach ops).take k) := by
 cases c
 case region id ops dr =>
  cases dr with
  | false => simp [cC] at hc
  | true =>
   simp only [cC] at hc
   split at hc
   case isFalse => simp at hc
   rename_i hcond
   simp only [Option.map_eq_some_iff] at hc
   obtain ⟨l', hcis, hmk⟩ := hc
   obtain ⟨h1, rfl, h3⟩ := mkQ_quietR hmk
   exact ⟨id, ops, rfl, hcond, hcis, h1, h3⟩
 all_goals (first | (simp [cC] at hc; done) | (simp only [cC] at hc; split at hc <;> simp at hc; done))
theorem QL.gl {l : List PI} {T' : TT} {K : TT -> SS -> Prop} (h : QL P w0 n S l T T') (hk : K T' S) : GL P w0 n ezOf (fun S' => S' = S) false K (l.map fun c => (1, c)) T S := by
 induction h with
 | nil => exact hk
 | step hg h _ ih => exact .inr ⟨hg, .inr (.inl ⟨rfl, _, fun S' hS => by rw [hS]; exact h, ih hk⟩)⟩
 | off hl hc _ ih => exact .inl ⟨⟨_, _, _, rfl, hl, hc⟩, ih hk⟩
theorem PW.quiet {b : List Nat} {k : Nat} {l : List PI} {Q : Exit -> TT -> SS -> Prop} {T' : TT} (hm : P.follows .mixedOrders = true) (h1 : QL P w0 n S (l.take k) T T') (h2 : OL P w0 n (l.drop k) T' S (Q .normal)) : PW P w0 n (.quietR b k l) T S Q := by
 intro c hc a w hs hr
 obtain ⟨id, ops, rfl, hcond, hcis, rfl, _⟩ := mkQ_cases hc
 have hback : backB ops = true := by simp only [Bool.and_eq_true] at hcond; exact hcond.1.1.2
 have hkle : quietAt ops <= ops.size := (headOf_spec ops (hoists ops) ops.size (Nat.le_refl _)).2
 have hlen : l.length = ops.size := by simpa using cIs_length hcis
 refine region_plan (ez := ezOf) (Ss := fun S' => S' = S) (fr := false) (pl := (List.range (quietAt ops)).map fun i => (i, 1)) hm hs hr hcond hcis ⟨fun i hi => ⟨1, by simpa using hi⟩, ?_, ?_⟩ rfl (fun h => by cases h) ?_
 ·intro x hx
  obtain ⟨i, hi, rfl⟩ := List.mem_map.1 hx
  exact ⟨List.mem_range.1 hi, show 1 <= 3 by decide⟩
 ·rw [List.pairwise_map]
  refine List.pairwise_lt_range.imp_of_mem fun {x y} hx hy hxy => ⟨by simp only; omega, ?_, .inl rfl⟩
  cases e : behind (reach ops) x y with
  | false => rfl
  | true =>
   have hX : Closed ops (fun z => z <= x) := fun i o ho hi e he hb => by have := backB_spec hback ho he hb; omega
   have hxl := List.mem_range.1 hx
   have : y <= x := behind_spec hX (i := x) (j := y) (by omega) e (Nat.le_refl _)
   omega
 have : (((List.range (quietAt ops)).map fun i => (i, 1)).map fun x => (x.2, l.getD x.1 pi0)) = (l.take (quietAt ops)).map fun c => (1, c) := by
  apply List.ext_getElem
  ·simp; omega
  intro i h1 h2
  simp at h1 h2
  simp [List.getElem?_eq_getElem (show i < l.length by omega)]
 rw [this]
 exact h1.gl h2
def ordG (b : List Nat) : List (Nat × Nat) -> Bool
 | [] => true
 | x :: r => (r.all fun y => !Nat.beq x.1 y.1 && Nat.beq (b.getD x.1 0 / 2 ^ y.1 % 2) 0 && (okPair x.2 y.2 || Nat.beq (b.getD y.1 0 / 2 ^ x.1 % 2) 1)) && ordG b r
def planB (b : List Nat) (k : Nat) (pl : List (Nat × Nat)) : Bool := (List.range k).all (fun i => pl.any fun x => Nat.beq x.1 i) && pl.all (fun x => Nat.ble (x.1 + 1) k && Nat.ble x.2 3) && ordG b pl && Nat.ble k b.length
theorem bit_of {m i : Nat} : Nat.beq (m / 2 ^ i % 2) 1 = m.testBit i := by
 rw [Nat.testBit_eq_decide_div_mod_eq]
 cases e : Nat.beq (m / 2 ^ i % 2) 1 with
 | true => rw [Nat.eq_of_beq_eq_true e]; rfl
 | false => have := Nat.ne_of_beq_eq_false e; simp [this]
theorem planB_spec {ops : Array Oper} {b : List Nat} {k : Nat} {pl : List (Nat × Nat)} (hb : b = [] ∨ b = (reach ops).take k) (h : planB b k pl = true) : Plan ops k pl := by
 simp only [planB, Bool.and_eq_true, List.all_eq_true, List.mem_range, List.any_eq_true] at h
 obtain ⟨⟨⟨h1, h2⟩, h3⟩, h4⟩ := h
 have h4 := Nat.le_of_ble_eq_true h4
 refine ⟨fun i hi => ?_, fun x hx => ⟨by have := Nat.le_of_ble_eq_true (h2 x hx).1; omega, Nat.le_of_ble_eq_true (h2 x hx).2⟩, ?_⟩
 ·obtain ⟨x, hx, he⟩ := h1 i hi
  have := Nat.eq_of_beq_eq_true he
  exact ⟨x.2, by rw [<- this]; exact hx⟩
 have hlt : ∀ x ∈ pl, x.1 < k := fun x hx => by have := Nat.le_of_ble_eq_true (h2 x hx).1; omega
 clear h1 h2
 induction pl with
 | nil => exact .nil
 | cons x r ih =>
  simp only [ordG, Bool.and_eq_true, List.all_eq_true] at h3
  refine List.pairwise_cons.2 ⟨fun y hy => ?_, ih h3.2 fun z hz => hlt z (List.mem_cons_of_mem _ hz)⟩
  obtain ⟨⟨g1, g2⟩, g3⟩ := h3.1 y hy
  have hx := hlt x (List.mem_cons_self ..)
  have hy' := hlt y (List.mem_cons_of_mem _ hy)
  have hbe : ∀ i, i < k -> b.getD i 0 = (reach ops).getD i 0 := by
   intro i hi
   rcases hb with rfl | rfl
   ·simp at h4; omega
   rw [List.getD_eq_getElem?_getD, List.getElem?_take_of_lt hi, <- List.getD_eq_getElem?_getD]
  refine ⟨Nat.ne_of_beq_eq_false (by simpa using g1), ?_, ?_⟩
  ·rw [hbe _ hx] at g2
   unfold behind
   rw [<- bit_of]
   have := Nat.eq_of_beq_eq_true g2
   rw [this]; rfl
  rw [hbe _ hy', Bool.or_eq_true, bit_of] at g3
  exact g3
def planL (l : List PI) (pl : List (Nat × Nat)) : List (Nat × PI) := pl.map fun x => (x.2, l.getD x.1 pi0)
theorem PW.quietGz (ez : PI -> FZ) {b : List Nat} {k : Nat} {l : List PI} {Q : Exit -> TT -> SS -> Prop} {Ss : SS -> Prop} {fr : Bool} (pl : List (Nat × Nat)) (hm : P.follows .mixedOrders = true) (hp : planB b k pl = true) (hS : Ss S) (hmo : fr = true -> ∀ s S, Ss S -> Ss (s :: S))
  (h : GL P w0 n ez Ss fr (fun T' S' => OL P w0 n (l.drop k) T' S' (Q .normal)) (planL l pl) T S) : PW P w0 n (.quietR b k l) T S Q := by
 intro c hc a w hs hr
 obtain ⟨id, ops, rfl, hcond, hcis, rfl, hb⟩ := mkQ_cases hc
 exact region_plan hm hs hr hcond hcis (planB_spec hb hp) hS hmo h
theorem PW.quietG {b : List Nat} {k : Nat} {l : List PI} {Q : Exit -> TT -> SS -> Prop} {Ss : SS -> Prop} {fr : Bool} (pl : List (Nat × Nat)) (hm : P.follows .mixedOrders = true) (hp : planB b k pl = true) (hS : Ss S) (hmo : fr = true -> ∀ s S, Ss S -> Ss (s :: S))
  (h : GL P w0 n ezOf Ss fr (fun T' S' => OL P w0 n (l.drop k) T' S' (Q .normal)) (planL l pl) T S) : PW P w0 n (.quietR b k l) T S Q := PW.quietGz ezOf pl hm hp hS hmo h
end
end
section
variable {P : Program} {w0 : World} {n : Nat} {T : TT} {S : SS}
theorem setAt_cons (cs : List Value) (k : Nat) (v : Value) (vs : List Value) (h : k < cs.length) : setAt cs k (v :: vs) = setAt (cs.set k v) (k + 1) vs := by
 induction cs generalizing k with
 | nil => simp at h
 | cons c cs ih =>
  cases k with
  | zero => simp [setAt]
  | succ k => simp only [setAt, List.set_cons_succ]; rw [ih k (by simpa using h)]
theorem foldl_setAt (off : Nat) : ∀ (l : List Value) (k : Nat) (cells : Array Value), off + k + l.length <= cells.size ->
  ((l.zipIdx k).foldl (fun cs p => cs.setIfInBounds (off + p.2) p.1) cells).toList = setAt cells.toList (off + k) l
 | [], k, cells, _ => by simp [setAt_nil]
 | c :: l, k, cells, h => by
  simp only [List.zipIdx_cons, List.foldl_cons, List.length_cons] at h ⊢
  rw [foldl_setAt off l (k + 1) _ (by simp; omega)]
  rw [setAt_cons _ _ _ _ (by simp; omega)]
  simp [Nat.add_assoc]
def fillP (T : TT) : List Value -> List (Nat × Nat × PV) -> Option (List Value)
 | cs, [] => some cs
 | cs, (off, size, x) :: r => match x.val T with
  | some v => if v.cells.size = size /\ off + size <= cs.length then fillP T (setAt cs off v.cells.toList) r else none
  | none => none
theorem fill_spec {a : Act} (hs : Sat n T a) {place : Nat -> Option (Nat × Nat)} : ∀ {qs : List (Nat × Operand)} {ps : List (Nat × Nat × PV)} {cells : Array Value} {cs : List Value},
  partsAt place qs = some ps -> fillP T cells.toList ps = some cs -> Instr.fill place cells (qs.map fun (i, x) => (i, a.eval x)) = some cs.toArray
 | [], ps, cells, cs, h1, h2 => by
  simp [partsAt] at h1
  subst h1
  simp [fillP] at h2
  subst h2
  simp [Instr.fill]
 | (i, x) :: qs, ps, cells, cs, h1, h2 => by
  simp only [partsAt, List.mapM_cons, Option.bind_eq_bind, Option.pure_def] at h1
  cases hp : place i with
  | none => simp [hp] at h1
  | some p =>
   obtain ⟨off, size⟩ := p
   simp only [hp, Option.map_some, Option.bind_some] at h1
   change (partsAt place qs).bind _ = _ at h1
   cases hq : partsAt place qs with
   | none => rw [hq] at h1; simp at h1
   | some ps' =>
    rw [hq] at h1
    simp only [Option.bind_some, Option.some.injEq] at h1
    subst h1
    simp only [fillP] at h2
    split at h2
    ·rename_i v hv
     split at h2
     ·rename_i hcond
      obtain ⟨hsz, hle⟩ := hcond
      have hev := hs.eval hv
      simp only [List.map_cons, Instr.fill, hp, hev]
      have hc : ¬ (v.cells.size ≠ size || decide (off + v.cells.size > cells.size)) = true := by
       simp at hle ⊢
       omega
      rw [if_neg hc]
      have hfold : (v.cells.zipIdx.foldl (fun cs x => cs.setIfInBounds (off + x.2) x.1) cells).toList = setAt cells.toList off v.cells.toList := by
       rw [<- Array.foldl_toList, Array.toList_zipIdx]
       have := foldl_setAt off v.cells.toList 0 cells (by simp at hle ⊢; omega)
       simpa using this
      have := fill_spec hs (place := place) (qs := qs) (ps := ps') (cells := v.cells.zipIdx.foldl (fun cs x => cs.setIfInBounds (off + x.2) x.1) cells) (cs := cs) hq (by rw [hfold]; exact h2)
      exact this
     simp at h2
    simp at h2
theorem Yields.build {zero : List Value} {parts : List (Nat × Nat × PV)} {cs : List Value} (h : fillP T zero parts = some cs) : Yields P w0 n (.build zero parts) T S (.agg cs.toArray) := by
 intro o a w hco hs hr
 obtain ⟨t, qs, fs, i, z, ps, ho, hu, hi, hz, rfl, hps, hpa⟩ := cOp_spec P hco
 have hfill := fill_spec hs (place := fun j => ps[j]?) (cells := z.cells) hpa h
 simp only [execOp, ho]
 have hb : P.built t (qs.map fun (i, x) => (i, a.eval x)).toList = some cs.toArray := by
  unfold Program.built
  simp only [hi, hu, hz]
  unfold placesOf at hps
  rw [hps]
  simp only [Array.toList_map]
  have e : (fun x : Nat => ps.toArray[x]?) = fun j => ps[j]? := by funext j; simp
  rw [e]
  exact hfill
 have := run_build (P := P) w t _ cs.toArray hb
 simp only [Sem.run_bind, this, Result.andThen_ok]
 rfl
theorem OW.bsl {E : TypeId} {len : Nat} {zero : List Value} {parts : List (Nat × Nat × PV)} {cs : List Value} (h : fillP T zero parts = some cs) :
  OW P w0 n (.bsl E zero len parts) T S (fun v S' => ∃ r, v = .slice (some ⟨r, 0, none⟩) len len /\ S' = [(r, .cells cs E cs.length)] :: S) := by
 intro op a w Q hco hs hr
 obtain ⟨t, qs, i, z, ho, hu, hi, hz, hle, hne, rfl, hpa⟩ := cOp_spec P hco
 have hfill := fill_spec hs (place := fun j => some (j * i.size, i.size)) (cells := (Array.range (len * i.size)).map (z.cells[· % z.cells.size]!)) hpa h
 have hrun : (execOp a.eval op).run P w = .ok (.value (.slice (some ⟨w.heap.size, 0, none⟩) len len)) (w.alloc (.cells cs.toArray E)) := by
  simp only [execOp, ho, Instr.buildSlice]
  have hle' : ¬ (16777216 < len * i.size) := by omega
  simp only [Array.toList_map]
  have hsz : (sizeOf E).run P w = .ok i.size w := by simp [sizeOf, typeInfo, program, hi, Sem.run]
  have hzv : (zeroValue E).run P w = .ok z w := by simp [zeroValue, typeInfo, program, hi, hz, Sem.run]
  simp only [Array.toList_map] at hfill ⊢
  simp only [Sem.run_bind, run_underlying hu, Result.andThen_ok, hsz]
  simp [hle', hne, hzv]
  rw [hfill]
  simp [newRow, newObj, Sem.run]
 unfold Oper.wp
 rw [hrun]
 refine ⟨_, _, rfl, ?_, w.heap.size, rfl, rfl⟩
 have := hr.alloc cs.toArray E
 simpa using this
def eqCell : CK -> Value -> Value -> Option Bool
 | .int k, .int j a, .int j' b => if j = k /\ j' = k then some (a == b) else none
 | .str, .string a, .string b => some (a.toList == b.toList)
 | .bool, .bool a, .bool b => some (a == b)
 | _, _, _ => none
def eqCells : List CK -> List Value -> List Value -> Option Bool
 | [], [], [] => some true
 | [c], [x], [y] => eqCell c x y
 | c :: cs, x :: xs, y :: ys => match eqCell c x y, eqCells cs xs ys with | some p, some q => some (p && q) | _, _ => none
 | _, _, _ => none
theorem run_eqCell {c : CK} {t : TypeId} {x y : Value} {r : Bool} (hc : ckOf P t = some c) (h : eqCell c x y = some r) (d : Nat) (w : World) : (Op.equalIn (d + 1) t x y).run P w = .ok r w := by
 unfold ckOf at hc
 split at hc
 ·rename_i k hu
  obtain rfl := Option.some.inj hc
  unfold eqCell at h
  split at h <;> simp_all
  obtain ⟨⟨rfl, rfl⟩, rfl⟩ := h
  simp [Op.equalIn, run_underlying hu]
 ·rename_i hu
  obtain rfl := Option.some.inj hc
  unfold eqCell at h
  split at h <;> simp_all
  subst h
  exact run_equalIn_string w d t _ _ hu
 ·rename_i hu
  obtain rfl := Option.some.inj hc
  unfold eqCell at h
  split at h <;> simp_all
  subst h
  simp [Op.equalIn, run_underlying hu]
 simp at hc
theorem ckOf_agg {t : TypeId} {c : CK} (h : ckOf P t = some c) : ∃ d, P.underlying t = some d /\ rowD d = false := by
 unfold ckOf at h
 split at h
 all_goals (first | (simp at h; done) | exact ⟨_, by assumption, rfl⟩)
theorem run_eqFields_flat {xs ys : Array Value} {d : Nat} {w : World} : ∀ (fs : List Field) (i : Nat) (sh : List CK) (r : Bool), flatFrom P i fs = some sh -> eqCells sh (xs.toList.drop i) (ys.toList.drop i) = some r ->
  (Op.eqFields (d + 1) xs ys fs).run P w = .ok r w
 | [], i, sh, r, hf, he => by
  simp [flatFrom] at hf
  subst hf
  unfold eqCells at he
  split at he <;> simp_all [Op.eqFields]
 | f :: fs, i, sh, r, hf, he => by
  simp only [flatFrom] at hf
  split at hf
  ·rename_i c cs hc hcs
   split at hf
   ·rename_i hcond
    obtain ⟨hoff, hname⟩ := hcond
    obtain rfl := Option.some.inj hf
    obtain ⟨dd, hu, hrow⟩ := ckOf_agg hc
    have hpart : ∀ (zs : Array Value) z, zs[i]? = some z -> (part f.type zs f.offset).run P w = .ok z w := by
     intro zs z hz
     simp [part, run_isAgg hu, hrow, hoff, hz]
    -- the first cells
    have hx : ∃ x y rx ry, xs.toList.drop i = x :: rx /\ ys.toList.drop i = y :: ry /\ xs[i]? = some x /\ ys[i]? = some y /\ xs.toList.drop (i + 1) = rx /\ ys.toList.drop (i + 1) = ry := by
     cases hx : xs.toList.drop i with
     | nil => rw [hx] at he; cases cs <;> simp [eqCells] at he
     | cons x rx =>
      cases hy : ys.toList.drop i with
      | nil => rw [hx, hy] at he; cases cs <;> cases rx <;> simp [eqCells] at he
      | cons y ry =>
       have e1 : xs[i]? = some x := by
        have : (xs.toList.drop i)[0]? = some x := by rw [hx]; rfl
        simpa using this
       have e2 : ys[i]? = some y := by
        have : (ys.toList.drop i)[0]? = some y := by rw [hy]; rfl
        simpa using this
       refine ⟨x, y, rx, ry, rfl, rfl, e1, e2, ?_, ?_⟩
       ·rw [<- List.drop_drop, hx]; rfl
       rw [<- List.drop_drop, hy]; rfl
    obtain ⟨x, y, rx, ry, h1, h2, h3, h4, h5, h6⟩ := hx
    rw [h1, h2] at he
    have hstep : ∃ p q, eqCell c x y = some p /\ eqCells cs rx ry = some q /\ r = (p && q) := by
     cases cs with
     | nil =>
      cases rx with
      | nil =>
       cases ry with
       | nil => exact ⟨r, true, by simpa [eqCells] using he, rfl, by simp⟩
       | cons _ _ => simp [eqCells] at he
      | cons _ _ => simp [eqCells] at he
     | cons c' cs' =>
      rw [show eqCells (c :: c' :: cs') (x :: rx) (y :: ry) = (match eqCell c x y, eqCells (c' :: cs') rx ry with | some p, some q => some (p && q) | _, _ => none) from rfl] at he
      split at he
      ·rename_i p q hp hq
       exact ⟨p, q, hp, hq, by simpa using he.symm⟩
      simp at he
    obtain ⟨p, q, hp, hq, rfl⟩ := hstep
    simp only [Op.eqFields, hname, ne_eq, not_false_eq_true, if_true, Sem.run_bind, hpart xs x h3, hpart ys y h4, Result.andThen_ok, run_eqCell hc hp d w]
    cases p
    ·simp
    simp only [Bool.not_true, Bool.false_eq_true, if_false, Bool.true_and]
    exact run_eqFields_flat fs (i + 1) cs q hcs (by rw [h5, h6]; exact hq)
   simp at hf
  simp at hf
theorem flatOf_spec {t : TypeId} {sh : List CK} (h : flatOf P t = some sh) : P.underlying t = some (.struct (P.fieldsOf t)) /\ P.stoodInHeld t = false /\ P.eqGuardType P.depth t = false /\ flatFrom P 0 (P.fieldsOf t).toList = some sh := by
 unfold flatOf at h
 split at h
 ·rename_i fs hu
  split at h
  ·rename_i hc
   have : P.fieldsOf t = fs := by simp [Program.fieldsOf, hu]
   rw [this]
   exact ⟨hu, hc.1, hc.2, h⟩
  simp at h
 simp at h
theorem Yields.eqA {neg : Bool} {t : TypeId} {sh : List CK} {x y : PV} {xs ys : Array Value} {r : Bool} (hx : x.val T = some (.agg xs)) (hy : y.val T = some (.agg ys)) (h : eqCells sh xs.toList ys.toList = some r) :
  Yields P w0 n (.eqA neg t sh x y) T S (.bool (if neg then !r else r)) := by
 intro o a w hco hs hr
 obtain ⟨c, d, u, ho, rfl, rfl, hfl⟩ := cOp_spec P hco
 obtain ⟨hu, hst, hg, hff⟩ := flatOf_spec hfl
 have heq : (Op.equalIn 10000 t (.agg xs) (.agg ys)).run P w = .ok r w := by
  rw [run_equalIn_struct w 9999 t xs ys hu hst]
  exact run_eqFields_flat _ 0 sh r hff (by simpa using h)
 simp only [execOp, ho, hs.eval hx, hs.eval hy]
 cases neg
 ·simp only [Bool.false_eq_true, if_false, Sem.run_bind, run_eqGuard_agg w .eql t c d xs ys hg, Result.andThen_ok, run_eql_struct, heq]
  simp
 simp only [if_true, Sem.run_bind, run_eqGuard_agg w .neq t c d xs ys hg, Result.andThen_ok, run_neq_struct, heq]
 simp
theorem OW.al {E : TypeId} {zero : List Value} : OW P w0 n (.al E zero) T S (fun v S' => ∃ r, v = .pointer (some ⟨r, 0, none⟩) /\ S' = [(r, .cells zero E zero.length)] :: S) := by
 intro op a w Q hco hs hr
 obtain ⟨i, z, ho, hi, hz, rfl⟩ := cOp_spec P hco
 have hrun : (execOp a.eval op).run P w = .ok (.value (.pointer (some ⟨w.heap.size, 0, none⟩))) (w.alloc (.cells z.cells E)) := by
  simp [execOp, ho, Instr.alloc, zeroValue, typeInfo, program, hi, hz, Sem.run, newVar, newRow, newObj]
 unfold Oper.wp
 rw [hrun]
 exact ⟨_, _, rfl, by simpa using hr.alloc z.cells E, w.heap.size, rfl, rfl⟩
theorem OW.bx {E : TypeId} {x : PV} {v : Value} (hx : x.val T = some v) : OW P w0 n (.bx E x) T S (fun u S' => ∃ r, u = .pointer (some ⟨r, 0, none⟩) /\ S' = [(r, .cells v.cells.toList E v.cells.toList.length)] :: S) := by
 intro op a w Q hco hs hr
 obtain ⟨c, ho, rfl⟩ := cOp_spec P hco
 have hrun : (execOp a.eval op).run P w = .ok (.value (.pointer (some ⟨w.heap.size, 0, none⟩))) (w.alloc (.cells v.cells E)) := by
  simp [execOp, ho, hs.eval hx, Instr.box, Sem.run, newVar, newRow, newObj]
 unfold Oper.wp
 rw [hrun]
 exact ⟨_, _, rfl, by simpa using hr.alloc v.cells E, w.heap.size, rfl, rfl⟩
end
end Go.SL
