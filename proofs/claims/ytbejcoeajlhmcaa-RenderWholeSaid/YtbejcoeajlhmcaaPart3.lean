/- Walks and plain facts for the laws of this seat: what each function answers, for every input. -/
import Derived.Test.YtbejcoeajlhmcaaPart2
import Derived.Maps.RangeRun
import Derived.DeepKeys4
import Derived.SizedLaws
import Derived.Test.YtbejcoeajlhmcaaProg
set_option linter.unusedVariables false
set_option linter.unusedSimpArgs false
set_option linter.unusedSectionVars false

namespace Go.SL
open Go.RowKit Go.ChangeShapes
theorem map_eraseIdx {γ δ : Type} (h : γ → δ) : ∀ (l : List γ) (i : Nat), (l.eraseIdx i).map h = (l.map h).eraseIdx i
 | [], i => by simp
 | a :: l, 0 => by simp
 | a :: l, i + 1 => by simp [map_eraseIdx h l i]
section plain
variable {α β γ : Type} [DecidableEq α]
def mgt (l : List (α × β)) (a : α) : Option β := (l.find? fun p => decide (a = p.1)).map (·.2)
def mpt : List (α × β) → α → β → List (α × β)
 | [], a, b => [(a, b)]
 | p :: r, a, b => if a = p.1 then (a, b) :: r else p :: mpt r a b
def mdl (l : List (α × β)) (a : α) : List (α × β) := l.filter fun p => !decide (a = p.1)
def mks (l : List (α × β)) : List α := l.map (·.1)
theorem mgt_cons (p : α × β) (l : List (α × β)) (a : α) : mgt (p :: l) a = if a = p.1 then some p.2 else mgt l a := by
 unfold mgt
 rw [List.find?_cons]
 by_cases h : a = p.1
 ·simp [h]
 ·simp [h]
theorem mgt_nil (a : α) : mgt ([] : List (α × β)) a = none := rfl
theorem mgt_mpt (l : List (α × β)) (a c : α) (b : β) : mgt (mpt l a b) c = if c = a then some b else mgt l c := by
 induction l with
 | nil => simp only [mpt, mgt_cons, mgt_nil]
 | cons p l ih =>
  simp only [mpt]
  split
  ·rename_i h
   simp only [mgt_cons]
   subst h
   split <;> rfl
  ·rename_i h
   simp only [mgt_cons, ih]
   by_cases h1 : c = p.1
   ·subst h1
    rw [if_pos rfl, if_neg (fun e => h e.symm)]
    simp
   ·simp [h1]
theorem mgt_none {l : List (α × β)} {a : α} : mgt l a = none ↔ a ∉ mks l := by
 induction l with
 | nil => simp [mgt_nil, mks]
 | cons p l ih =>
  rw [mgt_cons]
  unfold mks at ih ⊢
  by_cases h : a = p.1
  ·simp [h]
  ·simp [h, ih]
theorem mgt_mem {l : List (α × β)} (hn : (mks l).Nodup) {a : α} {b : β} : mgt l a = some b ↔ (a, b) ∈ l := by
 induction l with
 | nil => simp [mgt_nil]
 | cons p l ih =>
  obtain ⟨c, d⟩ := p
  unfold mks at hn ih
  simp only [List.map_cons, List.nodup_cons] at hn
  rw [mgt_cons]
  simp only [List.mem_cons, Prod.mk.injEq]
  by_cases h : a = c
  ·subst h
   rw [if_pos rfl]
   constructor
   ·intro e; exact .inl ⟨rfl, (Option.some.inj e).symm⟩
   ·rintro (⟨_, e⟩ | e)
    ·rw [e]
    ·exact absurd (List.mem_map.2 ⟨_, e, rfl⟩) hn.1
  ·rw [if_neg h, ih hn.2]
   simp [h]
theorem mgt_some_mem {l : List (α × β)} {a : α} {b : β} (h : mgt l a = some b) : (a, b) ∈ l := by
 unfold mgt at h
 obtain ⟨p, hp, rfl⟩ := Option.map_eq_some_iff.1 h
 have h1 := List.find?_some hp
 have h2 := List.mem_of_find?_eq_some hp
 simp only [decide_eq_true_eq] at h1
 rw [h1]; exact h2
theorem mks_mpt (l : List (α × β)) (a : α) (b : β) : mks (mpt l a b) = if a ∈ mks l then mks l else mks l ++ [a] := by
 induction l with
 | nil => simp [mpt, mks]
 | cons p l ih =>
  simp only [mpt]
  unfold mks at ih ⊢
  by_cases h : a = p.1
  ·simp [h]
  ·simp only [h, if_false, List.map_cons, ih, List.mem_cons, false_or]
   split <;> simp
theorem mpt_nodup {l : List (α × β)} (h : (mks l).Nodup) (a : α) (b : β) : (mks (mpt l a b)).Nodup := by
 rw [mks_mpt]
 split
 ·exact h
 ·rename_i hn
  rw [List.nodup_append]
  exact ⟨h, by simp, by simp; rintro c hc rfl; exact hn hc⟩
theorem mdl_nodup {l : List (α × β)} (h : (mks l).Nodup) (a : α) : (mks (mdl l a)).Nodup := by
 unfold mks mdl at *
 exact h.sublist (List.filter_sublist.map _)
theorem mks_mdl (l : List (α × β)) (a : α) : mks (mdl l a) = (mks l).filter fun c => !decide (a = c) := by
 unfold mks mdl
 rw [List.filter_map]
 rfl
theorem mpt_new {l : List (α × β)} {a : α} (h : ∀ b, (a, b) ∉ l) (b : β) : mpt l a b = l ++ [(a, b)] := by
 induction l with
 | nil => rfl
 | cons p l ih =>
  simp only [mpt]
  rw [if_neg (fun e => h p.2 (by rw [e]; simp)), ih (fun b hb => h b (by simp [hb]))]
  rfl
theorem mpt_set {l : List (α × β)} (hn : (mks l).Nodup) {a : α} {c : β} {j : Nat} (h : l[j]? = some (a, c)) (b : β) : mpt l a b = l.set j (a, b) := by
 induction l generalizing j with
 | nil => simp at h
 | cons p l ih =>
  unfold mks at hn ih
  simp only [List.map_cons, List.nodup_cons] at hn
  cases j with
  | zero => simp at h; simp [mpt, h]
  | succ j =>
   simp at h
   have hne : a ≠ p.1 := fun e => hn.1 (by rw [← e]; exact List.mem_map.2 ⟨_, List.mem_of_getElem? h, rfl⟩)
   simp only [mpt, if_neg hne, List.set_cons_succ, ih hn.2 h]
end plain
section
variable {P : Program} {w0 : World} {n : Nat} {T : TT} {S : SS}
variable {α β : Type} [DecidableEq α] {f : α → Value} {g : β → Value} {kt et t : TypeId} {ok : α → Prop}
def gmL (f : α → Value) (g : β → Value) (l : List (α × β)) : List (Value × Value) := l.map fun p => (f p.1, g p.2)
structure Keys (P : Program) (kt : TypeId) (f : α → Value) (ok : α → Prop) : Prop where
 law : WideMaps.KeyLaw P kt
 key : ∀ a, ok a → ∃ l, keyOf P kt (f a) = some l
 inj : ∀ a b, f a = f b → a = b
theorem mem_at {S : SS} {j b : Nat} {o : AO} (hk : S[j]? = some [(b, o)]) : (b, o) ∈ S.flatten := List.mem_flatten.2 ⟨_, List.mem_of_getElem? hk, List.mem_singleton.2 rfl⟩
theorem Rep.gmAt {w : World} {b : Nat} {es : List (Value × Value)} (h : Rep w0 S w) (hm : (b, AO.gm es) ∈ S.flatten) :
  w0.heap.size ≤ b ∧ ∃ en clk, w.heap[b]? = some (.map en clk) ∧ en.toList.map (fun e => (e.key, e.val)) = es ∧ (en.toList.map (·.born)).Nodup ∧ (∀ e ∈ en.toList, e.born < clk) ∧ (en.toList.map (·.key)).Nodup := h.own _ hm
theorem gmL_nodup {en : Array MapEntry} {l : List (α × β)} (he : en.toList.map (fun e => (e.key, e.val)) = gmL f g l) (hn : (en.toList.map (·.key)).Nodup) : (mks l).Nodup := by
 have : en.toList.map (·.key) = (mks l).map f := by
  have := congrArg (List.map Prod.fst) he
  unfold gmL at this
  unfold mks
  simpa [Function.comp_def] using this
 rw [this] at hn
 unfold List.Nodup at hn ⊢
 rw [List.pairwise_map] at hn
 exact hn.imp fun h e => h (by rw [e])
theorem gmL_get {en : Array MapEntry} {l : List (α × β)} (he : en.toList.map (fun e => (e.key, e.val)) = gmL f g l) {j : Nat} {e : MapEntry} (h : en.toList[j]? = some e) : ∃ a b, l[j]? = some (a, b) ∧ e.key = f a ∧ e.val = g b := by
 have h1 : (en.toList.map (fun e => (e.key, e.val)))[j]? = some (e.key, e.val) := by simp [h]
 rw [he] at h1
 unfold gmL at h1
 rw [List.getElem?_map, Option.map_eq_some_iff] at h1
 obtain ⟨p, h1, h2⟩ := h1
 exact ⟨p.1, p.2, h1, (congrArg Prod.fst h2).symm, (congrArg Prod.snd h2).symm⟩
theorem Keys.find (K : Keys P kt f ok) {en : Array MapEntry} {l : List (α × β)} (hl : ∀ p ∈ l, ok p.1) (he : en.toList.map (fun e => (e.key, e.val)) = gmL f g l) (a : α) (ha : ok a) (w : World) :
  ((Instr.findKey kt (f a) en.toList).run P w = .ok none w ∧ ∀ b, (a, b) ∉ l) ∨
  ∃ j e b, (Instr.findKey kt (f a) en.toList).run P w = .ok (some (j, e.val)) w ∧ en.toList[j]? = some e ∧ e.key = f a ∧ e.val = g b ∧ l[j]? = some (a, b) := by
 obtain ⟨lx, hx⟩ := K.key a ha
 have hall : ∀ e ∈ en.toList, ∃ l, keyOf P kt e.key = some l := by
  intro e hm
  obtain ⟨j, hj⟩ := List.getElem?_of_mem hm
  obtain ⟨a', _, hq, hk, _⟩ := gmL_get he hj
  rw [hk]
  exact K.key a' (hl _ (List.mem_of_getElem? hq))
 rcases K.law.find w hx en.toList hall with ⟨h1, h2⟩ | ⟨j, e, h1, h2, h3⟩
 ·refine .inl ⟨h1, fun b hb => ?_⟩
  have : (f a, g b) ∈ en.toList.map (fun e => (e.key, e.val)) := by rw [he]; exact List.mem_map.2 ⟨(a, b), hb, rfl⟩
  obtain ⟨e, hm, hk⟩ := List.mem_map.1 this
  exact h2 e hm (congrArg Prod.fst hk)
 ·obtain ⟨a', b, h4, h5, h6⟩ := gmL_get he h2
  obtain rfl := K.inj a' a (by rw [← h5, h3])
  exact .inr ⟨j, e, b, h1, h2, h3, h6, h4⟩
theorem Yields.lenG {x : PV} {b : Nat} {l : List (α × β)} (hx : x.val T = some (.map (some b))) (hk : (b, AO.gm (gmL f g l)) ∈ S.flatten) : Yields P w0 n (.lenM x) T S (.int .i64 l.length) := by
 intro o a w hco hs hr
 obtain ⟨t, kt, vt, c, cl, ho, hca, hat, har, rfl, hu⟩ := cOp_spec P hco
 obtain ⟨_, en, clk, hw, he, _⟩ := hr.gmAt hk
 have hlen : en.size = l.length := by have := congrArg List.length he; simpa [gmL] using this
 simp [execOp, ho, resolve, hca, invoke, builtin, Builtin.len_, hat, har, hs.eval hx, run_underlying hu, goInt, getObj, Sem.run, hw, hlen]
theorem Yields.lookG {m k : Operand} {okc : Bool} {i : TypeInfo} {b : Nat} {l : List (α × β)} {a : α} {z : β} (hu : P.underlying t = some (.map kt et)) (hi : P.info? et = some i) (hz : i.zero = some (g z)) (K : Keys P kt f ok) (hl : ∀ p ∈ l, ok p.1) (ha : ok a)
  (hm : (cV m).val T = some (.map (some b))) (hx : (cV k).val T = some (f a)) (hk : (b, AO.gm (gmL f g l)) ∈ S.flatten) :
  Yields P w0 n (.more (.other (.gen (.lookup t m k okc)))) T S (if okc then .tuple #[g ((mgt l a).getD z), .bool (mgt l a).isSome] else g ((mgt l a).getD z)) := by
 intro o ac w hco hs hr
 have ho : o.op = .lookup t m k okc := cOp_spec P hco
 obtain ⟨_, en, clk, hw, he, hb, hlt, hn⟩ := hr.gmAt hk
 obtain ⟨lx, hlx⟩ := K.key a ha
 have hck := fun bb => K.law.check w bb hlx
 have hg : (getObj b).run P w = .ok (.map en clk) w := by simp [getObj, Sem.run, hw]
 simp only [execOp, ho, hs.eval hm, hs.eval hx, Instr.lookup]
 simp only [Sem.run_bind, run_underlying hu, Result.andThen_ok, hg, Sem.run_pure, hck]
 rcases K.find hl he a ha w with ⟨h1, h2⟩ | ⟨j, e, b', h1, h2, h3, h4, h5⟩
 ·have hget : mgt l a = none := mgt_none.2 fun h => by
   unfold mks at h
   obtain ⟨p, hp, rfl⟩ := List.mem_map.1 h
   exact h2 p.2 hp
  simp only [h1, Result.andThen_ok, hget]
  cases okc <;> simp [zeroValue, typeInfo, program, hi, hz, Sem.run]
 ·have hget : mgt l a = some b' := (mgt_mem (gmL_nodup he hn)).2 (List.mem_of_getElem? h5)
  simp only [h1, Result.andThen_ok, hget, h4]
  cases okc <;> simp
theorem OW.mkG : OW P w0 n .mkM T S (fun v S' => ∃ r, v = .map (some r) ∧ S' = [(r, .gm [])] :: S) := by
 intro op a w Q hco hs hr
 obtain ⟨t, ho⟩ := cOp_spec P hco
 have hrun : (execOp a.eval op).run P w = .ok (.value (.map (some w.heap.size))) (w.alloc (.map #[] 0)) := by
  simp [execOp, ho, Instr.makeMap, newObj, Sem.run]
 unfold Oper.wp
 rw [hrun]
 refine ⟨_, _, rfl, ?_, w.heap.size, rfl, rfl⟩
 refine hr.push (below_alloc hr _) (fun i hi => alloc_heap_lt w _ i hi) (by simp) ?_
 intro p hp
 simp only [List.mem_singleton] at hp
 subst hp
 exact ⟨⟨#[], 0, alloc_heap_new w _, by simp⟩, Nat.le_refl _⟩
theorem OW.mkGr {x : Operand} {j : Int} {q : IntKind} (hu : P.underlying t = some (.map kt et)) (hx : (cV x).val T = some (.int q j)) : OW P w0 n (.more (.other (.gen (.makeMap t (some x))))) T S (fun v S' => ∃ r, v = .map (some r) ∧ S' = [(r, .gm [])] :: S) := by
 intro op a w Q hco hs hr
 have ho : op.op = .makeMap t (some x) := cOp_spec P hco
 have hrun : (execOp a.eval op).run P w = .ok (.value (.map (some w.heap.size))) (w.alloc (.map #[] 0)) := by
  simp [execOp, ho, Instr.makeMap, newObj, Sem.run, hs.eval hx, run_underlying hu, asInt, asIntOf]
 unfold Oper.wp
 rw [hrun]
 refine ⟨_, _, rfl, ?_, w.heap.size, rfl, rfl⟩
 refine hr.push (below_alloc hr _) (fun i hi => alloc_heap_lt w _ i hi) (by simp) ?_
 intro p hp
 simp only [List.mem_singleton] at hp
 subst hp
 exact ⟨⟨#[], 0, alloc_heap_new w _, by simp⟩, Nat.le_refl _⟩
theorem run_setMap {w : World} {b : Nat} {en : Array MapEntry} {clk : Nat} (hw : w.heap[b]? = some (.map en clk)) (o : Obj) : (setObj b o).run P w = .ok () { w with heap := w.heap.setIfInBounds b o } := by
 simp [setObj, Sem.run, hw]
theorem Rep.setAt {w : World} {k b : Nat} {o : AO} {ob : Obj} {o' : AO} (h : Rep w0 S w) (hk : S[k]? = some [(b, o)]) (ho : Owns { w with heap := w.heap.setIfInBounds b ob } b o') : Rep w0 (S.set k [(b, o')]) { w with heap := w.heap.setIfInBounds b ob } := by
 obtain ⟨hge, how⟩ := h.own (b, o) (mem_at hk)
 simp only at hge
 refine h.replace hk ⟨rfl, rfl, rfl, by simp, fun i hi => ?_⟩ (fun i hi hne => ?_) (by simp) ?_
 ·have : b ≠ i := by omega
  simp [Array.getElem?_setIfInBounds_ne this]
 ·have : b ≠ i := by simp at hne; omega
  simp [Array.getElem?_setIfInBounds_ne this]
 ·intro p hp
  simp only [List.mem_singleton] at hp
  subst hp
  exact ⟨hge, ho, .inl (by simp)⟩
theorem keys_set {l : List MapEntry} {j : Nat} {e : MapEntry} (h : l[j]? = some e) (e' : MapEntry) (hk : e'.key = e.key) : (l.set j e').map (·.key) = l.map (·.key) := by
 apply List.ext_getElem?
 intro i
 by_cases he : j = i
 ·subst he
  have hlt := (List.getElem?_eq_some_iff.1 h).1
  rw [List.getElem?_map, List.getElem?_map, List.getElem?_set_self hlt, h]; simp [hk]
 ·simp [List.getElem?_set_ne he]
theorem borns_set {l : List MapEntry} {j : Nat} {e : MapEntry} (h : l[j]? = some e) (e' : MapEntry) (hk : e'.born = e.born) : (l.set j e').map (·.born) = l.map (·.born) := by
 apply List.ext_getElem?
 intro i
 by_cases he : j = i
 ·subst he
  have hlt := (List.getElem?_eq_some_iff.1 h).1
  rw [List.getElem?_map, List.getElem?_map, List.getElem?_set_self hlt, h]; simp [hk]
 ·simp [List.getElem?_set_ne he]
theorem run_updG {w : World} {b : Nat} {l : List (α × β)} {a : α} {v : β} (hu : P.underlying t = some (.map kt et)) (K : Keys P kt f ok) (hl : ∀ p ∈ l, ok p.1) (ha : ok a) {en : Array MapEntry} {clk : Nat} (hw : w.heap[b]? = some (.map en clk)) (he : en.toList.map (fun e => (e.key, e.val)) = gmL f g l)
  (hb : (en.toList.map (·.born)).Nodup) (hlt : ∀ e ∈ en.toList, e.born < clk) (hn : (en.toList.map (·.key)).Nodup) :
  ∃ en' clk', (Instr.mapUpdate t (.map (some b)) (f a) (g v)).run P w = .ok () { w with heap := w.heap.setIfInBounds b (.map en' clk') } ∧ en'.toList.map (fun e => (e.key, e.val)) = gmL f g (mpt l a v) ∧
   (en'.toList.map (·.born)).Nodup ∧ (∀ e ∈ en'.toList, e.born < clk') ∧ (en'.toList.map (·.key)).Nodup := by
 obtain ⟨lx, hlx⟩ := K.key a ha
 have hck := K.law.check w false hlx
 have hst := K.law.stays w hlx
 have hg : (getObj b).run P w = .ok (.map en clk) w := by simp [getObj, Sem.run, hw]
 rcases K.find hl he a ha w with ⟨h1, h2⟩ | ⟨j, e, b', h1, h2, h3, h4, h5⟩
 ·refine ⟨en.push { key := f a, val := g v, born := clk }, clk + 1, ?_, ?_, ?_, ?_, ?_⟩
  ·unfold Instr.mapUpdate
   simp [run_underlying hu, hg, hck, h1, run_setMap hw]
  ·rw [mpt_new h2]; simp [he, gmL]
  ·simp only [Array.toList_push, List.map_append, List.map_cons, List.map_nil]
   rw [List.nodup_append]
   refine ⟨hb, by simp, ?_⟩
   simp only [List.mem_map, List.mem_singleton]
   rintro x ⟨e, he', rfl⟩ y rfl hxy
   have := hlt e he'
   omega
  ·simp only [Array.toList_push, List.mem_append, List.mem_singleton]
   rintro e (h | rfl)
   ·have := hlt e h; omega
   ·exact Nat.lt_succ_self _
  ·simp only [Array.toList_push, List.map_append, List.map_cons, List.map_nil]
   rw [List.nodup_append]
   refine ⟨hn, by simp, ?_⟩
   simp only [List.mem_map, List.mem_singleton]
   rintro x ⟨e, he', rfl⟩ y rfl hxy
   obtain ⟨i, hi⟩ := List.getElem?_of_mem he'
   obtain ⟨a', b', q1, q2, q3⟩ := gmL_get he hi
   obtain rfl := K.inj a' a (by rw [← q2, hxy])
   exact h2 b' (List.mem_of_getElem? q1)
 ·have hlj : j < en.toList.length := (List.getElem?_eq_some_iff.1 h2).1
  have hmod : (en.modify j fun e => { e with key := f a, val := g v }).toList = en.toList.set j { e with key := f a, val := g v } := by
   apply List.ext_getElem?
   intro i
   by_cases hi : j = i
   ·subst hi
    have hlj' : j < en.size := by simpa using hlj
    have h2' : en[j] = e := by have := h2; simp [hlj'] at this; exact this
    simp [Array.getElem?_modify, List.getElem?_set_self hlj, hlj', h2']
   ·simp [Array.getElem?_modify, hi, List.getElem?_set_ne hi]
  refine ⟨en.modify j fun e => { e with key := f a, val := g v }, clk, ?_, ?_, ?_, ?_, ?_⟩
  ·have hkey : ((en[j]?).map (·.key)).getD (f a) = f a := by
    have : en[j]? = some e := by simpa using h2
    simp [this, h3]
   unfold Instr.mapUpdate
   simp [run_underlying hu, hg, hck, h1, hkey, hst, run_setMap hw]
  ·rw [hmod, mpt_set (gmL_nodup he hn) h5, List.map_set, he]
   unfold gmL
   rw [List.map_set]
  ·rw [hmod, borns_set h2 _ (by rfl)]; exact hb
  ·rw [hmod]
   intro x hx
   rcases List.mem_or_eq_of_mem_set hx with h | rfl
   ·exact hlt x h
   ·exact hlt e (List.mem_of_getElem? h2)
  ·rw [hmod, keys_set h2 _ (by simpa using h3.symm)]; exact hn
theorem OW.updG {m k x : Operand} {b j : Nat} {l : List (α × β)} {a : α} {v : β} (hu : P.underlying t = some (.map kt et)) (K : Keys P kt f ok) (hl : ∀ p ∈ l, ok p.1) (ha : ok a) (hm : (cV m).val T = some (.map (some b))) (hx : (cV k).val T = some (f a)) (hv : (cV x).val T = some (g v))
  (hk : S[j]? = some [(b, AO.gm (gmL f g l))]) : OW P w0 n (.more (.other (.gen (.mapUpdate t m k x)))) T S (fun _ S' => S' = S.set j [(b, .gm (gmL f g (mpt l a v)))]) := by
 intro op ac w Q hco hs hr
 have ho : op.op = .mapUpdate t m k x := cOp_spec P hco
 obtain ⟨hge, en, clk, hw, he, hb, hlt, hn⟩ := hr.gmAt (mem_at hk)
 obtain ⟨en', clk', hrun, h1, h2, h3, h4⟩ := run_updG (a := a) (v := v) hu K hl ha hw he hb hlt hn
 unfold Oper.wp
 have hrun2 : (execOp ac.eval op).run P w = .ok .skip { w with heap := w.heap.setIfInBounds b (.map en' clk') } := by
  simp [execOp, ho, hs.eval hm, hs.eval hx, hs.eval hv, hrun]
 rw [hrun2]
 refine ⟨undef, _, rfl, ?_, rfl⟩
 have hlb : b < w.heap.size := (Array.getElem?_eq_some_iff.1 hw).1
 exact hr.setAt hk ⟨en', clk', by simp [hlb], h1, h2, h3, h4⟩
theorem OW.insG {m k x : Operand} {b j : Nat} {l : List (α × β)} {a : α} {v : β} (hu : P.underlying t = some (.map kt et)) (K : Keys P kt f ok) (hl : ∀ p ∈ l, ok p.1) (ha : ok a) (hm : (cV m).val T = some (.map (some b))) (hx : (cV k).val T = some (f a)) (hv : (cV x).val T = some (g v))
  (hk : S[j]? = some [(b, AO.gm (gmL f g l))]) : OW P w0 n (.more (.other (.gen (.insert t m k x)))) T S (fun _ S' => S' = S.set j [(b, .gm (gmL f g (mpt l a v)))]) := by
 intro op ac w Q hco hs hr
 have ho : op.op = .insert t m k x := cOp_spec P hco
 obtain ⟨hge, en, clk, hw, he, hb, hlt, hn⟩ := hr.gmAt (mem_at hk)
 obtain ⟨en', clk', hrun, h1, h2, h3, h4⟩ := run_updG (a := a) (v := v) hu K hl ha hw he hb hlt hn
 unfold Oper.wp
 have hrun2 : (execOp ac.eval op).run P w = .ok .skip { w with heap := w.heap.setIfInBounds b (.map en' clk') } := by
  simp [execOp, ho, hs.eval hm, hs.eval hx, hs.eval hv, hrun]
 rw [hrun2]
 refine ⟨undef, _, rfl, ?_, rfl⟩
 have hlb : b < w.heap.size := (Array.getElem?_eq_some_iff.1 hw).1
 exact hr.setAt hk ⟨en', clk', by simp [hlb], h1, h2, h3, h4⟩
def It (f : α → Value) (g : β → Value) (en : Array MapEntry) (seen : Array Nat) (l done rest : List (α × β)) : Prop :=
 (done ++ rest).Perm l ∧ ∃ D R : List MapEntry, seen.toList = D.map (·.born) ∧ (D ++ R).Perm en.toList ∧ D.map (fun e => (e.key, e.val)) = gmL f g done ∧ R.map (fun e => (e.key, e.val)) = gmL f g rest
structure Opened (f : α → Value) (g : β → Value) (en : Array MapEntry) (clk : Nat) (l : List (α × β)) : Prop where
 es : en.toList.map (fun e => (e.key, e.val)) = gmL f g l
 born : (en.toList.map (·.born)).Nodup
 lt : ∀ e ∈ en.toList, e.born < clk
 keys : (en.toList.map (·.key)).Nodup
theorem OW.rngG {m : Operand} {b j : Nat} {l : List (α × β)} (hu : P.underlying t = some (.map kt et)) (hm : (cV m).val T = some (.map (some b))) (hk : S[j]? = some [(b, AO.gm (gmL f g l))]) :
  OW P w0 n (.more (.other (.gen (.range t m)))) T S (fun v S' => ∃ r en clk, v = .pointer (some ⟨r, 0, none⟩) ∧ Opened f g en clk l ∧ It f g en #[] l [] l ∧ S' = [(r, .obj (.mapIter (some b) clk #[] clk))] :: S.set j [(b, .obj (.map en clk))]) := by
 intro op ac w Q hco hs hr
 have ho : op.op = .range t m := cOp_spec P hco
 obtain ⟨hge, en, clk, hw, he, hb, hlt, hn⟩ := hr.gmAt (mem_at hk)
 have hg : (getObj b).run P w = .ok (.map en clk) w := by simp [getObj, Sem.run, hw]
 unfold Oper.wp
 have hrun : (execOp ac.eval op).run P w = .ok (.value (.pointer (some ⟨w.heap.size, 0, none⟩))) (w.alloc (.mapIter (some b) clk #[] clk)) := by
  simp [execOp, ho, hs.eval hm, Instr.range, run_underlying hu, hg, newObj, Sem.run]
 rw [hrun]
 have hr2 : Rep w0 (S.set j [(b, .obj (.map en clk))]) w := hr.replace hk (Below.refl _ _) (fun _ _ _ => rfl) (by simp) (by
  intro p hp
  simp only [List.mem_singleton] at hp
  subst hp
  exact ⟨hge, hw, .inl (by simp)⟩)
 refine ⟨_, _, rfl, hr2.allocObj _, w.heap.size, en, clk, rfl, ⟨he, hb, hlt, hn⟩, ⟨by simp, [], en.toList, by simp, by simp, by simp [gmL], he⟩, rfl⟩
theorem perm_take {γ : Type} {D R L : List γ} {i : Nat} {x : γ} (h : R[i]? = some x) (hp : (D ++ R).Perm L) : ((D ++ [x]) ++ R.eraseIdx i).Perm L := by
 refine List.Perm.trans ?_ hp
 rw [List.append_assoc]
 refine List.Perm.append_left D ?_
 have hlt := (List.getElem?_eq_some_iff.1 h).1
 have hx : R[i] = x := by rw [List.getElem?_eq_getElem hlt] at h; exact Option.some.inj h
 have : R = R.take i ++ x :: R.drop (i + 1) := by rw [← hx]; simp
 have e : R.eraseIdx i = R.take i ++ R.drop (i + 1) := List.eraseIdx_eq_take_drop_succ ..
 rw [e]
 calc [x] ++ (R.take i ++ R.drop (i + 1)) = x :: (R.take i ++ R.drop (i + 1)) := rfl
  List.Perm _ (R.take i ++ x :: R.drop (i + 1)) := (List.perm_middle).symm
  List.Perm _ R := by rw [← this]
theorem OW.nxtG {it : Operand} {b r j clk : Nat} {en : Array MapEntry} {seen : Array Nat} {l done rest : List (α × β)} (ht : (cV it).val T = some (.pointer (some ⟨r, 0, none⟩))) (hk : S[j]? = some [(r, AO.obj (.mapIter (some b) clk seen clk))])
  (hm : (b, AO.obj (.map en clk)) ∈ S.flatten) (ho : Opened f g en clk l) (hi : It f g en seen l done rest) :
  OW P w0 n (.more (.other (.gen (.next it false)))) T S (fun v S' => (rest = [] ∧ v = .tuple #[.bool false] ∧ S' = S) ∨
   ∃ (i : Nat) (p : α × β) (q : Nat), rest[i]? = some p ∧ v = .tuple #[.bool true, f p.1, g p.2] ∧ It f g en (seen.push q) l (done ++ [p]) (rest.eraseIdx i) ∧ S' = S.set j [(r, .obj (.mapIter (some b) clk (seen.push q) clk))]) := by
 intro op ac w Q hco hs hr
 have hop : op.op = .next it false := cOp_spec P hco
 obtain ⟨hge, hw⟩ := hr.own _ hm
 obtain ⟨hge2, hw2⟩ := hr.own (r, AO.obj (.mapIter (some b) clk seen clk)) (mem_at hk)
 simp only [Owns] at hw hw2
 obtain ⟨hperm, D, R, hseen, hDR, hD, hR⟩ := hi
 have hbn : ((D ++ R).map (·.born)).Nodup := (hDR.map _).nodup_iff.2 ho.born
 have hleft : ∀ e, e ∈ (leftOf en seen).toList ↔ e ∈ R := by
  intro e
  unfold leftOf
  simp only [Array.toList_filter, List.mem_filter, Bool.not_eq_true', Array.contains_eq_mem, decide_eq_false_iff_not, ← Array.mem_toList_iff, hseen]
  constructor
  ·rintro ⟨h1, h2⟩
   rcases List.mem_append.1 (hDR.mem_iff.2 h1) with h | h
   ·exact absurd (List.mem_map.2 ⟨e, h, rfl⟩) h2
   ·exact h
  ·intro h
   refine ⟨hDR.mem_iff.1 (by simp [h]), fun h2 => ?_⟩
   obtain ⟨e', h3, h4⟩ := List.mem_map.1 h2
   rw [List.map_append, List.nodup_append] at hbn
   exact hbn.2.2 _ (List.mem_map.2 ⟨e', h3, rfl⟩) _ (List.mem_map.2 ⟨e, h, rfl⟩) h4
 have hnx := run_next_at (P := P) w op.type r b clk clk seen en clk hw2 hw ho.lt (Nat.le_refl _)
 unfold Oper.wp
 rcases hnx with ⟨h0, hrun⟩ | ⟨e, he, w1, hw1, hrun⟩
 ·have hrun2 : (execOp ac.eval op).run P w = .ok (.value (.tuple #[.bool false])) w := by
   simp [execOp, hop, hs.eval ht, hrun]
  rw [hrun2]
  refine ⟨_, _, rfl, hr, .inl ⟨?_, rfl, rfl⟩⟩
  have hR0 : R = [] := by
   cases hRR : R with
   | nil => rfl
   | cons x R' =>
    exfalso
    have := (hleft x).2 (by rw [hRR]; simp)
    have h2 : (leftOf en seen) = #[] := Array.eq_empty_of_size_eq_zero h0
    rw [h2] at this
    simp at this
  rw [hR0] at hR
  cases rest with
  | nil => rfl
  | cons x r' => simp [gmL] at hR
 ·have heR := (hleft e).1 he
  obtain ⟨i, hRi⟩ := List.getElem?_of_mem heR
  have h1 : (R.map (fun e => (e.key, e.val)))[i]? = some (e.key, e.val) := by simp [hRi]
  rw [hR] at h1
  unfold gmL at h1
  rw [List.getElem?_map, Option.map_eq_some_iff] at h1
  obtain ⟨p, hp, hkv⟩ := h1
  have hke : e.key = f p.1 := (congrArg Prod.fst hkv).symm
  have hve : e.val = g p.2 := (congrArg Prod.snd hkv).symm
  have hrun2 : (execOp ac.eval op).run P w = .ok (.value (.tuple #[.bool true, f p.1, g p.2])) (ChangeMaps.setBlock w1 r (.mapIter (some b) clk (seen.push e.born) clk)) := by
   simp [execOp, hop, hs.eval ht, hrun, hke, hve]
  rw [hrun2]
  have hr1 : Rep w0 S w1 := by
   rcases hw1 with rfl | rfl
   ·exact hr
   ·exact hr.same ⟨rfl, rfl, rfl, Nat.le_refl _, fun _ _ => rfl⟩ (fun _ _ => rfl)
  have hlr : r < w1.heap.size := hr1.lt (p := (r, AO.obj (.mapIter (some b) clk seen clk))) (mem_at hk)
  refine ⟨_, _, rfl, hr1.setAt (ob := .mapIter (some b) clk (seen.push e.born) clk) (o' := .obj (.mapIter (some b) clk (seen.push e.born) clk)) hk (by simp [Owns, hlr]), .inr ⟨i, p, e.born, hp, rfl, ?_, rfl⟩⟩
  refine ⟨perm_take hp hperm, D ++ [e], R.eraseIdx i, by simp [hseen], perm_take hRi hDR, ?_, ?_⟩
  ·rw [List.map_append, hD]; simp [gmL, hke, hve]
  ·rw [map_eraseIdx, hR]; unfold gmL; rw [map_eraseIdx]
theorem Yields.entG {it : Operand} {b r clk q : Nat} {en : Array MapEntry} {seen : Array Nat} {l done rest : List (α × β)} {p : α × β} (ht : (cV it).val T = some (.pointer (some ⟨r, 0, none⟩))) (hk : (r, AO.obj (.mapIter (some b) clk (seen.push q) clk)) ∈ S.flatten)
  (hm : (b, AO.obj (.map en clk)) ∈ S.flatten) (ho : Opened f g en clk l) (hi : It f g en (seen.push q) l (done ++ [p]) rest) :
  Yields P w0 n (.more (.other (.gen (.entry it)))) T S (.tuple #[f p.1, g p.2]) := by
 intro o ac w hco hs hr
 have hop : o.op = .entry it := cOp_spec P hco
 obtain ⟨hge, hw⟩ := hr.own _ hm
 obtain ⟨hge2, hw2⟩ := hr.own _ hk
 simp only [Owns] at hw hw2
 obtain ⟨hperm, D, R, hseen, hDR, hD, hR⟩ := hi
 have hDne : D ≠ [] := by rintro rfl; simp [gmL] at hD
 obtain ⟨D', e, rfl⟩ : ∃ D' e, D = D' ++ [e] := ⟨D.dropLast, D.getLast hDne, (List.dropLast_concat_getLast hDne).symm⟩
 have hDl := hD
 rw [gmL, List.map_append, List.map_append] at hDl
 have hlast := (List.append_inj' hDl rfl).2
 simp only [List.map_cons, List.map_nil, List.cons.injEq, Prod.mk.injEq, and_true] at hlast
 have hq : q = e.born := by
  have := hseen
  simp only [Array.toList_push, List.map_append, List.map_cons, List.map_nil] at this
  have h2 := (List.append_inj' this rfl).2
  simpa using h2
 subst hq
 have hem : e ∈ en.toList := hDR.mem_iff.1 (by simp)
 have := run_entry_at (P := P) w r b clk seen en clk e hw2 hw hem ho.born
 simp [execOp, hop, hs.eval ht, this, hlast.1, hlast.2]
theorem It.perm {en : Array MapEntry} {seen : Array Nat} {l done rest : List (α × β)} (h : It f g en seen l done rest) : (done ++ rest).Perm l := h.1
theorem Rep.tell {w : World} {k b : Nat} {o o' : AO} (h : Rep w0 S w) (hk : S[k]? = some [(b, o)]) (ho : ∀ w, Owns w b o → Owns w b o') : Rep w0 (S.set k [(b, o')]) w := by
 obtain ⟨hge, how⟩ := h.own (b, o) (mem_at hk)
 refine h.replace hk (Below.refl _ _) (fun _ _ _ => rfl) (by simp) (by
  intro p hp
  simp only [List.mem_singleton] at hp
  subst hp
  exact ⟨hge, ho _ how, .inl (by simp)⟩)
theorem Opened.close {en : Array MapEntry} {clk : Nat} {l : List (α × β)} (h : Opened f g en clk l) (b : Nat) (w : World) (hw : Owns w b (.obj (.map en clk))) : Owns w b (.gm (gmL f g l)) := ⟨en, clk, hw, h.es, h.born, h.lt, h.keys⟩
theorem OL.tell {l : List PI} {k b : Nat} {o o' : AO} {K : TT → SS → Prop} (hk : S[k]? = some [(b, o)]) (ho : ∀ w, Owns w b o → Owns w b o') (h : OL P w0 n l T (S.set k [(b, o')]) K) : OL P w0 n l T S K :=
 fun ops is a w Q hc hs hr hq => h ops is a w Q hc hs (hr.tell hk ho) hq
theorem Opened.gm {en : Array MapEntry} {clk : Nat} {l : List (α × β)} (h : Opened f g en clk l) {b : Nat} {w : World} (hw : w.heap[b]? = some (.map en clk)) : Owns w b (.gm (gmL f g l)) := ⟨en, clk, hw, h.es, h.born, h.lt, h.keys⟩
def entL (l : List (α × β)) (a : α) (z : β) : List (α × β) := mpt l a ((mgt l a).getD z)
theorem mpt_idem {l : List (α × β)} {a : α} {b : β} (h : mgt l a = some b) : mpt l a b = l := by
 induction l with
 | nil => simp [mgt_nil] at h
 | cons p l ih =>
  rw [mgt_cons] at h
  unfold mpt
  split
  ·rename_i e
   rw [if_pos e] at h
   rw [e, ← Option.some.inj h]
  ·rename_i e
   rw [if_neg e] at h
   rw [ih h]
theorem OW.entry {m k : Operand} {i : TypeInfo} {b j : Nat} {l : List (α × β)} {a : α} {z : β} (hu : P.underlying t = some (.map kt et)) (hi : P.info? et = some i) (hz : i.zero = some (g z)) (K : Keys P kt f ok) (hl : ∀ p ∈ l, ok p.1) (ha : ok a)
  (hm : (cV m).val T = some (.map (some b))) (hx : (cV k).val T = some (f a)) (hk : S[j]? = some [(b, AO.gm (gmL f g l))]) :
  OW P w0 n (.more (.other (.gen (.mapEntry t m k)))) T S (fun v S' => ∃ (en : Array MapEntry) (clk q : Nat) (e : MapEntry), v = .tuple #[g ((mgt l a).getD z), .int .i64 (q : Int)] ∧ Opened f g en clk (entL l a z) ∧ e ∈ en.toList ∧ e.born = q ∧ e.key = f a ∧ S' = S.set j [(b, .obj (.map en clk))]) := by
 intro op ac w Q hco hs hr
 have ho : op.op = .mapEntry t m k := cOp_spec P hco
 obtain ⟨hge, en, clk, hw, he, hb, hlt, hn⟩ := hr.gmAt (mem_at hk)
 obtain ⟨lx, hlx⟩ := K.key a ha
 have hck := K.law.check w false hlx
 have hst := K.law.stays w hlx
 have hg : (getObj b).run P w = .ok (.map en clk) w := by simp [getObj, Sem.run, hw]
 have hlb : b < w.heap.size := (Array.getElem?_eq_some_iff.1 hw).1
 unfold Oper.wp
 rcases K.find hl he a ha w with ⟨h1, h2⟩ | ⟨i', e, b', h1, h2, h3, h4, h5⟩
 ·have hget : mgt l a = none := mgt_none.2 fun h => by
   unfold mks at h
   obtain ⟨p, hp, rfl⟩ := List.mem_map.1 h
   exact h2 p.2 hp
  have hrun : (execOp ac.eval op).run P w = .ok (.value (.tuple #[g z, .int .i64 (clk : Int)])) { w with heap := w.heap.setIfInBounds b (.map (en.push { key := f a, val := g z, born := clk }) (clk + 1)) } := by
   simp [execOp, ho, hs.eval hm, hs.eval hx, Instr.mapEntry, run_underlying hu, hg, hck, h1, run_setMap hw, zeroValue, typeInfo, program, Sem.run, hi, hz, goInt]
  rw [hrun]
  refine ⟨_, _, rfl, hr.setAt hk (o' := .obj (.map (en.push { key := f a, val := g z, born := clk }) (clk + 1))) (by simp [Owns, hlb]), _, clk + 1, clk, { key := f a, val := g z, born := clk }, by rw [hget]; rfl, ⟨?_, ?_, ?_, ?_⟩, by simp, rfl, rfl, rfl⟩
  ·unfold entL
   rw [hget, mpt_new h2]; simp [he, gmL]
  ·simp only [Array.toList_push, List.map_append, List.map_cons, List.map_nil]
   rw [List.nodup_append]
   refine ⟨hb, by simp, ?_⟩
   simp only [List.mem_map, List.mem_singleton]
   rintro x ⟨e, he', rfl⟩ y rfl hxy
   have := hlt e he'
   omega
  ·simp only [Array.toList_push, List.mem_append, List.mem_singleton]
   rintro e (h | rfl)
   ·have := hlt e h; omega
   ·exact Nat.lt_succ_self _
  ·simp only [Array.toList_push, List.map_append, List.map_cons, List.map_nil]
   rw [List.nodup_append]
   refine ⟨hn, by simp, ?_⟩
   simp only [List.mem_map, List.mem_singleton]
   rintro x ⟨e, he', rfl⟩ y rfl hxy
   obtain ⟨i, hi⟩ := List.getElem?_of_mem he'
   obtain ⟨a', b', q1, q2, q3⟩ := gmL_get he hi
   obtain rfl := K.inj a' a (by rw [← q2, hxy])
   exact h2 b' (List.mem_of_getElem? q1)
 ·have hget : mgt l a = some b' := (mgt_mem (gmL_nodup he hn)).2 (List.mem_of_getElem? h5)
  have h2' : en[i']? = some e := by simpa using h2
  have hsame : en.modify i' (fun e => { e with key := f a }) = en := by
   apply Array.ext'
   apply List.ext_getElem?
   intro x
   rw [Array.getElem?_toList, Array.getElem?_toList, Array.getElem?_modify]
   split
   ·rename_i hx; subst hx
    rw [h2']
    simp only [Option.map_some]
    rw [← h3]
   ·rfl
  have hrun : (execOp ac.eval op).run P w = .ok (.value (.tuple #[e.val, .int .i64 (e.born : Int)])) { w with heap := w.heap.setIfInBounds b (.map en clk) } := by
   simp [execOp, ho, hs.eval hm, hs.eval hx, Instr.mapEntry, run_underlying hu, hg, hck, h1, h2', h3, hst, hsame, run_setMap hw, goInt]
  rw [hrun]
  refine ⟨_, _, rfl, hr.setAt hk (o' := .obj (.map en clk)) (by simp [Owns, hlb]), en, clk, e.born, e, by rw [hget, h4]; rfl, ?_, List.mem_of_getElem? h2, rfl, h3, rfl⟩
  unfold entL
  rw [hget, Option.getD_some, mpt_idem hget]
  exact ⟨he, hb, hlt, hn⟩
theorem OW.store {m k x : Operand} {b j q clk : Nat} {en : Array MapEntry} {e : MapEntry} {l : List (α × β)} {a : α} {v : β} (hinj : ∀ a b, f a = f b → a = b) (hm : (cV m).val T = some (.map (some b))) (hx : (cV k).val T = some (.int .i64 (q : Int))) (hv : (cV x).val T = some (g v))
  (ho : Opened f g en clk l) (hee : e ∈ en.toList) (heb : e.born = q) (hek : e.key = f a) (hk : S[j]? = some [(b, AO.obj (.map en clk))]) :
  OW P w0 n (.more (.other (.gen (.entryStore t m k x)))) T S (fun _ S' => S' = S.set j [(b, .gm (gmL f g (mpt l a v)))]) := by
 intro op ac w Q hco hs hr
 have hop : op.op = .entryStore t m k x := cOp_spec P hco
 obtain ⟨hge, hw⟩ := hr.own _ (mem_at hk)
 simp only [Owns] at hw
 have hg : (getObj b).run P w = .ok (.map en clk) w := by simp [getObj, Sem.run, hw]
 have hlb : b < w.heap.size := (Array.getElem?_eq_some_iff.1 hw).1
 obtain ⟨i, hi⟩ := List.getElem?_of_mem hee
 have hil := (List.getElem?_eq_some_iff.1 hi).1
 obtain ⟨a', b', q1, q2, q3⟩ := gmL_get ho.es hi
 obtain rfl := hinj a' a (by rw [← q2, hek])
 have hfi : en.findIdx? (fun e => (e.born : Int) == (q : Int)) = some i := by
  rw [Array.findIdx?_eq_some_iff_getElem]
  obtain ⟨h1, h2⟩ := List.getElem?_eq_some_iff.1 hi
  have h2' : en[i]'(by simpa using h1) = e := by simpa using h2
  refine ⟨by simpa using h1, by rw [h2', heb]; simp, fun x hx => ?_⟩
  have hxl : x < en.toList.length := by omega
  have hne : (en.toList.map (·.born))[x]'(by simpa using hxl) ≠ (en.toList.map (·.born))[i]'(by simpa using h1) := fun e => by
   have := (List.getElem_inj ho.born).1 e
   omega
  have hxe : en[x] = en.toList[x] := by simp
  simp only [List.getElem_map, h2, heb] at hne
  simp only [beq_iff_eq, Bool.not_eq_true, beq_eq_false_iff_ne, ne_eq]
  rw [hxe]
  omega
 have hmod : (en.modify i fun e => { e with val := g v }).toList = en.toList.set i { e with val := g v } := by
  apply List.ext_getElem?
  intro x
  by_cases hx : i = x
  ·subst hx
   have hlj' : i < en.size := by simpa using hil
   have h2' : en[i] = e := by have := hi; simp [hlj'] at this; exact this
   simp [Array.getElem?_modify, List.getElem?_set_self hil, hlj', h2']
  ·simp [Array.getElem?_modify, hx, List.getElem?_set_ne hx]
 unfold Oper.wp
 have hrun : (execOp ac.eval op).run P w = .ok .skip { w with heap := w.heap.setIfInBounds b (.map (en.modify i fun e => { e with val := g v }) clk) } := by
  simp [execOp, hop, hs.eval hm, hs.eval hx, hs.eval hv, Instr.entryStore, hg, asInt, asIntOf, hfi, run_setMap hw]
 rw [hrun]
 refine ⟨undef, _, rfl, ?_, rfl⟩
 refine hr.setAt hk ⟨_, clk, by simp [hlb]; rfl, ?_, ?_, ?_, ?_⟩
 ·rw [hmod, mpt_set (gmL_nodup ho.es ho.keys) q1, List.map_set, ho.es]
  unfold gmL
  rw [List.map_set, ← q2]
 ·rw [hmod, borns_set hi _ (by rfl)]; exact ho.born
 ·rw [hmod]
  intro x hx
  rcases List.mem_or_eq_of_mem_set hx with h | rfl
  ·exact ho.lt x h
  ·exact ho.lt e hee
 ·rw [hmod, keys_set hi _ (by rfl)]; exact ho.keys
theorem Yields.lookO {m k : Operand} {okc : Bool} {i : TypeInfo} {b clk : Nat} {en : Array MapEntry} {l : List (α × β)} {a : α} {z : β} (hu : P.underlying t = some (.map kt et)) (hi : P.info? et = some i) (hz : i.zero = some (g z)) (K : Keys P kt f ok) (hl : ∀ p ∈ l, ok p.1) (ha : ok a)
  (hm : (cV m).val T = some (.map (some b))) (hx : (cV k).val T = some (f a)) (ho : Opened f g en clk l) (hk : (b, AO.obj (.map en clk)) ∈ S.flatten) :
  Yields P w0 n (.more (.other (.gen (.lookup t m k okc)))) T S (if okc then .tuple #[g ((mgt l a).getD z), .bool (mgt l a).isSome] else g ((mgt l a).getD z)) := by
 intro o ac w hco hs hr
 have hop : o.op = .lookup t m k okc := cOp_spec P hco
 obtain ⟨hge, hw⟩ := hr.own _ hk
 simp only [Owns] at hw
 obtain ⟨lx, hlx⟩ := K.key a ha
 have hck := fun bb => K.law.check w bb hlx
 have hg : (getObj b).run P w = .ok (.map en clk) w := by simp [getObj, Sem.run, hw]
 simp only [execOp, hop, hs.eval hm, hs.eval hx, Instr.lookup]
 simp only [Sem.run_bind, run_underlying hu, Result.andThen_ok, hg, Sem.run_pure, hck]
 rcases K.find hl ho.es a ha w with ⟨h1, h2⟩ | ⟨j, e, b', h1, h2, h3, h4, h5⟩
 ·have hget : mgt l a = none := mgt_none.2 fun h => by
   unfold mks at h
   obtain ⟨p, hp, rfl⟩ := List.mem_map.1 h
   exact h2 p.2 hp
  simp only [h1, Result.andThen_ok, hget]
  cases okc <;> simp [zeroValue, typeInfo, program, hi, hz, Sem.run]
 ·have hget : mgt l a = some b' := (mgt_mem (gmL_nodup ho.es ho.keys)).2 (List.mem_of_getElem? h5)
  simp only [h1, Result.andThen_ok, hget, h4]
  cases okc <;> simp
theorem Yields.tas {x : Operand} {u : TypeId} {d : TypeDesc} {ok : Bool} {v : Value} (hx : (cV x).val T = some (.iface t v)) (hu : P.underlying t = some d) (hd : ∀ ms, d ≠ .interface ms) :
  Yields P w0 n (.more (.other (.gen (.typeAssert x u t ok)))) T S (if ok then .tuple #[v, .bool true] else v) := by
 intro o ac w hco hs hr
 have hop : o.op = .typeAssert x u t ok := cOp_spec P hco
 have : (Instr.typeAssert (.iface t v) u t ok).run P w = .ok (if ok then .tuple #[v, .bool true] else v) w := by
  unfold Instr.typeAssert
  simp only [Sem.run_bind, run_underlying hu, Result.andThen_ok]
  cases d <;> (first | (cases ok <;> simp; done) | exact absurd rfl (hd _))
 simp [execOp, hop, hs.eval hx, this]
theorem OW.inv {recv : Operand} {name : String} {args : Array Operand} {ts : Array TypeId} {k : FuncId} {v rv : Value} {vs : List Value} {post : Value → SS → Prop} (hx : (cV recv).val T = some (.iface t v)) (hv : valsP T (args.toList.map cV) = some vs)
  (hm : ∀ w, Rep w0 S w → (method (P.types.size + Made.depth) t v name).run P w = .ok (k, rv) w) (hok : fnOk P k = true) (h : FC P w0 k (rv :: vs) S post) :
  OW P w0 n (.more (.other (.gen (.call { callee := .invoke recv name, args := args, argTypes := ts })))) T S post := by
 intro op ac w Q hco hs hr
 have hop : op.op = .call { callee := .invoke recv name, args := args, argTypes := ts } := cOp_spec P hco
 have hargs : args.map ac.eval = vs.toArray := by
  have := valsP_spec hs hv
  rw [← this, ← Array.toArray_toList (xs := args.map ac.eval), Array.toList_map]
 have hrun : (execOp ac.eval op).run P w = .ok (.enter k (rv :: vs).toArray) w := by
  unfold fnOk at hok
  split at hok
  ·rename_i fn hfn
   simp only [Bool.and_eq_true, bne_iff_ne, ne_eq] at hok
   have hb : ¬ fn.body = none := by intro hh; simp [hh] at hok
   have hex : (#[(Value.iface t v)] ++ vs.toArray).extract 1 (#[(Value.iface t v)] ++ vs.toArray).size = vs.toArray := by
    apply Array.toList_inj.1
    simp
   simp only [execOp, hop, resolve, hs.eval hx, hargs]
   simp only [Sem.run_bind, Sem.run_pure, Result.andThen_ok, invoke]
   have h0 : (#[(Value.iface t v)] ++ vs.toArray)[0]? = some (.iface t v) := by simp
   simp only [h0, hex, callMethod, Sem.run_bind, program, Sem.run, Result.andThen_ok, hm w hr]
   simp [callFunc, program, Sem.run, hfn, hok.1, hb]
  ·simp at hok
 unfold Oper.wp
 rw [hrun]
 refine (h w hr).mono ?_
 rintro e w' ⟨v, S', rfl, hr', hp⟩
 exact ⟨v, S', rfl, hr', hp⟩
end
end Go.SL

namespace Go.SL
open Go.RowKit
section
variable {P : Program} {w0 : World} {n : Nat} {T : TT} {S : SS}
abbrev HL := List (Nat × PI × TT)
inductive QM (P : Program) (w0 : World) (n : Nat) (Ss : SS → Prop) : Nat → List PI → TT → TT → List Value → HL → Prop
  | nil {i : Nat} {T : TT} : QM P w0 n Ss i [] T T [] []
  | step {i : Nat} {T T' : TT} {d : Option Nat} {g : Option (Nat × Bool)} {po : PO} {v : Value} {r : List PI} {vs : List Value} {hs : HL} (hg : gOk T g) (h : ∀ S, Ss S → OW P w0 n po T S (fun v' S' => v' = v ∧ S' = S)) (k : QM P w0 n Ss (i + 1) r (put d v T) T' vs hs) : QM P w0 n Ss i (⟨d, g, po⟩ :: r) T T' (v :: vs) hs
  | off {i : Nat} {T T' : TT} {d : Option Nat} {s : Nat} {b : Bool} {u : Value} {po : PO} {r : List PI} {vs : List Value} {hs : HL} (hl : look T s = some u) (hc : (boolOf u == some b) = false) (k : QM P w0 n Ss (i + 1) r (put d undef T) T' vs hs) : QM P w0 n Ss i (⟨d, some (s, b), po⟩ :: r) T T' (undef :: vs) hs
  | hole {i : Nat} {T T' : TT} {c : PI} {r : List PI} {vs : List Value} {hs : HL} (k : QM P w0 n Ss (i + 1) r (SL.del c.d T) T' vs hs) : QM P w0 n Ss i (c :: r) T T' (undef :: vs) ((i, c, T) :: hs)
theorem QM.lt {Ss : SS → Prop} {l : List PI} {T T' : TT} {vals : List Value} {hs : HL} {s : Nat} (h : QM P w0 n Ss s l T T' vals hs) : vals.length = l.length ∧ (∀ x ∈ hs, s ≤ x.1 ∧ x.1 < s + l.length ∧ l[x.1 - s]? = some x.2.1) ∧ (hs.map (·.1)).Pairwise (· < ·) := by
  induction h with
  | nil => simp
  | @step i T T' d g po v r vs hs hg h k ih =>
    obtain ⟨h1, h2, h3⟩ := ih
    refine ⟨by simp [h1], fun x hx => ?_, h3⟩
    obtain ⟨a, b, c⟩ := h2 x hx
    refine ⟨by omega, by simp only [List.length_cons]; omega, ?_⟩
    rw [show x.1 - i = (x.1 - (i + 1)) + 1 by omega, List.getElem?_cons_succ]; exact c
  | @off i T T' d s b u po r vs hs hl hc k ih =>
    obtain ⟨h1, h2, h3⟩ := ih
    refine ⟨by simp [h1], fun x hx => ?_, h3⟩
    obtain ⟨a, b, c⟩ := h2 x hx
    refine ⟨by omega, by simp only [List.length_cons]; omega, ?_⟩
    rw [show x.1 - i = (x.1 - (i + 1)) + 1 by omega, List.getElem?_cons_succ]; exact c
  | @hole i T T' c r vs hs k ih =>
    obtain ⟨h1, h2, h3⟩ := ih
    refine ⟨by simp [h1], fun x hx => ?_, ?_⟩
    · rcases List.mem_cons.1 hx with rfl | hx
      · exact ⟨Nat.le_refl _, by simp, by simp⟩
      · obtain ⟨a, b, c⟩ := h2 x hx
        refine ⟨by omega, by simp only [List.length_cons]; omega, ?_⟩
        rw [show x.1 - i = (x.1 - (i + 1)) + 1 by omega, List.getElem?_cons_succ]; exact c
    · rw [List.map_cons, List.pairwise_cons]
      refine ⟨fun y hy => ?_, h3⟩
      obtain ⟨x, hx, rfl⟩ := List.mem_map.1 hy
      have := (h2 x hx).1
      show i < x.1
      omega
def hIdx (hs : HL) (i : Nat) : Option Nat := hs.findIdx? fun x => x.1 == i
def vsH (hs : HL) (vals us : List Value) (s i : Nat) : Value := match hIdx hs i with | some j => us.getD j undef | none => vals.getD (i - s) undef
theorem QM.trace {ops : Array Oper} {Ss : SS → Prop} {l : List PI} {T T' : TT} {vals : List Value} {hs : HL} {s : Nat} (h : QM P w0 n Ss s l T T' vals hs) : ∀ (vs : Nat → Value), (∀ j, j < l.length → (∀ x ∈ hs, x.1 ≠ s + j) → vs (s + j) = vals.getD j undef) → ∀ a, cIs P n ops (List.range' s l.length) = some l → Sat n T a →
    Sat n T' (runA ops vs s l.length a) ∧ (∀ j, j < l.length → (∀ x ∈ hs, x.1 ≠ s + j) → ∀ S, Ss S → GivesAt P w0 S ops (s + j) (vals.getD j undef) (runA ops vs s j a)) ∧
      (∀ x ∈ hs, Sat n x.2.2 (runA ops vs s (x.1 - s) a)) ∧ (∀ j o, j < l.length → ops[s + j]? = some o → dstOk n o.dst = true) ∧ (∀ j, j < l.length → ∀ x, l[j]? = some x → x.d = dstAt ops (s + j)) := by
  have shift : ∀ (vs : Nat → Value) (s m : Nat) (a : Act) (o : Oper), ops[s]? = some o → runA ops vs s (m + 1) a = runA ops vs (s + 1) m (a.put o.dst (vs s)) := by
    intro vs s m a o ho
    have hda : dstAt ops s = o.dst := by simp [dstAt, ho]
    unfold runA
    rw [List.range'_succ, List.foldl_cons, hda]
  induction h with
  | nil => intro vs _ a _ hs; exact ⟨by simpa [runA] using hs, fun j hj => by simp at hj, fun x hx => (by cases hx), fun j o hj => by simp at hj, fun j hj => by simp at hj⟩
  | @step s T T' d g po v r vals hs hg h k ih =>
    intro vs hv a hc hsat
    simp only [List.length_cons, List.range'_succ] at hc
    obtain ⟨i, is, he, hi, hrest⟩ := cIs_cons hc
    simp only [List.cons.injEq] at he
    obtain ⟨rfl, rfl⟩ := he
    obtain ⟨o, ho, hpo, hd, hdst, hgd⟩ := cI_spec hi
    simp only at hpo hdst
    subst hdst
    have hlt := k.lt.2.1
    have hv0 : vs s = v := by
      have := hv 0 (by simp) (fun x hx => by have := (hlt x hx).1; omega)
      simpa using this
    obtain ⟨h1, h2, h5, h3, h4⟩ := ih vs (fun j hj hx => by
      have := hv (j + 1) (by simpa using hj) (fun x hm => by have := hx x hm; omega)
      rw [List.getD_cons_succ] at this
      rw [show s + 1 + j = s + (j + 1) by omega]
      exact this) (a.put o.dst v) hrest (hsat.put hd v)
    refine ⟨by rw [List.length_cons, shift vs s _ a o ho, hv0]; exact h1, ?_, ?_, ?_, ?_⟩
    · intro j hj hnx S hS
      cases j with
      | zero =>
        intro o' ho'
        obtain rfl : o = o' := by rw [Nat.add_zero, ho] at ho'; exact Option.some.inj ho'
        left
        simp only [runA, List.range'_zero, List.foldl_nil, List.getD_cons_zero]
        refine ⟨?_, fun w hr => ?_⟩
        · rcases hgd with ⟨hgd, _⟩ | ⟨j, b, s', hgd, hjj, he⟩
          · simp [Region.wanted, hgd]
          · simp only at he
            subst he
            simp [Region.wanted, hgd, hsat.yielded hjj hg]
        · refine Oper.wp_mono ?_ (h S hS o a w _ hpo hsat hr)
          rintro b w' ⟨v', S', rfl, hr', rfl, rfl⟩
          exact ⟨rfl, hr'⟩
      | succ j =>
        rw [shift vs s _ a o ho, hv0, List.getD_cons_succ]
        have := h2 j (by simpa using hj) (fun x hx => by have := hnx x hx; omega) S hS
        rwa [show s + 1 + j = s + (j + 1) by omega] at this
    · intro x hx
      have := (hlt x hx).1
      have h6 := h5 x hx
      rw [show x.1 - s = (x.1 - (s + 1)) + 1 by omega, shift vs s _ a o ho, hv0]
      exact h6
    · intro j o' hj ho'
      cases j with
      | zero => obtain rfl : o = o' := by rw [Nat.add_zero, ho] at ho'; exact Option.some.inj ho'
                exact hd
      | succ j => exact h3 j o' (by simpa using hj) (by rwa [show s + 1 + j = s + (j + 1) by omega])
    · intro j hj x hx
      cases j with
      | zero => simp at hx; subst hx; simp [dstAt, ho]
      | succ j => have := h4 j (by simpa using hj) x (by simpa using hx); rwa [show s + 1 + j = s + (j + 1) by omega] at this
  | @off s T T' d sl b u po r vals hs hl hcb k ih =>
    intro vs hv a hc hsat
    simp only [List.length_cons, List.range'_succ] at hc
    obtain ⟨i, is, he, hi, hrest⟩ := cIs_cons hc
    simp only [List.cons.injEq] at he
    obtain ⟨rfl, rfl⟩ := he
    obtain ⟨o, ho, hpo, hd, hdst, hgd⟩ := cI_spec hi
    simp only at hpo hdst
    subst hdst
    have hlt := k.lt.2.1
    have hv0 : vs s = undef := by
      have := hv 0 (by simp) (fun x hx => by have := (hlt x hx).1; omega)
      simpa using this
    obtain ⟨h1, h2, h5, h3, h4⟩ := ih vs (fun j hj hx => by
      have := hv (j + 1) (by simpa using hj) (fun x hm => by have := hx x hm; omega)
      rw [List.getD_cons_succ] at this
      rw [show s + 1 + j = s + (j + 1) by omega]
      exact this) (a.put o.dst undef) hrest (hsat.put hd undef)
    refine ⟨by rw [List.length_cons, shift vs s _ a o ho, hv0]; exact h1, ?_, ?_, ?_, ?_⟩
    · intro j hj hnx S hS
      cases j with
      | zero =>
        intro o' ho'
        obtain rfl : o = o' := by rw [Nat.add_zero, ho] at ho'; exact Option.some.inj ho'
        right
        refine ⟨?_, by simp⟩
        simp only [runA, List.range'_zero, List.foldl_nil]
        rcases hgd with ⟨_, hgd⟩ | ⟨j, b', s', hgd, hjj, he⟩
        · simp at hgd
        · simp only [Option.some.injEq, Prod.mk.injEq] at he
          obtain ⟨rfl, rfl⟩ := he
          simp only [Region.wanted, hgd, hsat.yieldedV hjj hl]; exact hcb
      | succ j =>
        rw [shift vs s _ a o ho, hv0, List.getD_cons_succ]
        have := h2 j (by simpa using hj) (fun x hx => by have := hnx x hx; omega) S hS
        rwa [show s + 1 + j = s + (j + 1) by omega] at this
    · intro x hx
      have := (hlt x hx).1
      have h6 := h5 x hx
      rw [show x.1 - s = (x.1 - (s + 1)) + 1 by omega, shift vs s _ a o ho, hv0]
      exact h6
    · intro j o' hj ho'
      cases j with
      | zero => obtain rfl : o = o' := by rw [Nat.add_zero, ho] at ho'; exact Option.some.inj ho'
                exact hd
      | succ j => exact h3 j o' (by simpa using hj) (by rwa [show s + 1 + j = s + (j + 1) by omega])
    · intro j hj x hx
      cases j with
      | zero => simp at hx; subst hx; simp [dstAt, ho]
      | succ j => have := h4 j (by simpa using hj) x (by simpa using hx); rwa [show s + 1 + j = s + (j + 1) by omega] at this
  | @hole s T T' c r vals hs k ih =>
    intro vs hv a hc hsat
    simp only [List.length_cons, List.range'_succ] at hc
    obtain ⟨i, is, he, hi, hrest⟩ := cIs_cons hc
    simp only [List.cons.injEq] at he
    obtain ⟨rfl, rfl⟩ := he
    obtain ⟨o, ho, hpo, hd, hdst, hgd⟩ := cI_spec hi
    have hlt := k.lt.2.1
    obtain ⟨h1, h2, h5, h3, h4⟩ := ih vs (fun j hj hx => by
      have := hv (j + 1) (by simpa using hj) (fun x hm => by
        rcases List.mem_cons.1 hm with rfl | hm
        · show s ≠ s + (j + 1); omega
        · have := hx x hm; omega)
      rw [List.getD_cons_succ] at this
      rw [show s + 1 + j = s + (j + 1) by omega]
      exact this) (a.put o.dst (vs s)) hrest (by rw [hdst]; exact hsat.del (vs s))
    refine ⟨by rw [List.length_cons, shift vs s _ a o ho]; exact h1, ?_, ?_, ?_, ?_⟩
    · intro j hj hnx S hS
      cases j with
      | zero => exact absurd (Nat.add_zero s).symm (hnx _ (List.mem_cons_self ..))
      | succ j =>
        rw [shift vs s _ a o ho, List.getD_cons_succ]
        have := h2 j (by simpa using hj) (fun x hx => by have := hnx x (List.mem_cons_of_mem _ hx); omega) S hS
        rwa [show s + 1 + j = s + (j + 1) by omega] at this
    · intro x hx
      rcases List.mem_cons.1 hx with rfl | hx
      · simp only [Nat.sub_self, runA, List.range'_zero, List.foldl_nil]; exact hsat
      · have := (hlt x hx).1
        have h6 := h5 x hx
        rw [show x.1 - s = (x.1 - (s + 1)) + 1 by omega, shift vs s _ a o ho]
        exact h6
    · intro j o' hj ho'
      cases j with
      | zero => obtain rfl : o = o' := by rw [Nat.add_zero, ho] at ho'; exact Option.some.inj ho'
                exact hd
      | succ j => exact h3 j o' (by simpa using hj) (by rwa [show s + 1 + j = s + (j + 1) by omega])
    · intro j hj x hx
      cases j with
      | zero => simp at hx; subst hx; rw [← hdst]; simp [dstAt, ho]
      | succ j => have := h4 j (by simpa using hj) x (by simpa using hx); rwa [show s + 1 + j = s + (j + 1) by omega] at this
def LCh (P : Program) (w0 : World) (n : Nat) (Ss : SS → Prop) (post : TT → SS → Prop) : HL → TT → SS → Prop
  | [], Tl, S => post Tl S
  | x :: r, Tl, S => x.2.1.g = none ∧ OW P w0 n x.2.1.o (Tl ++ x.2.2) S (fun v S' => Ss S' ∧ LCh P w0 n Ss post r (put x.2.1.d v Tl) S')
def distB (l : List PI) (hs : HL) : Bool := hs.all fun x => match x.2.1.d with
  | none => true
  | some d => (List.range l.length).all fun j => Nat.beq j x.1 || match l[j]? with | some y => !(y.d == some d) | none => true
def noMovB (hs : HL) : Bool := hs.all fun x => match x.2.1.o with | .mov _ => false | _ => true
def ordB (b : List Nat) : HL → Bool
  | [] => true
  | x :: r => (r.all fun y => Nat.beq (b.getD y.1 0 / 2 ^ x.1 % 2) 1) && ordB b r
theorem look_app (A B : TT) (i : Nat) : look (A ++ B) i = match look A i with | some v => some v | none => look B i := by
  induction A with
  | nil => rfl
  | cons p A ih =>
    obtain ⟨j, v⟩ := p
    by_cases h : j = i
    · subst h; rw [List.cons_append, look_put_same, look_put_same]
    · rw [List.cons_append, look_cons_ne _ _ h, look_cons_ne _ _ h]; exact ih
theorem cIs_pos {ops : Array Oper} {l : List PI} {k i : Nat} {x : PI} (h : cIs P n ops (List.range' 0 k) = some l) (hi : i < k) (hx : l[i]? = some x) : ∃ o, ops[i]? = some o ∧ cOp P o = some x.o ∧ o.dst = x.d ∧ ((o.guard = none ∧ x.g = none) ∨ ∃ j b s, o.guard = some (j, b) ∧ (ops[j]?).bind (·.dst) = some s ∧ x.g = some (s, b)) := by
  have hl := cIs_length h
  rw [List.length_range'] at hl
  have hsplit : List.range' 0 k = List.range' 0 i ++ List.range' i (k - i) := by
    have := List.range'_append (s := 0) (m := i) (n := k - i) (step := 1)
    simp only [Nat.one_mul, Nat.zero_add] at this
    rw [this]; congr 1; omega
  rw [hsplit] at h
  obtain ⟨h1, h2⟩ := cIs_append h
  simp only [List.length_range'] at h2
  have hd : l.drop i = x :: l.drop (i + 1) := by
    have hlt : i < l.length := (List.getElem?_eq_some_iff.1 hx).1
    rw [List.drop_eq_getElem_cons hlt]
    congr 1
    exact (List.getElem?_eq_some_iff.1 hx).2
  have hr : List.range' i (k - i) = i :: List.range' (i + 1) (k - i - 1) := by
    obtain ⟨m, hm⟩ : ∃ m, k - i = m + 1 := ⟨k - i - 1, by omega⟩
    rw [hm, List.range'_succ]; rfl
  rw [hd, hr] at h2
  obtain ⟨i', is, he, hi', _⟩ := cIs_cons h2
  simp only [List.cons.injEq] at he
  obtain ⟨rfl, rfl⟩ := he
  obtain ⟨o, ho, hpo, hdok, hdst, hgd⟩ := cI_spec hi'
  exact ⟨o, ho, hpo, hdst, hgd⟩
theorem hIdx_some {hs : HL} (hp : (hs.map (·.1)).Pairwise (· < ·)) {j : Nat} {x : Nat × PI × TT} (h : hs[j]? = some x) : hIdx hs x.1 = some j := by
  unfold hIdx
  rw [List.findIdx?_eq_some_iff_getElem]
  obtain ⟨hj, hx⟩ := List.getElem?_eq_some_iff.1 h
  refine ⟨hj, by simp [hx], fun i hi => ?_⟩
  have hil : i < hs.length := by omega
  have := List.pairwise_iff_getElem.1 hp i j (by simpa using hil) (by simpa using hj) hi
  simp only [List.getElem_map, hx] at this
  have : hs[i].1 ≠ x.1 := by omega
  simp [this]
theorem hIdx_none {hs : HL} {i : Nat} (h : ∀ x ∈ hs, x.1 ≠ i) : hIdx hs i = none := by
  unfold hIdx
  rw [List.findIdx?_eq_none_iff]
  intro x hx
  have := h x hx
  simp [this]
structure Phs (P : Program) (w0 : World) (n : Nat) (Ss : SS → Prop) (post : TT → SS → Prop) (hs0 : HL) (vals : List Value) (lst : Nat → Bool) (u : List Value) (Sx : SS) (Tl : TT) (c : Nat) : Prop where
  le : c ≤ hs0.length
  len : u.length = c
  lst : ∀ j x, hs0[j]? = some x → (lst x.1 = true ↔ j < c)
  ch : LCh P w0 n Ss post (hs0.drop c) Tl Sx
  ss : Ss Sx
  tl : ∀ d v, look Tl d = some v → ∃ j x, j < c ∧ hs0[j]? = some x ∧ x.2.1.d = some d ∧ v = vsH hs0 vals u 0 x.1
theorem runA_slot {ops : Array Oper} {vs : Nat → Value} {p d k : Nat} {a : Act} (hd : dstAt ops p = some d) (hdn : d < a.tmps.size) (hoth : ∀ j, j < k → j ≠ p → dstAt ops j ≠ some d) : ∀ m, p < m → m ≤ k → (runA ops vs 0 m a).tmps[d]? = some (vs p)
  | 0, h, _ => by omega
  | m + 1, h, hk => by
    have e2 : runA ops vs 0 (m + 1) a = (runA ops vs 0 m a).put (dstAt ops m) (vs m) := by simp [runA, List.range'_concat]
    have hsz : (runA ops vs 0 m a).tmps.size = a.tmps.size := by rw [← foldF_runA ops vs m m a (Nat.le_refl _)]; exact (foldF_size ops vs _ m a).1
    rw [e2]
    by_cases e : m = p
    · subst e
      rw [hd]
      simp [Act.put, hsz, hdn]
    · have ih := runA_slot (vs := vs) (a := a) hd hdn hoth m (by omega) (by omega)
      have hne := hoth m (by omega) e
      cases hx : dstAt ops m with
      | none => simpa [Act.put] using ih
      | some y =>
        have : y ≠ d := fun e => hne (by rw [hx, e])
        simp only [Act.put]
        rw [Array.getElem?_setIfInBounds_ne this]
        exact ih
theorem distB_spec {l : List PI} {hs : HL} (h : distB l hs = true) {x : Nat × PI × TT} (hx : x ∈ hs) {d : Nat} (hd : x.2.1.d = some d) {j : Nat} (hj : j < l.length) (hne : j ≠ x.1) {y : PI} (hy : l[j]? = some y) : y.d ≠ some d := by
  have h1 := List.all_eq_true.1 h x hx
  simp only [hd] at h1
  have h2 := List.all_eq_true.1 h1 j (List.mem_range.2 hj)
  simp only [Bool.or_eq_true, hy] at h2
  rcases h2 with h2 | h2
  · exact absurd (Nat.eq_of_beq_eq_true h2) hne
  · simpa using h2
theorem ordB_spec {b : List Nat} : ∀ {hs : HL}, ordB b hs = true → ∀ (i j : Nat) (x y : Nat × PI × TT), i < j → hs[i]? = some x → hs[j]? = some y → (b.getD y.1 0).testBit x.1 = true
  | [], _, i, j, x, y, _, hx, _ => by simp at hx
  | z :: r, h, i, j, x, y, hij, hx, hy => by
    simp only [ordB, Bool.and_eq_true] at h
    cases j with
    | zero => omega
    | succ j =>
      simp at hy
      cases i with
      | zero =>
        simp at hx
        subst hx
        have := Nat.eq_of_beq_eq_true (List.all_eq_true.1 h.1 y (List.mem_of_getElem? hy))
        rw [Nat.testBit_eq_decide_div_mod_eq, this]; rfl
      | succ i => simp at hx; exact ordB_spec h.2 i j x y (by omega) hx hy
set_option maxHeartbeats 8000000 in
theorem PW.quietRN {b0 : List Nat} {k : Nat} {l : List PI} {Q : Exit → TT → SS → Prop} {T2 : TT} {vals : List Value} {hs0 : HL} {Ss : SS → Prop} (hm : P.follows .mixedOrders = true) (hq : QM P w0 n Ss 0 (l.take k) T T2 vals hs0)
    (hdi : distB (l.take k) hs0 = true) (hno : noMovB hs0 = true) (hord : ordB b0 hs0 = true) (hSs : Ss S) (hch : LCh P w0 n Ss (fun Tl S' => OL P w0 n (l.drop k) (Tl ++ T2) S' (Q .normal)) hs0 [] S) : PW P w0 n (.quietR b0 k l) T S Q := by
  intro c hc a w hs hr
  cases c
  case region id ops dr =>
    cases dr with
    | false => simp [cC] at hc
    | true =>
      simp only [cC] at hc
      split at hc
      case isFalse => simp at hc
      rename_i hcond
      simp only [Bool.and_eq_true] at hcond
      obtain ⟨⟨⟨hap, hback⟩, hsel⟩, hhoist⟩ := hcond
      simp only [Option.map_eq_some_iff] at hc
      obtain ⟨l', hcis, hmk⟩ := hc
      obtain ⟨rfl, rfl, hb0⟩ := mkQ_quietR hmk
      obtain ⟨hhead, hkle⟩ := headOf_spec ops (hoists ops) ops.size (Nat.le_refl _)
      change headB ops ((hoists ops).filter (· < quietAt ops)) (quietAt ops) = true at hhead
      change quietAt ops ≤ ops.size at hkle
      generalize hk : quietAt ops = k at *
      generalize hH : (hoists ops).filter (· < k) = Hs at *
      have hHk : ∀ i ∈ Hs, i < k := fun i hi => by rw [← hH] at hi; simpa using (List.mem_filter.1 hi).2
      have hsplit : List.range ops.size = List.range' 0 k ++ List.range' k (ops.size - k) := by
        rw [List.range_eq_range']
        have := List.range'_append (s := 0) (m := k) (n := ops.size - k) (step := 1)
        simp only [Nat.one_mul, Nat.zero_add] at this
        rw [this]
        congr 1
        omega
      rw [hsplit] at hcis
      obtain ⟨hc1, hc2⟩ := cIs_append hcis
      simp only [List.length_range'] at hc1 hc2
      have hlen : (l'.take k).length = k := by simpa using cIs_length hc1
      obtain ⟨hql, hqi, hqp⟩ := hq.lt
      simp only [Nat.zero_add, Nat.sub_zero, hlen] at hqi
      rw [hlen] at hql
      let vs : List Value → Nat → Value := vsH hs0 vals
        |> fun f us i => f us 0 i
      have hvq : ∀ us j, (∀ x ∈ hs0, x.1 ≠ j) → vs us j = vals.getD j undef := fun us j h => by
        show vsH hs0 vals us 0 j = _
        unfold vsH
        rw [hIdx_none h]
        rfl
      have hvh : ∀ (us : List Value) (j : Nat) (x : Nat × PI × TT), hs0[j]? = some x → vs us x.1 = us.getD j undef := fun us j x h => by
        show vsH hs0 vals us 0 x.1 = _
        unfold vsH
        rw [hIdx_some hqp h]
      have htr := fun us => hq.trace (vs us) (fun j hj hx => by rw [Nat.zero_add] at hx ⊢; exact hvq us j hx) a (by rw [hlen]; exact hc1) hs
      simp only [hlen, Nat.zero_add, Nat.sub_zero] at htr
      have hgives : ∀ us S', Ss S' → ∀ i, i < k → (∀ x ∈ hs0, x.1 ≠ i) → GivesAt P w0 S' ops i (vs us i) (runA ops (vs us) 0 i a) := by
        intro us S' hS' i hi hne
        rw [hvq us i hne]
        exact (htr us).2.1 i hi hne S' hS'
      have hdst : ∀ i o, i < k → ops[i]? = some o → dstOk n o.dst = true := fun i o hi ho => (htr []).2.2.2.1 i o hi ho
      have hslot : ∀ (us : List Value) (x : Nat × PI × TT), x ∈ hs0 → ∀ d, x.2.1.d = some d → ∀ m, x.1 < m → m ≤ k → (runA ops (vs us) 0 m a).tmps[d]? = some (vs us x.1) := by
        intro us x hx d hd m h1 h2
        obtain ⟨_, hxk, hxl⟩ := hqi x hx
        have hda : dstAt ops x.1 = some d := by rw [← (htr us).2.2.2.2 x.1 hxk x.2.1 hxl, hd]
        have hdn : d < a.tmps.size := by
          rw [hs.size]
          have hxs : x.1 < ops.size := by omega
          have := hdst x.1 ops[x.1] hxk (by simp [hxs])
          have e : ops[x.1].dst = some d := by simpa [dstAt, hxs] using hda
          rw [e] at this
          simpa [dstOk] using this
        refine runA_slot hda hdn (fun j hj hne => ?_) m h1 h2
        have hjl : j < (l'.take k).length := by rw [hlen]; exact hj
        have e : (l'.take k)[j]? = some (l'.take k)[j] := List.getElem?_eq_getElem hjl
        rw [← (htr us).2.2.2.2 j hj _ e]
        exact distB_spec hdi hx hd hjl hne e
      have hposlt : ∀ (i j : Nat) (x y : Nat × PI × TT), i < j → hs0[i]? = some x → hs0[j]? = some y → x.1 < y.1 := by
        intro i j x y hij hx hy
        obtain ⟨h1, e1⟩ := List.getElem?_eq_some_iff.1 hx
        obtain ⟨h2, e2⟩ := List.getElem?_eq_some_iff.1 hy
        have := List.pairwise_iff_getElem.1 hqp i j (by simpa using h1) (by simpa using h2) hij
        simpa [e1, e2] using this
      have hholes : ∀ (i : Nat), (∃ (j : Nat) (x : Nat × PI × TT), hs0[j]? = some x ∧ x.1 = i) ∨ ∀ x ∈ hs0, x.1 ≠ i := by
        intro i
        by_cases h : ∃ x ∈ hs0, x.1 = i
        · obtain ⟨x, hx, rfl⟩ := h
          obtain ⟨j, hj⟩ := List.getElem?_of_mem hx
          exact .inl ⟨j, x, hj, rfl⟩
        · exact .inr fun x hx e => h ⟨x, hx, e⟩
      have hbeh : ∀ (i j : Nat) (x y : Nat × PI × TT), i < j → hs0[i]? = some x → hs0[j]? = some y → behind (reach ops) y.1 x.1 = true := by
        intro i j x y hij hx hy
        have h1 := ordB_spec hord i j x y hij hx hy
        have hyk := (hqi y (List.mem_of_getElem? hy)).2.1
        rw [hb0, List.getD_eq_getElem?_getD, List.getElem?_take_of_lt hyk, ← List.getD_eq_getElem?_getD] at h1
        exact h1
      have hsatL : ∀ us c Tl, (∀ d v, look Tl d = some v → ∃ (j : Nat) (x : Nat × PI × TT), j < c ∧ hs0[j]? = some x ∧ x.2.1.d = some d ∧ v = vs us x.1) → ∀ T0 m, m ≤ k → (∀ (j : Nat) (x : Nat × PI × TT), j < c → hs0[j]? = some x → x.1 < m) → Sat n T0 (runA ops (vs us) 0 m a) → Sat n (Tl ++ T0) (runA ops (vs us) 0 m a) := by
        intro us c Tl htl T0 m hmk hpos h0
        refine ⟨h0.size, h0.defers, fun i v hv => ?_⟩
        rw [look_app] at hv
        cases e : look Tl i with
        | none => rw [e] at hv; exact h0.get i v hv
        | some v' =>
          rw [e] at hv
          obtain rfl := Option.some.inj hv
          obtain ⟨j, x, hj, hx, hd, rfl⟩ := htl i _ e
          exact hslot us x (List.mem_of_getElem? hx) i hd m (hpos j x hj hx) hmk
      -- ordered pairs
      have hpair : ∀ i j, i < j → j < ops.size → ∀ oi oj, ops[i]? = some oi → ops[j]? = some oj → behind (reach ops) j i = true ∨ oi.apart ops oj = true := by
        intro i j hij hj oi oj hoi hoj
        have := List.all_eq_true.1 (List.all_eq_true.1 hap j (List.mem_range.2 hj)) i (List.mem_range.2 hij)
        simpa [hoi, hoj] using this
      have htail : ∀ t i, k ≤ t → t < ops.size → i < t → i ∉ Hs → behind (reach ops) t i = true := by
        intro t i hkt ht hi hnH
        have := List.all_eq_true.1 hhead t (List.mem_range.2 ht)
        simp only [Bool.or_eq_true, decide_eq_true_eq] at this
        rcases this with h | h
        · omega
        · have := List.all_eq_true.1 h i (List.mem_range.2 hi)
          simpa [hnH] using this
      have hreadyX : ∀ (listed : Array Bool) i, (∀ j o, ops[j]? = some o → listed.getD j true = true → ∀ e ∈ o.after, Region.binds .any e = true → listed.getD e.on true = true) → i ∈ Region.ready .any ops listed →
          ∀ j, j < ops.size → behind (reach ops) i j = true → j ≠ i → listed.getD j true = true := by
        intro listed i hcl hi j hj hb hne
        obtain ⟨hun, o, ho, hall⟩ := mem_ready.1 hi
        have hX : Closed ops (fun x => listed.getD x true = true ∨ x = i) := by
          rintro x ox hox (hx | rfl) e he hbd
          · exact .inl (hcl x ox hox hx e he hbd)
          · obtain rfl : o = ox := by rw [ho] at hox; exact Option.some.inj hox
            have := hall e he hbd
            left
            cases hlt : listed[e.on]? with
            | none => simp [hlt] at this
            | some b => simpa [hlt] using this
        rcases behind_spec hX (Array.getElem?_eq_some_iff.1 ho).1 hb (.inr rfl) with h | h
        · exact h
        · exact absurd h hne
      have horder : ∀ (listed : Array Bool) i o, (∀ j o, ops[j]? = some o → listed.getD j true = true → ∀ e ∈ o.after, Region.binds .any e = true → listed.getD e.on true = true) → i ∈ Region.ready .any ops listed → ops[i]? = some o → i < k →
          ∀ x, (x ∈ o.looksAt ops ∨ o.dst = some x) → ∀ j, j < k → j ≠ i → dstAt ops j = some x → decide (j < i) = listed.getD j true := by
        intro listed i o hcl hi ho hik x hx j hj hne hdj
        obtain ⟨hun, o', ho', hpre⟩ := mem_ready.1 hi
        have hilt : i < ops.size := (Array.getElem?_eq_some_iff.1 ho).1
        have hjlt : j < ops.size := by omega
        have hoj : ops[j]? = some ops[j] := by simp [hjlt]
        have hdj' : ops[j].dst = some x := by simpa [dstAt, hoj] using hdj
        rcases Nat.lt_or_gt_of_ne hne with h | h
        · rcases hpair j i h hilt _ _ hoj ho with hb' | hap'
          · rw [hreadyX listed i hcl hi j hjlt hb' hne]
            simp [h]
          · obtain ⟨e1, e2, e3⟩ := Oper.apart_spec hap'
            rcases hx with hx | hx
            · exact absurd hx (e1 x hdj')
            · exact absurd hx (e2 x hdj')
        · rcases hpair i j h hjlt _ _ ho hoj with hb' | hap'
          · have hnl : listed.getD j true = false := by
              cases hlj : listed.getD j true with
              | false => rfl
              | true =>
                exfalso
                have hX : Closed ops (fun x => listed.getD x true = true) := fun x ox hox hx e he hbd => hcl x ox hox hx e he hbd
                have := behind_spec hX hjlt hb' hlj
                rw [hun] at this
                cases this
            rw [hnl]
            simp; omega
          · obtain ⟨e1, e2, e3⟩ := Oper.apart_spec hap'
            rcases hx with hx | hx
            · exact absurd hx (e3 x hdj')
            · exact absurd hdj' (e2 x hx)
      have hgetset : ∀ (listed : Array Bool) i, listed.size = ops.size → i < ops.size → (listed.setIfInBounds i true).getD i true = true := by
        intro listed i h1 h2
        have : i < listed.size := by omega
        simp [this]
      have hput : ∀ u (listed : Array Bool) i o, listed.size = ops.size → (∀ j o, ops[j]? = some o → listed.getD j true = true → ∀ e ∈ o.after, Region.binds .any e = true → listed.getD e.on true = true) → i ∈ Region.ready .any ops listed → ops[i]? = some o → i < k →
          (foldF ops (vs u) (fun j => listed.getD j true) k a).put o.dst (vs u i) = foldF ops (vs u) (fun j => (listed.setIfInBounds i true).getD j true) k a := by
        intro u listed i o hsz hcl hi ho hik
        have hilt : i < ops.size := (Array.getElem?_eq_some_iff.1 ho).1
        have hdo : dstOk n o.dst = true := hdst i o hik ho
        have hda : dstAt ops i = o.dst := by simp [dstAt, ho]
        have hgi := hgetset listed i hsz hilt
        have hgj : ∀ j, j ≠ i → (listed.setIfInBounds i true).getD j true = listed.getD j true := fun j hj => getD_set_ne true (Ne.symm hj)
        have szs : ∀ f, (foldF ops (vs u) f k a).tmps.size = a.tmps.size := fun f => (foldF_size ops (vs u) f k a).1
        have dfs : ∀ f, (foldF ops (vs u) f k a).defers = a.defers := fun f => (foldF_size ops (vs u) f k a).2
        refine act_ext ?_ ?_ fun x => ?_
        · cases o.dst <;> simp [Act.put, szs]
        · cases o.dst <;> simp [Act.put, dfs]
        · by_cases hx : o.dst = some x
          · have e1 : (foldF ops (vs u) (fun j => (listed.setIfInBounds i true).getD j true) k a).tmps[x]? = (foldF ops (vs u) (fun j => decide (j < i + 1)) k a).tmps[x]? := by
              refine foldF_agree ops (vs u) _ _ k a x fun j hj hdj => ?_
              by_cases e : j = i
              · subst e; rw [hgi]; simp
              · rw [hgj j e, ← horder listed i o hcl hi ho hik x (.inr hx) j hj e hdj]
                by_cases h : j < i
                · have : j < i + 1 := by omega
                  simp [h, this]
                · have : ¬ j < i + 1 := by omega
                  simp [h, this]
            rw [e1, foldF_runA ops (vs u) (i + 1) k a (by omega)]
            have e2 : runA ops (vs u) 0 (i + 1) a = (runA ops (vs u) 0 i a).put (dstAt ops i) (vs u i) := by
              simp [runA, List.range'_concat]
            rw [e2, hda, hx]
            simp only [Act.put]
            have hxn : x < a.tmps.size := by rw [hs.size]; simpa [dstOk, hx] using hdo
            have hsz1 : (runA ops (vs u) 0 i a).tmps.size = a.tmps.size := by rw [← foldF_runA ops (vs u) i k a (by omega)]; exact szs _
            rw [Array.getElem?_setIfInBounds_self_of_lt (by rw [szs]; exact hxn), Array.getElem?_setIfInBounds_self_of_lt (by rw [hsz1]; exact hxn)]
          · have e1 : (foldF ops (vs u) (fun j => (listed.setIfInBounds i true).getD j true) k a).tmps[x]? = (foldF ops (vs u) (fun j => listed.getD j true) k a).tmps[x]? := by
              refine foldF_agree ops (vs u) _ _ k a x fun j hj hdj => ?_
              by_cases e : j = i
              · subst e; rw [hda] at hdj; exact absurd hdj hx
              · exact hgj j e
            rw [e1]
            cases hd : o.dst with
            | none => rfl
            | some y =>
              have : y ≠ x := fun e => hx (by rw [hd, e])
              simp [Act.put, Array.getElem?_setIfInBounds_ne this]
      have hagree : ∀ u (listed : Array Bool) i o, (∀ j o, ops[j]? = some o → listed.getD j true = true → ∀ e ∈ o.after, Region.binds .any e = true → listed.getD e.on true = true) → i ∈ Region.ready .any ops listed → ops[i]? = some o → i < k →
          ∀ x, x ∈ o.looksAt ops → (runA ops (vs u) 0 i a).tmps[x]? = (foldF ops (vs u) (fun j => listed.getD j true) k a).tmps[x]? := by
        intro u listed i o hcl hi ho hik x hx
        rw [← foldF_runA ops (vs u) i k a (by omega)]
        refine foldF_agree ops (vs u) _ _ k a x fun j hj hdj => ?_
        by_cases e : j = i
        · subst e
          have hun := (mem_ready.1 hi).1
          rw [hun]; simp
        · exact horder listed i o hcl hi ho hik x (.inl hx) j hj e hdj
      have hclset : ∀ (listed : Array Bool) i o, listed.size = ops.size → (∀ j o, ops[j]? = some o → listed.getD j true = true → ∀ e ∈ o.after, Region.binds .any e = true → listed.getD e.on true = true) → i ∈ Region.ready .any ops listed → ops[i]? = some o →
          (∀ j o, ops[j]? = some o → (listed.setIfInBounds i true).getD j true = true → ∀ e ∈ o.after, Region.binds .any e = true → (listed.setIfInBounds i true).getD e.on true = true) := by
        intro listed i o hsz hcl hi ho j oj hoj hj e he hbd
        have hilt : i < ops.size := (Array.getElem?_eq_some_iff.1 ho).1
        obtain ⟨hun, o', ho', hpre⟩ := mem_ready.1 hi
        obtain rfl : o = o' := by rw [ho] at ho'; exact Option.some.inj ho'
        have hgj : ∀ j, j ≠ i → (listed.setIfInBounds i true).getD j true = listed.getD j true := fun j hj => getD_set_ne true (Ne.symm hj)
        by_cases e1 : e.on = i
        · rw [e1]; exact hgetset listed i hsz hilt
        · rw [hgj _ e1]
          by_cases e2 : j = i
          · subst e2
            obtain rfl : o = oj := by rw [ho] at hoj; exact Option.some.inj hoj
            have := hpre e he hbd
            cases hlt : listed[e.on]? with
            | none => simp [hlt] at this
            | some bb => simpa [hlt] using this
          · rw [hgj _ e2] at hj
            exact hcl j oj hoj hj e he hbd
      have hcntset : ∀ (listed : Array Bool) i, listed.size = ops.size → i ∈ Region.ready .any ops listed → i < ops.size → cnt (fun j => listed.getD j true) ops.size = cnt (fun j => (listed.setIfInBounds i true).getD j true) ops.size + 1 := by
        intro listed i hsz hi hilt
        have := cnt_set (f := fun j => listed.getD j true) (g := fun j => (listed.setIfInBounds i true).getD j true) (i := i) (mem_ready.1 hi).1 (hgetset listed i hsz hilt) (fun j hj => getD_set_ne true (Ne.symm hj)) ops.size
        simpa [hilt] using this
      refine wp_mono (Q := fun e a' w' => e = .normal ∧ ∃ T' S', Sat n T' a' ∧ Rep w0 S' w' ∧ Q e T' S') ?_ (fun e a' w' h => h.2)
      refine wp_region_any hm ?_
      have key : ∀ (fuel : Nat) (listed : Array Bool) (b : Act) (w' : World), listed.size = ops.size →
          (∀ j o, ops[j]? = some o → listed.getD j true = true → ∀ e ∈ o.after, Region.binds .any e = true → listed.getD e.on true = true) → (∀ i ∈ Hs, listed.getD i true = true) →
          (∀ t, k ≤ t → t < ops.size → listed.getD t true = false) → (∃ u Sx Tl c, Phs P w0 n Ss (fun Tl S' => OL P w0 n (l'.drop k) (Tl ++ T2) S' (Q .normal)) hs0 vals (fun j => listed.getD j true) u Sx Tl c ∧ b = foldF ops (vs u) (fun j => listed.getD j true) k a ∧ Rep w0 Sx w') → cnt (fun j => listed.getD j true) ops.size = fuel →
          wpAny P .any ops (fun e a' w' => e = .normal ∧ ∃ T' S', Sat n T' a' ∧ Rep w0 S' w' ∧ Q e T' S') fuel listed b w' := by
        intro fuel
        induction fuel with
        | zero =>
          intro listed b w' hsz hcl hHl htl ⟨u, Sx, Tl, c, hph, hb, hr'⟩ hcnt
          have hall : ∀ j, j < ops.size → listed.getD j true = true := by
            intro j hj
            cases hx : listed.getD j true with
            | true => rfl
            | false =>
              exfalso
              have : ∀ m, j < m → 0 < cnt (fun j => listed.getD j true) m := by
                intro m
                induction m with
                | zero => intro h; omega
                | succ m ih =>
                  intro h
                  simp only [cnt]
                  by_cases e : j = m
                  · subst e; simp [hx]
                  · have := ih (by omega); omega
              have := this ops.size hj
              omega
          have hcl2 : c = hs0.length := by
            have := hph.le
            rcases Nat.lt_or_ge c hs0.length with h | h
            · have := (hph.lst c hs0[c] (List.getElem?_eq_getElem h)).1 (hall _ (by have := (hqi hs0[c] (List.getElem_mem _)).2.1; omega))
              omega
            · omega
          have hfin : OL P w0 n (l'.drop k) (Tl ++ T2) Sx (Q .normal) := by
            have := hph.ch
            rw [hcl2, List.drop_length] at this
            exact this
          have hsat' : Sat n (Tl ++ T2) (runA ops (vs u) 0 k a) := hsatL u c Tl hph.tl T2 k (Nat.le_refl _) (fun j x _ hx => (hqi x (List.mem_of_getElem? hx)).2.1) (htr u).1
          have hkeq : k = ops.size := by
            rcases Nat.lt_or_ge k ops.size with h | h
            · have h1 := htl k (Nat.le_refl _) h
              have h2 := hall k h
              rw [h1] at h2
              cases h2
            · omega
          have hbt : b = runA ops (vs u) 0 k a := by
            rw [hb, ← foldF_runA ops (vs u) k k a (Nat.le_refl _)]
            unfold foldF
            refine foldl_ext' _ _ _ _ fun b j hj => ?_
            have hj' := List.mem_range.1 hj
            simp [hall j (by omega), hj']
          refine ⟨?_, ?_⟩
          · unfold Region.ready
            rw [List.filter_eq_nil_iff]
            intro i hi
            rw [hall i (List.mem_range.1 hi)]
            simp
          · have := hfin ops [] b w' (fun e a' w' => e = .normal ∧ ∃ T' S', Sat n T' a' ∧ Rep w0 S' w' ∧ Q e T' S') (by
              rw [hkeq, Nat.sub_self] at hc2
              rw [hkeq]
              simpa using hc2) (hbt ▸ hsat') hr' (fun a' w' T' S' h3 h4 h5 => ⟨rfl, T', S', h3, h4, h5⟩)
            simpa [wpOps] using this
        | succ fuel ih =>
          intro listed b w' hsz hcl hHl htl ⟨u, Sx, Tl, c, hph, hb, hr'⟩ hcnt
          by_cases hall : ∀ j, j < k → listed.getD j true = true
          · -- the head is done
            have hcl2 : c = hs0.length := by
              have := hph.le
              rcases Nat.lt_or_ge c hs0.length with h | h
              · have := (hph.lst c hs0[c] (List.getElem?_eq_getElem h)).1 (hall _ ((hqi hs0[c] (List.getElem_mem _)).2.1))
                omega
              · omega
            have hfin : OL P w0 n (l'.drop k) (Tl ++ T2) Sx (Q .normal) := by
              have := hph.ch
              rw [hcl2, List.drop_length] at this
              exact this
            have hsat' : Sat n (Tl ++ T2) (runA ops (vs u) 0 k a) := hsatL u c Tl hph.tl T2 k (Nat.le_refl _) (fun j x _ hx => (hqi x (List.mem_of_getElem? hx)).2.1) (htr u).1
            have hexact : ∀ j, j < ops.size → listed.getD j true = decide (j < k) := by
              intro j hj
              by_cases h : j < k
              · rw [hall j h]; simp [h]
              · rw [htl j (by omega) hj]; simp [h]
            have hbt : b = runA ops (vs u) 0 k a := by
              rw [hb, ← foldF_runA ops (vs u) k k a (Nat.le_refl _)]
              unfold foldF
              refine foldl_ext' _ _ _ _ fun b j hj => ?_
              have hj' := List.mem_range.1 hj
              simp [hall j hj', hj']
            have hfuel : fuel + 1 = ops.size - k := by
              rw [← hcnt, cnt_congr ops.size hexact, cnt_below]
            rw [hfuel]
            have htl2 : ∀ listed' : Array Bool, ∀ t s', k ≤ s' → s' < t → t < ops.size → (∀ j, j < ops.size → listed'.getD j true = decide (j < s')) → listed'.size = ops.size → t ∉ Region.ready .any ops listed' := by
              intro l'' t s' h1 h2 h3 h4 h5 hmem
              have := hreadyX l'' t (fun j o ho hj e he hbd => by
                have hlt := backB_spec hback ho he hbd
                have hjs : j < ops.size := (Array.getElem?_eq_some_iff.1 ho).1
                rw [h4 j hjs] at hj
                rw [h4 e.on (by omega)]
                simp only [decide_eq_true_eq] at hj ⊢
                omega) hmem s' (by omega) (htail t s' (by omega) h3 h2 (fun hm' => by have := hHk s' hm'; omega)) (by omega)
              rw [h4 s' (by omega)] at this
              simp at this
            refine wpAny_tail hback (ops.size - k) k listed b w' (by omega) hsz hexact (fun t i h1 h2 h3 h4 h5 => htl2 listed t k (Nat.le_refl _) h1 h2 hexact hsz) htl2 ?_
            exact hfin ops _ b w' _ hc2 (hbt ▸ hsat') hr' (fun a' w' T' S' h3 h4 h5 => ⟨rfl, T', S', h3, h4, h5⟩)
          · refine ⟨fun h0 => ?_, fun i hi => ?_⟩
            · exfalso
              obtain ⟨i, hi1, hi2, hi3⟩ := cnt_pos ops.size (by rw [hcnt]; omega : 0 < cnt (fun j => listed.getD j true) ops.size)
              have : i ∈ Region.ready .any ops listed := by
                rw [mem_ready]
                refine ⟨hi2, ops[i], by simp [hi1], fun e he hbd => ?_⟩
                have hlt := backB_spec hback (show ops[i]? = some ops[i] by simp [hi1]) he hbd
                have h3 := hi3 e.on hlt
                have : e.on < listed.size := by omega
                simpa [this] using h3
              rw [h0] at this
              simp at this
            · have hmem := mem_ready.1 hi
              obtain ⟨hun, o, ho, hpre⟩ := hmem
              have hilt : i < ops.size := (Array.getElem?_eq_some_iff.1 ho).1
              have hik : i < k := by
                rcases Nat.lt_or_ge i k with h | h
                · exact h
                · exfalso
                  refine hall fun j hj => ?_
                  by_cases hjH : j ∈ Hs
                  · exact hHl j hjH
                  · exact hreadyX listed i hcl hi j (by omega) (htail i j h hilt (by omega) hjH) (by omega)
              have hdo : dstOk n o.dst = true := hdst i o hik ho
              have hagree' := hagree u listed i o hcl hi ho hik
              rw [← hb] at hagree'
              have hev : execOp (runA ops (vs u) 0 i a).eval o = execOp b.eval o :=
                execOp_congr o (fun cs bb hh => Region.noSelect_spec hsel i o cs bb ho hh) fun x hx => eval_agree fun t ht => hagree' t (looks_op (ht ▸ hx))
              have hwan := wanted_agree (ops := ops) (o := o) (a := runA ops (vs u) 0 i a) (b := b) hagree'
              have hgj : ∀ j, j ≠ i → (listed.setIfInBounds i true).getD j true = listed.getD j true := fun j hj => getD_set_ne true (Ne.symm hj)
              have hnext : ∀ u2 S2 Tl2 c2 w'' b2, Phs P w0 n Ss (fun Tl S' => OL P w0 n (l'.drop k) (Tl ++ T2) S' (Q .normal)) hs0 vals (fun j => (listed.setIfInBounds i true).getD j true) u2 S2 Tl2 c2 → b2 = foldF ops (vs u2) (fun j => (listed.setIfInBounds i true).getD j true) k a → Rep w0 S2 w'' → wpAny P .any ops (fun e a' w' => e = .normal ∧ ∃ T' S', Sat n T' a' ∧ Rep w0 S' w' ∧ Q e T' S') fuel (listed.setIfInBounds i true) b2 w'' := by
                intro u2 S2 Tl2 c2 w'' b2 hp2 hb2 hr''
                refine ih _ _ w'' (by simpa using hsz) (hclset listed i o hsz hcl hi ho) ?_ ?_ ⟨u2, S2, Tl2, c2, hp2, hb2, hr''⟩ ?_
                · intro j hj
                  by_cases e : j = i
                  · subst e; exact hgetset listed j hsz hilt
                  · rw [hgj j e]; exact hHl j hj
                · intro t h3 h4'
                  rw [hgj t (by omega)]
                  exact htl t h3 h4'
                · have := hcntset listed i hsz hi hilt
                  omega
              have hsz1 : (runA ops (vs u) 0 i a).tmps.size = n := by rw [← foldF_runA ops (vs u) i k a (by omega), (foldF_size ops (vs u) _ k a).1, hs.size]
              have hsz2 : b.tmps.size = n := by rw [hb, (foldF_size ops (vs u) _ k a).1, hs.size]
              have hdf : (runA ops (vs u) 0 i a).defers = [] := by rw [← foldF_runA ops (vs u) i k a (by omega), (foldF_size ops (vs u) _ k a).2, hs.defers]
              have hputu := fun u2 => hput u2 listed i o hsz hcl hi ho hik
              unfold wpOp
              simp only [ho]
              rcases hholes i with ⟨jx, x, hjx, hxi⟩ | hip
              · -- one that turns something
                subst hxi
                have hxm := List.mem_of_getElem? hjx
                have hjc : jx = c := by
                  rcases Nat.lt_trichotomy jx c with h | h | h
                  · have := (hph.lst jx x hjx).2 h
                    rw [hun] at this
                    cases this
                  · exact h
                  · exfalso
                    have hclt : c < hs0.length := Nat.lt_trans h (List.getElem?_eq_some_iff.1 hjx).1
                    have hcx : hs0[c]? = some hs0[c] := List.getElem?_eq_getElem hclt
                    have h1 := hbeh c jx _ x h hcx hjx
                    have h2 := hreadyX listed x.1 hcl hi hs0[c].1 (by have := (hqi hs0[c] (List.getElem_mem _)).2.1; omega) h1 (by have := hposlt c jx _ x h hcx hjx; omega)
                    have := (hph.lst c _ hcx).1 h2
                    omega
                subst hjc
                have hdrop : hs0.drop jx = x :: hs0.drop (jx + 1) := by
                  have hl1 := (List.getElem?_eq_some_iff.1 hjx).1
                  rw [List.drop_eq_getElem_cons hl1]
                  congr 1
                  exact (List.getElem?_eq_some_iff.1 hjx).2
                have hLC := hph.ch
                rw [hdrop] at hLC
                obtain ⟨hcg, hOW, hnx⟩ : x.2.1.g = none ∧ _ ∧ True := ⟨hLC.1, hLC.2, trivial⟩
                obtain ⟨_, hxk, hxl⟩ := hqi x hxm
                obtain ⟨oc, hoc, hpoc, hdstc, hgdc⟩ := cIs_pos hc1 hxk hxl
                obtain rfl : oc = o := by rw [hoc] at ho; exact Option.some.inj ho
                have hwt : Region.wanted oc (yielded ops b.tmps) = true := by
                  rcases hgdc with ⟨hgn, _⟩ | ⟨j, b', s', hgn, hj, he⟩
                  · simp [Region.wanted, hgn]
                  · rw [hcg] at he; cases he
                rw [if_pos hwt]
                left
                have hsC := hsatL u jx Tl hph.tl x.2.2 x.1 (by omega) (fun j y hj hy => hposlt j jx y x hj hy hjx) ((htr u).2.2.1 x hxm)
                have hl2 := hOW oc _ w' (fun _ _ _ => False) hpoc hsC hr'
                refine Oper.wp_mono ?_ (wp_transfer_any hev (by rw [hsz1, hsz2]) (by rw [hsz1]; exact hdo) hdf hl2)
                rintro b' w'' ⟨v2, S2, rfl, hr2, hss2, hk2⟩
                have hvnew : ∀ (j : Nat) (y : Nat × PI × TT), j < jx → hs0[j]? = some y → vs (u ++ [v2]) y.1 = vs u y.1 := by
                  intro j y hj hy
                  rw [hvh _ j y hy, hvh _ j y hy]
                  simp only [List.getD_eq_getElem?_getD]
                  rw [List.getElem?_append_left (by rw [hph.len]; exact hj)]
                refine hnext (u ++ [v2]) S2 (put x.2.1.d v2 Tl) (jx + 1) w'' _ ⟨(List.getElem?_eq_some_iff.1 hjx).1, by simp [hph.len], ?_, hk2, hss2, ?_⟩ ?_ hr2
                · intro j y hy
                  by_cases e : j = jx
                  · subst e
                    obtain rfl : x = y := by rw [hjx] at hy; exact Option.some.inj hy
                    simp [hgetset listed _ hsz hilt]
                  · have hne : y.1 ≠ x.1 := by
                      rcases Nat.lt_or_gt_of_ne e with h | h
                      · have := hposlt j jx y x h hy hjx; omega
                      · have := hposlt jx j x y h hjx hy; omega
                    have h3 := hph.lst j y hy
                    show (listed.setIfInBounds x.1 true).getD y.1 true = true ↔ _
                    rw [hgj _ hne]
                    exact h3.trans (by omega)
                · intro d v hv
                  have hold : look Tl d = some v → ∃ j y, j < jx + 1 ∧ hs0[j]? = some y ∧ y.2.1.d = some d ∧ v = vsH hs0 vals (u ++ [v2]) 0 y.1 := by
                    intro hv
                    obtain ⟨j, y, h1, h2, h3, h4⟩ := hph.tl d v hv
                    exact ⟨j, y, by omega, h2, h3, by rw [h4]; exact (hvnew j y h1 h2).symm⟩
                  cases hxd : x.2.1.d with
                  | none => rw [hxd] at hv; exact hold hv
                  | some dd =>
                    rw [hxd] at hv
                    by_cases e : dd = d
                    · subst e
                      simp only [SL.put, look_put_same] at hv
                      obtain rfl := Option.some.inj hv
                      refine ⟨jx, x, by omega, hjx, hxd, ?_⟩
                      have := hvh (u ++ [v2]) jx x hjx
                      have e2 : (u ++ [v2]).getD jx undef = v2 := by
                        rw [List.getD_eq_getElem?_getD, List.getElem?_append_right (by rw [hph.len]; exact Nat.le_refl _), hph.len]
                        simp
                      rw [e2] at this
                      exact this.symm
                    · simp only [SL.put] at hv
                      rw [look_cons_ne _ _ e] at hv
                      exact hold hv
                · have h7 := hputu (u ++ [v2])
                  have h8 : vs (u ++ [v2]) x.1 = v2 := by
                    rw [hvh _ jx x hjx, List.getD_eq_getElem?_getD, List.getElem?_append_right (by rw [hph.len]; exact Nat.le_refl _), hph.len]
                    simp
                  rw [h8] at h7
                  rw [← h7, hb]
                  congr 1
                  unfold foldF
                  refine foldl_ext' _ _ _ _ fun b j hj => ?_
                  by_cases hjl : listed.getD j true = true
                  · have : vs u j = vs (u ++ [v2]) j := by
                      rcases hholes j with ⟨jy, y, hjy, rfl⟩ | hq0
                      · exact (hvnew jy y ((hph.lst jy y hjy).1 hjl) hjy).symm
                      · rw [hvq _ _ hq0, hvq _ _ hq0]
                    rw [this]
                  · simp [hjl]
              · have hph2 : Phs P w0 n Ss (fun Tl S' => OL P w0 n (l'.drop k) (Tl ++ T2) S' (Q .normal)) hs0 vals (fun j => (listed.setIfInBounds i true).getD j true) u Sx Tl c := by
                  refine ⟨hph.le, hph.len, fun j x hx => ?_, hph.ch, hph.ss, hph.tl⟩
                  show (listed.setIfInBounds i true).getD x.1 true = true ↔ _
                  rw [hgj x.1 (hip x (List.mem_of_getElem? hx))]
                  exact hph.lst j x hx
                rcases hgives u Sx hph.ss i hik hip o ho with ⟨hw1, hw2⟩ | ⟨hw1, hw2⟩
                · rw [hwan] at hw1
                  rw [if_pos hw1]
                  left
                  refine Oper.wp_mono ?_ (wp_transfer hev (by rw [hsz1, hsz2]) (by rw [hsz1]; exact hdo) hdf (hw2 w' hr'))
                  rintro b' w'' ⟨rfl, hr''⟩
                  exact hnext u Sx Tl c w'' _ hph2 (by rw [hb]; exact hputu u) hr''
                · rw [hwan] at hw1
                  rw [hw1]
                  simp only [Bool.false_eq_true, if_false]
                  have h9 := hputu u
                  rw [hw2] at h9
                  exact hnext u Sx Tl c w' _ hph2 (by rw [hb]; exact h9) hr'
      -- the moves first
      have phase0 : ∀ (Hr : List Nat) (listed : Array Bool) (b : Act) (w' : World), hoistB ops Hr listed = true → (∀ i ∈ Hr, i < k) → listed.size = ops.size →
          (∀ j o, ops[j]? = some o → listed.getD j true = true → ∀ e ∈ o.after, Region.binds .any e = true → listed.getD e.on true = true) → (∀ i ∈ Hs, listed.getD i true = true ∨ i ∈ Hr) →
          (∀ t, k ≤ t → t < ops.size → listed.getD t true = false) → (∀ x ∈ hs0, listed.getD x.1 true = false) → b = foldF ops (vs []) (fun j => listed.getD j true) k a → Rep w0 S w' →
          wpAny P .any ops (fun e a' w' => e = .normal ∧ ∃ T' S', Sat n T' a' ∧ Rep w0 S' w' ∧ Q e T' S') (cnt (fun j => listed.getD j true) ops.size) listed b w' := by
        intro Hr
        induction Hr with
        | nil =>
          intro listed b w' _ _ hsz hcl hHl htl hnp hb hr'
          exact key _ listed b w' hsz hcl (fun i hi => (hHl i hi).resolve_right (by simp)) htl ⟨[], S, [], 0, ⟨Nat.zero_le _, rfl, fun j x hx => by simp [hnp x (List.mem_of_getElem? hx)], hch, hSs, fun d v h => by simp [look] at h⟩, hb, hr'⟩ rfl
        | cons i Hr ih =>
          intro listed b w' hh hlt hsz hcl hHl htl hnp hb hr'
          simp only [hoistB, Bool.and_eq_true] at hh
          obtain ⟨⟨⟨hho, hfree⟩, hready⟩, hrest⟩ := hh
          have hi : i ∈ Region.ready .any ops listed := by simpa using hready
          obtain ⟨hun, o, ho, hpre⟩ := mem_ready.1 hi
          have hilt : i < ops.size := (Array.getElem?_eq_some_iff.1 ho).1
          have hik : i < k := hlt i (by simp)
          have hgj : ∀ j, j ≠ i → (listed.setIfInBounds i true).getD j true = listed.getD j true := fun j hj => getD_set_ne true (Ne.symm hj)
          rw [hcntset listed i hsz hi hilt]
          simp only [hoistable?, ho, hoistable, Bool.and_eq_true] at hho
          obtain ⟨hgn, hmv⟩ := hho
          have hgn' : o.guard = none := by simpa using hgn
          have hwant : ∀ t : Array Value, Region.wanted o (yielded ops t) = true := fun t => by simp [Region.wanted, hgn']
          have hagree' := hagree [] listed i o hcl hi ho hik
          rw [← hb] at hagree'
          have hdo : dstOk n o.dst = true := hdst i o hik ho
          have hsz1 : (runA ops (vs []) 0 i a).tmps.size = n := by rw [← foldF_runA ops (vs []) i k a (by omega), (foldF_size ops (vs []) _ k a).1, hs.size]
          have hmove : ∃ x, (o.op = .move x ∨ o.op = .assign x) := by
            cases hop : o.op <;> rw [hop] at hmv <;> simp at hmv
            · exact ⟨_, .inl rfl⟩
            · exact ⟨_, .inr rfl⟩
          obtain ⟨x, hx⟩ := hmove
          have hip : ∀ x ∈ hs0, x.1 ≠ i := by
            intro y hy e; subst e
            obtain ⟨_, hyk, hyl⟩ := hqi y hy
            obtain ⟨oc, hoc, hpoc, hdstc, hgdc⟩ := cIs_pos hc1 hyk hyl
            obtain rfl : oc = o := by rw [hoc] at ho; exact Option.some.inj ho
            have : y.2.1.o = .mov (cV x) := by
              have h5 : cOp P oc = some (.mov (cV x)) := by unfold cOp cOp0; rcases hx with hx | hx <;> simp [hx]
              rw [h5] at hpoc
              exact (Option.some.inj hpoc).symm
            have h6 := List.all_eq_true.1 hno y hy
            rw [this] at h6
            simp at h6
          have hexec : ∀ ρ, execOp ρ o = pure (.value (ρ x)) := by
            intro ρ
            rcases hx with hx | hx <;> simp [execOp, hx]
          have hval : b.eval x = vs [] i ∨ o.dst = none := by
            rcases hgives [] S hSs i hik hip o ho with ⟨_, hw2⟩ | ⟨hw1, _⟩
            · have := hw2 w' hr'
              unfold Oper.wp at this
              rw [hexec] at this
              simp only [Sem.run_pure, Oper.upon] at this
              have hev : (runA ops (vs []) 0 i a).eval x = b.eval x := eval_agree fun t ht => hagree' t (looks_op (by rcases hx with hx | hx <;> simp [hx, Op.operands, ht]))
              cases hd : o.dst with
              | none => exact .inr rfl
              | some d =>
                left
                rw [hd] at this hdo
                have h3 := congrArg (fun c : Act => c.tmps[d]?) this.1
                have hdn : d < n := by simpa [dstOk] using hdo
                simp [Act.put, hsz1, hdn] at h3
                rw [← hev]; exact h3
            · rw [hwant] at hw1; cases hw1
          refine wpAny_take (oi := o) (v := b.eval x) ho hsel hfree hready (fun c a w hq => by simp at hq) (.inl ⟨hwant _, fun w => by rw [hexec]; rfl⟩) ?_
          have hbput : b.put o.dst (b.eval x) = foldF ops (vs []) (fun j => (listed.setIfInBounds i true).getD j true) k a := by
            rw [← hput [] listed i o hsz hcl hi ho hik, ← hb]
            rcases hval with h | h
            · rw [h]
            · rw [h]; rfl
          rw [hbput]
          refine ih _ _ w' hrest (fun j hj => hlt j (by simp [hj])) (by simpa using hsz) (hclset listed i o hsz hcl hi ho) ?_ ?_ (fun x hx => by rw [hgj _ (hip x hx)]; exact hnp x hx) rfl hr'
          · intro j hj
            by_cases e : j = i
            · subst e; exact .inl (hgetset listed j hsz hilt)
            · rw [hgj j e]
              rcases hHl j hj with h | h
              · exact .inl h
              · rcases List.mem_cons.1 h with h | h
                · exact absurd h e
                · exact .inr h
          · intro t h3 h4
            rw [hgj t (by omega)]
            exact htl t h3 h4
      have hcnt0 : cnt (fun j => (Array.replicate ops.size false).getD j true) ops.size = ops.size := by
        rw [cnt_congr (g := fun j => decide (j < 0)) ops.size (fun j hj => by simp [hj]), cnt_below]
        omega
      have := phase0 Hs (Array.replicate ops.size false) a { w with drawn := w.drawn + 1 } hhoist hHk (by simp) ?_ (fun i hi => .inr hi) ?_ (fun x hx => by have := (hqi x hx).2.1; have : x.1 < ops.size := (by omega); simp [this]) ?_ ?_
      · rwa [hcnt0] at this
      · intro j o ho hj
        exfalso
        have hlt : j < ops.size := (Array.getElem?_eq_some_iff.1 ho).1
        simp [hlt] at hj
      · intro t _ ht
        simp [ht]
      · have : ∀ j, j < k → (Array.replicate ops.size false).getD j true = decide (j < 0) := by
          intro j hj
          have : j < ops.size := by omega
          simp [this]
        have h0 : foldF ops (vs []) (fun j => (Array.replicate ops.size false).getD j true) k a = foldF ops (vs []) (fun j => decide (j < 0)) k a := by
          unfold foldF
          refine foldl_ext' _ _ _ _ fun b j hj => ?_
          simp only [this j (List.mem_range.1 hj)]
        rw [h0, foldF_runA ops (vs []) 0 k a (Nat.zero_le _)]
        rfl
      · exact hr.same ((Below.refl _ w).drew) (fun _ _ => rfl)
  all_goals (first | (simp [cC] at hc; done) | (simp only [cC] at hc; split at hc <;> simp at hc; done))
end
end Go.SL

namespace Go.SL
open Go.RowKit
section
variable {P : Program} {w0 : World} {n : Nat} {T : TT} {S : SS}
def QN (P : Program) (w0 : World) (n : Nat) (base : SS) (i : Nat) (l : List PI) (T : TT) (K : TT → HL → Prop) : Prop := ∃ T' vals hs, QM P w0 n (Over base) i l T T' vals hs ∧ K T' hs
theorem QN.nil {base : SS} {i : Nat} {K : TT → HL → Prop} (h : K T []) : QN P w0 n base i [] T K := ⟨T, [], [], .nil, h⟩
theorem QN.det {base : SS} {i : Nat} {po : PO} {d : Option Nat} {g : Option (Nat × Bool)} {v : Value} {r : List PI} {K : TT → HL → Prop} (hg : gOk T g) (h : ∀ S, Over base S → Yields P w0 n po T S v) (k : QN P w0 n base (i + 1) r (put d v T) K) : QN P w0 n base i (⟨d, g, po⟩ :: r) T K :=
 let ⟨T', vs, hs, h1, h2⟩ := k; ⟨T', _, hs, .step hg (fun S hS => OW.of_yields (h S hS)) h1, h2⟩
theorem QN.hole {base : SS} {i : Nat} {c : PI} {r : List PI} {K : TT → HL → Prop} (k : QN P w0 n base (i + 1) r (SL.del c.d T) (fun T' hs => K T' ((i, c, T) :: hs))) : QN P w0 n base i (c :: r) T K :=
 let ⟨T', vs, hs, h1, h2⟩ := k; ⟨T', _, _, .hole h1, h2⟩
def ordP (b : List Nat) : List Nat → Bool
 | [] => true
 | x :: r => (r.all fun y => Nat.beq (b.getD y 0 / 2 ^ x % 2) 1) && ordP b r
theorem ordB_of {b hp : List Nat} : ∀ {hs : HL}, hs.map (·.1) = hp → ordP b hp = true → ordB b hs = true := by
 intro hs h h2
 subst h
 induction hs with
 | nil => rfl
 | cons x r ih =>
  simp only [List.map_cons, ordP, Bool.and_eq_true] at h2
  simp only [ordB, Bool.and_eq_true]
  refine ⟨?_, ih h2.2⟩
  rw [List.all_eq_true] at h2 ⊢
  exact fun y hy => h2.1 y.1 (List.mem_map.2 ⟨y, hy, rfl⟩)
theorem PW.quietRNK {b : List Nat} {k : Nat} {l : List PI} {base : SS} {Q : Exit → TT → SS → Prop} (hm : P.follows .mixedOrders = true) (hS : Over base S)
  (h : QN P w0 n base 0 (l.take k) T (fun T2 hs => distB (l.take k) hs = true ∧ noMovB hs = true ∧ ordB b hs = true ∧ LCh P w0 n (Over base) (fun Tl S' => OL P w0 n (l.drop k) (Tl ++ T2) S' (Q .normal)) hs [] S)) : PW P w0 n (.quietR b k l) T S Q :=
 let ⟨_, _, _, h1, h2, h3, h4, h5⟩ := h; PW.quietRN hm h1 h2 h3 h4 hS h5
theorem QM.app {Ss : SS → Prop} {A B : List PI} {T T1 T2 : TT} {va vb : List Value} {hs : HL} (h : QLs P w0 n Ss A T T1 va) : ∀ i, QM P w0 n Ss (i + A.length) B T1 T2 vb hs → QM P w0 n Ss i (A ++ B) T T2 (va ++ vb) hs := by
 induction h with
 | nil => intro i k; simpa using k
 | step hg h k ih => intro i k2; exact .step hg h (ih (i + 1) (by rw [List.length_cons, Nat.add_comm _ 1, ← Nat.add_assoc] at k2; exact k2))
 | off hl hc k ih => intro i k2; exact .off hl hc (ih (i + 1) (by rw [List.length_cons, Nat.add_comm _ 1, ← Nat.add_assoc] at k2; exact k2))
end
end Go.SL

namespace Go.SL
open Go.RowKit
section
variable {P : Program} {w0 : World} {n : Nat} {T : TT} {S : SS}
theorem Rep.permS {w : World} {S' : SS} (h : Rep w0 S w) (hp : S.Perm S') : Rep w0 S' w :=
 h.sub (fun p hx => hp.flatten.mem_iff.2 hx) ((hp.flatten.map _).nodup_iff.1 h.nodup)
end
end Go.SL

namespace Go.SL
open Go.RowKit
section
variable {P : Program} {w0 : World} {n : Nat} {T : TT} {S : SS}
end
end Go.SL

namespace Go.SL
open Go.RowKit
section
variable {P : Program} {w0 : World} {n : Nat} {T : TT} {S : SS}
theorem Rep.loadVar {w : World} {S : SS} {a : Addr} {v : Value} {m : Option Nat} {t : TypeId} (hr : Rep w0 S w) (hm : aggOf P t = some m) (hv : ReadsAs w0 S m a v) : (Go.loadVar t a).run P w = .ok v w := by
 cases m with
 | none =>
  obtain ⟨d, hu, hd⟩ := aggOf_none hm
  have := hr.cell hv
  simp [Go.loadVar, run_isAgg hu, hd, load, Sem.run, this]
 | some m =>
  obtain ⟨cs, rfl, hcl, hcs⟩ := hv
  obtain ⟨d, i, hu, hd, hi, hsz⟩ := aggOf_some hm
  have hload := run_loadCells_list (P := P) w a cs (fun j v hj => hr.cell (hcs j v hj))
  rw [hcl] at hload
  simp [Go.loadVar, run_isAgg hu, hd, sizeOf, typeInfo, program, hi, hsz, hload, Sem.run]
def KnownTCC (P : Program) (k : FuncId) (pc : PC) (n u s1 s2 : Nat) (m1 m2 : Option Nat) : Prop :=
 ∃ fn c t1 t2, P.funcs[k]? = some fn ∧ fn.body = some c ∧ cC P fn.ntmps c = some pc ∧ fn.ntmps = n ∧ fn.results = #[.tmp u, .cell s1 t1, .cell s2 t2] ∧ aggOf P t1 = some m1 ∧ aggOf P t2 = some m2
theorem FC.ofTCC {k : FuncId} {pc : PC} {u s1 s2 : Nat} {m1 m2 : Option Nat} {args : List Value} {post : Value → SS → Prop} (hk : KnownTCC P k pc n u s1 s2 m1 m2) (hn : args.length ≤ n)
  (h : PW P w0 n pc (argT 0 args) S (fun e T' S' => (e = .normal ∨ e = .ret) ∧ ∃ x a v b y, look T' u = some x ∧ look T' s1 = some (.pointer (some a)) ∧ ReadsAs w0 S' m1 a v ∧ look T' s2 = some (.pointer (some b)) ∧ ReadsAs w0 S' m2 b y ∧ ∃ S'', Sub S'' S' ∧ post (.tuple #[x, v, y]) S'')) : FC P w0 k args S post := by
 obtain ⟨fn, c, t1, t2, hf, hb, hc, rfl, hres, hm1, hm2⟩ := hk
 intro w hw
 refine calls_of_wp hf hb (wp_mono (h c hc _ w (argT_sat hn) hw) ?_)
 rintro e a' w' ⟨T', S', hs', hr', he, x, a, v, b, y, hx, ha, hv, hb', hy, S'', hsub, hp⟩
 have htx := hs'.get u _ hx
 have hta := hs'.get s1 _ ha
 have htb := hs'.get s2 _ hb'
 have l1 := hr'.loadVar hm1 hv
 have l2 := hr'.loadVar hm2 hy
 have hrun : (results fn a'.tmps).run P w' = .ok (.tuple #[x, v, y]) w' := by
  simp [results, hres, htx, hta, htb, asAddr, l1, l2]
 rcases he with rfl | rfl
 ·exact ⟨hs'.defers, _, hrun, _, S'', rfl, hr'.subS hsub, hp⟩
 ·exact ⟨hs'.defers, _, hrun, _, S'', rfl, hr'.subS hsub, hp⟩
end
end Go.SL

namespace Go.SL
open Go.RowKit Go.ChangeShapes Go.WideShapes Go.ChangeAt
section
variable {H : Type} {enc : TypeId × Value → H} {P : Program} {W : World}
theorem trod_slice1 {t e : TypeId} {n : Nat} {cs : List Value} {y : DataW H × List MemPlace} (hu : P.underlying t = some (.slice e)) (h : DataW.trod enc P W 0 (fun _ => true) true n t cs = some y) :
  ∃ A len cap, cs = [.slice A len cap] ∧ DataW.Trod enc P W 0 (fun _ => true) true t (.slice A len cap) y.1 y.2 := by
 rcases DataW.trod_slice hu h with ⟨h0, _⟩ | ⟨a, len', cap', elems, rest, n', _, hcs, _⟩
 ·exact ⟨none, 0, 0, h0, n, by rw [show (Value.slice none 0 0).cells.toList = cs from h0.symm]; exact h⟩
 ·exact ⟨_, _, _, hcs, n, by rw [show (Value.slice (some a) len' cap').cells.toList = cs from hcs.symm]; exact h⟩
end
end Go.SL

abbrev Go.SL.zz : Go.Value := .int .u8 0
abbrev Go.SL.yy : Go.SL.CK := .int .u8
namespace Go.Proofs
open Go.SL
set_option maxRecDepth 100000
theorem Try.mixed : Try.prog.follows .mixedOrders = true := by kernel_rfl
def Try.pc14 : PC :=
 (.seq (.ops [⟨some 0, none, .mov (.v (.pointer none))⟩])
 (.seq (.ops [⟨some 1, none, .mkM⟩, ⟨some 2, none, .mkM⟩, ⟨some 3, none, .build [.bool false, .map none, .map none, .slice none 0 0] [(0, 1, (.v (.bool true))), (1, 1, (.t 1)), (2, 1, (.t 2))]⟩, ⟨some 4, none, .bx 57 (.t 3)⟩, ⟨some 0, none, .mov (.t 4)⟩])
 .ret))
theorem Try.known14 : Known Try.prog 14 Try.pc14 5 [0] := ⟨Try.f14, _, Try.func14, rfl, by kernel_rfl, rfl, rfl⟩
def Try.pc16 : PC :=
 (.seq (.ops [⟨some 2, none, .bx 25 (.t 0)⟩, ⟨some 3, none, .bx 36 (.t 1)⟩, ⟨some 4, none, .mov (.v (.int .i64 0))⟩])
 (.seq (.block 0 (.seq (.ops [⟨some 8, none, .ld (.t 2)⟩, ⟨some 9, none, .call 48 [(.t 8)]⟩, ⟨some 10, none, .not (.t 9)⟩, ⟨some 7, none, .mov (.t 10)⟩])
 (.cond (.t 7) (.seq (.ops [⟨some 4, none, .mov (.v (.int .i64 1))⟩])
 .ret) (.seq (.ops [⟨some 12, none, .ld (.t 2)⟩, ⟨some 13, none, .ldA 102 (.t 3)⟩, ⟨some 14, none, .call 52 [(.t 12), (.t 13)]⟩, ⟨some 11, none, .mov (.t 14)⟩])
 (.cond (.t 11) (.seq (.ops [⟨some 4, none, .mov (.v (.int .i64 6))⟩])
 .ret) (.seq (.ops [⟨some 16, none, .ldA 102 (.t 3)⟩, ⟨some 17, none, .call 53 [(.t 16)]⟩, ⟨some 18, none, .not (.t 17)⟩, ⟨some 15, none, .mov (.t 18)⟩])
 (.cond (.t 15) (.seq (.ops [⟨some 4, none, .mov (.v (.int .i64 4))⟩])
 .ret) (.seq (.ops [⟨some 20, none, .ld (.t 2)⟩, ⟨some 21, none, .fa 34 (.t 3)⟩, ⟨some 22, none, .ldA 33 (.t 21)⟩, ⟨some 23, none, .call 29 [(.t 20), (.t 22)]⟩, ⟨some 24, none, .not (.t 23)⟩, ⟨some 25, none, .mov (.t 24)⟩, ⟨some 26, (some (25, false)), .ld (.t 2)⟩, ⟨some 27, (some (25, false)), .fa 67 (.t 3)⟩, ⟨some 28, (some (25, false)), .ldA 33 (.t 27)⟩, ⟨some 29, (some (25, false)), .call 29 [(.t 26), (.t 28)]⟩, ⟨some 30, (some (25, false)), .not (.t 29)⟩, ⟨some 31, none, .pick (.t 25) (.v (.bool true)) (.t 30)⟩, ⟨some 32, none, .mov (.t 31)⟩, ⟨some 33, (some (32, false)), .fa 101 (.t 3)⟩, ⟨some 34, (some (32, false)), .ld (.t 33)⟩, ⟨some 35, (some (32, false)), .mkF 55 [(.t 2)]⟩, ⟨some 36, (some (32, false)), .call 54 [(.t 34), (.t 35)]⟩, ⟨some 37, none, .pick (.t 32) (.v (.bool true)) (.t 36)⟩, ⟨some 19, none, .mov (.t 37)⟩])
 (.cond (.t 19) (.seq (.ops [⟨some 4, none, .mov (.v (.int .i64 10))⟩])
 .ret) (.seq (.ops [⟨some 39, none, .ld (.t 2)⟩, ⟨some 40, none, .fa 34 (.t 3)⟩, ⟨some 41, none, .ldA 33 (.t 40)⟩, ⟨some 42, none, .fa 67 (.t 3)⟩, ⟨some 43, none, .ldA 33 (.t 42)⟩, ⟨some 44, none, .call 18 [(.t 39), (.t 41), (.t 43)]⟩, ⟨some 45, none, .not (.t 44)⟩, ⟨some 38, none, .mov (.t 45)⟩])
 (.cond (.t 38) (.seq (.ops [⟨some 4, none, .mov (.v (.int .i64 4))⟩])
 .ret) .skip)))))))))))
 (.seq (.quietR [0, 1, 3, 0, 8, 31, 31] 7 [⟨some 46, none, .fa 100 (.t 3)⟩, ⟨some 47, none, .ld (.t 46)⟩, ⟨some 48, none, .call 57 [(.t 47)]⟩, ⟨some 49, none, .fa 101 (.t 3)⟩, ⟨some 50, none, .ld (.t 49)⟩, ⟨some 51, none, .call 51 [(.t 50)]⟩, ⟨some 52, none, .fa 100 (.t 3)⟩, ⟨none, none, .st 1 (.t 52) (.t 48)⟩, ⟨some 53, none, .fa 101 (.t 3)⟩, ⟨none, none, .st 1 (.t 53) (.t 51)⟩])
 (.seq (.quiet 10 [⟨some 54, none, .ld (.t 2)⟩, ⟨some 55, none, .nilc (.t 54)⟩, ⟨some 56, none, .fa 1 (.t 55)⟩, ⟨some 57, none, .ld (.t 56)⟩, ⟨some 58, none, .fa 0 (.t 3)⟩, ⟨some 59, none, .ldA 32 (.t 58)⟩, ⟨some 60, none, .fa 32 (.t 3)⟩, ⟨some 61, none, .ld (.t 60)⟩, ⟨some 62, none, .build [zz, zz, zz, zz, zz, zz, zz, zz, zz, zz, zz, zz, zz, zz, zz, zz, zz, zz, zz, zz, zz, zz, zz, zz, zz, zz, zz, zz, zz, zz, zz, zz, .int .i64 0] [(0, 32, (.t 59)), (32, 1, (.t 61))]⟩, ⟨some 63, none, .ldA 102 (.t 3)⟩, ⟨none, none, .more (.other (.gen (.mapUpdate 54 (.tmp 57) (.tmp 62) (.tmp 63))))⟩])
 (.seq (.seq (.ops [⟨some 64, none, .fa 100 (.t 3)⟩, ⟨some 65, none, .ld (.t 64)⟩, ⟨some 66, none, .lenS (.t 65)⟩, ⟨some 67, none, .mov (.v (.int .i64 0))⟩])
 (.block 1 (.loop (.seq (.ops [⟨some 68, none, .bin .lss (.t 67) (.t 66)⟩])
 (.seq (.cond (.t 68) .skip (.exit 1))
 (.seq (.block 2 (.seq (.ops [⟨some 69, none, .mov (.t 67)⟩, ⟨some 70, none, .ixS 1 (.t 65) (.t 67)⟩, ⟨some 71, none, .ld (.t 70)⟩, ⟨some 5, none, .mov (.t 69)⟩, ⟨some 6, none, .mov (.t 71)⟩])
 (.quiet 9 [⟨some 72, none, .ld (.t 2)⟩, ⟨some 73, none, .nilc (.t 72)⟩, ⟨some 74, none, .fa 2 (.t 73)⟩, ⟨some 75, none, .ld (.t 74)⟩, ⟨some 76, none, .ldA 102 (.t 3)⟩, ⟨some 77, none, .mov (.t 5)⟩, ⟨some 78, none, .call 58 [(.t 76), (.t 77)]⟩, ⟨some 79, none, .mov (.t 6)⟩, ⟨some 80, none, .build [.string ⟨#[]⟩, .int .i64 0, .int .i64 0, .slice none 0 0] [(0, 1, (.t 79))]⟩, ⟨none, none, .more (.other (.gen (.mapUpdate 55 (.tmp 75) (.tmp 78) (.tmp 80))))⟩])))
 (.ops [⟨some 81, none, .bin .add (.t 67) (.v (.int .i64 1))⟩, ⟨some 67, none, .mov (.t 81)⟩])))))))
 (.seq (.ops [⟨some 82, none, .ld (.t 2)⟩, ⟨some 83, none, .ldA 102 (.t 3)⟩, ⟨some 84, none, .call 59 [(.t 82), (.t 83), (.v (.bool true))]⟩])
 (.seq (.ops [⟨some 85, none, .ld (.t 2)⟩, ⟨some 86, none, .ldA 102 (.t 3)⟩, ⟨some 87, none, .call 60 [(.t 85), (.t 86), (.v (.int .i64 1))]⟩])
 (.seq (.ops [⟨some 4, none, .mov (.v (.int .i64 0))⟩])
 .ret))))))))
theorem Try.known16 : Known Try.prog 16 Try.pc16 88 [4] := ⟨Try.f16, _, Try.func16, rfl, by kernel_rfl, rfl, rfl⟩
def Try.pc17 : PC :=
 (.seq (.ops [⟨some 2, none, .mov (.v (.slice none 0 0))⟩])
 (.seq (.seq (.ops [⟨some 11, none, .mov (.t 0)⟩, ⟨some 12, none, .call 48 [(.t 11)]⟩, ⟨some 13, none, .not (.t 12)⟩])
 (.cond (.t 13) (.seq (.ops [⟨some 2, none, .mov (.v (.slice none 0 0))⟩])
 .ret) .skip))
 (.seq (.ops [⟨some 14, none, .mov (.t 0)⟩, ⟨some 15, none, .call 61 [(.t 14)]⟩, ⟨some 3, none, .mov (.t 15)⟩])
 (.seq (.ops [⟨some 16, none, .bsl0 32⟩, ⟨some 17, none, .bx 110 (.t 16)⟩, ⟨some 4, none, .mov (.t 17)⟩])
 (.seq (.seq (.ops [⟨some 18, none, .mov (.t 0)⟩, ⟨some 19, none, .nilc (.t 18)⟩, ⟨some 20, none, .fa 2 (.t 19)⟩, ⟨some 21, none, .ld (.t 20)⟩, ⟨some 22, none, .more (.other (.gen (.range 55 (.tmp 21))))⟩])
 (.block 0 (.loop (.seq (.ops [⟨some 23, none, .more (.other (.gen (.next (.tmp 22) false)))⟩, ⟨some 24, none, .ext 0 (.t 23)⟩])
 (.seq (.cond (.t 24) .skip (.exit 0))
 (.block 1 (.seq (.ops [⟨some 25, none, .more (.other (.gen (.entry (.tmp 22))))⟩, ⟨some 26, none, .ext 0 (.t 25)⟩, ⟨some 5, none, .al 32 [zz, zz, zz, zz, zz, zz, zz, zz, zz, zz, zz, zz, zz, zz, zz, zz, zz, zz, zz, zz, zz, zz, zz, zz, zz, zz, zz, zz, zz, zz, zz, zz, .int .i64 0]⟩, ⟨none, none, .st 33 (.t 5) (.t 26)⟩])
 (.seq (.ops [⟨some 27, none, .mov (.t 3)⟩, ⟨some 28, none, .ldA 33 (.t 5)⟩, ⟨some 29, none, .more (.other (.gen (.lookup 107 (.tmp 27) (.tmp 28) false)))⟩, ⟨some 30, none, .bin .eql (.t 29) (.v (.int .i64 0))⟩])
 (.cond (.t 30) (.ops [⟨some 31, none, .mov (.t 4)⟩, ⟨some 32, none, .more (.mkI 109 (.t 31))⟩, ⟨some 33, none, .ldA 33 (.t 5)⟩, ⟨some 34, none, .more (.mkI 32 (.t 33))⟩, ⟨some 35, none, .call 62 [(.t 32), (.t 34)]⟩]) .skip)))))))))
 (.seq (.block 2 (.loop (.seq (.seq (.ops [⟨some 36, none, .mov (.t 4)⟩, ⟨some 37, none, .nilc (.t 36)⟩, ⟨some 38, none, .ld (.t 37)⟩, ⟨some 39, none, .call 63 [(.t 38)]⟩, ⟨some 40, none, .bin .gtr (.t 39) (.v (.int .i64 0))⟩])
 (.cond (.t 40) .skip (.exit 2)))
 (.block 3 (.seq (.ops [⟨some 42, none, .mov (.t 4)⟩, ⟨some 43, none, .more (.mkI 109 (.t 42))⟩, ⟨some 44, none, .call 64 [(.t 43)]⟩, ⟨some 45, none, .more (.other (.gen (.typeAssert (.tmp 44) 20 32 true)))⟩, ⟨some 41, none, .mov (.t 45)⟩, ⟨some 46, none, .ext 0 (.t 41)⟩, ⟨some 47, none, .ext 1 (.t 41)⟩, ⟨some 6, none, .al 32 [zz, zz, zz, zz, zz, zz, zz, zz, zz, zz, zz, zz, zz, zz, zz, zz, zz, zz, zz, zz, zz, zz, zz, zz, zz, zz, zz, zz, zz, zz, zz, zz, .int .i64 0]⟩, ⟨none, none, .st 33 (.t 6) (.t 46)⟩, ⟨some 7, none, .mov (.t 47)⟩])
 (.seq (.seq (.ops [⟨some 48, none, .mov (.t 7)⟩, ⟨some 49, none, .not (.t 48)⟩])
 (.cond (.t 49) (.exit 3) .skip))
 (.seq (.quiet 7 [⟨some 50, none, .mov (.t 0)⟩, ⟨some 51, none, .nilc (.t 50)⟩, ⟨some 52, none, .fa 2 (.t 51)⟩, ⟨some 53, none, .ld (.t 52)⟩, ⟨some 54, none, .ldA 33 (.t 6)⟩, ⟨some 55, none, .more (.other (.gen (.lookup 55 (.tmp 53) (.tmp 54) false)))⟩, ⟨some 8, none, .al 100 [.string ⟨#[]⟩, .int .i64 0, .int .i64 0, .slice none 0 0]⟩, ⟨none, none, .st 4 (.t 8) (.t 55)⟩])
 (.seq (.ops [⟨some 56, none, .mov (.t 2)⟩, ⟨some 57, none, .ldA 33 (.t 6)⟩, ⟨some 58, none, .fa 0 (.t 8)⟩, ⟨some 59, none, .ld (.t 58)⟩, ⟨some 60, none, .fa 1 (.t 8)⟩, ⟨some 61, none, .ld (.t 60)⟩, ⟨some 62, none, .bin .eql (.t 61) (.v (.int .i64 0))⟩, ⟨some 63, none, .build [zz, zz, zz, zz, zz, zz, zz, zz, zz, zz, zz, zz, zz, zz, zz, zz, zz, zz, zz, zz, zz, zz, zz, zz, zz, zz, zz, zz, zz, zz, zz, zz, .int .i64 0, .string ⟨#[]⟩, .bool false] [(0, 33, (.t 57)), (33, 1, (.t 59)), (34, 1, (.t 62))]⟩, ⟨some 64, none, .bsl 43 [zz, zz, zz, zz, zz, zz, zz, zz, zz, zz, zz, zz, zz, zz, zz, zz, zz, zz, zz, zz, zz, zz, zz, zz, zz, zz, zz, zz, zz, zz, zz, zz, .int .i64 0, .string ⟨#[]⟩, .bool false] 1 [(0, 35, (.t 63))]⟩, ⟨some 65, none, .app 39 43 35 64 (.agg #[zz, zz, zz, zz, zz, zz, zz, zz, zz, zz, zz, zz, zz, zz, zz, zz, zz, zz, zz, zz, zz, zz, zz, zz, zz, zz, zz, zz, zz, zz, zz, zz, .int .i64 0, .string ⟨#[]⟩, .bool false]) (.t 56) (.t 64)⟩, ⟨some 2, none, .mov (.t 65)⟩])
 (.seq (.ops [⟨some 66, none, .fa 3 (.t 8)⟩, ⟨some 67, none, .ld (.t 66)⟩, ⟨some 68, none, .lenS (.t 67)⟩, ⟨some 69, none, .mov (.v (.int .i64 0))⟩])
 (.block 4 (.loop (.seq (.ops [⟨some 70, none, .bin .lss (.t 69) (.t 68)⟩])
 (.seq (.cond (.t 70) .skip (.exit 4))
 (.seq (.block 5 (.seq (.ops [⟨some 71, none, .ixS 33 (.t 67) (.t 69)⟩, ⟨some 72, none, .ldA 33 (.t 71)⟩, ⟨some 10, none, .al 32 [zz, zz, zz, zz, zz, zz, zz, zz, zz, zz, zz, zz, zz, zz, zz, zz, zz, zz, zz, zz, zz, zz, zz, zz, zz, zz, zz, zz, zz, zz, zz, zz, .int .i64 0]⟩, ⟨none, none, .st 33 (.t 10) (.t 72)⟩])
 (.seq (.quietR [0, 0, 3, 7, 3, 19] 6 [⟨some 73, none, .mov (.t 3)⟩, ⟨some 74, none, .ldA 33 (.t 10)⟩, ⟨some 75, none, .more (.other (.gen (.lookup 107 (.tmp 73) (.tmp 74) false)))⟩, ⟨some 76, none, .bin .sub (.t 75) (.v (.int .i64 1))⟩, ⟨some 77, none, .more (.other (.gen (.mapEntry 107 (.tmp 73) (.tmp 74))))⟩, ⟨some 78, none, .ext 1 (.t 77)⟩, ⟨none, none, .more (.other (.gen (.entryStore 107 (.tmp 73) (.tmp 78) (.tmp 76))))⟩])
 (.seq (.quiet2 1 6 [⟨some 79, none, .ldA 33 (.t 10)⟩, ⟨some 80, none, .call 65 []⟩, ⟨some 81, none, .more (.eqD true 32 [yy, yy, yy, yy, yy, yy, yy, yy, yy, yy, yy, yy, yy, yy, yy, yy, yy, yy, yy, yy, yy, yy, yy, yy, yy, yy, yy, yy, yy, yy, yy, yy, .int .i64] (.t 79) (.t 80))⟩, ⟨some 82, none, .mov (.t 81)⟩, ⟨some 83, (some (82, true)), .mov (.t 3)⟩, ⟨some 84, (some (82, true)), .ldA 33 (.t 10)⟩, ⟨some 85, (some (82, true)), .more (.other (.gen (.lookup 107 (.tmp 83) (.tmp 84) false)))⟩, ⟨some 86, (some (82, true)), .bin .eql (.t 85) (.v (.int .i64 0))⟩, ⟨some 87, none, .pick (.t 82) (.t 86) (.v (.bool false))⟩])
 (.cond (.t 87) (.ops [⟨some 88, none, .mov (.t 4)⟩, ⟨some 89, none, .more (.mkI 109 (.t 88))⟩, ⟨some 90, none, .ldA 33 (.t 10)⟩, ⟨some 91, none, .more (.mkI 32 (.t 90))⟩, ⟨some 92, none, .call 62 [(.t 89), (.t 91)]⟩]) .skip)))))
 (.ops [⟨some 93, none, .bin .add (.t 69) (.v (.int .i64 1))⟩, ⟨some 69, none, .mov (.t 93)⟩])))))))))))))))
 (.seq (.ops [⟨some 94, none, .mov (.t 2)⟩, ⟨some 2, none, .mov (.t 94)⟩])
 .ret)))))))
theorem Try.known17 : Known Try.prog 17 Try.pc17 95 [2] := ⟨Try.f17, _, Try.func17, rfl, by kernel_rfl, rfl, rfl⟩
def Try.pc18 : PC :=
 (.seq (.ops [⟨some 4, none, .bx 32 (.t 1)⟩, ⟨some 5, none, .bx 32 (.t 2)⟩, ⟨some 6, none, .mov (.v (.bool false))⟩])
 (.seq (.block 0 (.seq (.quiet2 2 23 [⟨some 15, none, .mov (.t 0)⟩, ⟨some 16, none, .ldA 33 (.t 4)⟩, ⟨some 17, none, .call 29 [(.t 15), (.t 16)]⟩, ⟨some 18, none, .not (.t 17)⟩, ⟨some 19, none, .mov (.t 18)⟩, ⟨some 20, (some (19, false)), .mov (.t 0)⟩, ⟨some 21, (some (19, false)), .ldA 33 (.t 5)⟩, ⟨some 22, (some (19, false)), .call 29 [(.t 20), (.t 21)]⟩, ⟨some 23, (some (19, false)), .not (.t 22)⟩, ⟨some 24, none, .pick (.t 19) (.v (.bool true)) (.t 23)⟩, ⟨some 25, none, .mov (.t 24)⟩, ⟨some 26, (some (25, false)), .ldA 33 (.t 4)⟩, ⟨some 27, (some (25, false)), .ldA 33 (.t 5)⟩, ⟨some 28, (some (25, false)), .more (.eqD false 32 [yy, yy, yy, yy, yy, yy, yy, yy, yy, yy, yy, yy, yy, yy, yy, yy, yy, yy, yy, yy, yy, yy, yy, yy, yy, yy, yy, yy, yy, yy, yy, yy, .int .i64] (.t 26) (.t 27))⟩, ⟨some 29, none, .pick (.t 25) (.v (.bool true)) (.t 28)⟩, ⟨some 30, none, .mov (.t 29)⟩, ⟨some 31, (some (30, false)), .ldA 33 (.t 4)⟩, ⟨some 32, (some (30, false)), .call 65 []⟩, ⟨some 33, (some (30, false)), .more (.eqD false 32 [yy, yy, yy, yy, yy, yy, yy, yy, yy, yy, yy, yy, yy, yy, yy, yy, yy, yy, yy, yy, yy, yy, yy, yy, yy, yy, yy, yy, yy, yy, yy, yy, .int .i64] (.t 31) (.t 32))⟩, ⟨some 34, none, .pick (.t 30) (.v (.bool true)) (.t 33)⟩, ⟨some 35, none, .mov (.t 34)⟩, ⟨some 36, (some (35, false)), .ldA 33 (.t 5)⟩, ⟨some 37, (some (35, false)), .call 66 []⟩, ⟨some 38, (some (35, false)), .more (.eqD false 32 [yy, yy, yy, yy, yy, yy, yy, yy, yy, yy, yy, yy, yy, yy, yy, yy, yy, yy, yy, yy, yy, yy, yy, yy, yy, yy, yy, yy, yy, yy, yy, yy, .int .i64] (.t 36) (.t 37))⟩, ⟨some 39, none, .pick (.t 35) (.v (.bool true)) (.t 38)⟩, ⟨some 14, none, .mov (.t 39)⟩])
 (.cond (.t 14) (.seq (.ops [⟨some 6, none, .mov (.v (.bool false))⟩])
 .ret) (.seq (.quiet2 1 6 [⟨some 41, none, .ldA 33 (.t 4)⟩, ⟨some 42, none, .call 66 []⟩, ⟨some 43, none, .more (.eqD false 32 [yy, yy, yy, yy, yy, yy, yy, yy, yy, yy, yy, yy, yy, yy, yy, yy, yy, yy, yy, yy, yy, yy, yy, yy, yy, yy, yy, yy, yy, yy, yy, yy, .int .i64] (.t 41) (.t 42))⟩, ⟨some 44, none, .mov (.t 43)⟩, ⟨some 45, (some (44, false)), .ldA 33 (.t 5)⟩, ⟨some 46, (some (44, false)), .call 65 []⟩, ⟨some 47, (some (44, false)), .more (.eqD false 32 [yy, yy, yy, yy, yy, yy, yy, yy, yy, yy, yy, yy, yy, yy, yy, yy, yy, yy, yy, yy, yy, yy, yy, yy, yy, yy, yy, yy, yy, yy, yy, yy, .int .i64] (.t 45) (.t 46))⟩, ⟨some 48, none, .pick (.t 44) (.v (.bool true)) (.t 47)⟩, ⟨some 40, none, .mov (.t 48)⟩])
 (.cond (.t 40) (.seq (.ops [⟨some 6, none, .mov (.v (.bool true))⟩])
 .ret) .skip)))))
 (.seq (.ops [⟨some 49, none, .mkM⟩, ⟨some 50, none, .ldA 33 (.t 4)⟩, ⟨some 51, none, .build [] []⟩, ⟨none, none, .more (.other (.gen (.insert 117 (.tmp 49) (.tmp 50) (.tmp 51))))⟩, ⟨some 52, none, .mov (.t 49)⟩, ⟨some 7, none, .mov (.t 52)⟩])
 (.seq (.ops [⟨some 53, none, .ldA 33 (.t 4)⟩, ⟨some 54, none, .bsl 32 [zz, zz, zz, zz, zz, zz, zz, zz, zz, zz, zz, zz, zz, zz, zz, zz, zz, zz, zz, zz, zz, zz, zz, zz, zz, zz, zz, zz, zz, zz, zz, zz, .int .i64 0] 1 [(0, 33, (.t 53))]⟩, ⟨some 8, none, .mov (.t 54)⟩])
 (.seq (.block 1 (.loop (.seq (.seq (.ops [⟨some 55, none, .mov (.t 8)⟩, ⟨some 56, none, .lenS (.t 55)⟩, ⟨some 57, none, .bin .gtr (.t 56) (.v (.int .i64 0))⟩])
 (.cond (.t 57) .skip (.exit 1)))
 (.block 2 (.seq (.ops [⟨some 58, none, .mov (.t 8)⟩, ⟨some 59, none, .mov (.t 8)⟩, ⟨some 60, none, .lenS (.t 59)⟩, ⟨some 61, none, .bin .sub (.t 60) (.v (.int .i64 1))⟩, ⟨some 62, none, .ixS 33 (.t 58) (.t 61)⟩, ⟨some 63, none, .ldA 33 (.t 62)⟩, ⟨some 9, none, .al 32 [zz, zz, zz, zz, zz, zz, zz, zz, zz, zz, zz, zz, zz, zz, zz, zz, zz, zz, zz, zz, zz, zz, zz, zz, zz, zz, zz, zz, zz, zz, zz, zz, .int .i64 0]⟩, ⟨none, none, .st 33 (.t 9) (.t 63)⟩])
 (.seq (.ops [⟨some 64, none, .mov (.t 8)⟩, ⟨some 65, none, .mov (.t 8)⟩, ⟨some 66, none, .lenS (.t 65)⟩, ⟨some 67, none, .bin .sub (.t 66) (.v (.int .i64 1))⟩, ⟨some 68, none, .slS 33 (.t 64) none (some (.t 67))⟩, ⟨some 8, none, .mov (.t 68)⟩])
 (.seq (.ops [⟨some 69, none, .mov (.t 0)⟩, ⟨some 70, none, .ldA 33 (.t 9)⟩, ⟨some 71, none, .call 67 [(.t 69), (.t 70)]⟩, ⟨some 72, none, .lenS (.t 71)⟩, ⟨some 73, none, .mov (.v (.int .i64 0))⟩])
 (.block 3 (.loop (.seq (.ops [⟨some 74, none, .bin .lss (.t 73) (.t 72)⟩])
 (.seq (.cond (.t 74) .skip (.exit 3))
 (.seq (.block 4 (.seq (.ops [⟨some 75, none, .ixS 33 (.t 71) (.t 73)⟩, ⟨some 76, none, .ldA 33 (.t 75)⟩, ⟨some 11, none, .al 32 [zz, zz, zz, zz, zz, zz, zz, zz, zz, zz, zz, zz, zz, zz, zz, zz, zz, zz, zz, zz, zz, zz, zz, zz, zz, zz, zz, zz, zz, zz, zz, zz, .int .i64 0]⟩, ⟨none, none, .st 33 (.t 11) (.t 76)⟩])
 (.seq (.seq (.ops [⟨some 77, none, .ldA 33 (.t 11)⟩, ⟨some 78, none, .ldA 33 (.t 5)⟩, ⟨some 79, none, .more (.eqD false 32 [yy, yy, yy, yy, yy, yy, yy, yy, yy, yy, yy, yy, yy, yy, yy, yy, yy, yy, yy, yy, yy, yy, yy, yy, yy, yy, yy, yy, yy, yy, yy, yy, .int .i64] (.t 77) (.t 78))⟩])
 (.cond (.t 79) (.seq (.ops [⟨some 6, none, .mov (.v (.bool true))⟩])
 .ret) .skip))
 (.seq (.ops [⟨some 81, none, .mov (.t 7)⟩, ⟨some 82, none, .ldA 33 (.t 11)⟩, ⟨some 83, none, .more (.other (.gen (.lookup 117 (.tmp 81) (.tmp 82) true)))⟩, ⟨some 80, none, .mov (.t 83)⟩, ⟨some 84, none, .ext 0 (.t 80)⟩, ⟨some 85, none, .ext 1 (.t 80)⟩, ⟨some 12, none, .al 116 []⟩, ⟨none, none, .st 0 (.t 12) (.t 84)⟩, ⟨some 13, none, .mov (.t 85)⟩])
 (.seq (.ops [⟨some 86, none, .mov (.t 13)⟩, ⟨some 87, none, .not (.t 86)⟩])
 (.cond (.t 87) (.seq (.ops [⟨some 88, none, .mov (.t 7)⟩, ⟨some 89, none, .ldA 33 (.t 11)⟩, ⟨some 90, none, .build [] []⟩, ⟨none, none, .more (.other (.gen (.mapUpdate 117 (.tmp 88) (.tmp 89) (.tmp 90))))⟩])
 (.ops [⟨some 91, none, .mov (.t 8)⟩, ⟨some 92, none, .ldA 33 (.t 11)⟩, ⟨some 93, none, .bsl 32 [zz, zz, zz, zz, zz, zz, zz, zz, zz, zz, zz, zz, zz, zz, zz, zz, zz, zz, zz, zz, zz, zz, zz, zz, zz, zz, zz, zz, zz, zz, zz, zz, .int .i64 0] 1 [(0, 33, (.t 92))]⟩, ⟨some 94, none, .app 34 32 33 40 (.agg #[zz, zz, zz, zz, zz, zz, zz, zz, zz, zz, zz, zz, zz, zz, zz, zz, zz, zz, zz, zz, zz, zz, zz, zz, zz, zz, zz, zz, zz, zz, zz, zz, .int .i64 0]) (.t 91) (.t 93)⟩, ⟨some 8, none, .mov (.t 94)⟩])) .skip))))))
 (.ops [⟨some 95, none, .bin .add (.t 73) (.v (.int .i64 1))⟩, ⟨some 73, none, .mov (.t 95)⟩])))))))))))))
 (.seq (.ops [⟨some 6, none, .mov (.v (.bool false))⟩])
 .ret))))))
theorem Try.known18 : Known Try.prog 18 Try.pc18 96 [6] := ⟨Try.f18, _, Try.func18, rfl, by kernel_rfl, rfl, rfl⟩
def Try.pc29 : PC :=
 (.seq (.ops [⟨some 3, none, .bx 32 (.t 1)⟩, ⟨some 4, none, .mov (.v (.bool false))⟩])
 (.seq (.quiet2 1 14 [⟨some 5, none, .mov (.t 0)⟩, ⟨some 6, none, .call 48 [(.t 5)]⟩, ⟨some 7, none, .mov (.t 6)⟩, ⟨some 8, (some (7, true)), .ldA 33 (.t 3)⟩, ⟨some 9, (some (7, true)), .call 66 []⟩, ⟨some 10, (some (7, true)), .more (.eqD false 32 [yy, yy, yy, yy, yy, yy, yy, yy, yy, yy, yy, yy, yy, yy, yy, yy, yy, yy, yy, yy, yy, yy, yy, yy, yy, yy, yy, yy, yy, yy, yy, yy, .int .i64] (.t 8) (.t 9))⟩, ⟨some 11, (some (7, true)), .mov (.t 10)⟩, ⟨some 12, (some (11, false)), .ldA 33 (.t 3)⟩, ⟨some 13, (some (11, false)), .call 65 []⟩, ⟨some 14, (some (11, false)), .more (.eqD false 32 [yy, yy, yy, yy, yy, yy, yy, yy, yy, yy, yy, yy, yy, yy, yy, yy, yy, yy, yy, yy, yy, yy, yy, yy, yy, yy, yy, yy, yy, yy, yy, yy, .int .i64] (.t 12) (.t 13))⟩, ⟨some 15, (some (7, true)), .pick (.t 11) (.v (.bool true)) (.t 14)⟩, ⟨some 16, (some (7, true)), .mov (.t 15)⟩, ⟨some 17, (some (16, false)), .mov (.t 0)⟩, ⟨some 18, (some (16, false)), .ldA 33 (.t 3)⟩, ⟨some 19, (some (16, false)), .call 56 [(.t 17), (.t 18)]⟩, ⟨some 20, (some (7, true)), .pick (.t 16) (.v (.bool true)) (.t 19)⟩, ⟨some 21, none, .pick (.t 7) (.t 20) (.v (.bool false))⟩, ⟨some 4, none, .mov (.t 21)⟩])
 .ret))
theorem Try.known29 : Known Try.prog 29 Try.pc29 22 [4] := ⟨Try.f29, _, Try.func29, rfl, by kernel_rfl, rfl, rfl⟩
def Try.pc48 : PC :=
 (.seq (.ops [⟨some 2, none, .mov (.v (.bool false))⟩])
 (.seq (.ops [⟨some 3, none, .mov (.t 0)⟩, ⟨some 4, none, .eqP true (.t 3) (.v (.pointer none))⟩, ⟨some 5, none, .mov (.t 4)⟩, ⟨some 6, (some (5, true)), .mov (.t 0)⟩, ⟨some 7, (some (5, true)), .nilc (.t 6)⟩, ⟨some 8, (some (5, true)), .fa 0 (.t 7)⟩, ⟨some 9, (some (5, true)), .ld (.t 8)⟩, ⟨some 10, none, .pick (.t 5) (.t 9) (.v (.bool false))⟩, ⟨some 2, none, .mov (.t 10)⟩])
 .ret))
theorem Try.known48 : Known Try.prog 48 Try.pc48 11 [2] := ⟨Try.f48, _, Try.func48, rfl, by kernel_rfl, rfl, rfl⟩
def Try.pc51 : PC :=
 (.seq (.ops [⟨some 2, none, .mov (.v (.slice none 0 0))⟩])
 (.seq (.seq (.ops [⟨some 3, none, .mov (.t 0)⟩, ⟨some 4, none, .more (.slNil false (.t 3))⟩])
 (.cond (.t 4) (.seq (.ops [⟨some 2, none, .mov (.v (.slice none 0 0))⟩])
 .ret) .skip))
 (.seq (.ops [⟨some 5, none, .bsl0 32⟩, ⟨some 6, none, .mov (.t 0)⟩, ⟨some 7, none, .app 34 32 33 40 (.agg #[zz, zz, zz, zz, zz, zz, zz, zz, zz, zz, zz, zz, zz, zz, zz, zz, zz, zz, zz, zz, zz, zz, zz, zz, zz, zz, zz, zz, zz, zz, zz, zz, .int .i64 0]) (.t 5) (.t 6)⟩, ⟨some 2, none, .mov (.t 7)⟩])
 .ret)))
theorem Try.known51 : Known Try.prog 51 Try.pc51 8 [2] := ⟨Try.f51, _, Try.func51, rfl, by kernel_rfl, rfl, rfl⟩
def Try.pc52 : PC :=
 (.seq (.ops [⟨some 3, none, .bx 36 (.t 1)⟩, ⟨some 4, none, .mov (.v (.bool false))⟩])
 (.seq (.seq (.quietR [0, 1, 3, 7, 0, 16, 0, 64, 240, 511, 1023, 2047, 2047, 0, 12287] 15 [⟨some 9, none, .mov (.t 0)⟩, ⟨some 10, none, .nilc (.t 9)⟩, ⟨some 11, none, .fa 1 (.t 10)⟩, ⟨some 12, none, .ld (.t 11)⟩, ⟨some 13, none, .fa 0 (.t 3)⟩, ⟨some 14, none, .ldA 32 (.t 13)⟩, ⟨some 15, none, .fa 32 (.t 3)⟩, ⟨some 16, none, .ld (.t 15)⟩, ⟨some 17, none, .build [zz, zz, zz, zz, zz, zz, zz, zz, zz, zz, zz, zz, zz, zz, zz, zz, zz, zz, zz, zz, zz, zz, zz, zz, zz, zz, zz, zz, zz, zz, zz, zz, .int .i64 0] [(0, 32, (.t 14)), (32, 1, (.t 16))]⟩, ⟨some 18, none, .more (.other (.gen (.lookup 54 (.tmp 12) (.tmp 17) true)))⟩, ⟨some 8, none, .mov (.t 18)⟩, ⟨some 19, none, .ext 0 (.t 8)⟩, ⟨some 20, none, .ext 1 (.t 8)⟩, ⟨some 5, none, .al 36 [zz, zz, zz, zz, zz, zz, zz, zz, zz, zz, zz, zz, zz, zz, zz, zz, zz, zz, zz, zz, zz, zz, zz, zz, zz, zz, zz, zz, zz, zz, zz, zz, .int .i64 0, .int .i64 0, zz, zz, zz, zz, zz, zz, zz, zz, zz, zz, zz, zz, zz, zz, zz, zz, zz, zz, zz, zz, zz, zz, zz, zz, zz, zz, zz, zz, zz, zz, zz, zz, .int .i64 0, zz, zz, zz, zz, zz, zz, zz, zz, zz, zz, zz, zz, zz, zz, zz, zz, zz, zz, zz, zz, zz, zz, zz, zz, zz, zz, zz, zz, zz, zz, zz, zz, .int .i64 0, .slice none 0 0, .slice none 0 0]⟩, ⟨none, none, .st 102 (.t 5) (.t 19)⟩, ⟨some 6, none, .mov (.t 20)⟩])
 (.seq (.ops [⟨some 21, none, .mov (.t 6)⟩])
 (.cond (.t 21) (.seq (.ops [⟨some 4, none, .mov (.v (.bool true))⟩])
 .ret) .skip)))
 (.seq (.seq (.ops [⟨some 22, none, .fa 100 (.t 3)⟩, ⟨some 23, none, .ld (.t 22)⟩, ⟨some 24, none, .lenS (.t 23)⟩, ⟨some 25, none, .mov (.v (.int .i64 0))⟩])
 (.block 0 (.loop (.seq (.ops [⟨some 26, none, .bin .lss (.t 25) (.t 24)⟩])
 (.seq (.cond (.t 26) .skip (.exit 0))
 (.seq (.block 1 (.seq (.ops [⟨some 27, none, .mov (.t 25)⟩, ⟨some 7, none, .mov (.t 27)⟩])
 (.seq (.ops [⟨some 28, none, .mov (.t 0)⟩, ⟨some 29, none, .ldA 102 (.t 3)⟩, ⟨some 30, none, .mov (.t 7)⟩, ⟨some 31, none, .call 58 [(.t 29), (.t 30)]⟩, ⟨some 32, none, .call 56 [(.t 28), (.t 31)]⟩])
 (.cond (.t 32) (.seq (.ops [⟨some 4, none, .mov (.v (.bool true))⟩])
 .ret) .skip))))
 (.ops [⟨some 33, none, .bin .add (.t 25) (.v (.int .i64 1))⟩, ⟨some 25, none, .mov (.t 33)⟩])))))))
 (.seq (.ops [⟨some 4, none, .mov (.v (.bool false))⟩])
 .ret))))
theorem Try.known52 : Known Try.prog 52 Try.pc52 34 [4] := ⟨Try.f52, _, Try.func52, rfl, by kernel_rfl, rfl, rfl⟩
def Try.pc53 : PC :=
 (.seq (.ops [⟨some 1, none, .bx 36 (.t 0)⟩, ⟨some 2, none, .mov (.v (.bool false))⟩])
 (.seq (.seq (.ops [⟨some 5, none, .fa 101 (.t 1)⟩, ⟨some 6, none, .ld (.t 5)⟩, ⟨some 7, none, .lenS (.t 6)⟩, ⟨some 8, none, .mov (.v (.int .i64 0))⟩])
 (.block 0 (.loop (.seq (.ops [⟨some 9, none, .bin .lss (.t 8) (.t 7)⟩])
 (.seq (.cond (.t 9) .skip (.exit 0))
 (.seq (.block 1 (.seq (.ops [⟨some 10, none, .mov (.t 8)⟩, ⟨some 11, none, .ixS 33 (.t 6) (.t 8)⟩, ⟨some 12, none, .ldA 33 (.t 11)⟩, ⟨some 4, none, .al 32 [zz, zz, zz, zz, zz, zz, zz, zz, zz, zz, zz, zz, zz, zz, zz, zz, zz, zz, zz, zz, zz, zz, zz, zz, zz, zz, zz, zz, zz, zz, zz, zz, .int .i64 0]⟩, ⟨some 3, none, .mov (.t 10)⟩, ⟨none, none, .st 33 (.t 4) (.t 12)⟩])
 (.seq (.quiet2 1 14 [⟨some 13, none, .ldA 33 (.t 4)⟩, ⟨some 14, none, .call 66 []⟩, ⟨some 15, none, .more (.eqD false 32 [yy, yy, yy, yy, yy, yy, yy, yy, yy, yy, yy, yy, yy, yy, yy, yy, yy, yy, yy, yy, yy, yy, yy, yy, yy, yy, yy, yy, yy, yy, yy, yy, .int .i64] (.t 13) (.t 14))⟩, ⟨some 16, none, .mov (.t 15)⟩, ⟨some 17, (some (16, false)), .ldA 33 (.t 4)⟩, ⟨some 18, (some (16, false)), .call 65 []⟩, ⟨some 19, (some (16, false)), .more (.eqD false 32 [yy, yy, yy, yy, yy, yy, yy, yy, yy, yy, yy, yy, yy, yy, yy, yy, yy, yy, yy, yy, yy, yy, yy, yy, yy, yy, yy, yy, yy, yy, yy, yy, .int .i64] (.t 17) (.t 18))⟩, ⟨some 20, none, .pick (.t 16) (.v (.bool true)) (.t 19)⟩, ⟨some 21, none, .mov (.t 20)⟩, ⟨some 22, (some (21, false)), .fa 101 (.t 1)⟩, ⟨some 23, (some (21, false)), .ld (.t 22)⟩, ⟨some 24, (some (21, false)), .mov (.t 3)⟩, ⟨some 25, (some (21, false)), .slS 33 (.t 23) none (some (.t 24))⟩, ⟨some 26, (some (21, false)), .ldA 33 (.t 4)⟩, ⟨some 27, (some (21, false)), .call 85 [(.t 25), (.t 26)]⟩, ⟨some 28, none, .pick (.t 21) (.v (.bool true)) (.t 27)⟩])
 (.cond (.t 28) (.seq (.ops [⟨some 2, none, .mov (.v (.bool false))⟩])
 .ret) .skip))))
 (.ops [⟨some 29, none, .bin .add (.t 8) (.v (.int .i64 1))⟩, ⟨some 8, none, .mov (.t 29)⟩])))))))
 (.seq (.quiet2 6 13 [⟨some 30, none, .fa 33 (.t 1)⟩, ⟨some 31, none, .ld (.t 30)⟩, ⟨some 32, none, .bin .geq (.t 31) (.v (.int .i64 0))⟩, ⟨some 33, none, .mov (.t 32)⟩, ⟨some 34, (some (33, true)), .fa 34 (.t 1)⟩, ⟨some 35, (some (33, true)), .ldA 33 (.t 34)⟩, ⟨some 36, (some (33, true)), .call 65 []⟩, ⟨some 37, (some (33, true)), .more (.eqD true 32 [yy, yy, yy, yy, yy, yy, yy, yy, yy, yy, yy, yy, yy, yy, yy, yy, yy, yy, yy, yy, yy, yy, yy, yy, yy, yy, yy, yy, yy, yy, yy, yy, .int .i64] (.t 35) (.t 36))⟩, ⟨some 38, none, .pick (.t 33) (.t 37) (.v (.bool false))⟩, ⟨some 39, none, .mov (.t 38)⟩, ⟨some 40, (some (39, true)), .fa 67 (.t 1)⟩, ⟨some 41, (some (39, true)), .ldA 33 (.t 40)⟩, ⟨some 42, (some (39, true)), .call 66 []⟩, ⟨some 43, (some (39, true)), .more (.eqD true 32 [yy, yy, yy, yy, yy, yy, yy, yy, yy, yy, yy, yy, yy, yy, yy, yy, yy, yy, yy, yy, yy, yy, yy, yy, yy, yy, yy, yy, yy, yy, yy, yy, .int .i64] (.t 41) (.t 42))⟩, ⟨some 44, none, .pick (.t 39) (.t 43) (.v (.bool false))⟩, ⟨some 2, none, .mov (.t 44)⟩])
 .ret)))
theorem Try.known53 : Known Try.prog 53 Try.pc53 45 [2] := ⟨Try.f53, _, Try.func53, rfl, by kernel_rfl, rfl, rfl⟩
def Try.pc54 : PC :=
 (.seq (.ops [⟨some 4, none, .mov (.v (.bool false))⟩])
 (.seq (.ops [⟨some 5, none, .mov (.t 0)⟩, ⟨some 6, none, .mov (.t 1)⟩, ⟨some 7, none, .call 86 [(.t 5), (.t 6)]⟩, ⟨some 8, none, .bin .geq (.t 7) (.v (.int .i64 0))⟩, ⟨some 4, none, .mov (.t 8)⟩])
 .ret))
theorem Try.known54 : Known Try.prog 54 Try.pc54 9 [4] := ⟨Try.f54, _, Try.func54, rfl, by kernel_rfl, rfl, rfl⟩
def Try.pc55 : PC :=
 (.seq (.ops [⟨some 2, none, .bx 32 (.t 0)⟩, ⟨some 3, none, .mov (.v (.bool false))⟩])
 (.seq (.ops [⟨some 4, none, .ld (.t 1)⟩, ⟨some 5, none, .ldA 33 (.t 2)⟩, ⟨some 6, none, .call 56 [(.t 4), (.t 5)]⟩, ⟨some 7, none, .not (.t 6)⟩, ⟨some 3, none, .mov (.t 7)⟩])
 .ret))
theorem Try.known55 : Known Try.prog 55 Try.pc55 8 [3] := ⟨Try.f55, _, Try.func55, rfl, by kernel_rfl, rfl, rfl⟩
def Try.pc56 : PC :=
 (.seq (.ops [⟨some 3, none, .bx 32 (.t 1)⟩, ⟨some 4, none, .mov (.v (.bool false))⟩])
 (.seq (.quietR [0, 1, 3, 7, 0, 31, 63, 127, 127, 0, 767] 11 [⟨some 8, none, .mov (.t 0)⟩, ⟨some 9, none, .nilc (.t 8)⟩, ⟨some 10, none, .fa 2 (.t 9)⟩, ⟨some 11, none, .ld (.t 10)⟩, ⟨some 12, none, .ldA 33 (.t 3)⟩, ⟨some 13, none, .more (.other (.gen (.lookup 55 (.tmp 11) (.tmp 12) true)))⟩, ⟨some 7, none, .mov (.t 13)⟩, ⟨some 14, none, .ext 0 (.t 7)⟩, ⟨some 15, none, .ext 1 (.t 7)⟩, ⟨some 5, none, .al 100 [.string ⟨#[]⟩, .int .i64 0, .int .i64 0, .slice none 0 0]⟩, ⟨none, none, .st 4 (.t 5) (.t 14)⟩, ⟨some 6, none, .mov (.t 15)⟩])
 (.seq (.ops [⟨some 16, none, .mov (.t 6)⟩, ⟨some 4, none, .mov (.t 16)⟩])
 .ret)))
theorem Try.known56 : Known Try.prog 56 Try.pc56 17 [4] := ⟨Try.f56, _, Try.func56, rfl, by kernel_rfl, rfl, rfl⟩
def Try.pc57 : PC :=
 (.seq (.ops [⟨some 2, none, .mov (.v (.slice none 0 0))⟩])
 (.seq (.seq (.ops [⟨some 3, none, .mov (.t 0)⟩, ⟨some 4, none, .more (.slNil false (.t 3))⟩])
 (.cond (.t 4) (.seq (.ops [⟨some 2, none, .mov (.v (.slice none 0 0))⟩])
 .ret) .skip))
 (.seq (.ops [⟨some 5, none, .bsl0 9⟩, ⟨some 6, none, .mov (.t 0)⟩, ⟨some 7, none, .app 33 9 1 16 (.string ⟨#[]⟩) (.t 5) (.t 6)⟩, ⟨some 2, none, .mov (.t 7)⟩])
 .ret)))
theorem Try.known57 : Known Try.prog 57 Try.pc57 8 [2] := ⟨Try.f57, _, Try.func57, rfl, by kernel_rfl, rfl, rfl⟩
def Try.pc58 : PC :=
 (.seq (.ops [⟨some 2, none, .bx 36 (.t 0)⟩, ⟨some 4, none, .al 32 [zz, zz, zz, zz, zz, zz, zz, zz, zz, zz, zz, zz, zz, zz, zz, zz, zz, zz, zz, zz, zz, zz, zz, zz, zz, zz, zz, zz, zz, zz, zz, zz, .int .i64 0]⟩])
 (.seq (.ops [⟨some 5, none, .fa 0 (.t 2)⟩, ⟨some 6, none, .ldA 32 (.t 5)⟩, ⟨some 7, none, .fa 33 (.t 2)⟩, ⟨some 8, none, .ld (.t 7)⟩, ⟨some 9, none, .mov (.t 1)⟩, ⟨some 10, none, .bin .add (.t 8) (.t 9)⟩, ⟨some 11, none, .build [zz, zz, zz, zz, zz, zz, zz, zz, zz, zz, zz, zz, zz, zz, zz, zz, zz, zz, zz, zz, zz, zz, zz, zz, zz, zz, zz, zz, zz, zz, zz, zz, .int .i64 0] [(0, 32, (.t 6)), (32, 1, (.t 10))]⟩, ⟨none, none, .st 33 (.t 4) (.t 11)⟩])
 .ret))
theorem Try.known58 : KnownC Try.prog 58 Try.pc58 12 4 (some 33) := ⟨Try.f58, _, _, Try.func58, rfl, by kernel_rfl, rfl, rfl, by kernel_rfl⟩
def Try.pc59 : PC :=
 (.seq (.ops [⟨some 4, none, .bx 36 (.t 1)⟩])
 (.seq (.seq (.ops [⟨some 9, none, .fa 100 (.t 4)⟩, ⟨some 10, none, .ld (.t 9)⟩, ⟨some 11, none, .lenS (.t 10)⟩, ⟨some 12, none, .bin .eql (.t 11) (.v (.int .i64 0))⟩])
 (.cond (.t 12) .ret .skip))
 (.seq (.ops [⟨some 13, none, .fa 34 (.t 4)⟩, ⟨some 14, none, .ldA 33 (.t 13)⟩, ⟨some 15, none, .bsl 32 [zz, zz, zz, zz, zz, zz, zz, zz, zz, zz, zz, zz, zz, zz, zz, zz, zz, zz, zz, zz, zz, zz, zz, zz, zz, zz, zz, zz, zz, zz, zz, zz, .int .i64 0] 1 [(0, 33, (.t 14))]⟩, ⟨some 6, none, .mov (.t 15)⟩])
 (.seq (.seq (.ops [⟨some 16, none, .fa 100 (.t 4)⟩, ⟨some 17, none, .ld (.t 16)⟩, ⟨some 18, none, .lenS (.t 17)⟩, ⟨some 19, none, .mov (.v (.int .i64 0))⟩])
 (.block 0 (.loop (.seq (.ops [⟨some 20, none, .bin .lss (.t 19) (.t 18)⟩])
 (.seq (.cond (.t 20) .skip (.exit 0))
 (.seq (.block 1 (.seq (.ops [⟨some 21, none, .mov (.t 19)⟩, ⟨some 7, none, .mov (.t 21)⟩])
 (.ops [⟨some 22, none, .mov (.t 6)⟩, ⟨some 23, none, .ldA 102 (.t 4)⟩, ⟨some 24, none, .mov (.t 7)⟩, ⟨some 25, none, .call 58 [(.t 23), (.t 24)]⟩, ⟨some 26, none, .bsl 32 [zz, zz, zz, zz, zz, zz, zz, zz, zz, zz, zz, zz, zz, zz, zz, zz, zz, zz, zz, zz, zz, zz, zz, zz, zz, zz, zz, zz, zz, zz, zz, zz, .int .i64 0] 1 [(0, 33, (.t 25))]⟩, ⟨some 27, none, .app 34 32 33 40 (.agg #[zz, zz, zz, zz, zz, zz, zz, zz, zz, zz, zz, zz, zz, zz, zz, zz, zz, zz, zz, zz, zz, zz, zz, zz, zz, zz, zz, zz, zz, zz, zz, zz, .int .i64 0]) (.t 22) (.t 26)⟩, ⟨some 6, none, .mov (.t 27)⟩])))
 (.ops [⟨some 28, none, .bin .add (.t 19) (.v (.int .i64 1))⟩, ⟨some 19, none, .mov (.t 28)⟩])))))))
 (.seq (.ops [⟨some 29, none, .mov (.t 6)⟩, ⟨some 30, none, .fa 67 (.t 4)⟩, ⟨some 31, none, .ldA 33 (.t 30)⟩, ⟨some 32, none, .bsl 32 [zz, zz, zz, zz, zz, zz, zz, zz, zz, zz, zz, zz, zz, zz, zz, zz, zz, zz, zz, zz, zz, zz, zz, zz, zz, zz, zz, zz, zz, zz, zz, zz, .int .i64 0] 1 [(0, 33, (.t 31))]⟩, ⟨some 33, none, .app 34 32 33 40 (.agg #[zz, zz, zz, zz, zz, zz, zz, zz, zz, zz, zz, zz, zz, zz, zz, zz, zz, zz, zz, zz, zz, zz, zz, zz, zz, zz, zz, zz, zz, zz, zz, zz, .int .i64 0]) (.t 29) (.t 32)⟩, ⟨some 6, none, .mov (.t 33)⟩])
 (.seq (.ops [⟨some 8, none, .mov (.v (.int .i64 1))⟩])
 (.block 2 (.loop (.seq (.seq (.ops [⟨some 34, none, .mov (.t 8)⟩, ⟨some 35, none, .mov (.t 6)⟩, ⟨some 36, none, .lenS (.t 35)⟩, ⟨some 37, none, .bin .lss (.t 34) (.t 36)⟩])
 (.cond (.t 37) .skip (.exit 2)))
 (.seq (.block 3 (.quiet 11 [⟨some 40, none, .mov (.t 0)⟩, ⟨some 41, none, .mov (.t 6)⟩, ⟨some 42, none, .mov (.t 8)⟩, ⟨some 43, none, .bin .sub (.t 42) (.v (.int .i64 1))⟩, ⟨some 44, none, .ixS 33 (.t 41) (.t 43)⟩, ⟨some 45, none, .ldA 33 (.t 44)⟩, ⟨some 46, none, .mov (.t 6)⟩, ⟨some 47, none, .mov (.t 8)⟩, ⟨some 48, none, .ixS 33 (.t 46) (.t 47)⟩, ⟨some 49, none, .ldA 33 (.t 48)⟩, ⟨some 50, none, .mov (.t 2)⟩, ⟨some 51, none, .call 87 [(.t 40), (.t 45), (.t 49), (.t 50)]⟩]))
 (.ops [⟨some 38, none, .mov (.t 8)⟩, ⟨some 39, none, .bin .add (.t 38) (.v (.int .i64 1))⟩, ⟨some 8, none, .mov (.t 39)⟩])))))))))))
theorem Try.known59 : Known Try.prog 59 Try.pc59 52 [] := ⟨Try.f59, _, Try.func59, rfl, by kernel_rfl, rfl, rfl⟩
def Try.pc60 : PC :=
 (.seq (.ops [⟨some 4, none, .bx 36 (.t 1)⟩])
 (.seq (.seq (.ops [⟨some 13, none, .fa 34 (.t 4)⟩, ⟨some 14, none, .ldA 33 (.t 13)⟩, ⟨some 15, none, .fa 67 (.t 4)⟩, ⟨some 16, none, .ldA 33 (.t 15)⟩, ⟨some 17, none, .bsl 32 [zz, zz, zz, zz, zz, zz, zz, zz, zz, zz, zz, zz, zz, zz, zz, zz, zz, zz, zz, zz, zz, zz, zz, zz, zz, zz, zz, zz, zz, zz, zz, zz, .int .i64 0, zz, zz, zz, zz, zz, zz, zz, zz, zz, zz, zz, zz, zz, zz, zz, zz, zz, zz, zz, zz, zz, zz, zz, zz, zz, zz, zz, zz, zz, zz, zz, zz, .int .i64 0] 2 [(0, 33, (.t 14)), (33, 33, (.t 16))]⟩, ⟨some 18, none, .fa 101 (.t 4)⟩, ⟨some 19, none, .ld (.t 18)⟩, ⟨some 20, none, .app 34 32 33 40 (.agg #[zz, zz, zz, zz, zz, zz, zz, zz, zz, zz, zz, zz, zz, zz, zz, zz, zz, zz, zz, zz, zz, zz, zz, zz, zz, zz, zz, zz, zz, zz, zz, zz, .int .i64 0]) (.t 17) (.t 19)⟩, ⟨some 21, none, .lenS (.t 20)⟩, ⟨some 22, none, .mov (.v (.int .i64 0))⟩])
 (.block 0 (.loop (.seq (.ops [⟨some 23, none, .bin .lss (.t 22) (.t 21)⟩])
 (.seq (.cond (.t 23) .skip (.exit 0))
 (.seq (.block 1 (.seq (.ops [⟨some 24, none, .ixS 33 (.t 20) (.t 22)⟩, ⟨some 25, none, .ldA 33 (.t 24)⟩, ⟨some 7, none, .al 32 [zz, zz, zz, zz, zz, zz, zz, zz, zz, zz, zz, zz, zz, zz, zz, zz, zz, zz, zz, zz, zz, zz, zz, zz, zz, zz, zz, zz, zz, zz, zz, zz, .int .i64 0]⟩, ⟨none, none, .st 33 (.t 7) (.t 25)⟩])
 (.seq (.quietR [0, 1, 3, 7, 0, 31, 63, 127, 127, 0, 767] 11 [⟨some 27, none, .mov (.t 0)⟩, ⟨some 28, none, .nilc (.t 27)⟩, ⟨some 29, none, .fa 2 (.t 28)⟩, ⟨some 30, none, .ld (.t 29)⟩, ⟨some 31, none, .ldA 33 (.t 7)⟩, ⟨some 32, none, .more (.other (.gen (.lookup 55 (.tmp 30) (.tmp 31) true)))⟩, ⟨some 26, none, .mov (.t 32)⟩, ⟨some 33, none, .ext 0 (.t 26)⟩, ⟨some 34, none, .ext 1 (.t 26)⟩, ⟨some 8, none, .al 100 [.string ⟨#[]⟩, .int .i64 0, .int .i64 0, .slice none 0 0]⟩, ⟨none, none, .st 4 (.t 8) (.t 33)⟩, ⟨some 9, none, .mov (.t 34)⟩])
 (.seq (.ops [⟨some 35, none, .mov (.t 9)⟩])
 (.cond (.t 35) (.seq (.ops [⟨some 36, none, .fa 2 (.t 8)⟩, ⟨some 37, none, .ld (.t 36)⟩, ⟨some 38, none, .mov (.t 2)⟩, ⟨some 39, none, .bin .add (.t 37) (.t 38)⟩, ⟨some 40, none, .fa 2 (.t 8)⟩, ⟨none, none, .st 1 (.t 40) (.t 39)⟩])
 (.quiet 6 [⟨some 41, none, .mov (.t 0)⟩, ⟨some 42, none, .nilc (.t 41)⟩, ⟨some 43, none, .fa 2 (.t 42)⟩, ⟨some 44, none, .ld (.t 43)⟩, ⟨some 45, none, .ldA 33 (.t 7)⟩, ⟨some 46, none, .ldA 4 (.t 8)⟩, ⟨none, none, .more (.other (.gen (.mapUpdate 55 (.tmp 44) (.tmp 45) (.tmp 46))))⟩])) .skip)))))
 (.ops [⟨some 47, none, .bin .add (.t 22) (.v (.int .i64 1))⟩, ⟨some 22, none, .mov (.t 47)⟩])))))))
 (.seq (.ops [⟨some 48, none, .fa 101 (.t 4)⟩, ⟨some 49, none, .ld (.t 48)⟩, ⟨some 50, none, .lenS (.t 49)⟩, ⟨some 51, none, .mov (.v (.int .i64 0))⟩])
 (.block 2 (.loop (.seq (.ops [⟨some 52, none, .bin .lss (.t 51) (.t 50)⟩])
 (.seq (.cond (.t 52) .skip (.exit 2))
 (.seq (.block 3 (.seq (.ops [⟨some 53, none, .ixS 33 (.t 49) (.t 51)⟩, ⟨some 54, none, .ldA 33 (.t 53)⟩, ⟨some 11, none, .al 32 [zz, zz, zz, zz, zz, zz, zz, zz, zz, zz, zz, zz, zz, zz, zz, zz, zz, zz, zz, zz, zz, zz, zz, zz, zz, zz, zz, zz, zz, zz, zz, zz, .int .i64 0]⟩, ⟨none, none, .st 33 (.t 11) (.t 54)⟩])
 (.seq (.quiet 7 [⟨some 55, none, .mov (.t 0)⟩, ⟨some 56, none, .nilc (.t 55)⟩, ⟨some 57, none, .fa 2 (.t 56)⟩, ⟨some 58, none, .ld (.t 57)⟩, ⟨some 59, none, .ldA 33 (.t 11)⟩, ⟨some 60, none, .more (.other (.gen (.lookup 55 (.tmp 58) (.tmp 59) false)))⟩, ⟨some 12, none, .al 100 [.string ⟨#[]⟩, .int .i64 0, .int .i64 0, .slice none 0 0]⟩, ⟨none, none, .st 4 (.t 12) (.t 60)⟩])
 (.seq (.ops [⟨some 61, none, .fa 1 (.t 12)⟩, ⟨some 62, none, .ld (.t 61)⟩, ⟨some 63, none, .mov (.t 2)⟩, ⟨some 64, none, .bin .add (.t 62) (.t 63)⟩, ⟨some 65, none, .fa 1 (.t 12)⟩, ⟨none, none, .st 1 (.t 65) (.t 64)⟩])
 (.quiet 6 [⟨some 66, none, .mov (.t 0)⟩, ⟨some 67, none, .nilc (.t 66)⟩, ⟨some 68, none, .fa 2 (.t 67)⟩, ⟨some 69, none, .ld (.t 68)⟩, ⟨some 70, none, .ldA 33 (.t 11)⟩, ⟨some 71, none, .ldA 4 (.t 12)⟩, ⟨none, none, .more (.other (.gen (.mapUpdate 55 (.tmp 69) (.tmp 70) (.tmp 71))))⟩])))))
 (.ops [⟨some 72, none, .bin .add (.t 51) (.v (.int .i64 1))⟩, ⟨some 51, none, .mov (.t 72)⟩])))))))))
theorem Try.known60 : Known Try.prog 60 Try.pc60 73 [] := ⟨Try.f60, _, Try.func60, rfl, by kernel_rfl, rfl, rfl⟩
def Try.pc61 : PC :=
 (.seq (.ops [⟨some 2, none, .mov (.v (.map none))⟩])
 (.seq (.ops [⟨some 9, none, .mov (.t 0)⟩, ⟨some 10, none, .nilc (.t 9)⟩, ⟨some 11, none, .fa 2 (.t 10)⟩, ⟨some 12, none, .ld (.t 11)⟩, ⟨some 13, none, .lenM (.t 12)⟩, ⟨some 14, none, .more (.other (.gen (.makeMap 107 (some (.tmp 13)))))⟩, ⟨some 3, none, .mov (.t 14)⟩])
 (.seq (.seq (.ops [⟨some 15, none, .mov (.t 0)⟩, ⟨some 16, none, .nilc (.t 15)⟩, ⟨some 17, none, .fa 2 (.t 16)⟩, ⟨some 18, none, .ld (.t 17)⟩, ⟨some 19, none, .more (.other (.gen (.range 55 (.tmp 18))))⟩])
 (.block 0 (.loop (.seq (.ops [⟨some 20, none, .more (.other (.gen (.next (.tmp 19) false)))⟩, ⟨some 21, none, .ext 0 (.t 20)⟩])
 (.seq (.cond (.t 21) .skip (.exit 0))
 (.block 1 (.seq (.ops [⟨some 22, none, .more (.other (.gen (.entry (.tmp 19))))⟩, ⟨some 23, none, .ext 0 (.t 22)⟩, ⟨some 4, none, .al 32 [zz, zz, zz, zz, zz, zz, zz, zz, zz, zz, zz, zz, zz, zz, zz, zz, zz, zz, zz, zz, zz, zz, zz, zz, zz, zz, zz, zz, zz, zz, zz, zz, .int .i64 0]⟩, ⟨none, none, .st 33 (.t 4) (.t 23)⟩])
 (.quietR [0, 0, 3, 7, 3, 19] 6 [⟨some 24, none, .mov (.t 3)⟩, ⟨some 25, none, .ldA 33 (.t 4)⟩, ⟨some 26, none, .more (.other (.gen (.lookup 107 (.tmp 24) (.tmp 25) false)))⟩, ⟨some 27, none, .bin .add (.t 26) (.v (.int .i64 0))⟩, ⟨some 28, none, .more (.other (.gen (.mapEntry 107 (.tmp 24) (.tmp 25))))⟩, ⟨some 29, none, .ext 1 (.t 28)⟩, ⟨none, none, .more (.other (.gen (.entryStore 107 (.tmp 24) (.tmp 29) (.tmp 27))))⟩]))))))))
 (.seq (.seq (.ops [⟨some 30, none, .mov (.t 0)⟩, ⟨some 31, none, .nilc (.t 30)⟩, ⟨some 32, none, .fa 2 (.t 31)⟩, ⟨some 33, none, .ld (.t 32)⟩, ⟨some 34, none, .more (.other (.gen (.range 55 (.tmp 33))))⟩])
 (.block 2 (.loop (.seq (.ops [⟨some 35, none, .more (.other (.gen (.next (.tmp 34) false)))⟩, ⟨some 36, none, .ext 0 (.t 35)⟩])
 (.seq (.cond (.t 36) .skip (.exit 2))
 (.block 3 (.seq (.ops [⟨some 37, none, .more (.other (.gen (.entry (.tmp 34))))⟩, ⟨some 38, none, .ext 1 (.t 37)⟩, ⟨some 6, none, .al 100 [.string ⟨#[]⟩, .int .i64 0, .int .i64 0, .slice none 0 0]⟩, ⟨none, none, .st 4 (.t 6) (.t 38)⟩])
 (.seq (.ops [⟨some 39, none, .fa 3 (.t 6)⟩, ⟨some 40, none, .ld (.t 39)⟩, ⟨some 41, none, .lenS (.t 40)⟩, ⟨some 42, none, .mov (.v (.int .i64 0))⟩])
 (.block 4 (.loop (.seq (.ops [⟨some 43, none, .bin .lss (.t 42) (.t 41)⟩])
 (.seq (.cond (.t 43) .skip (.exit 4))
 (.seq (.block 5 (.seq (.ops [⟨some 44, none, .ixS 33 (.t 40) (.t 42)⟩, ⟨some 45, none, .ldA 33 (.t 44)⟩, ⟨some 8, none, .al 32 [zz, zz, zz, zz, zz, zz, zz, zz, zz, zz, zz, zz, zz, zz, zz, zz, zz, zz, zz, zz, zz, zz, zz, zz, zz, zz, zz, zz, zz, zz, zz, zz, .int .i64 0]⟩, ⟨none, none, .st 33 (.t 8) (.t 45)⟩])
 (.quietR [0, 0, 3, 7, 3, 19] 6 [⟨some 46, none, .mov (.t 3)⟩, ⟨some 47, none, .ldA 33 (.t 8)⟩, ⟨some 48, none, .more (.other (.gen (.lookup 107 (.tmp 46) (.tmp 47) false)))⟩, ⟨some 49, none, .bin .add (.t 48) (.v (.int .i64 1))⟩, ⟨some 50, none, .more (.other (.gen (.mapEntry 107 (.tmp 46) (.tmp 47))))⟩, ⟨some 51, none, .ext 1 (.t 50)⟩, ⟨none, none, .more (.other (.gen (.entryStore 107 (.tmp 46) (.tmp 51) (.tmp 49))))⟩])))
 (.ops [⟨some 52, none, .bin .add (.t 42) (.v (.int .i64 1))⟩, ⟨some 42, none, .mov (.t 52)⟩]))))))))))))))
 (.seq (.ops [⟨some 53, none, .mov (.t 3)⟩, ⟨some 2, none, .mov (.t 53)⟩])
 .ret)))))
theorem Try.known61 : Known Try.prog 61 Try.pc61 54 [2] := ⟨Try.f61, _, Try.func61, rfl, by kernel_rfl, rfl, rfl⟩
def Try.pc62 : PC :=
 (.seq (.ops [⟨some 4, none, .mov (.t 0)⟩, ⟨some 5, none, .mov (.t 1)⟩, ⟨some 6, none, .more (.other (.gen (.call { callee := (.invoke (.tmp 4) "Push"), args := #[(.tmp 5)], argTypes := #[20] })))⟩])
 (.ops [⟨some 7, none, .mov (.t 0)⟩, ⟨some 8, none, .mov (.t 0)⟩, ⟨some 9, none, .more (.other (.gen (.call { callee := (.invoke (.tmp 8) "Len"), args := #[], argTypes := #[] })))⟩, ⟨some 10, none, .bin .sub (.t 9) (.v (.int .i64 1))⟩, ⟨some 11, none, .call 88 [(.t 7), (.t 10)]⟩]))
theorem Try.known62 : Known Try.prog 62 Try.pc62 12 [] := ⟨Try.f62, _, Try.func62, rfl, by kernel_rfl, rfl, rfl⟩
def Try.pc63 : PC :=
 (.seq (.ops [⟨some 2, none, .mov (.v (.int .i64 0))⟩])
 (.seq (.ops [⟨some 3, none, .mov (.t 0)⟩, ⟨some 4, none, .lenS (.t 3)⟩, ⟨some 2, none, .mov (.t 4)⟩])
 .ret))
theorem Try.known63 : Known Try.prog 63 Try.pc63 5 [2] := ⟨Try.f63, _, Try.func63, rfl, by kernel_rfl, rfl, rfl⟩
def Try.pc64 : PC :=
 (.seq (.ops [⟨some 2, none, .mov (.v .nilIface)⟩])
 (.seq (.ops [⟨some 4, none, .mov (.t 0)⟩, ⟨some 5, none, .more (.other (.gen (.call { callee := (.invoke (.tmp 4) "Len"), args := #[], argTypes := #[] })))⟩, ⟨some 6, none, .bin .sub (.t 5) (.v (.int .i64 1))⟩, ⟨some 3, none, .mov (.t 6)⟩])
 (.seq (.ops [⟨some 7, none, .mov (.t 0)⟩, ⟨some 8, none, .mov (.t 3)⟩, ⟨some 9, none, .more (.other (.gen (.call { callee := (.invoke (.tmp 7) "Swap"), args := #[(.const (.int .i64 0)), (.tmp 8)], argTypes := #[3, 3] })))⟩])
 (.seq (.ops [⟨some 10, none, .mov (.t 0)⟩, ⟨some 11, none, .mov (.t 3)⟩, ⟨some 12, none, .call 89 [(.t 10), (.v (.int .i64 0)), (.t 11)]⟩])
 (.seq (.ops [⟨some 13, none, .mov (.t 0)⟩, ⟨some 14, none, .more (.other (.gen (.call { callee := (.invoke (.tmp 13) "Pop"), args := #[], argTypes := #[] })))⟩, ⟨some 2, none, .mov (.t 14)⟩])
 .ret)))))
theorem Try.known64 : Known Try.prog 64 Try.pc64 15 [2] := ⟨Try.f64, _, Try.func64, rfl, by kernel_rfl, rfl, rfl⟩
def Try.pc65 : PC :=
 (.seq (.ops [⟨some 0, none, .al 32 [zz, zz, zz, zz, zz, zz, zz, zz, zz, zz, zz, zz, zz, zz, zz, zz, zz, zz, zz, zz, zz, zz, zz, zz, zz, zz, zz, zz, zz, zz, zz, zz, .int .i64 0]⟩])
 (.seq (.ops [⟨some 1, none, .build [zz, zz, zz, zz, zz, zz, zz, zz, zz, zz, zz, zz, zz, zz, zz, zz, zz, zz, zz, zz, zz, zz, zz, zz, zz, zz, zz, zz, zz, zz, zz, zz, .int .i64 0] [(32, 1, (.v (.int .i64 (-2))))]⟩, ⟨none, none, .st 33 (.t 0) (.t 1)⟩])
 .ret))
theorem Try.known65 : KnownC Try.prog 65 Try.pc65 2 0 (some 33) := ⟨Try.f65, _, _, Try.func65, rfl, by kernel_rfl, rfl, rfl, by kernel_rfl⟩
def Try.pc66 : PC :=
 (.seq (.ops [⟨some 0, none, .al 32 [zz, zz, zz, zz, zz, zz, zz, zz, zz, zz, zz, zz, zz, zz, zz, zz, zz, zz, zz, zz, zz, zz, zz, zz, zz, zz, zz, zz, zz, zz, zz, zz, .int .i64 0]⟩])
 (.seq (.ops [⟨some 1, none, .build [zz, zz, zz, zz, zz, zz, zz, zz, zz, zz, zz, zz, zz, zz, zz, zz, zz, zz, zz, zz, zz, zz, zz, zz, zz, zz, zz, zz, zz, zz, zz, zz, .int .i64 0] [(32, 1, (.v (.int .i64 (-1))))]⟩, ⟨none, none, .st 33 (.t 0) (.t 1)⟩])
 .ret))
theorem Try.known66 : KnownC Try.prog 66 Try.pc66 2 0 (some 33) := ⟨Try.f66, _, _, Try.func66, rfl, by kernel_rfl, rfl, rfl, by kernel_rfl⟩
def Try.pc67 : PC :=
 (.seq (.ops [⟨some 3, none, .bx 32 (.t 1)⟩, ⟨some 4, none, .mov (.v (.slice none 0 0))⟩])
 (.seq (.seq (.quiet 2 [⟨some 5, none, .ldA 33 (.t 3)⟩, ⟨some 6, none, .call 66 []⟩, ⟨some 7, none, .more (.eqD false 32 [yy, yy, yy, yy, yy, yy, yy, yy, yy, yy, yy, yy, yy, yy, yy, yy, yy, yy, yy, yy, yy, yy, yy, yy, yy, yy, yy, yy, yy, yy, yy, yy, .int .i64] (.t 5) (.t 6))⟩])
 (.cond (.t 7) (.seq (.ops [⟨some 8, none, .mov (.t 0)⟩, ⟨some 9, none, .nilc (.t 8)⟩, ⟨some 10, none, .fa 3 (.t 9)⟩, ⟨some 11, none, .ld (.t 10)⟩, ⟨some 4, none, .mov (.t 11)⟩])
 .ret) .skip))
 (.seq (.quiet 5 [⟨some 12, none, .mov (.t 0)⟩, ⟨some 13, none, .nilc (.t 12)⟩, ⟨some 14, none, .fa 2 (.t 13)⟩, ⟨some 15, none, .ld (.t 14)⟩, ⟨some 16, none, .ldA 33 (.t 3)⟩, ⟨some 17, none, .more (.other (.gen (.lookup 55 (.tmp 15) (.tmp 16) false)))⟩, ⟨some 18, none, .fld 3 (.t 17)⟩, ⟨some 4, none, .mov (.t 18)⟩])
 .ret)))
theorem Try.known67 : Known Try.prog 67 Try.pc67 19 [4] := ⟨Try.f67, _, Try.func67, rfl, by kernel_rfl, rfl, rfl⟩
def Try.pc85 : PC :=
 (.seq (.ops [⟨some 3, none, .bx 32 (.t 1)⟩, ⟨some 4, none, .mov (.v (.bool false))⟩])
 (.seq (.ops [⟨some 5, none, .mov (.t 0)⟩, ⟨some 6, none, .ldA 33 (.t 3)⟩, ⟨some 7, none, .call 110 [(.t 5), (.t 6)]⟩, ⟨some 8, none, .bin .geq (.t 7) (.v (.int .i64 0))⟩, ⟨some 4, none, .mov (.t 8)⟩])
 .ret))
theorem Try.known85 : Known Try.prog 85 Try.pc85 9 [4] := ⟨Try.f85, _, Try.func85, rfl, by kernel_rfl, rfl, rfl⟩
def Try.pc86 : PC :=
 (.seq (.ops [⟨some 4, none, .mov (.v (.int .i64 0))⟩])
 (.seq (.seq (.ops [⟨some 6, none, .mov (.t 0)⟩, ⟨some 7, none, .lenS (.t 6)⟩, ⟨some 8, none, .mov (.v (.int .i64 0))⟩])
 (.block 0 (.loop (.seq (.ops [⟨some 9, none, .bin .lss (.t 8) (.t 7)⟩])
 (.seq (.cond (.t 9) .skip (.exit 0))
 (.seq (.block 1 (.seq (.ops [⟨some 10, none, .mov (.t 8)⟩, ⟨some 5, none, .mov (.t 10)⟩])
 (.seq (.ops [⟨some 11, none, .mov (.t 1)⟩, ⟨some 12, none, .mov (.t 0)⟩, ⟨some 13, none, .mov (.t 5)⟩, ⟨some 14, none, .ixS 33 (.t 12) (.t 13)⟩, ⟨some 15, none, .ldA 33 (.t 14)⟩, ⟨some 16, none, .callv (.t 11) [(.t 15)]⟩])
 (.cond (.t 16) (.seq (.ops [⟨some 17, none, .mov (.t 5)⟩, ⟨some 4, none, .mov (.t 17)⟩])
 .ret) .skip))))
 (.ops [⟨some 18, none, .bin .add (.t 8) (.v (.int .i64 1))⟩, ⟨some 8, none, .mov (.t 18)⟩])))))))
 (.seq (.ops [⟨some 4, none, .mov (.v (.int .i64 (-1)))⟩])
 .ret)))
theorem Try.known86 : Known Try.prog 86 Try.pc86 19 [4] := ⟨Try.f86, _, Try.func86, rfl, by kernel_rfl, rfl, rfl⟩
def Try.pc87 : PC :=
 (.seq (.ops [⟨some 5, none, .bx 32 (.t 1)⟩, ⟨some 6, none, .bx 32 (.t 2)⟩])
 (.seq (.ops [⟨some 11, none, .mov (.t 0)⟩, ⟨some 12, none, .ldA 33 (.t 5)⟩, ⟨some 13, none, .call 67 [(.t 11), (.t 12)]⟩, ⟨some 14, none, .call 51 [(.t 13)]⟩, ⟨some 8, none, .mov (.t 14)⟩])
 (.seq (.seq (.ops [⟨some 15, none, .mov (.t 3)⟩])
 (.cond (.t 15) (.ops [⟨some 16, none, .mov (.t 8)⟩, ⟨some 17, none, .ldA 33 (.t 6)⟩, ⟨some 18, none, .bsl 32 [zz, zz, zz, zz, zz, zz, zz, zz, zz, zz, zz, zz, zz, zz, zz, zz, zz, zz, zz, zz, zz, zz, zz, zz, zz, zz, zz, zz, zz, zz, zz, zz, .int .i64 0] 1 [(0, 33, (.t 17))]⟩, ⟨some 19, none, .app 34 32 33 40 (.agg #[zz, zz, zz, zz, zz, zz, zz, zz, zz, zz, zz, zz, zz, zz, zz, zz, zz, zz, zz, zz, zz, zz, zz, zz, zz, zz, zz, zz, zz, zz, zz, zz, .int .i64 0]) (.t 16) (.t 18)⟩, ⟨some 8, none, .mov (.t 19)⟩]) (.seq (.ops [⟨some 20, none, .mov (.t 8)⟩, ⟨some 21, none, .ldA 33 (.t 6)⟩, ⟨some 22, none, .call 110 [(.t 20), (.t 21)]⟩, ⟨some 9, none, .mov (.t 22)⟩])
 (.seq (.ops [⟨some 23, none, .mov (.t 9)⟩, ⟨some 24, none, .bin .geq (.t 23) (.v (.int .i64 0))⟩])
 (.cond (.t 24) (.ops [⟨some 25, none, .mov (.t 8)⟩, ⟨some 26, none, .mov (.t 9)⟩, ⟨some 27, none, .mov (.t 9)⟩, ⟨some 28, none, .bin .add (.t 27) (.v (.int .i64 1))⟩, ⟨some 29, none, .call 111 [(.t 25), (.t 26), (.t 28)]⟩, ⟨some 8, none, .mov (.t 29)⟩]) .skip)))))
 (.seq (.seq (.quiet 2 [⟨some 30, none, .ldA 33 (.t 5)⟩, ⟨some 31, none, .call 66 []⟩, ⟨some 32, none, .more (.eqD false 32 [yy, yy, yy, yy, yy, yy, yy, yy, yy, yy, yy, yy, yy, yy, yy, yy, yy, yy, yy, yy, yy, yy, yy, yy, yy, yy, yy, yy, yy, yy, yy, yy, .int .i64] (.t 30) (.t 31))⟩])
 (.cond (.t 32) (.seq (.ops [⟨some 33, none, .mov (.t 0)⟩, ⟨some 34, none, .mov (.t 8)⟩, ⟨some 35, none, .nilc (.t 33)⟩, ⟨some 36, none, .fa 3 (.t 35)⟩, ⟨none, none, .st 1 (.t 36) (.t 34)⟩])
 .ret) .skip))
 (.seq (.quiet 7 [⟨some 37, none, .mov (.t 0)⟩, ⟨some 38, none, .nilc (.t 37)⟩, ⟨some 39, none, .fa 2 (.t 38)⟩, ⟨some 40, none, .ld (.t 39)⟩, ⟨some 41, none, .ldA 33 (.t 5)⟩, ⟨some 42, none, .more (.other (.gen (.lookup 55 (.tmp 40) (.tmp 41) false)))⟩, ⟨some 10, none, .al 100 [.string ⟨#[]⟩, .int .i64 0, .int .i64 0, .slice none 0 0]⟩, ⟨none, none, .st 4 (.t 10) (.t 42)⟩])
 (.seq (.ops [⟨some 43, none, .mov (.t 8)⟩, ⟨some 44, none, .fa 3 (.t 10)⟩, ⟨none, none, .st 1 (.t 44) (.t 43)⟩])
 (.quiet 6 [⟨some 45, none, .mov (.t 0)⟩, ⟨some 46, none, .nilc (.t 45)⟩, ⟨some 47, none, .fa 2 (.t 46)⟩, ⟨some 48, none, .ld (.t 47)⟩, ⟨some 49, none, .ldA 33 (.t 5)⟩, ⟨some 50, none, .ldA 4 (.t 10)⟩, ⟨none, none, .more (.other (.gen (.mapUpdate 55 (.tmp 48) (.tmp 49) (.tmp 50))))⟩])))))))
theorem Try.known87 : Known Try.prog 87 Try.pc87 51 [] := ⟨Try.f87, _, Try.func87, rfl, by kernel_rfl, rfl, rfl⟩
def Try.pc88 : PC :=
 (.block 0 (.loop (.block 1 (.seq (.ops [⟨some 5, none, .mov (.t 1)⟩, ⟨some 6, none, .bin .sub (.t 5) (.v (.int .i64 1))⟩, ⟨some 7, none, .bin .quo (.t 6) (.v (.int .i64 2))⟩, ⟨some 4, none, .mov (.t 7)⟩])
 (.seq (.seq (.ops [⟨some 8, none, .mov (.t 4)⟩, ⟨some 9, none, .mov (.t 1)⟩, ⟨some 10, none, .bin .eql (.t 8) (.t 9)⟩, ⟨some 11, none, .mov (.t 10)⟩, ⟨some 12, (some (11, false)), .mov (.t 0)⟩, ⟨some 13, (some (11, false)), .mov (.t 1)⟩, ⟨some 14, (some (11, false)), .mov (.t 4)⟩, ⟨some 15, (some (11, false)), .more (.other (.gen (.call { callee := (.invoke (.tmp 12) "Less"), args := #[(.tmp 13), (.tmp 14)], argTypes := #[3, 3] })))⟩, ⟨some 16, (some (11, false)), .not (.t 15)⟩, ⟨some 17, none, .pick (.t 11) (.v (.bool true)) (.t 16)⟩])
 (.cond (.t 17) (.exit 0) .skip))
 (.seq (.ops [⟨some 18, none, .mov (.t 0)⟩, ⟨some 19, none, .mov (.t 4)⟩, ⟨some 20, none, .mov (.t 1)⟩, ⟨some 21, none, .more (.other (.gen (.call { callee := (.invoke (.tmp 18) "Swap"), args := #[(.tmp 19), (.tmp 20)], argTypes := #[3, 3] })))⟩])
 (.ops [⟨some 22, none, .mov (.t 4)⟩, ⟨some 1, none, .mov (.t 22)⟩])))))))
theorem Try.known88 : Known Try.prog 88 Try.pc88 23 [] := ⟨Try.f88, _, Try.func88, rfl, by kernel_rfl, rfl, rfl⟩
def Try.pc89 : PC :=
 (.seq (.ops [⟨some 6, none, .mov (.v (.bool false))⟩])
 (.seq (.ops [⟨some 11, none, .mov (.t 1)⟩, ⟨some 7, none, .mov (.t 11)⟩])
 (.seq (.block 0 (.loop (.block 1 (.seq (.ops [⟨some 12, none, .mov (.t 7)⟩, ⟨some 13, none, .bin .mul (.v (.int .i64 2)) (.t 12)⟩, ⟨some 14, none, .bin .add (.t 13) (.v (.int .i64 1))⟩, ⟨some 8, none, .mov (.t 14)⟩])
 (.seq (.seq (.ops [⟨some 15, none, .mov (.t 8)⟩, ⟨some 16, none, .mov (.t 2)⟩, ⟨some 17, none, .bin .geq (.t 15) (.t 16)⟩, ⟨some 18, none, .mov (.t 17)⟩, ⟨some 19, (some (18, false)), .mov (.t 8)⟩, ⟨some 20, (some (18, false)), .bin .lss (.t 19) (.v (.int .i64 0))⟩, ⟨some 21, none, .pick (.t 18) (.v (.bool true)) (.t 20)⟩])
 (.cond (.t 21) (.exit 0) .skip))
 (.seq (.ops [⟨some 22, none, .mov (.t 8)⟩, ⟨some 9, none, .mov (.t 22)⟩])
 (.seq (.seq (.ops [⟨some 23, none, .mov (.t 8)⟩, ⟨some 24, none, .bin .add (.t 23) (.v (.int .i64 1))⟩, ⟨some 10, none, .mov (.t 24)⟩])
 (.seq (.ops [⟨some 25, none, .mov (.t 10)⟩, ⟨some 26, none, .mov (.t 2)⟩, ⟨some 27, none, .bin .lss (.t 25) (.t 26)⟩, ⟨some 28, none, .mov (.t 27)⟩, ⟨some 29, (some (28, true)), .mov (.t 0)⟩, ⟨some 30, (some (28, true)), .mov (.t 10)⟩, ⟨some 31, (some (28, true)), .mov (.t 8)⟩, ⟨some 32, (some (28, true)), .more (.other (.gen (.call { callee := (.invoke (.tmp 29) "Less"), args := #[(.tmp 30), (.tmp 31)], argTypes := #[3, 3] })))⟩, ⟨some 33, none, .pick (.t 28) (.t 32) (.v (.bool false))⟩])
 (.cond (.t 33) (.ops [⟨some 34, none, .mov (.t 10)⟩, ⟨some 9, none, .mov (.t 34)⟩]) .skip)))
 (.seq (.seq (.ops [⟨some 35, none, .mov (.t 0)⟩, ⟨some 36, none, .mov (.t 9)⟩, ⟨some 37, none, .mov (.t 7)⟩, ⟨some 38, none, .more (.other (.gen (.call { callee := (.invoke (.tmp 35) "Less"), args := #[(.tmp 36), (.tmp 37)], argTypes := #[3, 3] })))⟩, ⟨some 39, none, .not (.t 38)⟩])
 (.cond (.t 39) (.exit 0) .skip))
 (.seq (.ops [⟨some 40, none, .mov (.t 0)⟩, ⟨some 41, none, .mov (.t 7)⟩, ⟨some 42, none, .mov (.t 9)⟩, ⟨some 43, none, .more (.other (.gen (.call { callee := (.invoke (.tmp 40) "Swap"), args := #[(.tmp 41), (.tmp 42)], argTypes := #[3, 3] })))⟩])
 (.ops [⟨some 44, none, .mov (.t 9)⟩, ⟨some 7, none, .mov (.t 44)⟩]))))))))))
 (.seq (.ops [⟨some 45, none, .mov (.t 7)⟩, ⟨some 46, none, .mov (.t 1)⟩, ⟨some 47, none, .bin .gtr (.t 45) (.t 46)⟩, ⟨some 6, none, .mov (.t 47)⟩])
 .ret))))
theorem Try.known89 : Known Try.prog 89 Try.pc89 48 [6] := ⟨Try.f89, _, Try.func89, rfl, by kernel_rfl, rfl, rfl⟩
def Try.pc109 : PC :=
 (.seq (.ops [⟨some 2, none, .bx 32 (.t 0)⟩, ⟨some 3, none, .bx 32 (.t 1)⟩, ⟨some 4, none, .mov (.v (.int .i64 0))⟩])
 (.seq (.quiet 9 [⟨some 5, none, .fa 0 (.t 2)⟩, ⟨some 6, none, .slA 32 (.t 5)⟩, ⟨some 7, none, .fa 0 (.t 3)⟩, ⟨some 8, none, .slA 32 (.t 7)⟩, ⟨some 9, none, .call 124 [(.t 6), (.t 8)]⟩, ⟨some 10, none, .fa 32 (.t 2)⟩, ⟨some 11, none, .ld (.t 10)⟩, ⟨some 12, none, .fa 32 (.t 3)⟩, ⟨some 13, none, .ld (.t 12)⟩, ⟨some 14, none, .call 125 [(.t 11), (.t 13)]⟩, ⟨some 15, none, .bsl 3 [.int .i64 0, .int .i64 0] 2 [(0, 1, (.t 9)), (1, 1, (.t 14))]⟩, ⟨some 16, none, .call 123 [(.t 15)]⟩, ⟨some 4, none, .mov (.t 16)⟩])
 .ret))
theorem Try.known109 : Known Try.prog 109 Try.pc109 17 [4] := ⟨Try.f109, _, Try.func109, rfl, by kernel_rfl, rfl, rfl⟩
def Try.pc110 : PC :=
 (.seq (.ops [⟨some 3, none, .bx 32 (.t 1)⟩, ⟨some 4, none, .mov (.v (.int .i64 0))⟩])
 (.seq (.seq (.ops [⟨some 6, none, .mov (.t 0)⟩, ⟨some 7, none, .lenS (.t 6)⟩, ⟨some 8, none, .mov (.v (.int .i64 0))⟩])
 (.block 0 (.loop (.seq (.ops [⟨some 9, none, .bin .lss (.t 8) (.t 7)⟩])
 (.seq (.cond (.t 9) .skip (.exit 0))
 (.seq (.block 1 (.seq (.ops [⟨some 10, none, .mov (.t 8)⟩, ⟨some 5, none, .mov (.t 10)⟩])
 (.seq (.quiet 5 [⟨some 11, none, .ldA 33 (.t 3)⟩, ⟨some 12, none, .mov (.t 0)⟩, ⟨some 13, none, .mov (.t 5)⟩, ⟨some 14, none, .ixS 33 (.t 12) (.t 13)⟩, ⟨some 15, none, .ldA 33 (.t 14)⟩, ⟨some 16, none, .more (.eqD false 32 [yy, yy, yy, yy, yy, yy, yy, yy, yy, yy, yy, yy, yy, yy, yy, yy, yy, yy, yy, yy, yy, yy, yy, yy, yy, yy, yy, yy, yy, yy, yy, yy, .int .i64] (.t 11) (.t 15))⟩])
 (.cond (.t 16) (.seq (.ops [⟨some 17, none, .mov (.t 5)⟩, ⟨some 4, none, .mov (.t 17)⟩])
 .ret) .skip))))
 (.ops [⟨some 18, none, .bin .add (.t 8) (.v (.int .i64 1))⟩, ⟨some 8, none, .mov (.t 18)⟩])))))))
 (.seq (.ops [⟨some 4, none, .mov (.v (.int .i64 (-1)))⟩])
 .ret)))
theorem Try.known110 : Known Try.prog 110 Try.pc110 19 [4] := ⟨Try.f110, _, Try.func110, rfl, by kernel_rfl, rfl, rfl⟩
def Try.pc111 : PC :=
 (.seq (.ops [⟨some 6, none, .mov (.v (.slice none 0 0))⟩])
 (.seq (.ops [⟨some 8, none, .mov (.t 0)⟩, ⟨some 9, none, .mov (.t 1)⟩, ⟨some 10, none, .mov (.t 2)⟩, ⟨some 11, none, .mov (.t 0)⟩, ⟨some 12, none, .lenS (.t 11)⟩, ⟨some 13, none, .more (.other (.gen (.slice 34 (.tmp 8) (some (.tmp 9)) (some (.tmp 10)) (some (.tmp 12)))))⟩])
 (.seq (.seq (.ops [⟨some 14, none, .mov (.t 1)⟩, ⟨some 15, none, .mov (.t 2)⟩, ⟨some 16, none, .bin .eql (.t 14) (.t 15)⟩])
 (.cond (.t 16) (.seq (.ops [⟨some 17, none, .mov (.t 0)⟩, ⟨some 6, none, .mov (.t 17)⟩])
 .ret) .skip))
 (.seq (.ops [⟨some 18, none, .mov (.t 0)⟩, ⟨some 19, none, .lenS (.t 18)⟩, ⟨some 7, none, .mov (.t 19)⟩])
 (.seq (.quiet 6 [⟨some 20, none, .mov (.t 0)⟩, ⟨some 21, none, .mov (.t 1)⟩, ⟨some 22, none, .slS 33 (.t 20) none (some (.t 21))⟩, ⟨some 23, none, .mov (.t 0)⟩, ⟨some 24, none, .mov (.t 2)⟩, ⟨some 25, none, .slS 33 (.t 23) (some (.t 24)) none⟩, ⟨some 26, none, .app 34 32 33 40 (.agg #[zz, zz, zz, zz, zz, zz, zz, zz, zz, zz, zz, zz, zz, zz, zz, zz, zz, zz, zz, zz, zz, zz, zz, zz, zz, zz, zz, zz, zz, zz, zz, zz, .int .i64 0]) (.t 22) (.t 25)⟩, ⟨some 0, none, .mov (.t 26)⟩])
 (.seq (.ops [⟨some 27, none, .mov (.t 0)⟩, ⟨some 28, none, .mov (.t 0)⟩, ⟨some 29, none, .lenS (.t 28)⟩, ⟨some 30, none, .mov (.t 7)⟩, ⟨some 31, none, .slS 33 (.t 27) (some (.t 29)) (some (.t 30))⟩, ⟨none, none, .more (.clr 32 33 (.agg #[zz, zz, zz, zz, zz, zz, zz, zz, zz, zz, zz, zz, zz, zz, zz, zz, zz, zz, zz, zz, zz, zz, zz, zz, zz, zz, zz, zz, zz, zz, zz, zz, .int .i64 0]) (.t 31))⟩])
 (.seq (.ops [⟨some 32, none, .mov (.t 0)⟩, ⟨some 6, none, .mov (.t 32)⟩])
 .ret)))))))
theorem Try.known111 : Known Try.prog 111 Try.pc111 33 [6] := ⟨Try.f111, _, Try.func111, rfl, by kernel_rfl, rfl, rfl⟩
def Try.pc123 : PC :=
 (.seq (.ops [⟨some 2, none, .mov (.v (.int .i64 0))⟩])
 (.seq (.ops [⟨some 3, none, .mov (.v (.int .i64 0))⟩])
 (.seq (.seq (.ops [⟨some 6, none, .mov (.t 0)⟩, ⟨some 7, none, .lenS (.t 6)⟩, ⟨some 8, none, .mov (.v (.int .i64 0))⟩])
 (.block 0 (.loop (.seq (.ops [⟨some 9, none, .bin .lss (.t 8) (.t 7)⟩])
 (.seq (.cond (.t 9) .skip (.exit 0))
 (.seq (.block 1 (.seq (.ops [⟨some 10, none, .ixS 1 (.t 6) (.t 8)⟩, ⟨some 11, none, .ld (.t 10)⟩, ⟨some 5, none, .mov (.t 11)⟩])
 (.seq (.ops [⟨some 12, none, .mov (.t 5)⟩, ⟨some 13, none, .mov (.t 3)⟩, ⟨some 14, none, .bin .neq (.t 12) (.t 13)⟩])
 (.cond (.t 14) (.seq (.ops [⟨some 15, none, .mov (.t 5)⟩, ⟨some 2, none, .mov (.t 15)⟩])
 .ret) .skip))))
 (.ops [⟨some 16, none, .bin .add (.t 8) (.v (.int .i64 1))⟩, ⟨some 8, none, .mov (.t 16)⟩])))))))
 (.seq (.ops [⟨some 17, none, .mov (.t 3)⟩, ⟨some 2, none, .mov (.t 17)⟩])
 .ret))))
theorem Try.known123 : Known Try.prog 123 Try.pc123 18 [2] := ⟨Try.f123, _, Try.func123, rfl, by kernel_rfl, rfl, rfl⟩
def Try.pc124 : PC :=
 (.seq (.ops [⟨some 4, none, .mov (.v (.int .i64 0))⟩])
 (.seq (.ops [⟨some 5, none, .mov (.t 0)⟩, ⟨some 6, none, .mov (.t 1)⟩, ⟨some 7, none, .more (.other (.xf 137 [(.t 5), (.t 6)]))⟩, ⟨some 4, none, .mov (.t 7)⟩])
 .ret))
theorem Try.known124 : Known Try.prog 124 Try.pc124 8 [4] := ⟨Try.f124, _, Try.func124, rfl, by kernel_rfl, rfl, rfl⟩
def Try.pc125 : PC :=
 (.seq (.ops [⟨some 4, none, .mov (.v (.int .i64 0))⟩])
 (.seq (.ops [⟨some 7, none, .mov (.t 0)⟩, ⟨some 8, none, .call 138 [(.t 7)]⟩, ⟨some 5, none, .mov (.t 8)⟩])
 (.seq (.ops [⟨some 9, none, .mov (.t 1)⟩, ⟨some 10, none, .call 138 [(.t 9)]⟩, ⟨some 6, none, .mov (.t 10)⟩])
 (.seq (.seq (.ops [⟨some 11, none, .mov (.t 5)⟩])
 (.cond (.t 11) (.seq (.seq (.ops [⟨some 12, none, .mov (.t 6)⟩])
 (.cond (.t 12) (.seq (.ops [⟨some 4, none, .mov (.v (.int .i64 0))⟩])
 .ret) .skip))
 (.seq (.ops [⟨some 4, none, .mov (.v (.int .i64 (-1)))⟩])
 .ret)) .skip))
 (.seq (.seq (.ops [⟨some 13, none, .mov (.t 6)⟩])
 (.cond (.t 13) (.seq (.ops [⟨some 4, none, .mov (.v (.int .i64 1))⟩])
 .ret) .skip))
 (.seq (.seq (.ops [⟨some 14, none, .mov (.t 0)⟩, ⟨some 15, none, .mov (.t 1)⟩, ⟨some 16, none, .bin .lss (.t 14) (.t 15)⟩])
 (.cond (.t 16) (.seq (.ops [⟨some 4, none, .mov (.v (.int .i64 (-1)))⟩])
 .ret) .skip))
 (.seq (.seq (.ops [⟨some 17, none, .mov (.t 0)⟩, ⟨some 18, none, .mov (.t 1)⟩, ⟨some 19, none, .bin .gtr (.t 17) (.t 18)⟩])
 (.cond (.t 19) (.seq (.ops [⟨some 4, none, .mov (.v (.int .i64 1))⟩])
 .ret) .skip))
 (.seq (.ops [⟨some 4, none, .mov (.v (.int .i64 0))⟩])
 .ret))))))))
theorem Try.known125 : Known Try.prog 125 Try.pc125 20 [4] := ⟨Try.f125, _, Try.func125, rfl, by kernel_rfl, rfl, rfl⟩
def Try.pc138 : PC :=
 (.seq (.ops [⟨some 2, none, .mov (.v (.bool false))⟩])
 (.seq (.ops [⟨some 3, none, .mov (.t 0)⟩, ⟨some 4, none, .mov (.t 0)⟩, ⟨some 5, none, .bin .neq (.t 3) (.t 4)⟩, ⟨some 2, none, .mov (.t 5)⟩])
 .ret))
theorem Try.known138 : Known Try.prog 138 Try.pc138 6 [2] := ⟨Try.f138, _, Try.func138, rfl, by kernel_rfl, rfl, rfl⟩
def Try.pc161 : PC :=
 (.seq (.ops [⟨some 6, none, .mov (.v (.bool false))⟩])
 (.seq (.quiet 8 [⟨some 7, none, .mov (.t 0)⟩, ⟨some 8, none, .mov (.t 1)⟩, ⟨some 9, none, .ixS 33 (.t 7) (.t 8)⟩, ⟨some 10, none, .ldA 33 (.t 9)⟩, ⟨some 11, none, .mov (.t 0)⟩, ⟨some 12, none, .mov (.t 2)⟩, ⟨some 13, none, .ixS 33 (.t 11) (.t 12)⟩, ⟨some 14, none, .ldA 33 (.t 13)⟩, ⟨some 15, none, .call 109 [(.t 10), (.t 14)]⟩, ⟨some 16, none, .bin .lss (.t 15) (.v (.int .i64 0))⟩, ⟨some 6, none, .mov (.t 16)⟩])
 .ret))
theorem Try.known161 : Known Try.prog 161 Try.pc161 17 [6] := ⟨Try.f161, _, Try.func161, rfl, by kernel_rfl, rfl, rfl⟩
def Try.pc162 : PC :=
 (.seq (.ops [⟨some 2, none, .mov (.v .nilIface)⟩])
 (.seq (.ops [⟨some 5, none, .mov (.t 0)⟩, ⟨some 6, none, .nilc (.t 5)⟩, ⟨some 7, none, .ld (.t 6)⟩, ⟨some 8, none, .lenS (.t 7)⟩, ⟨some 9, none, .bin .sub (.t 8) (.v (.int .i64 1))⟩, ⟨some 3, none, .mov (.t 9)⟩])
 (.seq (.ops [⟨some 10, none, .mov (.t 0)⟩, ⟨some 11, none, .nilc (.t 10)⟩, ⟨some 12, none, .ld (.t 11)⟩, ⟨some 13, none, .mov (.t 3)⟩, ⟨some 14, none, .ixS 33 (.t 12) (.t 13)⟩, ⟨some 15, none, .ldA 33 (.t 14)⟩, ⟨some 4, none, .al 32 [zz, zz, zz, zz, zz, zz, zz, zz, zz, zz, zz, zz, zz, zz, zz, zz, zz, zz, zz, zz, zz, zz, zz, zz, zz, zz, zz, zz, zz, zz, zz, zz, .int .i64 0]⟩, ⟨none, none, .st 33 (.t 4) (.t 15)⟩])
 (.seq (.ops [⟨some 16, none, .mov (.t 0)⟩, ⟨some 17, none, .mov (.t 0)⟩, ⟨some 18, none, .nilc (.t 17)⟩, ⟨some 19, none, .ld (.t 18)⟩, ⟨some 20, none, .mov (.t 3)⟩, ⟨some 21, none, .slS 33 (.t 19) none (some (.t 20))⟩, ⟨some 22, none, .nilc (.t 16)⟩, ⟨none, none, .st 1 (.t 22) (.t 21)⟩])
 (.seq (.ops [⟨some 23, none, .ldA 33 (.t 4)⟩, ⟨some 24, none, .more (.mkI 32 (.t 23))⟩, ⟨some 2, none, .mov (.t 24)⟩])
 .ret)))))
theorem Try.known162 : Known Try.prog 162 Try.pc162 25 [2] := ⟨Try.f162, _, Try.func162, rfl, by kernel_rfl, rfl, rfl⟩
def Try.pc163 : PC :=
 (.seq (.ops [⟨some 7, none, .mov (.t 1)⟩, ⟨some 8, none, .more (.other (.gen (.typeAssert (.tmp 7) 20 32 true)))⟩, ⟨some 6, none, .mov (.t 8)⟩, ⟨some 9, none, .ext 0 (.t 6)⟩, ⟨some 10, none, .ext 1 (.t 6)⟩, ⟨some 4, none, .al 32 [zz, zz, zz, zz, zz, zz, zz, zz, zz, zz, zz, zz, zz, zz, zz, zz, zz, zz, zz, zz, zz, zz, zz, zz, zz, zz, zz, zz, zz, zz, zz, zz, .int .i64 0]⟩, ⟨none, none, .st 33 (.t 4) (.t 9)⟩, ⟨some 5, none, .mov (.t 10)⟩])
 (.seq (.ops [⟨some 11, none, .mov (.t 5)⟩])
 (.cond (.t 11) (.quiet 6 [⟨some 12, none, .mov (.t 0)⟩, ⟨some 13, none, .mov (.t 0)⟩, ⟨some 14, none, .nilc (.t 13)⟩, ⟨some 15, none, .ld (.t 14)⟩, ⟨some 16, none, .ldA 33 (.t 4)⟩, ⟨some 17, none, .bsl 32 [zz, zz, zz, zz, zz, zz, zz, zz, zz, zz, zz, zz, zz, zz, zz, zz, zz, zz, zz, zz, zz, zz, zz, zz, zz, zz, zz, zz, zz, zz, zz, zz, .int .i64 0] 1 [(0, 33, (.t 16))]⟩, ⟨some 18, none, .app 110 32 33 40 (.agg #[zz, zz, zz, zz, zz, zz, zz, zz, zz, zz, zz, zz, zz, zz, zz, zz, zz, zz, zz, zz, zz, zz, zz, zz, zz, zz, zz, zz, zz, zz, zz, zz, .int .i64 0]) (.t 15) (.t 17)⟩, ⟨some 19, none, .nilc (.t 12)⟩, ⟨none, none, .st 1 (.t 19) (.t 18)⟩]) .skip)))
theorem Try.known163 : Known Try.prog 163 Try.pc163 20 [] := ⟨Try.f163, _, Try.func163, rfl, by kernel_rfl, rfl, rfl⟩
def Try.pc164 : PC :=
 (.quiet 12 [⟨some 6, none, .mov (.t 0)⟩, ⟨some 7, none, .mov (.t 1)⟩, ⟨some 8, none, .mov (.t 0)⟩, ⟨some 9, none, .mov (.t 2)⟩, ⟨some 10, none, .mov (.t 0)⟩, ⟨some 11, none, .mov (.t 2)⟩, ⟨some 12, none, .ixS 33 (.t 10) (.t 11)⟩, ⟨some 13, none, .ldA 33 (.t 12)⟩, ⟨some 14, none, .mov (.t 0)⟩, ⟨some 15, none, .mov (.t 1)⟩, ⟨some 16, none, .ixS 33 (.t 14) (.t 15)⟩, ⟨some 17, none, .ldA 33 (.t 16)⟩, ⟨some 18, none, .ixS 33 (.t 6) (.t 7)⟩, ⟨none, none, .st 33 (.t 18) (.t 13)⟩, ⟨some 19, none, .ixS 33 (.t 8) (.t 9)⟩, ⟨none, none, .st 33 (.t 19) (.t 17)⟩])
theorem Try.known164 : Known Try.prog 164 Try.pc164 20 [] := ⟨Try.f164, _, Try.func164, rfl, by kernel_rfl, rfl, rfl⟩
end Go.Proofs

namespace Go.Proofs
open Go.SL
set_option maxRecDepth 100000
end Go.Proofs
