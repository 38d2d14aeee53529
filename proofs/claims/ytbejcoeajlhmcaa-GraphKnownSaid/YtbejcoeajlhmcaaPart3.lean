/- Walks. -/
import Derived.Test.YtbejcoeajlhmcaaPart2
import Derived.Maps.RangeRun
import Derived.DeepKeys4
import Derived.DeepKeys5
set_option linter.unusedVariables false
set_option linter.unusedSimpArgs false
set_option linter.unusedSectionVars false

namespace Go.SL
open Go.RowKit Go.ChangeShapes
theorem map_eraseIdx {γ δ : Type} (h : γ -> δ) : ∀ (l : List γ) (i : Nat), (l.eraseIdx i).map h = (l.map h).eraseIdx i
 | [], i => by simp
 | a :: l, 0 => by simp
 | a :: l, i + 1 => by simp [map_eraseIdx h l i]
section plain
variable {α β γ : Type} [DecidableEq α]
def mgt (l : List (α × β)) (a : α) : Option β := (l.find? fun p => decide (a = p.1)).map (·.2)
def mpt : List (α × β) -> α -> β -> List (α × β)
 | [], a, b => [(a, b)]
 | p :: r, a, b => if a = p.1 then (a, b) :: r else p :: mpt r a b
def mdl (l : List (α × β)) (a : α) : List (α × β) := l.filter fun p => !decide (a = p.1)
def mks (l : List (α × β)) : List α := l.map (·.1)
theorem mgt_cons (p : α × β) (l : List (α × β)) (a : α) : mgt (p :: l) a = if a = p.1 then some p.2 else mgt l a := by
 unfold mgt
 rw [List.find?_cons]
 by_cases h : a = p.1
 ·simp [h]
 simp [h]
theorem mgt_nil (a : α) : mgt ([] : List (α × β)) a = none := rfl
theorem mgt_mpt (l : List (α × β)) (a c : α) (b : β) : mgt (mpt l a b) c = if c = a then some b else mgt l c := by
 induction l with
 | nil => simp only [mpt, mgt_cons, mgt_nil]
 | cons p l ih =>
  simp only [mpt]
  split
  ·rename_i h
   simp only [mgt_cons]
   subst h
   split <;> rfl
  rename_i h
  simp only [mgt_cons, ih]
  by_cases h1 : c = p.1
  ·subst h1
   rw [if_pos rfl, if_neg (fun e => h e.symm)]
   simp
  simp [h1]
theorem mgt_none {l : List (α × β)} {a : α} : mgt l a = none ↔ a ∉ mks l := by
 induction l with
 | nil => simp [mgt_nil, mks]
 | cons p l ih =>
  rw [mgt_cons]
  unfold mks at ih ⊢
  by_cases h : a = p.1
  ·simp [h]
  simp [h, ih]
theorem mgt_mem {l : List (α × β)} (hn : (mks l).Nodup) {a : α} {b : β} : mgt l a = some b ↔ (a, b) ∈ l := by
 induction l with
 | nil => simp [mgt_nil]
 | cons p l ih =>
  obtain ⟨c, d⟩ := p
  unfold mks at hn ih
  simp only [List.map_cons, List.nodup_cons] at hn
  rw [mgt_cons]
  simp only [List.mem_cons, Prod.mk.injEq]
  by_cases h : a = c
  ·subst h
   rw [if_pos rfl]
   constructor
   ·intro e; exact .inl ⟨rfl, (Option.some.inj e).symm⟩
   rintro (⟨_, e⟩ | e)
   ·rw [e]
   exact absurd (List.mem_map.2 ⟨_, e, rfl⟩) hn.1
  rw [if_neg h, ih hn.2]
  simp [h]
theorem mgt_some_mem {l : List (α × β)} {a : α} {b : β} (h : mgt l a = some b) : (a, b) ∈ l := by
 unfold mgt at h
 obtain ⟨p, hp, rfl⟩ := Option.map_eq_some_iff.1 h
 have h1 := List.find?_some hp
 have h2 := List.mem_of_find?_eq_some hp
 simp only [decide_eq_true_eq] at h1
 rw [h1]; exact h2
theorem mks_mpt (l : List (α × β)) (a : α) (b : β) : mks (mpt l a b) = if a ∈ mks l then mks l else mks l ++ [a] := by
 induction l with
 | nil => simp [mpt, mks]
 | cons p l ih =>
  simp only [mpt]
  unfold mks at ih ⊢
  by_cases h : a = p.1
  ·simp [h]
  simp only [h, if_false, List.map_cons, ih, List.mem_cons, false_or]
  split <;> simp
theorem mpt_nodup {l : List (α × β)} (h : (mks l).Nodup) (a : α) (b : β) : (mks (mpt l a b)).Nodup := by
 rw [mks_mpt]
 split
 ·exact h
 rename_i hn
 rw [List.nodup_append]
 exact ⟨h, by simp, by simp; rintro c hc rfl; exact hn hc⟩
theorem mgt_mdl (l : List (α × β)) (a c : α) : mgt (mdl l a) c = if c = a then none else mgt l c := by
 induction l with
 | nil => simp [mdl, mgt_nil]
 | cons p l ih =>
  unfold mdl at ih ⊢
  rw [List.filter_cons]
  by_cases h : a = p.1
  ·simp only [h, decide_true, Bool.not_true, Bool.false_eq_true, if_false]
   rw [<- h, ih, mgt_cons]
   by_cases h1 : c = a
   ·simp [h1]
   simp [h1, <- h]
  simp only [h, decide_false, Bool.not_false, if_true, mgt_cons, ih]
  by_cases h1 : c = p.1
  ·subst h1; rw [if_pos rfl, if_neg (fun e => h e.symm), if_pos rfl]
  simp [h1]
theorem mdl_nodup {l : List (α × β)} (h : (mks l).Nodup) (a : α) : (mks (mdl l a)).Nodup := by
 unfold mks mdl at *
 exact h.sublist (List.filter_sublist.map _)
theorem mks_mdl (l : List (α × β)) (a : α) : mks (mdl l a) = (mks l).filter fun c => !decide (a = c) := by
 unfold mks mdl
 rw [List.filter_map]
 rfl
theorem mpt_new {l : List (α × β)} {a : α} (h : ∀ b, (a, b) ∉ l) (b : β) : mpt l a b = l ++ [(a, b)] := by
 induction l with
 | nil => rfl
 | cons p l ih =>
  simp only [mpt]
  rw [if_neg (fun e => h p.2 (by rw [e]; simp)), ih (fun b hb => h b (by simp [hb]))]
  rfl
theorem mpt_set {l : List (α × β)} (hn : (mks l).Nodup) {a : α} {c : β} {j : Nat} (h : l[j]? = some (a, c)) (b : β) : mpt l a b = l.set j (a, b) := by
 induction l generalizing j with
 | nil => simp at h
 | cons p l ih =>
  unfold mks at hn ih
  simp only [List.map_cons, List.nodup_cons] at hn
  cases j with
  | zero => simp at h; simp [mpt, h]
  | succ j =>
   simp at h
   have hne : a ≠ p.1 := fun e => hn.1 (by rw [<- e]; exact List.mem_map.2 ⟨_, List.mem_of_getElem? h, rfl⟩)
   simp only [mpt, if_neg hne, List.set_cons_succ, ih hn.2 h]
theorem mdl_new {l : List (α × β)} {a : α} (h : ∀ b, (a, b) ∉ l) : mdl l a = l := by
 unfold mdl
 rw [List.filter_eq_self]
 intro p hp
 simp only [Bool.not_eq_true', decide_eq_false_iff_not]
 intro e
 exact h p.2 (by rw [e]; exact hp)
theorem mdl_erase {l : List (α × β)} (hn : (mks l).Nodup) {a : α} {c : β} {j : Nat} (h : l[j]? = some (a, c)) : mdl l a = l.eraseIdx j := by
 induction l generalizing j with
 | nil => simp at h
 | cons p l ih =>
  have hn0 := hn
  unfold mks at hn
  simp only [List.map_cons, List.nodup_cons] at hn
  cases j with
  | zero =>
   simp at h
   subst h
   have : mdl l a = l := mdl_new fun b hb => hn.1 (List.mem_map.2 ⟨_, hb, rfl⟩)
   unfold mdl at this ⊢
   simp [this]
  | succ j =>
   simp at h
   have hne : a ≠ p.1 := fun e => hn.1 (by rw [<- e]; exact List.mem_map.2 ⟨_, List.mem_of_getElem? h, rfl⟩)
   have := ih hn.2 h
   unfold mdl at this ⊢
   rw [List.filter_cons]
   simp [hne, this]
end plain
section
variable {P : Program} {w0 : World} {n : Nat} {T : TT} {S : SS}
variable {α β : Type} [DecidableEq α] {f : α -> Value} {g : β -> Value} {kt et t : TypeId} {ok : α -> Prop}
def gmL (f : α -> Value) (g : β -> Value) (l : List (α × β)) : List (Value × Value) := l.map fun p => (f p.1, g p.2)
structure Keys (P : Program) (kt : TypeId) (f : α -> Value) (ok : α -> Prop) : Prop where
 law : WideMaps.KeyLaw P kt
 key : ∀ a, ok a -> ∃ l, keyOf P kt (f a) = some l
 inj : ∀ a b, f a = f b -> a = b
theorem mem_at {S : SS} {j b : Nat} {o : AO} (hk : S[j]? = some [(b, o)]) : (b, o) ∈ S.flatten := List.mem_flatten.2 ⟨_, List.mem_of_getElem? hk, List.mem_singleton.2 rfl⟩
theorem Rep.gmAt {w : World} {b : Nat} {es : List (Value × Value)} (h : Rep w0 S w) (hm : (b, AO.gm es) ∈ S.flatten) :
  w0.heap.size <= b /\ ∃ en clk, w.heap[b]? = some (.map en clk) /\ en.toList.map (fun e => (e.key, e.val)) = es /\ (en.toList.map (·.born)).Nodup /\ (∀ e ∈ en.toList, e.born < clk) /\ (en.toList.map (·.key)).Nodup := h.own _ hm
theorem gmL_nodup {en : Array MapEntry} {l : List (α × β)} (he : en.toList.map (fun e => (e.key, e.val)) = gmL f g l) (hn : (en.toList.map (·.key)).Nodup) : (mks l).Nodup := by
 have : en.toList.map (·.key) = (mks l).map f := by
  have := congrArg (List.map Prod.fst) he
  unfold gmL at this
  unfold mks
  simpa [Function.comp_def] using this
 rw [this] at hn
 unfold List.Nodup at hn ⊢
 rw [List.pairwise_map] at hn
 exact hn.imp fun h e => h (by rw [e])
theorem gmL_get {en : Array MapEntry} {l : List (α × β)} (he : en.toList.map (fun e => (e.key, e.val)) = gmL f g l) {j : Nat} {e : MapEntry} (h : en.toList[j]? = some e) : ∃ a b, l[j]? = some (a, b) /\ e.key = f a /\ e.val = g b := by
 have h1 : (en.toList.map (fun e => (e.key, e.val)))[j]? = some (e.key, e.val) := by simp [h]
 rw [he] at h1
 unfold gmL at h1
 rw [List.getElem?_map, Option.map_eq_some_iff] at h1
 obtain ⟨p, h1, h2⟩ := h1
 exact ⟨p.1, p.2, h1, (congrArg Prod.fst h2).symm, (congrArg Prod.snd h2).symm⟩
theorem Keys.find (K : Keys P kt f ok) {en : Array MapEntry} {l : List (α × β)} (hl : ∀ p ∈ l, ok p.1) (he : en.toList.map (fun e => (e.key, e.val)) = gmL f g l) (a : α) (ha : ok a) (w : World) :
  ((Instr.findKey kt (f a) en.toList).run P w = .ok none w /\ ∀ b, (a, b) ∉ l) ∨
  ∃ j e b, (Instr.findKey kt (f a) en.toList).run P w = .ok (some (j, e.val)) w /\ en.toList[j]? = some e /\ e.key = f a /\ e.val = g b /\ l[j]? = some (a, b) := by
 obtain ⟨lx, hx⟩ := K.key a ha
 have hall : ∀ e ∈ en.toList, ∃ l, keyOf P kt e.key = some l := by
  intro e hm
  obtain ⟨j, hj⟩ := List.getElem?_of_mem hm
  obtain ⟨a', _, hq, hk, _⟩ := gmL_get he hj
  rw [hk]
  exact K.key a' (hl _ (List.mem_of_getElem? hq))
 rcases K.law.find w hx en.toList hall with ⟨h1, h2⟩ | ⟨j, e, h1, h2, h3⟩
 ·refine .inl ⟨h1, fun b hb => ?_⟩
  have : (f a, g b) ∈ en.toList.map (fun e => (e.key, e.val)) := by rw [he]; exact List.mem_map.2 ⟨(a, b), hb, rfl⟩
  obtain ⟨e, hm, hk⟩ := List.mem_map.1 this
  exact h2 e hm (congrArg Prod.fst hk)
 obtain ⟨a', b, h4, h5, h6⟩ := gmL_get he h2
 obtain rfl := K.inj a' a (by rw [<- h5, h3])
 exact .inr ⟨j, e, b, h1, h2, h3, h6, h4⟩
theorem Yields.lenG {x : PV} {b : Nat} {l : List (α × β)} (hx : x.val T = some (.map (some b))) (hk : (b, AO.gm (gmL f g l)) ∈ S.flatten) : Yields P w0 n (.lenM x) T S (.int .i64 l.length) := by
 intro o a w hco hs hr
 obtain ⟨t, kt, vt, c, cl, ho, hca, hat, har, rfl, hu⟩ := cOp_spec P hco
 obtain ⟨_, en, clk, hw, he, _⟩ := hr.gmAt hk
 have hlen : en.size = l.length := by have := congrArg List.length he; simpa [gmL] using this
 simp [execOp, ho, resolve, hca, invoke, builtin, Builtin.len_, hat, har, hs.eval hx, run_underlying hu, goInt, getObj, Sem.run, hw, hlen]
theorem Yields.lookG {m k : Operand} {okc : Bool} {i : TypeInfo} {b : Nat} {l : List (α × β)} {a : α} {z : β} (hu : P.underlying t = some (.map kt et)) (hi : P.info? et = some i) (hz : i.zero = some (g z)) (K : Keys P kt f ok) (hl : ∀ p ∈ l, ok p.1) (ha : ok a)
  (hm : (cV m).val T = some (.map (some b))) (hx : (cV k).val T = some (f a)) (hk : (b, AO.gm (gmL f g l)) ∈ S.flatten) :
  Yields P w0 n (.more (.other (.gen (.lookup t m k okc)))) T S (if okc then .tuple #[g ((mgt l a).getD z), .bool (mgt l a).isSome] else g ((mgt l a).getD z)) := by
 intro o ac w hco hs hr
 have ho : o.op = .lookup t m k okc := cOp_spec P hco
 obtain ⟨_, en, clk, hw, he, hb, hlt, hn⟩ := hr.gmAt hk
 obtain ⟨lx, hlx⟩ := K.key a ha
 have hck := fun bb => K.law.check w bb hlx
 have hg : (getObj b).run P w = .ok (.map en clk) w := by simp [getObj, Sem.run, hw]
 simp only [execOp, ho, hs.eval hm, hs.eval hx, Instr.lookup]
 simp only [Sem.run_bind, run_underlying hu, Result.andThen_ok, hg, Sem.run_pure, hck]
 rcases K.find hl he a ha w with ⟨h1, h2⟩ | ⟨j, e, b', h1, h2, h3, h4, h5⟩
 ·have hget : mgt l a = none := mgt_none.2 fun h => by
   unfold mks at h
   obtain ⟨p, hp, rfl⟩ := List.mem_map.1 h
   exact h2 p.2 hp
  simp only [h1, Result.andThen_ok, hget]
  cases okc <;> simp [zeroValue, typeInfo, program, hi, hz, Sem.run]
 have hget : mgt l a = some b' := (mgt_mem (gmL_nodup he hn)).2 (List.mem_of_getElem? h5)
 simp only [h1, Result.andThen_ok, hget, h4]
 cases okc <;> simp
theorem OW.mkG : OW P w0 n .mkM T S (fun v S' => ∃ r, v = .map (some r) /\ S' = [(r, .gm [])] :: S) := by
 intro op a w Q hco hs hr
 obtain ⟨t, ho⟩ := cOp_spec P hco
 have hrun : (execOp a.eval op).run P w = .ok (.value (.map (some w.heap.size))) (w.alloc (.map #[] 0)) := by
  simp [execOp, ho, Instr.makeMap, newObj, Sem.run]
 unfold Oper.wp
 rw [hrun]
 refine ⟨_, _, rfl, ?_, w.heap.size, rfl, rfl⟩
 refine hr.push (below_alloc hr _) (fun i hi => alloc_heap_lt w _ i hi) (by simp) ?_
 intro p hp
 simp only [List.mem_singleton] at hp
 subst hp
 exact ⟨⟨#[], 0, alloc_heap_new w _, by simp⟩, Nat.le_refl _⟩
theorem OW.mkGr {x : Operand} {j : Int} {q : IntKind} (hu : P.underlying t = some (.map kt et)) (hx : (cV x).val T = some (.int q j)) : OW P w0 n (.more (.other (.gen (.makeMap t (some x))))) T S (fun v S' => ∃ r, v = .map (some r) /\ S' = [(r, .gm [])] :: S) := by
 intro op a w Q hco hs hr
 have ho : op.op = .makeMap t (some x) := cOp_spec P hco
 have hrun : (execOp a.eval op).run P w = .ok (.value (.map (some w.heap.size))) (w.alloc (.map #[] 0)) := by
  simp [execOp, ho, Instr.makeMap, newObj, Sem.run, hs.eval hx, run_underlying hu, asInt, asIntOf]
 unfold Oper.wp
 rw [hrun]
 refine ⟨_, _, rfl, ?_, w.heap.size, rfl, rfl⟩
 refine hr.push (below_alloc hr _) (fun i hi => alloc_heap_lt w _ i hi) (by simp) ?_
 intro p hp
 simp only [List.mem_singleton] at hp
 subst hp
 exact ⟨⟨#[], 0, alloc_heap_new w _, by simp⟩, Nat.le_refl _⟩
theorem run_setMap {w : World} {b : Nat} {en : Array MapEntry} {clk : Nat} (hw : w.heap[b]? = some (.map en clk)) (o : Obj) : (setObj b o).run P w = .ok () { w with heap := w.heap.setIfInBounds b o } := by
 simp [setObj, Sem.run, hw]
theorem Rep.setAt {w : World} {k b : Nat} {o : AO} {ob : Obj} {o' : AO} (h : Rep w0 S w) (hk : S[k]? = some [(b, o)]) (ho : Owns { w with heap := w.heap.setIfInBounds b ob } b o') : Rep w0 (S.set k [(b, o')]) { w with heap := w.heap.setIfInBounds b ob } := by
 obtain ⟨hge, how⟩ := h.own (b, o) (mem_at hk)
 simp only at hge
 refine h.replace hk ⟨rfl, rfl, rfl, by simp, fun i hi => ?_⟩ (fun i hi hne => ?_) (by simp) ?_
 ·have : b ≠ i := by omega
  simp [Array.getElem?_setIfInBounds_ne this]
 ·have : b ≠ i := by simp at hne; omega
  simp [Array.getElem?_setIfInBounds_ne this]
 intro p hp
 simp only [List.mem_singleton] at hp
 subst hp
 exact ⟨hge, ho, .inl (by simp)⟩
theorem keys_set {l : List MapEntry} {j : Nat} {e : MapEntry} (h : l[j]? = some e) (e' : MapEntry) (hk : e'.key = e.key) : (l.set j e').map (·.key) = l.map (·.key) := by
 apply List.ext_getElem?
 intro i
 by_cases he : j = i
 ·subst he
  have hlt := (List.getElem?_eq_some_iff.1 h).1
  rw [List.getElem?_map, List.getElem?_map, List.getElem?_set_self hlt, h]; simp [hk]
 simp [List.getElem?_set_ne he]
theorem borns_set {l : List MapEntry} {j : Nat} {e : MapEntry} (h : l[j]? = some e) (e' : MapEntry) (hk : e'.born = e.born) : (l.set j e').map (·.born) = l.map (·.born) := by
 apply List.ext_getElem?
 intro i
 by_cases he : j = i
 ·subst he
  have hlt := (List.getElem?_eq_some_iff.1 h).1
  rw [List.getElem?_map, List.getElem?_map, List.getElem?_set_self hlt, h]; simp [hk]
 simp [List.getElem?_set_ne he]
theorem run_updG {w : World} {b : Nat} {l : List (α × β)} {a : α} {v : β} (hu : P.underlying t = some (.map kt et)) (K : Keys P kt f ok) (hl : ∀ p ∈ l, ok p.1) (ha : ok a) {en : Array MapEntry} {clk : Nat} (hw : w.heap[b]? = some (.map en clk)) (he : en.toList.map (fun e => (e.key, e.val)) = gmL f g l)
  (hb : (en.toList.map (·.born)).Nodup) (hlt : ∀ e ∈ en.toList, e.born < clk) (hn : (en.toList.map (·.key)).Nodup) :
  ∃ en' clk', (Instr.mapUpdate t (.map (some b)) (f a) (g v)).run P w = .ok () { w with heap := w.heap.setIfInBounds b (.map en' clk') } /\ en'.toList.map (fun e => (e.key, e.val)) = gmL f g (mpt l a v) /\
   (en'.toList.map (·.born)).Nodup /\ (∀ e ∈ en'.toList, e.born < clk') /\ (en'.toList.map (·.key)).Nodup := by
 obtain ⟨lx, hlx⟩ := K.key a ha
 have hck := K.law.check w false hlx
 have hst := K.law.stays w hlx
 have hg : (getObj b).run P w = .ok (.map en clk) w := by simp [getObj, Sem.run, hw]
 rcases K.find hl he a ha w with ⟨h1, h2⟩ | ⟨j, e, b', h1, h2, h3, h4, h5⟩
 ·refine ⟨en.push { key := f a, val := g v, born := clk }, clk + 1, ?_, ?_, ?_, ?_, ?_⟩
  ·unfold Instr.mapUpdate
   simp [run_underlying hu, hg, hck, h1, run_setMap hw]
  ·rw [mpt_new h2]; simp [he, gmL]
  ·simp only [Array.toList_push, List.map_append, List.map_cons, List.map_nil]
   rw [List.nodup_append]
   refine ⟨hb, by simp, ?_⟩
   simp only [List.mem_map, List.mem_singleton]
   rintro x ⟨e, he', rfl⟩ y rfl hxy
   have := hlt e he'
   omega
  ·simp only [Array.toList_push, List.mem_append, List.mem_singleton]
   rintro e (h | rfl)
   ·have := hlt e h; omega
   exact Nat.lt_succ_self _
  simp only [Array.toList_push, List.map_append, List.map_cons, List.map_nil]
  rw [List.nodup_append]
  refine ⟨hn, by simp, ?_⟩
  simp only [List.mem_map, List.mem_singleton]
  rintro x ⟨e, he', rfl⟩ y rfl hxy
  obtain ⟨i, hi⟩ := List.getElem?_of_mem he'
  obtain ⟨a', b', q1, q2, q3⟩ := gmL_get he hi
  obtain rfl := K.inj a' a (by rw [<- q2, hxy])
  exact h2 b' (List.mem_of_getElem? q1)
 have hlj : j < en.toList.length := (List.getElem?_eq_some_iff.1 h2).1
 have hmod : (en.modify j fun e => { e with key := f a, val := g v }).toList = en.toList.set j { e with key := f a, val := g v } := by
  apply List.ext_getElem?
  intro i
  by_cases hi : j = i
  ·subst hi
   have hlj' : j < en.size := by simpa using hlj
   have h2' : en[j] = e := by have := h2; simp [hlj'] at this; exact this
   simp [Array.getElem?_modify, List.getElem?_set_self hlj, hlj', h2']
  simp [Array.getElem?_modify, hi, List.getElem?_set_ne hi]
 refine ⟨en.modify j fun e => { e with key := f a, val := g v }, clk, ?_, ?_, ?_, ?_, ?_⟩
 ·have hkey : ((en[j]?).map (·.key)).getD (f a) = f a := by
   have : en[j]? = some e := by simpa using h2
   simp [this, h3]
  unfold Instr.mapUpdate
  simp [run_underlying hu, hg, hck, h1, hkey, hst, run_setMap hw]
 ·rw [hmod, mpt_set (gmL_nodup he hn) h5, List.map_set, he]
  unfold gmL
  rw [List.map_set]
 ·rw [hmod, borns_set h2 _ (by rfl)]; exact hb
 ·rw [hmod]
  intro x hx
  rcases List.mem_or_eq_of_mem_set hx with h | rfl
  ·exact hlt x h
  exact hlt e (List.mem_of_getElem? h2)
 rw [hmod, keys_set h2 _ (by simpa using h3.symm)]; exact hn
theorem OW.updG {m k x : Operand} {b j : Nat} {l : List (α × β)} {a : α} {v : β} (hu : P.underlying t = some (.map kt et)) (K : Keys P kt f ok) (hl : ∀ p ∈ l, ok p.1) (ha : ok a) (hm : (cV m).val T = some (.map (some b))) (hx : (cV k).val T = some (f a)) (hv : (cV x).val T = some (g v))
  (hk : S[j]? = some [(b, AO.gm (gmL f g l))]) : OW P w0 n (.more (.other (.gen (.mapUpdate t m k x)))) T S (fun _ S' => S' = S.set j [(b, .gm (gmL f g (mpt l a v)))]) := by
 intro op ac w Q hco hs hr
 have ho : op.op = .mapUpdate t m k x := cOp_spec P hco
 obtain ⟨hge, en, clk, hw, he, hb, hlt, hn⟩ := hr.gmAt (mem_at hk)
 obtain ⟨en', clk', hrun, h1, h2, h3, h4⟩ := run_updG (a := a) (v := v) hu K hl ha hw he hb hlt hn
 unfold Oper.wp
 have hrun2 : (execOp ac.eval op).run P w = .ok .skip { w with heap := w.heap.setIfInBounds b (.map en' clk') } := by
  simp [execOp, ho, hs.eval hm, hs.eval hx, hs.eval hv, hrun]
 rw [hrun2]
 refine ⟨undef, _, rfl, ?_, rfl⟩
 have hlb : b < w.heap.size := (Array.getElem?_eq_some_iff.1 hw).1
 exact hr.setAt hk ⟨en', clk', by simp [hlb], h1, h2, h3, h4⟩
theorem OW.insG {m k x : Operand} {b j : Nat} {l : List (α × β)} {a : α} {v : β} (hu : P.underlying t = some (.map kt et)) (K : Keys P kt f ok) (hl : ∀ p ∈ l, ok p.1) (ha : ok a) (hm : (cV m).val T = some (.map (some b))) (hx : (cV k).val T = some (f a)) (hv : (cV x).val T = some (g v))
  (hk : S[j]? = some [(b, AO.gm (gmL f g l))]) : OW P w0 n (.more (.other (.gen (.insert t m k x)))) T S (fun _ S' => S' = S.set j [(b, .gm (gmL f g (mpt l a v)))]) := by
 intro op ac w Q hco hs hr
 have ho : op.op = .insert t m k x := cOp_spec P hco
 obtain ⟨hge, en, clk, hw, he, hb, hlt, hn⟩ := hr.gmAt (mem_at hk)
 obtain ⟨en', clk', hrun, h1, h2, h3, h4⟩ := run_updG (a := a) (v := v) hu K hl ha hw he hb hlt hn
 unfold Oper.wp
 have hrun2 : (execOp ac.eval op).run P w = .ok .skip { w with heap := w.heap.setIfInBounds b (.map en' clk') } := by
  simp [execOp, ho, hs.eval hm, hs.eval hx, hs.eval hv, hrun]
 rw [hrun2]
 refine ⟨undef, _, rfl, ?_, rfl⟩
 have hlb : b < w.heap.size := (Array.getElem?_eq_some_iff.1 hw).1
 exact hr.setAt hk ⟨en', clk', by simp [hlb], h1, h2, h3, h4⟩
theorem OW.delG {m k : Operand} {b j : Nat} {l : List (α × β)} {a : α} {u : TypeId} (hu : P.underlying t = some (.map kt et)) (K : Keys P kt f ok) (hl : ∀ p ∈ l, ok p.1) (ha : ok a) (hm : (cV m).val T = some (.map (some b))) (hx : (cV k).val T = some (f a))
  (hk : S[j]? = some [(b, AO.gm (gmL f g l))]) : OW P w0 n (.more (.other (.gen (.call { callee := .builtin .delete, args := #[m, k], argTypes := #[t, u] })))) T S (fun _ S' => S' = S.set j [(b, .gm (gmL f g (mdl l a)))]) := by
 intro op ac w Q hco hs hr
 have ho : op.op = .call { callee := .builtin .delete, args := #[m, k], argTypes := #[t, u] } := cOp_spec P hco
 obtain ⟨hge, en, clk, hw, he, hb, hlt, hn⟩ := hr.gmAt (mem_at hk)
 obtain ⟨lx, hlx⟩ := K.key a ha
 have hck := K.law.check w en.isEmpty hlx
 have hg : (getObj b).run P w = .ok (.map en clk) w := by simp [getObj, Sem.run, hw]
 have hlb : b < w.heap.size := (Array.getElem?_eq_some_iff.1 hw).1
 unfold Oper.wp
 rcases K.find hl he a ha w with ⟨h1, h2⟩ | ⟨i, e, b', h1, h2, h3, h4, h5⟩
 ·have hrun2 : (execOp ac.eval op).run P w = .ok (.value (.tuple #[])) { w with heap := w.heap.setIfInBounds b (.map en clk) } := by
   simp [execOp, ho, resolve, invoke, builtin, Builtin.delete_, hs.eval hm, hs.eval hx, run_underlying hu, hg, hck, h1, run_setMap hw]
  rw [hrun2]
  refine ⟨_, _, rfl, ?_, rfl⟩
  rw [mdl_new h2]
  exact hr.setAt hk ⟨en, clk, by simp [hlb], he, hb, hlt, hn⟩
 have hrun2 : (execOp ac.eval op).run P w = .ok (.value (.tuple #[])) { w with heap := w.heap.setIfInBounds b (.map (en.eraseIdxIfInBounds i) clk) } := by
  simp [execOp, ho, resolve, invoke, builtin, Builtin.delete_, hs.eval hm, hs.eval hx, run_underlying hu, hg, hck, h1, run_setMap hw]
 rw [hrun2]
 refine ⟨_, _, rfl, ?_, rfl⟩
 have hli : i < en.size := by have := (List.getElem?_eq_some_iff.1 h2).1; simpa using this
 have her : (en.eraseIdxIfInBounds i).toList = en.toList.eraseIdx i := by
  unfold Array.eraseIdxIfInBounds
  rw [dif_pos hli]
  simp
 refine hr.setAt hk ⟨_, clk, by simp [hlb]; rfl, ?_, ?_, ?_, ?_⟩
 ·rw [her, mdl_erase (gmL_nodup he hn) h5, map_eraseIdx, he]
  unfold gmL
  rw [map_eraseIdx]
 ·rw [her]; exact hb.sublist ((List.eraseIdx_sublist _ _).map _)
 ·rw [her]; exact fun e h => hlt e ((List.eraseIdx_sublist _ _).subset h)
 rw [her]; exact hn.sublist ((List.eraseIdx_sublist _ _).map _)
def It (f : α -> Value) (g : β -> Value) (en : Array MapEntry) (seen : Array Nat) (l done rest : List (α × β)) : Prop :=
 (done ++ rest).Perm l /\ ∃ D R : List MapEntry, seen.toList = D.map (·.born) /\ (D ++ R).Perm en.toList /\ D.map (fun e => (e.key, e.val)) = gmL f g done /\ R.map (fun e => (e.key, e.val)) = gmL f g rest
structure Opened (f : α -> Value) (g : β -> Value) (en : Array MapEntry) (clk : Nat) (l : List (α × β)) : Prop where
 es : en.toList.map (fun e => (e.key, e.val)) = gmL f g l
 born : (en.toList.map (·.born)).Nodup
 lt : ∀ e ∈ en.toList, e.born < clk
 keys : (en.toList.map (·.key)).Nodup
theorem OW.rngG {m : Operand} {b j : Nat} {l : List (α × β)} (hu : P.underlying t = some (.map kt et)) (hm : (cV m).val T = some (.map (some b))) (hk : S[j]? = some [(b, AO.gm (gmL f g l))]) :
  OW P w0 n (.more (.other (.gen (.range t m)))) T S (fun v S' => ∃ r en clk, v = .pointer (some ⟨r, 0, none⟩) /\ Opened f g en clk l /\ It f g en #[] l [] l /\ S' = [(r, .obj (.mapIter (some b) clk #[] clk))] :: S.set j [(b, .obj (.map en clk))]) := by
 intro op ac w Q hco hs hr
 have ho : op.op = .range t m := cOp_spec P hco
 obtain ⟨hge, en, clk, hw, he, hb, hlt, hn⟩ := hr.gmAt (mem_at hk)
 have hg : (getObj b).run P w = .ok (.map en clk) w := by simp [getObj, Sem.run, hw]
 unfold Oper.wp
 have hrun : (execOp ac.eval op).run P w = .ok (.value (.pointer (some ⟨w.heap.size, 0, none⟩))) (w.alloc (.mapIter (some b) clk #[] clk)) := by
  simp [execOp, ho, hs.eval hm, Instr.range, run_underlying hu, hg, newObj, Sem.run]
 rw [hrun]
 have hr2 : Rep w0 (S.set j [(b, .obj (.map en clk))]) w := hr.replace hk (Below.refl _ _) (fun _ _ _ => rfl) (by simp) (by
  intro p hp
  simp only [List.mem_singleton] at hp
  subst hp
  exact ⟨hge, hw, .inl (by simp)⟩)
 refine ⟨_, _, rfl, hr2.allocObj _, w.heap.size, en, clk, rfl, ⟨he, hb, hlt, hn⟩, ⟨by simp, [], en.toList, by simp, by simp, by simp [gmL], he⟩, rfl⟩
theorem perm_take {γ : Type} {D R L : List γ} {i : Nat} {x : γ} (h : R[i]? = some x) (hp : (D ++ R).Perm L) : ((D ++ [x]) ++ R.eraseIdx i).Perm L := by
 refine List.Perm.trans ?_ hp
 rw [List.append_assoc]
 refine List.Perm.append_left D ?_
 have hlt := (List.getElem?_eq_some_iff.1 h).1
 have hx : R[i] = x := by rw [List.getElem?_eq_getElem hlt] at h; exact Option.some.inj h
 have : R = R.take i ++ x :: R.drop (i + 1) := by rw [<- hx]; simp
 have e : R.eraseIdx i = R.take i ++ R.drop (i + 1) := List.eraseIdx_eq_take_drop_succ ..
 rw [e]
 calc [x] ++ (R.take i ++ R.drop (i + 1)) = x :: (R.take i ++ R.drop (i + 1)) := rfl
  List.Perm _ (R.take i ++ x :: R.drop (i + 1)) := (List.perm_middle).symm
  List.Perm _ R := by rw [<- this]
theorem OW.nxtG {it : Operand} {b r j clk : Nat} {en : Array MapEntry} {seen : Array Nat} {l done rest : List (α × β)} (ht : (cV it).val T = some (.pointer (some ⟨r, 0, none⟩))) (hk : S[j]? = some [(r, AO.obj (.mapIter (some b) clk seen clk))])
  (hm : (b, AO.obj (.map en clk)) ∈ S.flatten) (ho : Opened f g en clk l) (hi : It f g en seen l done rest) :
  OW P w0 n (.more (.other (.gen (.next it false)))) T S (fun v S' => (rest = [] /\ v = .tuple #[.bool false] /\ S' = S) ∨
   ∃ (i : Nat) (p : α × β) (q : Nat), rest[i]? = some p /\ v = .tuple #[.bool true, f p.1, g p.2] /\ It f g en (seen.push q) l (done ++ [p]) (rest.eraseIdx i) /\ S' = S.set j [(r, .obj (.mapIter (some b) clk (seen.push q) clk))]) := by
 intro op ac w Q hco hs hr
 have hop : op.op = .next it false := cOp_spec P hco
 obtain ⟨hge, hw⟩ := hr.own _ hm
 obtain ⟨hge2, hw2⟩ := hr.own (r, AO.obj (.mapIter (some b) clk seen clk)) (mem_at hk)
 simp only [Owns] at hw hw2
 obtain ⟨hperm, D, R, hseen, hDR, hD, hR⟩ := hi
 have hbn : ((D ++ R).map (·.born)).Nodup := (hDR.map _).nodup_iff.2 ho.born
 have hleft : ∀ e, e ∈ (leftOf en seen).toList ↔ e ∈ R := by
  intro e
  unfold leftOf
  simp only [Array.toList_filter, List.mem_filter, Bool.not_eq_true', Array.contains_eq_mem, decide_eq_false_iff_not, <- Array.mem_toList_iff, hseen]
  constructor
  ·rintro ⟨h1, h2⟩
   rcases List.mem_append.1 (hDR.mem_iff.2 h1) with h | h
   ·exact absurd (List.mem_map.2 ⟨e, h, rfl⟩) h2
   exact h
  intro h
  refine ⟨hDR.mem_iff.1 (by simp [h]), fun h2 => ?_⟩
  obtain ⟨e', h3, h4⟩ := List.mem_map.1 h2
  rw [List.map_append, List.nodup_append] at hbn
  exact hbn.2.2 _ (List.mem_map.2 ⟨e', h3, rfl⟩) _ (List.mem_map.2 ⟨e, h, rfl⟩) h4
 have hnx := run_next_at (P := P) w op.type r b clk clk seen en clk hw2 hw ho.lt (Nat.le_refl _)
 unfold Oper.wp
 rcases hnx with ⟨h0, hrun⟩ | ⟨e, he, w1, hw1, hrun⟩
 ·have hrun2 : (execOp ac.eval op).run P w = .ok (.value (.tuple #[.bool false])) w := by
   simp [execOp, hop, hs.eval ht, hrun]
  rw [hrun2]
  refine ⟨_, _, rfl, hr, .inl ⟨?_, rfl, rfl⟩⟩
  have hR0 : R = [] := by
   cases hRR : R with
   | nil => rfl
   | cons x R' =>
    exfalso
    have := (hleft x).2 (by rw [hRR]; simp)
    have h2 : (leftOf en seen) = #[] := Array.eq_empty_of_size_eq_zero h0
    rw [h2] at this
    simp at this
  rw [hR0] at hR
  cases rest with
  | nil => rfl
  | cons x r' => simp [gmL] at hR
 have heR := (hleft e).1 he
 obtain ⟨i, hRi⟩ := List.getElem?_of_mem heR
 have h1 : (R.map (fun e => (e.key, e.val)))[i]? = some (e.key, e.val) := by simp [hRi]
 rw [hR] at h1
 unfold gmL at h1
 rw [List.getElem?_map, Option.map_eq_some_iff] at h1
 obtain ⟨p, hp, hkv⟩ := h1
 have hke : e.key = f p.1 := (congrArg Prod.fst hkv).symm
 have hve : e.val = g p.2 := (congrArg Prod.snd hkv).symm
 have hrun2 : (execOp ac.eval op).run P w = .ok (.value (.tuple #[.bool true, f p.1, g p.2])) (ChangeMaps.setBlock w1 r (.mapIter (some b) clk (seen.push e.born) clk)) := by
  simp [execOp, hop, hs.eval ht, hrun, hke, hve]
 rw [hrun2]
 have hr1 : Rep w0 S w1 := by
  rcases hw1 with rfl | rfl
  ·exact hr
  exact hr.same ⟨rfl, rfl, rfl, Nat.le_refl _, fun _ _ => rfl⟩ (fun _ _ => rfl)
 have hlr : r < w1.heap.size := hr1.lt (p := (r, AO.obj (.mapIter (some b) clk seen clk))) (mem_at hk)
 refine ⟨_, _, rfl, hr1.setAt (ob := .mapIter (some b) clk (seen.push e.born) clk) (o' := .obj (.mapIter (some b) clk (seen.push e.born) clk)) hk (by simp [Owns, hlr]), .inr ⟨i, p, e.born, hp, rfl, ?_, rfl⟩⟩
 refine ⟨perm_take hp hperm, D ++ [e], R.eraseIdx i, by simp [hseen], perm_take hRi hDR, ?_, ?_⟩
 ·rw [List.map_append, hD]; simp [gmL, hke, hve]
 rw [map_eraseIdx, hR]; unfold gmL; rw [map_eraseIdx]
theorem Yields.entG {it : Operand} {b r clk q : Nat} {en : Array MapEntry} {seen : Array Nat} {l done rest : List (α × β)} {p : α × β} (ht : (cV it).val T = some (.pointer (some ⟨r, 0, none⟩))) (hk : (r, AO.obj (.mapIter (some b) clk (seen.push q) clk)) ∈ S.flatten)
  (hm : (b, AO.obj (.map en clk)) ∈ S.flatten) (ho : Opened f g en clk l) (hi : It f g en (seen.push q) l (done ++ [p]) rest) :
  Yields P w0 n (.more (.other (.gen (.entry it)))) T S (.tuple #[f p.1, g p.2]) := by
 intro o ac w hco hs hr
 have hop : o.op = .entry it := cOp_spec P hco
 obtain ⟨hge, hw⟩ := hr.own _ hm
 obtain ⟨hge2, hw2⟩ := hr.own _ hk
 simp only [Owns] at hw hw2
 obtain ⟨hperm, D, R, hseen, hDR, hD, hR⟩ := hi
 have hDne : D ≠ [] := by rintro rfl; simp [gmL] at hD
 obtain ⟨D', e, rfl⟩ : ∃ D' e, D = D' ++ [e] := ⟨D.dropLast, D.getLast hDne, (List.dropLast_concat_getLast hDne).symm⟩
 have hDl := hD
 rw [gmL, List.map_append, List.map_append] at hDl
 have hlast := (List.append_inj' hDl rfl).2
 simp only [List.map_cons, List.map_nil, List.cons.injEq, Prod.mk.injEq, and_true] at hlast
 have hq : q = e.born := by
  have := hseen
  simp only [Array.toList_push, List.map_append, List.map_cons, List.map_nil] at this
  have h2 := (List.append_inj' this rfl).2
  simpa using h2
 subst hq
 have hem : e ∈ en.toList := hDR.mem_iff.1 (by simp)
 have := run_entry_at (P := P) w r b clk seen en clk e hw2 hw hem ho.born
 simp [execOp, hop, hs.eval ht, this, hlast.1, hlast.2]
theorem It.perm {en : Array MapEntry} {seen : Array Nat} {l done rest : List (α × β)} (h : It f g en seen l done rest) : (done ++ rest).Perm l := h.1
theorem Rep.tell {w : World} {k b : Nat} {o o' : AO} (h : Rep w0 S w) (hk : S[k]? = some [(b, o)]) (ho : ∀ w, Owns w b o -> Owns w b o') : Rep w0 (S.set k [(b, o')]) w := by
 obtain ⟨hge, how⟩ := h.own (b, o) (mem_at hk)
 refine h.replace hk (Below.refl _ _) (fun _ _ _ => rfl) (by simp) (by
  intro p hp
  simp only [List.mem_singleton] at hp
  subst hp
  exact ⟨hge, ho _ how, .inl (by simp)⟩)
theorem Opened.close {en : Array MapEntry} {clk : Nat} {l : List (α × β)} (h : Opened f g en clk l) (b : Nat) (w : World) (hw : Owns w b (.obj (.map en clk))) : Owns w b (.gm (gmL f g l)) := ⟨en, clk, hw, h.es, h.born, h.lt, h.keys⟩
theorem OL.tell {l : List PI} {k b : Nat} {o o' : AO} {K : TT -> SS -> Prop} (hk : S[k]? = some [(b, o)]) (ho : ∀ w, Owns w b o -> Owns w b o') (h : OL P w0 n l T (S.set k [(b, o')]) K) : OL P w0 n l T S K :=
 fun ops is a w Q hc hs hr hq => h ops is a w Q hc hs (hr.tell hk ho) hq
theorem Opened.gm {en : Array MapEntry} {clk : Nat} {l : List (α × β)} (h : Opened f g en clk l) {b : Nat} {w : World} (hw : w.heap[b]? = some (.map en clk)) : Owns w b (.gm (gmL f g l)) := ⟨en, clk, hw, h.es, h.born, h.lt, h.keys⟩
def entL (l : List (α × β)) (a : α) (z : β) : List (α × β) := mpt l a ((mgt l a).getD z)
theorem mpt_idem {l : List (α × β)} {a : α} {b : β} (h : mgt l a = some b) : mpt l a b = l := by
 induction l with
 | nil => simp [mgt_nil] at h
 | cons p l ih =>
  rw [mgt_cons] at h
  unfold mpt
  split
  ·rename_i e
   rw [if_pos e] at h
   rw [e, <- Option.some.inj h]
  rename_i e
  rw [if_neg e] at h
  rw [ih h]
theorem OW.entry {m k : Operand} {i : TypeInfo} {b j : Nat} {l : List (α × β)} {a : α} {z : β} (hu : P.underlying t = some (.map kt et)) (hi : P.info? et = some i) (hz : i.zero = some (g z)) (K : Keys P kt f ok) (hl : ∀ p ∈ l, ok p.1) (ha : ok a)
  (hm : (cV m).val T = some (.map (some b))) (hx : (cV k).val T = some (f a)) (hk : S[j]? = some [(b, AO.gm (gmL f g l))]) :
  OW P w0 n (.more (.other (.gen (.mapEntry t m k)))) T S (fun v S' => ∃ (en : Array MapEntry) (clk q : Nat) (e : MapEntry), v = .tuple #[g ((mgt l a).getD z), .int .i64 (q : Int)] /\ Opened f g en clk (entL l a z) /\ e ∈ en.toList /\ e.born = q /\ e.key = f a /\ S' = S.set j [(b, .obj (.map en clk))]) := by
 intro op ac w Q hco hs hr
 have ho : op.op = .mapEntry t m k := cOp_spec P hco
 obtain ⟨hge, en, clk, hw, he, hb, hlt, hn⟩ := hr.gmAt (mem_at hk)
 obtain ⟨lx, hlx⟩ := K.key a ha
 have hck := K.law.check w false hlx
 have hst := K.law.stays w hlx
 have hg : (getObj b).run P w = .ok (.map en clk) w := by simp [getObj, Sem.run, hw]
 have hlb : b < w.heap.size := (Array.getElem?_eq_some_iff.1 hw).1
 unfold Oper.wp
 rcases K.find hl he a ha w with ⟨h1, h2⟩ | ⟨i', e, b', h1, h2, h3, h4, h5⟩
 ·have hget : mgt l a = none := mgt_none.2 fun h => by
   unfold mks at h
   obtain ⟨p, hp, rfl⟩ := List.mem_map.1 h
   exact h2 p.2 hp
  have hrun : (execOp ac.eval op).run P w = .ok (.value (.tuple #[g z, .int .i64 (clk : Int)])) { w with heap := w.heap.setIfInBounds b (.map (en.push { key := f a, val := g z, born := clk }) (clk + 1)) } := by
   simp [execOp, ho, hs.eval hm, hs.eval hx, Instr.mapEntry, run_underlying hu, hg, hck, h1, run_setMap hw, zeroValue, typeInfo, program, Sem.run, hi, hz, goInt]
  rw [hrun]
  refine ⟨_, _, rfl, hr.setAt hk (o' := .obj (.map (en.push { key := f a, val := g z, born := clk }) (clk + 1))) (by simp [Owns, hlb]), _, clk + 1, clk, { key := f a, val := g z, born := clk }, by rw [hget]; rfl, ⟨?_, ?_, ?_, ?_⟩, by simp, rfl, rfl, rfl⟩
  ·unfold entL
   rw [hget, mpt_new h2]; simp [he, gmL]
  ·simp only [Array.toList_push, List.map_append, List.map_cons, List.map_nil]
   rw [List.nodup_append]
   refine ⟨hb, by simp, ?_⟩
   simp only [List.mem_map, List.mem_singleton]
   rintro x ⟨e, he', rfl⟩ y rfl hxy
   have := hlt e he'
   omega
  ·simp only [Array.toList_push, List.mem_append, List.mem_singleton]
   rintro e (h | rfl)
   ·have := hlt e h; omega
   exact Nat.lt_succ_self _
  simp only [Array.toList_push, List.map_append, List.map_cons, List.map_nil]
  rw [List.nodup_append]
  refine ⟨hn, by simp, ?_⟩
  simp only [List.mem_map, List.mem_singleton]
  rintro x ⟨e, he', rfl⟩ y rfl hxy
  obtain ⟨i, hi⟩ := List.getElem?_of_mem he'
  obtain ⟨a', b', q1, q2, q3⟩ := gmL_get he hi
  obtain rfl := K.inj a' a (by rw [<- q2, hxy])
  exact h2 b' (List.mem_of_getElem? q1)
 have hget : mgt l a = some b' := (mgt_mem (gmL_nodup he hn)).2 (List.mem_of_getElem? h5)
 have h2' : en[i']? = some e := by simpa using h2
 have hsame : en.modify i' (fun e => { e with key := f a }) = en := by
  apply Array.ext'
  apply List.ext_getElem?
  intro x
  rw [Array.getElem?_toList, Array.getElem?_toList, Array.getElem?_modify]
  split
  ·rename_i hx; subst hx
   rw [h2']
   simp only [Option.map_some]
   rw [<- h3]
  rfl
 have hrun : (execOp ac.eval op).run P w = .ok (.value (.tuple #[e.val, .int .i64 (e.born : Int)])) { w with heap := w.heap.setIfInBounds b (.map en clk) } := by
  simp [execOp, ho, hs.eval hm, hs.eval hx, Instr.mapEntry, run_underlying hu, hg, hck, h1, h2', h3, hst, hsame, run_setMap hw, goInt]
 rw [hrun]
 refine ⟨_, _, rfl, hr.setAt hk (o' := .obj (.map en clk)) (by simp [Owns, hlb]), en, clk, e.born, e, by rw [hget, h4]; rfl, ?_, List.mem_of_getElem? h2, rfl, h3, rfl⟩
 unfold entL
 rw [hget, Option.getD_some, mpt_idem hget]
 exact ⟨he, hb, hlt, hn⟩
theorem OW.store {m k x : Operand} {b j q clk : Nat} {en : Array MapEntry} {e : MapEntry} {l : List (α × β)} {a : α} {v : β} (hinj : ∀ a b, f a = f b -> a = b) (hm : (cV m).val T = some (.map (some b))) (hx : (cV k).val T = some (.int .i64 (q : Int))) (hv : (cV x).val T = some (g v))
  (ho : Opened f g en clk l) (hee : e ∈ en.toList) (heb : e.born = q) (hek : e.key = f a) (hk : S[j]? = some [(b, AO.obj (.map en clk))]) :
  OW P w0 n (.more (.other (.gen (.entryStore t m k x)))) T S (fun _ S' => S' = S.set j [(b, .gm (gmL f g (mpt l a v)))]) := by
 intro op ac w Q hco hs hr
 have hop : op.op = .entryStore t m k x := cOp_spec P hco
 obtain ⟨hge, hw⟩ := hr.own _ (mem_at hk)
 simp only [Owns] at hw
 have hg : (getObj b).run P w = .ok (.map en clk) w := by simp [getObj, Sem.run, hw]
 have hlb : b < w.heap.size := (Array.getElem?_eq_some_iff.1 hw).1
 obtain ⟨i, hi⟩ := List.getElem?_of_mem hee
 have hil := (List.getElem?_eq_some_iff.1 hi).1
 obtain ⟨a', b', q1, q2, q3⟩ := gmL_get ho.es hi
 obtain rfl := hinj a' a (by rw [<- q2, hek])
 have hfi : en.findIdx? (fun e => (e.born : Int) == (q : Int)) = some i := by
  rw [Array.findIdx?_eq_some_iff_getElem]
  obtain ⟨h1, h2⟩ := List.getElem?_eq_some_iff.1 hi
  have h2' : en[i]'(by simpa using h1) = e := by simpa using h2
  refine ⟨by simpa using h1, by rw [h2', heb]; simp, fun x hx => ?_⟩
  have hxl : x < en.toList.length := by omega
  have hne : (en.toList.map (·.born))[x]'(by simpa using hxl) ≠ (en.toList.map (·.born))[i]'(by simpa using h1) := fun e => by
   have := (List.getElem_inj ho.born).1 e
   omega
  have hxe : en[x] = en.toList[x] := by simp
  simp only [List.getElem_map, h2, heb] at hne
  simp only [beq_iff_eq, Bool.not_eq_true, beq_eq_false_iff_ne, ne_eq]
  rw [hxe]
  omega
 have hmod : (en.modify i fun e => { e with val := g v }).toList = en.toList.set i { e with val := g v } := by
  apply List.ext_getElem?
  intro x
  by_cases hx : i = x
  ·subst hx
   have hlj' : i < en.size := by simpa using hil
   have h2' : en[i] = e := by have := hi; simp [hlj'] at this; exact this
   simp [Array.getElem?_modify, List.getElem?_set_self hil, hlj', h2']
  simp [Array.getElem?_modify, hx, List.getElem?_set_ne hx]
 unfold Oper.wp
 have hrun : (execOp ac.eval op).run P w = .ok .skip { w with heap := w.heap.setIfInBounds b (.map (en.modify i fun e => { e with val := g v }) clk) } := by
  simp [execOp, hop, hs.eval hm, hs.eval hx, hs.eval hv, Instr.entryStore, hg, asInt, asIntOf, hfi, run_setMap hw]
 rw [hrun]
 refine ⟨undef, _, rfl, ?_, rfl⟩
 refine hr.setAt hk ⟨_, clk, by simp [hlb]; rfl, ?_, ?_, ?_, ?_⟩
 ·rw [hmod, mpt_set (gmL_nodup ho.es ho.keys) q1, List.map_set, ho.es]
  unfold gmL
  rw [List.map_set, <- q2]
 ·rw [hmod, borns_set hi _ (by rfl)]; exact ho.born
 ·rw [hmod]
  intro x hx
  rcases List.mem_or_eq_of_mem_set hx with h | rfl
  ·exact ho.lt x h
  exact ho.lt e hee
 rw [hmod, keys_set hi _ (by rfl)]; exact ho.keys
theorem Yields.lookO {m k : Operand} {okc : Bool} {i : TypeInfo} {b clk : Nat} {en : Array MapEntry} {l : List (α × β)} {a : α} {z : β} (hu : P.underlying t = some (.map kt et)) (hi : P.info? et = some i) (hz : i.zero = some (g z)) (K : Keys P kt f ok) (hl : ∀ p ∈ l, ok p.1) (ha : ok a)
  (hm : (cV m).val T = some (.map (some b))) (hx : (cV k).val T = some (f a)) (ho : Opened f g en clk l) (hk : (b, AO.obj (.map en clk)) ∈ S.flatten) :
  Yields P w0 n (.more (.other (.gen (.lookup t m k okc)))) T S (if okc then .tuple #[g ((mgt l a).getD z), .bool (mgt l a).isSome] else g ((mgt l a).getD z)) := by
 intro o ac w hco hs hr
 have hop : o.op = .lookup t m k okc := cOp_spec P hco
 obtain ⟨hge, hw⟩ := hr.own _ hk
 simp only [Owns] at hw
 obtain ⟨lx, hlx⟩ := K.key a ha
 have hck := fun bb => K.law.check w bb hlx
 have hg : (getObj b).run P w = .ok (.map en clk) w := by simp [getObj, Sem.run, hw]
 simp only [execOp, hop, hs.eval hm, hs.eval hx, Instr.lookup]
 simp only [Sem.run_bind, run_underlying hu, Result.andThen_ok, hg, Sem.run_pure, hck]
 rcases K.find hl ho.es a ha w with ⟨h1, h2⟩ | ⟨j, e, b', h1, h2, h3, h4, h5⟩
 ·have hget : mgt l a = none := mgt_none.2 fun h => by
   unfold mks at h
   obtain ⟨p, hp, rfl⟩ := List.mem_map.1 h
   exact h2 p.2 hp
  simp only [h1, Result.andThen_ok, hget]
  cases okc <;> simp [zeroValue, typeInfo, program, hi, hz, Sem.run]
 have hget : mgt l a = some b' := (mgt_mem (gmL_nodup ho.es ho.keys)).2 (List.mem_of_getElem? h5)
 simp only [h1, Result.andThen_ok, hget, h4]
 cases okc <;> simp
theorem Yields.tas {x : Operand} {u : TypeId} {d : TypeDesc} {ok : Bool} {v : Value} (hx : (cV x).val T = some (.iface t v)) (hu : P.underlying t = some d) (hd : ∀ ms, d ≠ .interface ms) :
  Yields P w0 n (.more (.other (.gen (.typeAssert x u t ok)))) T S (if ok then .tuple #[v, .bool true] else v) := by
 intro o ac w hco hs hr
 have hop : o.op = .typeAssert x u t ok := cOp_spec P hco
 have : (Instr.typeAssert (.iface t v) u t ok).run P w = .ok (if ok then .tuple #[v, .bool true] else v) w := by
  unfold Instr.typeAssert
  simp only [Sem.run_bind, run_underlying hu, Result.andThen_ok]
  cases d <;> (first | (cases ok <;> simp; done) | exact absurd rfl (hd _))
 simp [execOp, hop, hs.eval hx, this]
theorem OW.inv {recv : Operand} {name : String} {args : Array Operand} {ts : Array TypeId} {k : FuncId} {v rv : Value} {vs : List Value} {post : Value -> SS -> Prop} (hx : (cV recv).val T = some (.iface t v)) (hv : valsP T (args.toList.map cV) = some vs)
  (hm : ∀ w, Rep w0 S w -> (method (P.types.size + Made.depth) t v name).run P w = .ok (k, rv) w) (hok : fnOk P k = true) (h : FC P w0 k (rv :: vs) S post) :
  OW P w0 n (.more (.other (.gen (.call { callee := .invoke recv name, args := args, argTypes := ts })))) T S post := by
 intro op ac w Q hco hs hr
 have hop : op.op = .call { callee := .invoke recv name, args := args, argTypes := ts } := cOp_spec P hco
 have hargs : args.map ac.eval = vs.toArray := by
  have := valsP_spec hs hv
  rw [<- this, <- Array.toArray_toList (xs := args.map ac.eval), Array.toList_map]
 have hrun : (execOp ac.eval op).run P w = .ok (.enter k (rv :: vs).toArray) w := by
  unfold fnOk at hok
  split at hok
  ·rename_i fn hfn
   simp only [Bool.and_eq_true, bne_iff_ne, ne_eq] at hok
   have hb : ¬ fn.body = none := by intro hh; simp [hh] at hok
   have hex : (#[(Value.iface t v)] ++ vs.toArray).extract 1 (#[(Value.iface t v)] ++ vs.toArray).size = vs.toArray := by
    apply Array.toList_inj.1
    simp
   simp only [execOp, hop, resolve, hs.eval hx, hargs]
   simp only [Sem.run_bind, Sem.run_pure, Result.andThen_ok, invoke]
   have h0 : (#[(Value.iface t v)] ++ vs.toArray)[0]? = some (.iface t v) := by simp
   simp only [h0, hex, callMethod, Sem.run_bind, program, Sem.run, Result.andThen_ok, hm w hr]
   simp [callFunc, program, Sem.run, hfn, hok.1, hb]
  simp at hok
 unfold Oper.wp
 rw [hrun]
 refine (h w hr).mono ?_
 rintro e w' ⟨v, S', rfl, hr', hp⟩
 exact ⟨v, S', rfl, hr', hp⟩
end
end Go.SL

namespace Go.HP
variable {α : Type} [Inhabited α]
def swapL (l : List α) (i j : Nat) : List α := (l.set i l[j]!).set j l[i]!
theorem swapL_len (l : List α) (i j : Nat) : (swapL l i j).length = l.length := by simp [swapL]
theorem swapL_get {l : List α} {i j : Nat} (hi : i < l.length) (hj : j < l.length) (k : Nat) : (swapL l i j)[k]! = if k = j then l[i]! else if k = i then l[j]! else l[k]! := by
 unfold swapL
 simp only [List.getElem!_eq_getElem?_getD]
 by_cases h1 : k = j
 ·subst h1
  rw [if_pos rfl, List.getElem?_set_self (by simpa using hj)]
  rfl
 rw [if_neg h1, List.getElem?_set_ne (fun e => h1 e.symm)]
 by_cases h2 : k = i
 ·subst h2
  rw [if_pos rfl, List.getElem?_set_self hi]
  rfl
 rw [if_neg h2, List.getElem?_set_ne (fun e => h2 e.symm)]
theorem swapL_perm {l : List α} {i j : Nat} (hi : i < l.length) (hj : j < l.length) : (swapL l i j).Perm l := by
 unfold swapL
 rw [getElem!_pos l i hi, getElem!_pos l j hj]
 exact List.set_set_perm hi hj
variable (lt : α -> α -> Bool)
def upL : Nat -> List α -> Nat -> List α
 | 0, l, _ => l
 | f + 1, l, j => if j = 0 then l else if lt l[j]! l[(j - 1) / 2]! then upL f (swapL l ((j - 1) / 2) j) ((j - 1) / 2) else l
def downJ (l : List α) (i n : Nat) : Nat := if 2 * i + 2 < n /\ lt l[2 * i + 2]! l[2 * i + 1]! = true then 2 * i + 2 else 2 * i + 1
def downL : Nat -> List α -> Nat -> Nat -> List α
 | 0, l, _, _ => l
 | f + 1, l, i, n => if n <= 2 * i + 1 then l else if lt l[downJ lt l i n]! l[i]! then downL f (swapL l i (downJ lt l i n)) (downJ lt l i n) n else l
structure Ord : Prop where
 asymm : ∀ a b, lt a b = true -> lt b a = false
 trans : ∀ a b c, lt b a = false -> lt c b = false -> lt c a = false
variable {lt}
def Hp (lt : α -> α -> Bool) (l : List α) (n : Nat) : Prop := ∀ k, 0 < k -> k < n -> lt l[k]! l[(k - 1) / 2]! = false
theorem upL_spec (O : Ord lt) : ∀ (f : Nat) (l : List α) (j : Nat), j <= f -> j < l.length -> (∀ k, 0 < k -> k < l.length -> k ≠ j -> lt l[k]! l[(k - 1) / 2]! = false) ->
  (∀ k, 0 < k -> k < l.length -> 0 < j -> (k - 1) / 2 = j -> lt l[k]! l[(j - 1) / 2]! = false) -> Hp lt (upL lt f l j) l.length /\ (upL lt f l j).Perm l
 | 0, l, j, hf, hj, h1, h2 => by
  refine ⟨fun k h0 hk => ?_, List.Perm.refl _⟩
  exact h1 k h0 hk (by omega)
 | f + 1, l, j, hf, hj, h1, h2 => by
  unfold upL
  by_cases hj0 : j = 0
  ·rw [if_pos hj0]
   exact ⟨fun k h0 hk => h1 k h0 hk (by omega), List.Perm.refl _⟩
  rw [if_neg hj0]
  by_cases hl : lt l[j]! l[(j - 1) / 2]! = true
  ·rw [if_pos hl]
   have hi : (j - 1) / 2 < j := by omega
   generalize hp : (j - 1) / 2 = i at hi hl ⊢
   have hil : i < l.length := by omega
   have hg := swapL_get hil hj
   have key := upL_spec O f (swapL l i j) i (by omega) (by rw [swapL_len]; exact hil) ?_ ?_
   ·rw [swapL_len] at key
    exact ⟨key.1, key.2.trans (swapL_perm hil hj)⟩
   ·intro k h0 hk hki
    rw [swapL_len] at hk
    rw [hg, hg]
    by_cases hkj : k = j
    ·subst hkj
     rw [if_pos rfl, hp, if_neg (by omega), if_pos rfl]
     exact O.asymm _ _ hl
    rw [if_neg hkj, if_neg hki]
    by_cases hpj : (k - 1) / 2 = j
    ·rw [if_pos hpj]
     have := h2 k h0 hk (by omega) hpj
     rwa [hp] at this
    rw [if_neg hpj]
    by_cases hpi : (k - 1) / 2 = i
    ·rw [if_pos hpi]
     have := h1 k h0 hk hkj
     rw [hpi] at this
     exact O.trans _ _ _ (O.asymm _ _ hl) this
    rw [if_neg hpi]
    exact h1 k h0 hk hkj
   intro k h0 hk hi0 hki
   rw [swapL_len] at hk
   rw [hg, hg]
   have hii : (i - 1) / 2 ≠ j := by omega
   have hii2 : (i - 1) / 2 ≠ i := by omega
   rw [if_neg hii, if_neg hii2]
   by_cases hkj : k = j
   ·subst hkj
    rw [if_pos rfl]
    exact h1 i hi0 hil (by omega)
   rw [if_neg hkj, if_neg (by omega)]
   have a := h1 k h0 hk hkj
   rw [hki] at a
   exact O.trans _ _ _ (h1 i hi0 hil (by omega)) a
  rw [if_neg hl]
  refine ⟨fun k h0 hk => ?_, List.Perm.refl _⟩
  by_cases hkj : k = j
  ·subst hkj; simpa using hl
  exact h1 k h0 hk hkj
theorem downL_spec (O : Ord lt) : ∀ (f : Nat) (l : List α) (i n : Nat), n <= f + i -> i < n -> n <= l.length -> (∀ k, 0 < k -> k < n -> (k - 1) / 2 ≠ i -> lt l[k]! l[(k - 1) / 2]! = false) ->
  (∀ k, 0 < k -> k < n -> 0 < i -> (k - 1) / 2 = i -> lt l[k]! l[(i - 1) / 2]! = false) -> Hp lt (downL lt f l i n) n /\ (downL lt f l i n).Perm l /\ ∀ k, n <= k -> (downL lt f l i n)[k]! = l[k]!
 | 0, l, i, n, hf, hi, hn, h1, h2 => by omega
 | f + 1, l, i, n, hf, hi, hn, h1, h2 => by
  unfold downL
  by_cases hc : n <= 2 * i + 1
  ·rw [if_pos hc]
   exact ⟨fun k h0 hk => h1 k h0 hk (by omega), List.Perm.refl _, fun _ _ => rfl⟩
  rw [if_neg hc]
  have hj : downJ lt l i n < n /\ (downJ lt l i n - 1) / 2 = i /\ 0 < downJ lt l i n /\ i < downJ lt l i n /\ ∀ k, 0 < k -> k < n -> (k - 1) / 2 = i -> lt l[k]! l[downJ lt l i n]! = false := by
   unfold downJ
   split
   ·rename_i h
    refine ⟨h.1, by omega, by omega, by omega, fun k h0 hk hp => ?_⟩
    have : k = 2 * i + 1 ∨ k = 2 * i + 2 := by omega
    rcases this with rfl | rfl
    ·exact O.asymm _ _ h.2
    cases hx : lt l[2 * i + 2]! l[2 * i + 2]! with
    | false => rfl
    | true => have := O.asymm _ _ hx; rw [hx] at this; cases this
   rename_i h
   refine ⟨by omega, by omega, by omega, by omega, fun k h0 hk hp => ?_⟩
   have : k = 2 * i + 1 ∨ k = 2 * i + 2 := by omega
   rcases this with rfl | rfl
   ·cases hx : lt l[2 * i + 1]! l[2 * i + 1]! with
    | false => rfl
    | true => have := O.asymm _ _ hx; rw [hx] at this; cases this
   cases hx : lt l[2 * i + 2]! l[2 * i + 1]! with
   | false => rfl
   | true => exact absurd ⟨hk, hx⟩ h
  generalize downJ lt l i n = j at hj ⊢
  obtain ⟨hjn, hjp, hj0, hij, hjm⟩ := hj
  by_cases hl : lt l[j]! l[i]! = true
  ·rw [if_pos hl]
   have hil : i < l.length := by omega
   have hjl : j < l.length := by omega
   have hg := swapL_get hil hjl
   have key := downL_spec O f (swapL l i j) j n (by omega) hjn (by rw [swapL_len]; exact hn) ?_ ?_
   ·refine ⟨key.1, key.2.1.trans (swapL_perm hil hjl), fun k hk => ?_⟩
    rw [key.2.2 k hk, hg, if_neg (by omega), if_neg (by omega)]
   ·intro k h0 hk hkj
    rw [hg, hg, if_neg hkj]
    by_cases hk1 : k = j
    ·subst hk1
     rw [if_pos rfl, hjp, if_pos rfl]
     exact O.asymm _ _ hl
    rw [if_neg hk1]
    by_cases hpi : (k - 1) / 2 = i
    ·rw [if_pos hpi, if_neg (by omega)]
     exact hjm k h0 hk hpi
    rw [if_neg hpi]
    by_cases hki : k = i
    ·subst hki
     rw [if_pos rfl]
     exact h2 j hj0 hjn h0 hjp
    rw [if_neg hki]
    exact h1 k h0 hk hpi
   intro k h0 hk _ hkj
   rw [hg, hg, hjp]
   rw [if_neg (by omega), if_neg (by omega), if_neg (by omega), if_pos rfl]
   have a := h1 k h0 hk (by omega)
   rw [hkj] at a
   exact a
  rw [if_neg hl]
  refine ⟨fun k h0 hk => ?_, List.Perm.refl _, fun _ _ => rfl⟩
  by_cases hpi : (k - 1) / 2 = i
  ·have hl' : lt l[j]! l[i]! = false := by simpa using hl
   rw [hpi]
   exact O.trans _ _ _ hl' (hjm k h0 hk hpi)
  exact h1 k h0 hk hpi
def pushL (lt : α -> α -> Bool) (l : List α) (x : α) : List α := upL lt l.length (l ++ [x]) l.length
theorem get_app {l : List α} {x : α} {k : Nat} (h : k < l.length) : (l ++ [x])[k]! = l[k]! := by
 rw [getElem!_pos _ k (by simp; omega), getElem!_pos l k h, List.getElem_append_left h]
theorem pushL_spec (O : Ord lt) {l : List α} (h : Hp lt l l.length) (x : α) : Hp lt (pushL lt l x) (pushL lt l x).length /\ (pushL lt l x).Perm (x :: l) := by
 have := upL_spec O l.length (l ++ [x]) l.length (Nat.le_refl _) (by simp) (fun k h0 hk hne => ?_) (fun k h0 hk h1 hp => ?_)
 ·unfold pushL
  refine ⟨?_, this.2.trans (List.perm_append_singleton x l)⟩
  rw [this.2.length_eq]
  exact this.1
 ·simp only [List.length_append, List.length_singleton] at hk
  rw [get_app (by omega), get_app (by omega)]
  exact h k h0 (by omega)
 simp only [List.length_append, List.length_singleton] at hk
 omega
def popL (lt : α -> α -> Bool) (l : List α) : List α := (downL lt l.length (swapL l 0 (l.length - 1)) 0 (l.length - 1)).take (l.length - 1)
theorem heap_min (O : Ord lt) {l : List α} {n : Nat} (h : Hp lt l n) : ∀ k, k < n -> lt l[k]! l[0]! = false
 | 0, hk => by
  cases hx : lt l[0]! l[0]! with
  | false => rfl
  | true => have := O.asymm _ _ hx; rw [hx] at this; cases this
 | k + 1, hk => O.trans _ _ _ (heap_min O h ((k + 1 - 1) / 2) (by omega)) (h (k + 1) (by omega) hk)
theorem popL_spec (O : Ord lt) {l : List α} (h : Hp lt l l.length) (h0 : 0 < l.length) :
  Hp lt (popL lt l) (popL lt l).length /\ (l[0]! :: popL lt l).Perm l /\ (downL lt l.length (swapL l 0 (l.length - 1)) 0 (l.length - 1))[l.length - 1]! = l[0]! /\ (popL lt l).length = l.length - 1 /\ ∀ x ∈ popL lt l, lt x l[0]! = false := by
 by_cases h1 : l.length = 1
 ·match l, h1 with
  | [a], _ =>
   have e : downL lt 1 (swapL [a] 0 0) 0 0 = [a] := by simp [downL, swapL]
   refine ⟨?_, ?_, ?_, ?_, ?_⟩
   ·intro k hk hk2; simp [popL] at hk2
   ·simp [popL]
   ·simp [downL, swapL]
   ·simp [popL]
   simp [popL]
 have hl : l.length - 1 < l.length := by omega
 have hg := swapL_get h0 hl
 have key := downL_spec O l.length (swapL l 0 (l.length - 1)) 0 (l.length - 1) (by omega) (by omega) (by rw [swapL_len]; omega) ?_ ?_
 ·obtain ⟨k1, k2, k3⟩ := key
  have hlast : (downL lt l.length (swapL l 0 (l.length - 1)) 0 (l.length - 1))[l.length - 1]! = l[0]! := by
   rw [k3 _ (Nat.le_refl _), hg, if_pos rfl]
  unfold popL
  generalize downL lt l.length (swapL l 0 (l.length - 1)) 0 (l.length - 1) = d at k1 k2 k3 hlast
  have hd : d.length = l.length := by rw [k2.length_eq, swapL_len]
  have hp2 : d.Perm l := k2.trans (swapL_perm h0 hl)
  have hsplit : d = d.take (l.length - 1) ++ [l[0]!] := by
   have : d = d.take (l.length - 1) ++ d.drop (l.length - 1) := (List.take_append_drop _ _).symm
   rw [getElem!_pos d _ (by omega)] at hlast
   rw [List.drop_eq_getElem_cons (by omega), hlast, List.drop_of_length_le (by omega)] at this
   exact this
  have hperm : (l[0]! :: d.take (l.length - 1)).Perm l := by
   refine List.Perm.trans ?_ hp2
   conv => rhs; rw [hsplit]
   exact (List.perm_append_singleton _ _).symm
  refine ⟨?_, hperm, hlast, by simp; omega, fun x hx => ?_⟩
  ·intro k hk hk2
   simp only [List.length_take] at hk2
   have a1 : (d.take (l.length - 1))[k]! = d[k]! := by
    rw [getElem!_pos _ k (by simp; omega), getElem!_pos d k (by omega), List.getElem_take]
   have a2 : (d.take (l.length - 1))[(k - 1) / 2]! = d[(k - 1) / 2]! := by
    rw [getElem!_pos _ _ (by simp; omega), getElem!_pos d _ (by omega), List.getElem_take]
   rw [a1, a2]
   exact k1 k hk (by omega)
  have hx2 : x ∈ l := hperm.mem_iff.1 (List.mem_cons_of_mem _ hx)
  obtain ⟨k, hk, rfl⟩ := List.mem_iff_getElem.1 hx2
  have := heap_min O h k hk
  rwa [getElem!_pos l k hk] at this
 ·intro k hk0 hk hp
  rw [hg, hg, if_neg (by omega), if_neg (by omega), if_neg (by omega), if_neg hp]
  exact h k hk0 (by omega)
 intro k hk0 hk hi0 hp
 omega
end Go.HP

namespace Go.GP
section
variable {V : Type} [DecidableEq V]
def Free (E : List (V × V)) (left : List V) (v : V) : Prop := ∀ e ∈ E, e.2 = v -> e.1 ∉ left
inductive Topo (lt : V -> V -> Bool) (E : List (V × V)) : List V -> List V -> Prop
 | nil {left : List V} (h : ∀ v ∈ left, ¬ Free E left v) : Topo lt E left []
 | cons {left : List V} {v : V} {L : List V} (h1 : v ∈ left) (h2 : Free E left v) (h3 : ∀ u ∈ left, Free E left u -> lt u v = false) (h4 : Topo lt E (left.erase v) L) : Topo lt E left (v :: L)
variable {lt : V -> V -> Bool}
theorem Free.congr {E E' : List (V × V)} {left left' : List V} {v : V} (hE : ∀ e, e ∈ E ↔ e ∈ E') (hl : ∀ u, u ∈ left ↔ u ∈ left') (h : Free E left v) : Free E' left' v :=
 fun e he hv hm => h e ((hE e).2 he) hv ((hl _).2 hm)
theorem Topo.unique (tot : ∀ a b, lt a b = false -> lt b a = false -> a = b) {E : List (V × V)} {left L : List V} (h : Topo lt E left L) : ∀ {E' : List (V × V)} {left' L' : List V}, (∀ e, e ∈ E ↔ e ∈ E') -> left.Perm left' -> Topo lt E' left' L' -> L = L' := by
 induction h with
 | nil h =>
  intro E' left' L' hE hp h'
  cases h' with
  | nil _ => rfl
  | cons h1 h2 h3 h4 => exact absurd (h2.congr (fun e => (hE e).symm) (fun u => hp.symm.mem_iff)) (h _ (hp.mem_iff.2 h1))
 | cons h1 h2 h3 h4 ih =>
  intro E' left' L' hE hp h'
  cases h' with
  | nil h => exact absurd (h2.congr hE (fun u => hp.mem_iff)) (h _ (hp.mem_iff.1 h1))
  | cons g1 g2 g3 g4 =>
   have e := tot _ _ (g3 _ (hp.mem_iff.1 h1) (h2.congr hE (fun u => hp.mem_iff))) (h3 _ (hp.mem_iff.2 g1) (g2.congr (fun e => (hE e).symm) (fun u => hp.symm.mem_iff)))
   subst e
   rw [ih hE (hp.erase _) g4]
theorem Topo.perm {E : List (V × V)} {left L : List V} (h : Topo lt E left L) (r : V -> Nat) (hr : ∀ e ∈ E, e.1 ∈ left -> e.2 ∈ left -> r e.1 < r e.2) : L.Perm left := by
 induction h with
 | @nil left h =>
  cases left with
  | nil => exact List.Perm.refl _
  | cons x l =>
   exfalso
   have key : ∀ n (v : V), r v <= n -> v ∈ x :: l -> False := by
    intro n
    induction n with
    | zero =>
     intro v hv hm
     exact h v hm fun e he hev hmem => by have := hr e he hmem (by rw [hev]; exact hm); rw [hev] at this; omega
    | succ n ih =>
     intro v hv hm
     refine h v hm fun e he hev hmem => ?_
     have := hr e he hmem (by rw [hev]; exact hm)
     rw [hev] at this
     exact ih e.1 (by omega) hmem
   exact key _ x (Nat.le_refl _) (by simp)
 | cons h1 h2 h3 h4 ih =>
  refine List.Perm.trans (List.Perm.cons _ (ih fun e he ha hb => hr e he (List.mem_of_mem_erase ha) (List.mem_of_mem_erase hb))) ?_
  exact (List.perm_cons_erase h1).symm
theorem Topo.sub {E : List (V × V)} {left L : List V} (h : Topo lt E left L) : ∀ v ∈ L, v ∈ left := by
 induction h with
 | nil h => intro v hv; cases hv
 | cons h1 h2 h3 h4 ih =>
  intro u hu
  rcases List.mem_cons.1 hu with rfl | hu
  ·exact h1
  exact List.mem_of_mem_erase (ih u hu)
theorem Topo.order {E : List (V × V)} {left L : List V} (h : Topo lt E left L) (hn : left.Nodup) : L.Pairwise (fun x y => (y, x) ∉ E) /\ L.Nodup := by
 induction h with
 | nil h => exact ⟨List.Pairwise.nil, List.nodup_nil⟩
 | @cons left v L h1 h2 h3 h4 ih =>
  obtain ⟨i1, i2⟩ := ih (hn.erase v)
  refine ⟨List.pairwise_cons.2 ⟨fun y hy he => h2 _ he rfl (List.mem_of_mem_erase (h4.sub y hy)), i1⟩, List.nodup_cons.2 ⟨fun hm => ?_, i2⟩⟩
  have := h4.sub v hm
  rw [hn.mem_erase_iff] at this
  exact this.1 rfl
inductive Rch (E : List (V × V)) : V -> V -> Prop
 | one {a b : V} (h : (a, b) ∈ E) : Rch E a b
 | cons {a c b : V} (h : (a, c) ∈ E) (t : Rch E c b) : Rch E a b
theorem Rch.mono {E E' : List (V × V)} {a b : V} (h : Rch E a b) (hE : ∀ e ∈ E, e ∈ E') : Rch E' a b := by
 induction h with
 | one h => exact .one (hE _ h)
 | cons h t ih => exact .cons (hE _ h) ih
theorem Rch.trans {E : List (V × V)} {a b c : V} (h : Rch E a b) (k : Rch E b c) : Rch E a c := by
 induction h with
 | one h => exact .cons h k
 | cons h t ih => exact .cons h (ih k)
theorem Rch.snoc {E : List (V × V)} {a b c : V} (h : Rch E a b) (k : (b, c) ∈ E) : Rch E a c := h.trans (.one k)
theorem Rch.rank {E : List (V × V)} {a b : V} (h : Rch E a b) (r : V -> Nat) (hr : ∀ e ∈ E, r e.1 < r e.2) : r a < r b := by
 induction h with
 | one h => exact hr _ h
 | cons h t ih => exact Nat.lt_trans (hr _ h) ih
theorem Rch.src {E : List (V × V)} {a b : V} (h : Rch E a b) : ∃ c, (a, c) ∈ E := by
 cases h with
 | one h => exact ⟨_, h⟩
 | cons h t => exact ⟨_, h⟩
theorem Rch.tgt {E : List (V × V)} {a b : V} (h : Rch E a b) : ∃ c, (c, b) ∈ E := by
 induction h with
 | one h => exact ⟨_, h⟩
 | cons h t ih => exact ih
theorem Rch.last {E : List (V × V)} {a b : V} (h : Rch E a b) : (a, b) ∈ E ∨ ∃ c, Rch E a c /\ (c, b) ∈ E := by
 induction h with
 | one h => exact .inl h
 | cons h t ih =>
  rcases ih with h2 | ⟨c, h2, h3⟩
  ·exact .inr ⟨_, .one h, h2⟩
  exact .inr ⟨c, .cons h h2, h3⟩
end
end Go.GP

namespace Go.GP
abbrev HashB := { l : List UInt8 // l.length = 32 }
abbrev Vtx := HashB × Int
def h0 : HashB := ⟨List.replicate 32 0, by simp⟩
instance : Inhabited HashB := ⟨h0⟩
def rootV : Vtx := (h0, -1)
def endV : Vtx := (h0, -2)
theorem root_ne_end : rootV ≠ endV := by decide
structure PartP where
 patch : HashB
 at_ : Int
 first : Int
 up : Vtx
 down : Vtx
 lines : List ByteArray
 gone : List Vtx
def PartP.vtx (p : PartP) (i : Nat) : Vtx := (p.patch, p.first + (i : Int))
def PartP.name (p : PartP) : HashB × Int := (p.patch, p.at_)
def own (p : PartP) : List Vtx := (List.range p.lines.length).map p.vtx
def edgeL {V : Type} : List V -> List (V × V)
 | a :: b :: r => (a, b) :: edgeL (b :: r)
 | _ => []
def way (p : PartP) : List Vtx := p.up :: (own p ++ [p.down])
def edges (p : PartP) : List (Vtx × Vtx) := if p.lines.length = 0 then [] else edgeL (way p)
def names (p : PartP) : List Vtx := p.up :: p.down :: p.gone
def allV (ps : List PartP) : List Vtx := ps.flatMap own
def allE (ps : List PartP) : List (Vtx × Vtx) := ps.flatMap edges
def HasV (ps : List PartP) (v : Vtx) : Prop := v = rootV ∨ v = endV ∨ v ∈ allV ps
def Bef (ps : List PartP) (a b : Vtx) : Prop := HasV ps a /\ HasV ps b /\ a ≠ b /\ a ≠ endV /\ b ≠ rootV /\ (a = rootV ∨ b = endV ∨ Rch (allE ps) a b)
theorem mem_own {p : PartP} {v : Vtx} : v ∈ own p ↔ ∃ i, i < p.lines.length /\ p.vtx i = v := by
 unfold own; simp [List.mem_map]
theorem vtx_inj {p : PartP} {i j : Nat} (h : p.vtx i = p.vtx j) : i = j := by
 have := congrArg Prod.snd h
 simp only [PartP.vtx] at this
 omega
theorem own_nodup (p : PartP) : (own p).Nodup := by
 unfold own List.Nodup
 rw [List.pairwise_map]
 exact List.Pairwise.imp (fun h e => h (vtx_inj e)) List.nodup_range
theorem own_len (p : PartP) : (own p).length = p.lines.length := by simp [own]
theorem edgeL_mem {V : Type} {l : List V} {e : V × V} : e ∈ edgeL l ↔ ∃ i, l[i]? = some e.1 /\ l[i + 1]? = some e.2 := by
 induction l with
 | nil => simp [edgeL]
 | cons a l ih =>
  cases l with
  | nil => simp [edgeL]
  | cons b r =>
   simp only [edgeL, List.mem_cons, ih]
   constructor
   ·rintro (rfl | ⟨i, h1, h2⟩)
    ·exact ⟨0, rfl, rfl⟩
    exact ⟨i + 1, by simpa using h1, by simpa using h2⟩
   rintro ⟨i, h1, h2⟩
   cases i with
   | zero =>
    simp at h1 h2
    left
    exact Prod.ext h1.symm h2.symm
   | succ i => exact .inr ⟨i, by simpa using h1, by simpa using h2⟩
theorem way_get (p : PartP) (i : Nat) : (way p)[i]? = if i = 0 then some p.up else if i <= p.lines.length then some (p.vtx (i - 1)) else if i = p.lines.length + 1 then some p.down else none := by
 unfold way
 cases i with
 | zero => simp
 | succ i =>
  rw [List.getElem?_cons_succ, if_neg (by omega), List.getElem?_append, own_len]
  by_cases h : i < p.lines.length
  ·rw [if_pos h, if_pos (by omega)]
   simp [own, h]
  rw [if_neg h, if_neg (by omega)]
  by_cases h2 : i = p.lines.length
  ·subst h2; simp
  rw [if_neg (by omega), List.getElem?_eq_none (by simp; omega)]
theorem mem_edges {p : PartP} {e : Vtx × Vtx} : e ∈ edges p ↔ ∃ i, i <= p.lines.length /\ 0 < p.lines.length /\ e.1 = (if i = 0 then p.up else p.vtx (i - 1)) /\ e.2 = (if i < p.lines.length then p.vtx i else p.down) := by
 unfold edges
 by_cases h : p.lines.length = 0
 ·rw [if_pos h]
  constructor
  ·intro h; cases h
  rintro ⟨i, h1, h2, _⟩; omega
 rw [if_neg h, edgeL_mem]
 constructor
 ·rintro ⟨i, h1, h2⟩
  rw [way_get] at h1 h2
  have hi : i <= p.lines.length := by
   by_cases h3 : i <= p.lines.length
   ·exact h3
   rw [if_neg (by omega), if_neg (by omega), if_neg (by omega)] at h2
   cases h2
  refine ⟨i, hi, by omega, ?_, ?_⟩
  ·split at h1
   ·rename_i h0; rw [if_pos h0]; exact (Option.some.inj h1).symm
   rename_i h0; rw [if_neg h0]; exact (Option.some.inj h1).symm
  rw [if_neg (by omega)] at h2
  by_cases h3 : i < p.lines.length
  ·rw [if_pos h3]; rw [if_pos (by omega)] at h2; exact (Option.some.inj h2).symm
  rw [if_neg h3]; rw [if_neg (by omega), if_pos (by omega)] at h2; exact (Option.some.inj h2).symm
 rintro ⟨i, h1, h2, h3, h4⟩
 refine ⟨i, ?_, ?_⟩
 ·rw [way_get, h3]
  split <;> rfl
 rw [way_get, h4, if_neg (by omega)]
 by_cases h5 : i < p.lines.length
 ·rw [if_pos (by omega), if_pos h5]; rfl
 rw [if_neg (by omega), if_pos (by omega), if_neg h5]
theorem edge_src {p : PartP} {e : Vtx × Vtx} (h : e ∈ edges p) : e.1 = p.up ∨ e.1 ∈ own p := by
 obtain ⟨i, h1, h2, h3, h4⟩ := mem_edges.1 h
 by_cases h0 : i = 0
 ·rw [if_pos h0] at h3; exact .inl h3
 rw [if_neg h0] at h3; exact .inr (mem_own.2 ⟨i - 1, by omega, h3.symm⟩)
theorem edge_tgt {p : PartP} {e : Vtx × Vtx} (h : e ∈ edges p) : e.2 = p.down ∨ e.2 ∈ own p := by
 obtain ⟨i, h1, h2, h3, h4⟩ := mem_edges.1 h
 by_cases h0 : i < p.lines.length
 ·rw [if_pos h0] at h4; exact .inr (mem_own.2 ⟨i, h0, h4.symm⟩)
 rw [if_neg h0] at h4; exact .inl h4
theorem edge_own {p : PartP} {e : Vtx × Vtx} (h : e ∈ edges p) : e.1 ∈ own p ∨ e.2 ∈ own p := by
 obtain ⟨i, h1, h2, h3, h4⟩ := mem_edges.1 h
 by_cases h0 : i < p.lines.length
 ·rw [if_pos h0] at h4; exact .inr (mem_own.2 ⟨i, h0, h4.symm⟩)
 by_cases h5 : i = 0
 ·omega
 rw [if_neg h5] at h3; exact .inl (mem_own.2 ⟨i - 1, by omega, h3.symm⟩)
theorem mem_allV {ps : List PartP} {v : Vtx} : v ∈ allV ps ↔ ∃ p ∈ ps, v ∈ own p := List.mem_flatMap
theorem mem_allE {ps : List PartP} {e : Vtx × Vtx} : e ∈ allE ps ↔ ∃ p ∈ ps, e ∈ edges p := List.mem_flatMap
structure New (ps : List PartP) (p : PartP) : Prop where
 name : ∀ q ∈ ps, q.name ≠ p.name
 own : ∀ v ∈ own p, v ∉ allV ps
 first : 0 <= p.first
 upE : p.up ≠ endV
 downR : p.down ≠ rootV
 gone0 : p.gone.Nodup
 goneR : ∀ v ∈ p.gone, v ≠ rootV /\ v ≠ endV
 up : HasV ps p.up
 down : HasV ps p.down
 gone : ∀ v ∈ p.gone, v ∈ allV ps
 bef : Bef ps p.up p.down
inductive Sq : List PartP -> Prop
 | nil : Sq []
 | cons {p : PartP} {ps : List PartP} (h : New ps p) (t : Sq ps) : Sq (p :: ps)
theorem own_ge {p : PartP} (h : 0 <= p.first) {v : Vtx} (hv : v ∈ own p) : 0 <= v.2 := by
 obtain ⟨i, _, rfl⟩ := mem_own.1 hv
 simp only [PartP.vtx]
 omega
theorem Sq.ge {ps : List PartP} (h : Sq ps) {v : Vtx} (hv : v ∈ allV ps) : 0 <= v.2 := by
 induction h with
 | nil => simp [allV] at hv
 | cons h t ih =>
  obtain ⟨q, hq, hv2⟩ := mem_allV.1 hv
  rcases List.mem_cons.1 hq with rfl | hq
  ·exact own_ge h.first hv2
  exact ih (mem_allV.2 ⟨q, hq, hv2⟩)
theorem ge_ne {v : Vtx} (h : 0 <= v.2) : v ≠ rootV /\ v ≠ endV := by
 constructor
 ·rintro rfl; revert h; decide
 rintro rfl; revert h; decide
theorem Sq.line {ps : List PartP} (h : Sq ps) {v : Vtx} (hv : v ∈ allV ps) : v ≠ rootV /\ v ≠ endV := ge_ne (h.ge hv)
theorem Sq.edge {ps : List PartP} (h : Sq ps) {e : Vtx × Vtx} (he : e ∈ allE ps) : (e.1 = rootV ∨ e.1 ∈ allV ps) /\ (e.2 = endV ∨ e.2 ∈ allV ps) := by
 induction h with
 | nil => simp [allE] at he
 | @cons p ps h t ih =>
  obtain ⟨q, hq, he2⟩ := mem_allE.1 he
  have up : ∀ v, v ∈ allV ps -> v ∈ allV (p :: ps) := fun v hv => by
   obtain ⟨r, hr, hv⟩ := mem_allV.1 hv
   exact mem_allV.2 ⟨r, List.mem_cons_of_mem _ hr, hv⟩
  rcases List.mem_cons.1 hq with rfl | hq
  ·constructor
   ·rcases edge_src he2 with h1 | h1
    ·rcases h.up with h2 | h2 | h2
     ·exact .inl (h1.trans h2)
     ·exact absurd h2 h.upE
     exact .inr (by rw [h1]; exact up _ h2)
    exact .inr (mem_allV.2 ⟨q, hq, h1⟩)
   rcases edge_tgt he2 with h1 | h1
   ·rcases h.down with h2 | h2 | h2
    ·exact absurd h2 h.downR
    ·exact .inl (h1.trans h2)
    exact .inr (by rw [h1]; exact up _ h2)
   exact .inr (mem_allV.2 ⟨q, hq, h1⟩)
  obtain ⟨i1, i2⟩ := ih (mem_allE.2 ⟨q, hq, he2⟩)
  exact ⟨i1.imp_right (up _), i2.imp_right (up _)⟩
theorem Sq.noEnd {ps : List PartP} (h : Sq ps) {b : Vtx} : ¬ Rch (allE ps) endV b := by
 intro hr
 obtain ⟨c, hc⟩ := hr.src
 rcases (h.edge hc).1 with h1 | h1
 ·exact root_ne_end h1.symm
 exact (h.line h1).2 rfl
theorem Sq.noRoot {ps : List PartP} (h : Sq ps) {a : Vtx} : ¬ Rch (allE ps) a rootV := by
 intro hr
 obtain ⟨c, hc⟩ := hr.tgt
 rcases (h.edge hc).2 with h1 | h1
 ·exact root_ne_end h1
 exact (h.line h1).1 rfl
theorem Sq.rank {ps : List PartP} (h : Sq ps) : ∃ r : Vtx -> Nat, (∀ e ∈ allE ps, r e.1 < r e.2) /\ (∀ v ∈ allV ps, r rootV < r v /\ r v < r endV) /\ r rootV < r endV := by
 induction h with
 | nil => exact ⟨fun v => if v = endV then 1 else 0, by simp [allE], by simp [allV], by decide⟩
 | @cons p ps h t ih =>
  obtain ⟨r, h1, h2, h3⟩ := ih
  have hb : r p.up < r p.down := by
   obtain ⟨b1, b2, b3, b4, b5, b6⟩ := h.bef
   rcases b6 with b6 | b6 | b6
   ·rw [b6]
    rcases b2 with b2 | b2 | b2
    ·exact absurd b2 b5
    ·rw [b2]; exact h3
    exact (h2 _ b2).1
   ·rw [b6]
    rcases b1 with b1 | b1 | b1
    ·rw [b1]; exact h3
    ·exact absurd b1 b4
    exact (h2 _ b1).2
   exact b6.rank r h1
  let K := p.lines.length + 1
  let r' : Vtx -> Nat := fun v => if v ∈ own p then K * r p.up + ((v.2 - p.first).toNat + 1) else K * r v
  have hown : ∀ i, i < p.lines.length -> r' (p.vtx i) = K * r p.up + (i + 1) := by
   intro i hi
   have : p.vtx i ∈ own p := mem_own.2 ⟨i, hi, rfl⟩
   show (if p.vtx i ∈ own p then K * r p.up + (((p.vtx i).2 - p.first).toNat + 1) else K * r (p.vtx i)) = _
   rw [if_pos this]
   simp only [PartP.vtx]
   omega
  have hold : ∀ v, v ∉ own p -> r' v = K * r v := fun v hv => by simp only [r', if_neg hv]
  have hvold : ∀ v, HasV ps v -> v ∉ own p := by
   intro v hv hm
   have := ge_ne (own_ge h.first hm)
   rcases hv with hv | hv | hv
   ·exact this.1 hv
   ·exact this.2 hv
   exact h.own v hm hv
  have hK : ∀ a b, a < b -> K * a + p.lines.length < K * b := by
   intro a b hab
   have : K * (a + 1) <= K * b := Nat.mul_le_mul_left _ hab
   rw [Nat.mul_add, Nat.mul_one] at this
   omega
  have hK0 : ∀ a b, a < b -> K * a < K * b := fun a b hab => by have := hK a b hab; omega
  have hr0 : rootV ∉ own p := hvold _ (.inl rfl)
  have he0 : endV ∉ own p := hvold _ (.inr (.inl rfl))
  refine ⟨r', ?_, ?_, ?_⟩
  ·intro e he
   obtain ⟨q, hq, he2⟩ := mem_allE.1 he
   rcases List.mem_cons.1 hq with rfl | hq
   ·obtain ⟨i, i1, i2, i3, i4⟩ := mem_edges.1 he2
    have s1 : r' e.1 = K * r q.up + i := by
     rw [i3]
     split
     ·rename_i h0; rw [hold _ (hvold _ h.up), h0]; rfl
     rename_i h0; rw [hown _ (by omega)]; omega
    have s2 : K * r q.up + i < r' e.2 := by
     rw [i4]
     split
     ·rename_i h0; rw [hown _ h0]; omega
     rw [hold _ (hvold _ h.down)]
     have := hK _ _ hb
     omega
    omega
   have he' : e ∈ allE ps := mem_allE.2 ⟨q, hq, he2⟩
   obtain ⟨e1, e2⟩ := t.edge he'
   rw [hold _ (hvold _ (e1.imp_right .inr)), hold _ (hvold _ (.inr e2))]
   exact hK0 _ _ (h1 e he')
  ·intro v hv
   rw [hold _ hr0, hold _ he0]
   obtain ⟨q, hq, hv2⟩ := mem_allV.1 hv
   rcases List.mem_cons.1 hq with rfl | hq
   ·obtain ⟨i, hi, rfl⟩ := mem_own.1 hv2
    rw [hown i hi]
    have hup : r rootV <= r q.up := by
     rcases h.up with h4 | h4 | h4
     ·rw [h4]; exact Nat.le_refl _
     ·exact absurd h4 h.upE
     exact Nat.le_of_lt (h2 _ h4).1
    have hdn : r q.down <= r endV := by
     rcases h.down with h4 | h4 | h4
     ·exact absurd h4 h.downR
     ·rw [h4]; exact Nat.le_refl _
     exact Nat.le_of_lt (h2 _ h4).2
    have a1 : K * r rootV <= K * r q.up := Nat.mul_le_mul_left _ hup
    have a2 := hK _ _ (Nat.lt_of_lt_of_le hb hdn)
    omega
   have hv' : v ∈ allV ps := mem_allV.2 ⟨q, hq, hv2⟩
   rw [hold _ (hvold _ (.inr (.inr hv')))]
   exact ⟨hK0 _ _ (h2 v hv').1, hK0 _ _ (h2 v hv').2⟩
  rw [hold _ hr0, hold _ he0]
  exact hK0 _ _ h3
theorem Sq.irrefl {ps : List PartP} (h : Sq ps) {v : Vtx} : ¬ Rch (allE ps) v v := by
 intro hr
 obtain ⟨r, h1, _⟩ := h.rank
 have := hr.rank r h1
 omega
theorem HasV.mono {ps qs : List PartP} {v : Vtx} (h : HasV ps v) (hs : ∀ p ∈ ps, p ∈ qs) : HasV qs v := by
 rcases h with h | h | h
 ·exact .inl h
 ·exact .inr (.inl h)
 obtain ⟨p, hp, hv⟩ := mem_allV.1 h
 exact .inr (.inr (mem_allV.2 ⟨p, hs p hp, hv⟩))
theorem allE_mono {ps qs : List PartP} (hs : ∀ p ∈ ps, p ∈ qs) : ∀ e ∈ allE ps, e ∈ allE qs := fun e he => by
 obtain ⟨p, hp, he⟩ := mem_allE.1 he
 exact mem_allE.2 ⟨p, hs p hp, he⟩
theorem Bef.mono {ps qs : List PartP} {a b : Vtx} (h : Bef ps a b) (hs : ∀ p ∈ ps, p ∈ qs) : Bef qs a b :=
 ⟨h.1.mono hs, h.2.1.mono hs, h.2.2.1, h.2.2.2.1, h.2.2.2.2.1, h.2.2.2.2.2.imp_right fun h => h.imp_right fun h => h.mono (allE_mono hs)⟩
theorem rch_back {p : PartP} {ps : List PartP} (hown : ∀ v ∈ own p, ∀ e ∈ allE ps, e.1 ≠ v /\ e.2 ≠ v) (hnu : p.up ∉ own p) (hnd : p.down ∉ own p) (hb : p.up = rootV ∨ p.down = endV ∨ Rch (allE ps) p.up p.down)
  (hnr : ∀ e ∈ allE (p :: ps), e.2 ≠ rootV) (hne : ∀ e ∈ allE (p :: ps), e.1 ≠ endV) {u y : Vtx} (h : Rch (allE (p :: ps)) u y) (hy : y ∉ own p) (hye : y ≠ endV) :
  (u ∉ own p -> u ≠ rootV -> Rch (allE ps) u y) /\ (u ∈ own p -> p.down = y ∨ Rch (allE ps) p.down y) := by
 have split : ∀ e, e ∈ allE (p :: ps) -> e ∈ edges p ∨ e ∈ allE ps := fun e he => by
  obtain ⟨q, hq, he2⟩ := mem_allE.1 he
  rcases List.mem_cons.1 hq with rfl | hq
  ·exact .inl he2
  exact .inr (mem_allE.2 ⟨q, hq, he2⟩)
 have nodown : ∀ {c : Vtx}, (p.down = c ∨ Rch (allE ps) p.down c) -> c ≠ endV -> p.down ≠ endV := by
  intro c h hc e
  rcases h with h | h
  ·exact hc (h ▸ e)
  rw [e] at h
  obtain ⟨d, hd⟩ := h.src
  exact hne _ (allE_mono (fun q hq => List.mem_cons_of_mem _ hq) _ hd) rfl
 induction h with
 | @one u y h =>
  rcases split _ h with h1 | h1
  ·constructor
   ·intro hu _
    rcases edge_own h1 with h2 | h2
    ·exact absurd h2 hu
    exact absurd h2 hy
   intro hu
   rcases edge_tgt h1 with h2 | h2
   ·exact .inl h2.symm
   exact absurd h2 hy
  exact ⟨fun _ _ => .one h1, fun hu => absurd rfl (hown _ hu _ h1).1⟩
 | @cons u c y h t ih =>
  obtain ⟨i1, i2⟩ := ih hy hye
  have hcr : c ≠ rootV := hnr _ h
  rcases split _ h with h1 | h1
  ·constructor
   ·intro hu hur
    have hc : c ∈ own p := (edge_own h1).resolve_left hu
    have hup : u = p.up := (edge_src h1).resolve_right hu
    have h3 := i2 hc
    have hde := nodown h3 hye
    have hrch : Rch (allE ps) p.up p.down := by
     rcases hb with hb | hb | hb
     ·exact absurd (hup.trans hb) hur
     ·exact absurd hb hde
     exact hb
    rw [hup]
    rcases h3 with h3 | h3
    ·rw [<- h3]; exact hrch
    exact hrch.trans h3
   intro hu
   rcases edge_tgt h1 with h2 | h2
   ·by_cases hc : c ∈ own p
    ·exact i2 hc
    right
    have h2' : c = p.down := h2
    rw [<- h2']
    exact i1 hc hcr
   exact i2 h2
  constructor
  ·intro hu hur
   have hc : c ∉ own p := fun hc => (hown _ hc _ h1).2 rfl
   exact .cons h1 (i1 hc hcr)
  intro hu; exact absurd rfl (hown _ hu _ h1).1
theorem New.fresh {ps : List PartP} {p : PartP} (h : New ps p) (t : Sq ps) : (∀ v ∈ GP.own p, ∀ e ∈ allE ps, e.1 ≠ v /\ e.2 ≠ v) /\ (∀ v, HasV ps v -> v ∉ GP.own p) := by
 have hvold : ∀ v, HasV ps v -> v ∉ GP.own p := by
  intro v hv hm
  have := ge_ne (own_ge h.first hm)
  rcases hv with hv | hv | hv
  ·exact this.1 hv
  ·exact this.2 hv
  exact h.own v hm hv
 refine ⟨fun v hv e he => ⟨?_, ?_⟩, hvold⟩
 ·rintro rfl; exact hvold _ ((t.edge he).1.imp_right .inr) hv
 rintro rfl; exact hvold _ (.inr (t.edge he).2) hv
theorem New.names_has {ps : List PartP} {p : PartP} (h : New ps p) {v : Vtx} (hv : v ∈ names p) : HasV ps v := by
 unfold names at hv
 rcases List.mem_cons.1 hv with rfl | hv
 ·exact h.up
 rcases List.mem_cons.1 hv with rfl | hv
 ·exact h.down
 exact .inr (.inr (h.gone v hv))
theorem Sq.names_has {ps : List PartP} (h : Sq ps) {q : PartP} (hq : q ∈ ps) {v : Vtx} (hv : v ∈ names q) : HasV ps v := by
 induction h with
 | nil => cases hq
 | @cons p ps h t ih =>
  rcases List.mem_cons.1 hq with rfl | hq
  ·exact (h.names_has hv).mono fun r hr => List.mem_cons_of_mem _ hr
  exact (ih hq).mono fun r hr => List.mem_cons_of_mem _ hr
theorem Sq.gone_has {ps : List PartP} (h : Sq ps) {q : PartP} (hq : q ∈ ps) {v : Vtx} (hv : v ∈ q.gone) : HasV ps v := h.names_has hq (List.mem_cons_of_mem _ (List.mem_cons_of_mem _ hv))
theorem Bef.trans {ps : List PartP} (hs : Sq ps) {a b c : Vtx} (h : Bef ps a b) (k : Bef ps b c) : Bef ps a c := by
 obtain ⟨a1, a2, a3, a4, a5, a6⟩ := h
 obtain ⟨b1, b2, b3, b4, b5, b6⟩ := k
 have hbr : b ≠ rootV := a5
 have hbe : b ≠ endV := b4
 have h6 := b6.resolve_left hbr
 by_cases har : a = rootV
 ·exact ⟨a1, b2, by rw [har]; exact fun e => b5 e.symm, a4, b5, .inl har⟩
 by_cases hce : c = endV
 ·exact ⟨a1, b2, by rw [hce]; exact a4, a4, b5, .inr (.inl hce)⟩
 have r1 := (a6.resolve_left har).resolve_left hbe
 have r2 := h6.resolve_left hce
 have r3 := r1.trans r2
 exact ⟨a1, b2, fun e => hs.irrefl (e ▸ r3), a4, b5, .inr (.inr r3)⟩
theorem Bef.asymm {ps : List PartP} (hs : Sq ps) {a b : Vtx} (h : Bef ps a b) (k : Bef ps b a) : False := (h.trans hs k).2.2.1 rfl
end Go.GP

namespace Go.GP
open Go.SL
structure NodeP where
 text : ByteArray
 gone : Int
 named : Int
 next : List Vtx
def zN : NodeP := ⟨⟨#[]⟩, 0, 0, []⟩
instance : Inhabited NodeP := ⟨zN⟩
structure Gr where
 parts : List ((HashB × Int) × PartP)
 nodes : List (Vtx × NodeP)
 first : List Vtx
def nd (N : List (Vtx × NodeP)) (v : Vtx) : NodeP := (mgt N v).getD zN
def behindG (G : Gr) (v : Vtx) : List Vtx := if v = rootV then G.first else (nd G.nodes v).next
def linkG (there : Bool) (G : Gr) (e : Vtx × Vtx) : Gr :=
 if e.1 = rootV then { G with first := if there then behindG G e.1 ++ [e.2] else (behindG G e.1).erase e.2 }
 else { G with nodes := mpt G.nodes e.1 { nd G.nodes e.1 with next := if there then behindG G e.1 ++ [e.2] else (behindG G e.1).erase e.2 } }
def linksG (there : Bool) (G : Gr) (es : List (Vtx × Vtx)) : Gr := es.foldl (linkG there) G
def name1 (d : Int) (N : List (Vtx × NodeP)) (v : Vtx) : List (Vtx × NodeP) := match mgt N v with | some n => mpt N v { n with named := n.named + d } | none => N
def gone1 (d : Int) (N : List (Vtx × NodeP)) (v : Vtx) : List (Vtx × NodeP) := mpt N v { nd N v with gone := (nd N v).gone + d }
def countG (d : Int) (N : List (Vtx × NodeP)) (p : PartP) : List (Vtx × NodeP) := p.gone.foldl (gone1 d) ((names p).foldl (name1 d) N)
def laidN (N : List (Vtx × NodeP)) (p : PartP) (k : Nat) : List (Vtx × NodeP) := (List.range k).foldl (fun N i => mpt N (p.vtx i) ⟨p.lines[i]!, 0, 0, []⟩) N
def addG (G : Gr) (p : PartP) : Gr :=
 let G1 := linksG true { parts := mpt G.parts p.name p, nodes := laidN G.nodes p p.lines.length, first := G.first } (edges p)
 { G1 with nodes := countG 1 G1.nodes p }
def delN (N : List (Vtx × NodeP)) (vs : List Vtx) : List (Vtx × NodeP) := vs.foldl mdl N
def remG (G : Gr) (p : PartP) : Gr :=
 let G1 := linksG false G (edges p)
 { parts := mdl G1.parts p.name, nodes := delN (countG (-1) G1.nodes p) (own p), first := G1.first }
def HasG (G : Gr) (v : Vtx) : Prop := v = rootV ∨ v = endV ∨ v ∈ mks G.nodes
def EG (N : List (Vtx × NodeP)) : List (Vtx × Vtx) := N.flatMap fun p => p.2.next.map fun w => (p.1, w)
def BefG (G : Gr) (a b : Vtx) : Prop := HasG G a /\ HasG G b /\ a ≠ b /\ a ≠ endV /\ b ≠ rootV /\ (a = rootV ∨ b = endV ∨ Rch (EG G.nodes) a b)
def ThereG (G : Gr) (p : PartP) : Prop := p.name ∈ mks G.parts ∨ ∃ v ∈ own p, v ∈ mks G.nodes
structure Formed (p : PartP) : Prop where
 gone0 : p.gone.Nodup
 goneR : ∀ v ∈ p.gone, v ≠ rootV /\ v ≠ endV
 first : 0 <= p.first
 upE : p.up ≠ endV
 downR : p.down ≠ rootV
def outE (ps : List PartP) (v : Vtx) : List Vtx := ((allE ps).filter fun e => decide (e.1 = v)).map (·.2)
def cntV (v : Vtx) (l : List Vtx) : Int := (l.count v : Nat)
structure NodeOk (ps : List PartP) (v : Vtx) (n : NodeP) : Prop where
 gone : n.gone = cntV v (ps.flatMap (·.gone))
 named : n.named = cntV v (ps.flatMap names)
 next : n.next.Perm (outE ps v)
structure Inv (ps : List PartP) (G : Gr) : Prop where
 pk : (mks G.parts).Nodup
 part : ∀ q, (q.name, q) ∈ G.parts ↔ q ∈ ps
 pname : ∀ q ∈ G.parts, q.1 = q.2.name
 nk : (mks G.nodes).Nodup
 keys : ∀ v, v ∈ mks G.nodes ↔ v ∈ allV ps
 node : ∀ v n, mgt G.nodes v = some n -> NodeOk ps v n
 text : ∀ p ∈ ps, ∀ i s, p.lines[i]? = some s -> (nd G.nodes (p.vtx i)).text = s
 first : G.first.Perm (outE ps rootV)
theorem Inv.nil : Inv [] ⟨[], [], []⟩ := ⟨by simp [mks], by simp, by simp, by simp [mks], by simp [mks, allV], by simp [mgt_nil], by simp, by simp [outE, allE]⟩
theorem mks_mpt_mem {α β : Type} [DecidableEq α] (l : List (α × β)) (a c : α) (b : β) : c ∈ mks (mpt l a b) ↔ c = a ∨ c ∈ mks l := by
 rw [mks_mpt]
 split
 ·rename_i h
  constructor
  ·exact .inr
  rintro (rfl | h2)
  ·exact h
  exact h2
 simp; exact or_comm
theorem mem_mks {α β : Type} [DecidableEq α] {l : List (α × β)} {a : α} : a ∈ mks l ↔ ∃ b, mgt l a = some b := by
 constructor
 ·intro h
  cases e : mgt l a with
  | none => exact absurd h (mgt_none.1 e)
  | some b => exact ⟨b, rfl⟩
 rintro ⟨b, h⟩
 exact List.mem_map.2 ⟨_, mgt_some_mem h, rfl⟩
theorem nd_some {N : List (Vtx × NodeP)} {v : Vtx} (h : v ∈ mks N) : mgt N v = some (nd N v) := by
 obtain ⟨b, hb⟩ := mem_mks.1 h
 unfold nd
 rw [hb]; rfl
theorem nd_mpt (N : List (Vtx × NodeP)) (a c : Vtx) (n : NodeP) : nd (mpt N a n) c = if c = a then n else nd N c := by
 unfold nd
 rw [mgt_mpt]
 split <;> rfl
theorem laidN_spec {N : List (Vtx × NodeP)} {p : PartP} : ∀ k, k <= p.lines.length -> (∀ v, v ∈ mks (laidN N p k) ↔ v ∈ mks N ∨ ∃ i, i < k /\ p.vtx i = v) /\ ((mks N).Nodup -> (mks (laidN N p k)).Nodup) /\
  (∀ v, (∀ i, i < k -> p.vtx i ≠ v) -> nd (laidN N p k) v = nd N v) /\ ∀ i, i < k -> nd (laidN N p k) (p.vtx i) = ⟨p.lines[i]!, 0, 0, []⟩
 | 0, _ => by simp [laidN]
 | k + 1, h => by
  obtain ⟨h1, h2, h3, h4⟩ := laidN_spec (N := N) (p := p) k (by omega)
  have e : laidN N p (k + 1) = mpt (laidN N p k) (p.vtx k) ⟨p.lines[k]!, 0, 0, []⟩ := by
   unfold laidN
   rw [List.range_succ, List.foldl_append]
   rfl
  rw [e]
  refine ⟨fun v => ?_, fun hn => mpt_nodup (h2 hn) _ _, fun v hv => ?_, fun i hi => ?_⟩
  ·rw [mks_mpt_mem, h1]
   constructor
   ·rintro (rfl | h | ⟨i, hi, rfl⟩)
    ·exact .inr ⟨k, by omega, rfl⟩
    ·exact .inl h
    exact .inr ⟨i, by omega, rfl⟩
   rintro (h | ⟨i, hi, rfl⟩)
   ·exact .inr (.inl h)
   by_cases hk : i = k
   ·subst hk; exact .inl rfl
   exact .inr (.inr ⟨i, by omega, rfl⟩)
  ·rw [nd_mpt, if_neg (fun e => hv k (by omega) e.symm)]
   exact h3 v fun i hi => hv i (by omega)
  rw [nd_mpt]
  by_cases hk : i = k
  ·subst hk; rw [if_pos rfl]
  rw [if_neg (fun e => hk (vtx_inj e))]
  exact h4 i (by omega)
theorem name1_spec (d : Int) (N : List (Vtx × NodeP)) (v : Vtx) : mks (name1 d N v) = mks N /\ ∀ c, nd (name1 d N v) c = if c = v /\ c ∈ mks N then { nd N c with named := (nd N c).named + d } else nd N c := by
 unfold name1
 cases e : mgt N v with
 | none =>
  refine ⟨rfl, fun c => ?_⟩
  have := mgt_none.1 e
  by_cases hc : c = v /\ c ∈ mks N
  ·exact absurd (hc.1 ▸ hc.2) this
  rw [if_neg hc]
 | some n =>
  have hm : v ∈ mks N := mem_mks.2 ⟨n, e⟩
  have hn : nd N v = n := by unfold nd; rw [e]; rfl
  refine ⟨by simp only; rw [mks_mpt, if_pos hm], fun c => ?_⟩
  simp only
  rw [nd_mpt]
  by_cases hc : c = v
  ·subst hc
   rw [if_pos rfl, if_pos ⟨rfl, hm⟩, hn]
  rw [if_neg hc, if_neg (fun h => hc h.1)]
theorem cntV_cons (v a : Vtx) (l : List Vtx) : cntV v (a :: l) = cntV v l + if a = v then 1 else 0 := by
 unfold cntV
 rw [List.count_cons]
 by_cases h : a = v
 ·simp [h]
 simp [h]
theorem cntV_app (v : Vtx) (a b : List Vtx) : cntV v (a ++ b) = cntV v a + cntV v b := by
 unfold cntV
 rw [List.count_append]
 omega
theorem names_spec (d : Int) : ∀ (l : List Vtx) (N : List (Vtx × NodeP)), mks (l.foldl (name1 d) N) = mks N /\ ∀ c ∈ mks N, nd (l.foldl (name1 d) N) c = { nd N c with named := (nd N c).named + d * cntV c l }
 | [], N => by simp [cntV]
 | a :: l, N => by
  obtain ⟨h1, h2⟩ := name1_spec d N a
  obtain ⟨i1, i2⟩ := names_spec d l (name1 d N a)
  simp only [List.foldl_cons]
  refine ⟨i1.trans h1, fun c hc => ?_⟩
  rw [i2 c (by rw [h1]; exact hc), h2, cntV_cons]
  by_cases hca : c = a
  ·subst hca
   rw [if_pos ⟨rfl, hc⟩, if_pos rfl]
   simp only [NodeP.mk.injEq, true_and, and_true]
   rw [Int.mul_add]; omega
  rw [if_neg (fun h => hca h.1), if_neg (fun h => hca h.symm)]
  simp
theorem gone1_spec (d : Int) (N : List (Vtx × NodeP)) (v : Vtx) : (∀ c, c ∈ mks (gone1 d N v) ↔ c = v ∨ c ∈ mks N) /\ ((mks N).Nodup -> (mks (gone1 d N v)).Nodup) /\ ∀ c, nd (gone1 d N v) c = if c = v then { nd N c with gone := (nd N c).gone + d } else nd N c := by
 unfold gone1
 refine ⟨fun c => mks_mpt_mem _ _ _ _, fun h => mpt_nodup h _ _, fun c => ?_⟩
 rw [nd_mpt]
 split
 ·rename_i h; subst h; rfl
 rfl
theorem gones_spec (d : Int) : ∀ (l : List Vtx) (N : List (Vtx × NodeP)), (∀ v ∈ l, v ∈ mks N) -> (∀ c, c ∈ mks (l.foldl (gone1 d) N) ↔ c ∈ mks N) /\ ((mks N).Nodup -> (mks (l.foldl (gone1 d) N)).Nodup) /\
  ∀ c, nd (l.foldl (gone1 d) N) c = { nd N c with gone := (nd N c).gone + d * cntV c l }
 | [], N, _ => by simp [cntV]
 | a :: l, N, h => by
  obtain ⟨h1, h2, h3⟩ := gone1_spec d N a
  have ha := h a (by simp)
  obtain ⟨i1, i2, i3⟩ := gones_spec d l (gone1 d N a) (fun v hv => (h1 v).2 (.inr (h v (by simp [hv]))))
  simp only [List.foldl_cons]
  refine ⟨fun c => ?_, fun hn => i2 (h2 hn), fun c => ?_⟩
  ·rw [i1, h1]
   constructor
   ·rintro (rfl | h)
    ·exact ha
    exact h
   exact .inr
  rw [i3, h3, cntV_cons]
  by_cases hca : c = a
  ·subst hca
   rw [if_pos rfl, if_pos rfl]
   simp only [NodeP.mk.injEq, true_and, and_true]
   rw [Int.mul_add]; omega
  rw [if_neg hca, if_neg (fun h => hca h.symm)]
  simp
theorem countG_spec {d : Int} {N : List (Vtx × NodeP)} {p : PartP} (hg : ∀ v ∈ p.gone, v ∈ mks N) : (∀ c, c ∈ mks (countG d N p) ↔ c ∈ mks N) /\ ((mks N).Nodup -> (mks (countG d N p)).Nodup) /\
  ∀ c ∈ mks N, nd (countG d N p) c = ⟨(nd N c).text, (nd N c).gone + d * cntV c p.gone, (nd N c).named + d * cntV c (names p), (nd N c).next⟩ := by
 obtain ⟨h1, h2⟩ := names_spec d (names p) N
 obtain ⟨i1, i2, i3⟩ := gones_spec d p.gone ((names p).foldl (name1 d) N) (fun v hv => by rw [h1]; exact hg v hv)
 unfold countG
 refine ⟨fun c => by rw [i1, h1], fun hn => i2 (by rw [h1]; exact hn), fun c hc => ?_⟩
 rw [i3, h2 c hc]
def outL (es : List (Vtx × Vtx)) (v : Vtx) : List Vtx := (es.filter fun e => decide (e.1 = v)).map (·.2)
theorem outL_cons (e : Vtx × Vtx) (es : List (Vtx × Vtx)) (v : Vtx) : outL (e :: es) v = (if e.1 = v then [e.2] else []) ++ outL es v := by
 unfold outL
 rw [List.filter_cons]
 by_cases h : e.1 = v <;> simp [h]
def undo (there : Bool) (l es : List Vtx) : List Vtx := es.foldl (fun l w => if there then l ++ [w] else l.erase w) l
theorem linkG_spec (there : Bool) (G : Gr) (e : Vtx × Vtx) (he : e.1 = rootV ∨ e.1 ∈ mks G.nodes) (hr : rootV ∉ mks G.nodes) : (linkG there G e).parts = G.parts /\ mks (linkG there G e).nodes = mks G.nodes /\
  (∀ c ∈ mks G.nodes, nd (linkG there G e).nodes c = { nd G.nodes c with next := undo there (nd G.nodes c).next (outL [e] c) }) /\ (linkG there G e).first = undo there G.first (outL [e] rootV) := by
 unfold linkG
 by_cases h : e.1 = rootV
 ·rw [if_pos h]
  refine ⟨rfl, rfl, fun c hc => ?_, ?_⟩
  ·have : e.1 ≠ c := fun e2 => hr (by rw [<- h, e2]; exact hc)
   rw [outL_cons, if_neg this]
   simp [outL, undo]
  rw [outL_cons, if_pos h]
  simp [outL, undo, behindG, h]
 have hm := he.resolve_left h
 rw [if_neg h]
 refine ⟨rfl, ?_, fun c hc => ?_, ?_⟩
 ·rw [mks_mpt, if_pos hm]
 ·rw [nd_mpt, outL_cons]
  by_cases hc2 : c = e.1
  ·subst hc2
   rw [if_pos rfl, if_pos rfl]
   simp [outL, undo, behindG, h]
  rw [if_neg hc2, if_neg (fun e => hc2 e.symm)]
  simp [outL, undo]
 rw [outL_cons, if_neg h]
 simp [outL, undo]
theorem undo_app (there : Bool) (l a b : List Vtx) : undo there l (a ++ b) = undo there (undo there l a) b := by unfold undo; rw [List.foldl_append]
theorem linksG_spec (there : Bool) : ∀ (es : List (Vtx × Vtx)) (G : Gr), (∀ e ∈ es, e.1 = rootV ∨ e.1 ∈ mks G.nodes) -> rootV ∉ mks G.nodes -> (linksG there G es).parts = G.parts /\ mks (linksG there G es).nodes = mks G.nodes /\
  (∀ c ∈ mks G.nodes, nd (linksG there G es).nodes c = { nd G.nodes c with next := undo there (nd G.nodes c).next (outL es c) }) /\ (linksG there G es).first = undo there G.first (outL es rootV)
 | [], G, _, _ => by simp [linksG, outL, undo]
 | e :: es, G, h, hr => by
  obtain ⟨h1, h2, h3, h4⟩ := linkG_spec there G e (h e (by simp)) hr
  obtain ⟨i1, i2, i3, i4⟩ := linksG_spec there es (linkG there G e) (fun x hx => by rw [h2]; exact h x (by simp [hx])) (by rw [h2]; exact hr)
  have hun : linksG there G (e :: es) = linksG there (linkG there G e) es := rfl
  rw [hun]
  have hout : ∀ v, outL (e :: es) v = outL [e] v ++ outL es v := fun v => by rw [outL_cons, outL_cons]; simp [outL]
  refine ⟨i1.trans h1, i2.trans h2, fun c hc => ?_, ?_⟩
  ·rw [i3 c (by rw [h2]; exact hc), h3 c hc, hout, undo_app]
  rw [i4, h4, hout, undo_app]
theorem undo_true (l a : List Vtx) : undo true l a = l ++ a := by
 induction a generalizing l with
 | nil => simp [undo]
 | cons x a ih =>
  have : undo true l (x :: a) = undo true (l ++ [x]) a := rfl
  rw [this, ih]; simp
theorem undo_false {l r : List Vtx} : ∀ (a : List Vtx) {l : List Vtx}, l.Perm (a ++ r) -> (undo false l a).Perm r
 | [], l, h => by simpa [undo] using h
 | x :: a, l, h => by
  have : undo false l (x :: a) = undo false (l.erase x) a := rfl
  rw [this]
  refine undo_false (l := l) a ?_
  have := h.erase x
  simpa using this
theorem outE_cons (p : PartP) (ps : List PartP) (v : Vtx) : outE (p :: ps) v = outL (edges p) v ++ outE ps v := by
 unfold outE outL allE
 rw [List.flatMap_cons, List.filter_append, List.map_append]
theorem allV_cons (p : PartP) (ps : List PartP) : allV (p :: ps) = own p ++ allV ps := by unfold allV; rw [List.flatMap_cons]
theorem outL_nil {es : List (Vtx × Vtx)} {v : Vtx} (h : ∀ e ∈ es, e.1 ≠ v) : outL es v = [] := by
 unfold outL
 rw [List.filter_eq_nil_iff.2 (fun e he => by simpa using h e he)]
 rfl
theorem cntV_zero {v : Vtx} {l : List Vtx} (h : v ∉ l) : cntV v l = 0 := by
 unfold cntV
 rw [List.count_eq_zero.2 h]; rfl
theorem Inv.root {ps : List PartP} {G : Gr} (h : Inv ps G) (hs : Sq ps) : rootV ∉ mks G.nodes := fun hm => (hs.line ((h.keys _).1 hm)).1 rfl
theorem Inv.add {ps : List PartP} {G : Gr} {p : PartP} (h : Inv ps G) (hs : Sq ps) (hn : New ps p) : Inv (p :: ps) (addG G p) := by
 have hs' : Sq (p :: ps) := .cons hn hs
 obtain ⟨l1, l2, l3, l4⟩ := laidN_spec (N := G.nodes) (p := p) p.lines.length (Nat.le_refl _)
 have hkeys1 : ∀ v, v ∈ mks (laidN G.nodes p p.lines.length) ↔ v ∈ allV (p :: ps) := fun v => by
  rw [l1, allV_cons, List.mem_append, h.keys, mem_own]; exact or_comm
 generalize hN : laidN G.nodes p p.lines.length = N1 at *
 have hroot1 : rootV ∉ mks N1 := fun hm => (hs'.line ((hkeys1 _).1 hm)).1 rfl
 have hsrc : ∀ e ∈ edges p, e.1 = rootV ∨ e.1 ∈ mks N1 := fun e he => by
  rcases (hs'.edge (mem_allE.2 ⟨p, by simp, he⟩)).1 with h1 | h1
  ·exact .inl h1
  exact .inr ((hkeys1 _).2 h1)
 obtain ⟨k1, k2, k3, k4⟩ := linksG_spec true (edges p) { parts := mpt G.parts p.name p, nodes := N1, first := G.first } hsrc hroot1
 have hgo : ∀ v ∈ p.gone, v ∈ mks (linksG true { parts := mpt G.parts p.name p, nodes := N1, first := G.first } (edges p)).nodes := fun v hv => by
  rw [k2]; exact (hkeys1 v).2 (by rw [allV_cons]; exact List.mem_append_right _ (hn.gone v hv))
 obtain ⟨c1, c2, c3⟩ := countG_spec (d := 1) hgo
 have hA : addG G p = { parts := (linksG true { parts := mpt G.parts p.name p, nodes := N1, first := G.first } (edges p)).parts, nodes := countG 1 (linksG true { parts := mpt G.parts p.name p, nodes := N1, first := G.first } (edges p)).nodes p, first := (linksG true { parts := mpt G.parts p.name p, nodes := N1, first := G.first } (edges p)).first } := by
  unfold addG
  rw [hN]
 rw [hA]
 have hnew : p.name ∉ mks G.parts := fun hm => by
  obtain ⟨q, hq⟩ := mem_mks.1 hm
  have hq' := mgt_some_mem hq
  have hnm := h.pname _ hq'
  simp only at hnm
  exact hn.name q ((h.part q).1 (by rw [<- hnm]; exact hq')) hnm.symm
 obtain ⟨f1, f2⟩ := hn.fresh hs
 refine ⟨?_, ?_, ?_, ?_, ?_, ?_, ?_, ?_⟩
 ·simp only; rw [k1]; exact mpt_nodup h.pk _ _
 ·intro q
  simp only; rw [k1]
  simp only
  rw [mpt_new (a := p.name) (fun b hb => hnew (List.mem_map.2 ⟨_, hb, rfl⟩)), List.mem_append, h.part, List.mem_singleton, List.mem_cons]
  constructor
  ·rintro (h1 | h1)
   ·exact .inr h1
   exact .inl (Prod.mk.inj h1).2
  rintro (rfl | h1)
  ·exact .inr rfl
  exact .inl h1
 ·intro q
  simp only; rw [k1]
  simp only
  rw [mpt_new (a := p.name) (fun b hb => hnew (List.mem_map.2 ⟨_, hb, rfl⟩)), List.mem_append, List.mem_singleton]
  rintro (h1 | rfl)
  ·exact h.pname q h1
  rfl
 ·simp only; exact c2 (by rw [k2]; exact l2 h.nk)
 ·intro v; simp only; rw [c1, k2, hkeys1]
 ·intro v n hv
  simp only at hv
  have hm0 := mem_mks.2 ⟨n, hv⟩
  have hm1 : v ∈ mks N1 := by rw [c1, k2] at hm0; exact hm0
  have hm2 : v ∈ mks (linksG true { parts := mpt G.parts p.name p, nodes := N1, first := G.first } (edges p)).nodes := by rw [k2]; exact hm1
  have hnd := nd_some hm0
  rw [hv] at hnd
  obtain rfl := Option.some.inj hnd
  rw [c3 v hm2, k3 v hm1, undo_true]
  simp only
  by_cases hown : v ∈ own p
  ·obtain ⟨i, hi, rfl⟩ := mem_own.1 hown
   rw [l4 i hi]
   simp only
   have hnv : p.vtx i ∉ allV ps := hn.own _ hown
   refine ⟨?_, ?_, ?_⟩
   ·rw [List.flatMap_cons, cntV_app]
    rw [cntV_zero (v := p.vtx i) (l := p.gone) (fun hm => hnv (hn.gone _ hm)), cntV_zero (v := p.vtx i) (l := ps.flatMap (·.gone)) (fun hm => ?_)]
    ·simp
    obtain ⟨q, hq, hm⟩ := List.mem_flatMap.1 hm
    exact (f2 _ (Sq.gone_has hs hq hm)) hown
   ·rw [List.flatMap_cons, cntV_app]
    have a1 : cntV (p.vtx i) (names p) = 0 := cntV_zero fun hm => f2 _ (New.names_has hn hm) hown
    have a2 : cntV (p.vtx i) (ps.flatMap names) = 0 := cntV_zero fun hm => by
     obtain ⟨q, hq, hm⟩ := List.mem_flatMap.1 hm
     exact f2 _ (Sq.names_has hs hq hm) hown
    simp only [a1, a2]
    simp
   rw [outE_cons]
   have : outE ps (p.vtx i) = [] := outL_nil fun e he => (f1 _ hown e he).1
   rw [this, List.append_nil, List.nil_append]
  have hold : v ∈ mks G.nodes := by
   rw [l1] at hm1
   rcases hm1 with h1 | ⟨i, hi, rfl⟩
   ·exact h1
   exact absurd (mem_own.2 ⟨i, hi, rfl⟩) hown
  rw [l3 v (fun i hi e => hown (mem_own.2 ⟨i, hi, e⟩))]
  obtain ⟨o1, o2, o3⟩ := h.node v _ (nd_some hold)
  refine ⟨?_, ?_, ?_⟩
  ·rw [List.flatMap_cons, cntV_app, o1]; simp only; omega
  ·rw [List.flatMap_cons, cntV_app, o2]; simp only; omega
  rw [outE_cons]
  exact (List.Perm.append_right _ o3).trans List.perm_append_comm
 ·intro q hq i s hi
  simp only
  have hil : i < q.lines.length := (List.getElem?_eq_some_iff.1 hi).1
  have hm1 : q.vtx i ∈ mks N1 := (hkeys1 _).2 (mem_allV.2 ⟨q, hq, mem_own.2 ⟨i, hil, rfl⟩⟩)
  rw [c3 _ (by rw [k2]; exact hm1), k3 _ hm1]
  simp only
  rcases List.mem_cons.1 hq with rfl | hq
  ·rw [l4 i hil]
   simp only
   rw [getElem!_pos q.lines i hil]
   have := (List.getElem?_eq_some_iff.1 hi).2
   exact this
  have : q.vtx i ∈ allV ps := mem_allV.2 ⟨q, hq, mem_own.2 ⟨i, hil, rfl⟩⟩
  rw [l3 _ (fun j hj e => hn.own _ (mem_own.2 ⟨j, hj, e⟩) this)]
  exact h.text q hq i s hi
 simp only
 rw [k4, undo_true, outE_cons]
 exact (List.Perm.append_right _ h.first).trans List.perm_append_comm
end Go.GP

namespace Go.Proofs.Gr
open Go.SL Go.RowKit Go.Proofs Go.GP
set_option maxHeartbeats 1000000
def vtxL (v : Vtx) : List Value := bytesC v.1.1 ++ [.int .i64 v.2]
def vtxV (v : Vtx) : Value := .agg (vtxL v).toArray
def vtxs (l : List Vtx) : List Value := l.flatMap vtxL
def okV (v : Vtx) : Prop := -9223372036854775808 <= v.2 /\ v.2 <= 9223372036854775807
def v0 : Vtx := (h0, 0)
def z33 : List Value := List.replicate 32 (.int .u8 0) ++ [.int .i64 0]
theorem hb_len (h : HashB) : (bytesC h.1).length = 32 := by rw [bytesC_length]; exact h.2
theorem vtxL_len (v : Vtx) : (vtxL v).length = 33 := by simp [vtxL, hb_len]
theorem vtxs_len (l : List Vtx) : (vtxs l).length = l.length * 33 := by unfold vtxs; rw [List.length_flatMap]; simp [vtxL_len, List.map_const']
theorem vtxs_app (a b : List Vtx) : vtxs (a ++ b) = vtxs a ++ vtxs b := by unfold vtxs; rw [List.flatMap_append]
theorem vtxs_cons (a : Vtx) (b : List Vtx) : vtxs (a :: b) = vtxL a ++ vtxs b := rfl
theorem vtxs_one1 (a : Vtx) : vtxs [a] = vtxL a := by simp [vtxs]
theorem vtxL_one (v : Vtx) : (vtxL v).all (·.oneCell') = true := by rw [vtxL, List.all_append, bytesC_all]; rfl
theorem vtxs_one (l : List Vtx) : (vtxs l).all (·.oneCell') = true := by
 rw [List.all_eq_true]
 intro v hv
 obtain ⟨a, _, h⟩ := List.mem_flatMap.1 hv
 exact List.all_eq_true.1 (vtxL_one a) v h
theorem flat_get {α : Type} [Inhabited α] {enc : α -> List Value} {k : Nat} (hk : ∀ x, (enc x).length = k) : ∀ (l : List α) (t : Nat), t < l.length * k -> (l.flatMap enc)[t]? = (enc l[t / k]!)[t % k]?
 | [], t, h => by simp at h
 | x :: l, t, h => by
  have h' : t < l.length * k + k := by simpa [Nat.add_mul] using h
  have k0 : 0 < k := by exact Nat.pos_of_ne_zero fun e => by subst e; simp at h
  rw [List.flatMap_cons]
  rcases Nat.lt_or_ge t k with a | a
  ·rw [List.getElem?_append_left (by rw [hk]; exact a), Nat.div_eq_of_lt a, Nat.mod_eq_of_lt a]; simp
  obtain ⟨u, rfl⟩ : ∃ u, t = u + k := ⟨t - k, by omega⟩
  rw [List.getElem?_append_right (by rw [hk]; omega), hk, Nat.add_sub_cancel, flat_get hk l u (by omega), Nat.add_div_right _ k0, Nat.add_mod_right]
  simp
theorem vtxs_get {l : List Vtx} {k : Nat} (hk : k < l.length) {j : Nat} (hj : j < 33) : (vtxs l)[k * 33 + j]? = (vtxL l[k])[j]? := by
 unfold vtxs
 rw [flat_get vtxL_len l (k * 33 + j) (by omega), show (k * 33 + j) / 33 = k from by omega, show (k * 33 + j) % 33 = j from by omega, getElem!_pos l k hk]
theorem vtxs_some {w0 : World} {S : SS} {A : Option Addr} {l : List Vtx} (h : Rd w0 S A (vtxs l)) (hk : 0 < l.length) : ∃ a, A = some a :=
 h.some (fun e => by have := vtxs_len l; rw [e] at this; simp at this; omega)
theorem vtx_at {w0 : World} {S : SS} {a : Addr} {l : List Vtx} (h : Rd w0 S (some a) (vtxs l)) {k : Nat} (hk : k < l.length) :
  ∀ (j : Nat) (v : Value), (vtxL l[k])[j]? = some v -> Cell w0 S ((a.add (k * 33)).add j) v := by
 intro j v hj
 have hj2 : j < 33 := by have := (List.getElem?_eq_some_iff.1 hj).1; rwa [vtxL_len] at this
 rw [addr_add_add]
 exact h.at (by rw [vtxs_get hk hj2]; exact hj)
theorem bytesC_inj : ∀ {a b : List UInt8}, bytesC a = bytesC b -> a = b
 | [], [], _ => rfl
 | [], _ :: _, h => by simp [bytesC] at h
 | _ :: _, [], h => by simp [bytesC] at h
 | a :: l, b :: r, h => by
  simp only [bytesC, List.map_cons, List.cons.injEq, Value.int.injEq, true_and] at h
  obtain ⟨h1, h2⟩ := h
  have h3 : a = b := UInt8.toNat_inj.1 (by omega)
  rw [h3, bytesC_inj h2]
theorem vtxL_inj {a b : Vtx} (h : vtxL a = vtxL b) : a = b := by
 unfold vtxL at h
 obtain ⟨h1, h2⟩ := List.append_inj h (by rw [hb_len, hb_len])
 simp only [List.cons.injEq, Value.int.injEq, true_and, and_true] at h2
 exact Prod.ext (Subtype.ext (bytesC_inj h1)) h2
theorem vtx_inj' {a b : Vtx} (h : vtxV a = vtxV b) : a = b := by
 unfold vtxV at h
 exact vtxL_inj (by simpa using h)
def KV : List CK := [.int .u8, .int .u8, .int .u8, .int .u8, .int .u8, .int .u8, .int .u8, .int .u8, .int .u8, .int .u8, .int .u8, .int .u8, .int .u8, .int .u8, .int .u8, .int .u8, .int .u8, .int .u8, .int .u8, .int .u8, .int .u8, .int .u8, .int .u8, .int .u8, .int .u8, .int .u8, .int .u8, .int .u8, .int .u8, .int .u8, .int .u8, .int .u8, .int .i64]
theorem eqL_bytes : ∀ {x y : List UInt8}, x.length = y.length -> eqL (List.replicate x.length (.int .u8)) (bytesC x) (bytesC y) = some (decide (x = y))
 | [], [], _ => rfl
 | a :: l, b :: r, h => by
  have ih := eqL_bytes (x := l) (y := r) (by simpa using h)
  unfold bytesC at ih ⊢
  simp only [List.length_cons, List.replicate_succ, List.map_cons, eqL, eqCell, and_self, if_true, ih, Option.some.injEq]
  by_cases h1 : a = b
  ·subst h1; simp
  have : ¬ (a.toNat : Int) = (b.toNat : Int) := fun e => h1 (UInt8.toNat_inj.1 (by omega))
  simp [h1, this]
theorem eqL_app : ∀ {s t : List CK} {a b a' b' : List Value} {p q : Bool}, eqL s a a' = some p -> eqL t b b' = some q -> eqL (s ++ t) (a ++ b) (a' ++ b') = some (p && q)
 | [], t, a, b, a', b', p, q, h, k => by
  obtain ⟨l1, l2⟩ := eqL_len h
  have e1 : a = [] := List.eq_nil_of_length_eq_zero l1
  have e2 : a' = [] := List.eq_nil_of_length_eq_zero l2
  subst e1; subst e2
  have : p = true := by simpa [eqL] using h.symm
  subst this
  simpa using k
 | c :: s, t, a, b, a', b', p, q, h, k => by
  obtain ⟨x, xs, y, ys, p1, q1, rfl, rfl, h1, h2, rfl⟩ := eqL_cons h
  have := eqL_app h2 k
  simp only [List.cons_append, eqL, h1, this]
  rw [Bool.and_assoc]
theorem eqL_vtx (a b : Vtx) : eqL KV (vtxL a) (vtxL b) = some (decide (a = b)) := by
 have h1 := eqL_bytes (x := a.1.1) (y := b.1.1) (a.1.2.trans b.1.2.symm)
 rw [a.1.2] at h1
 have := eqL_app h1 (show eqL [.int .i64] [.int .i64 a.2] [.int .i64 b.2] = some (decide (a.2 = b.2)) by simp only [eqL, eqCell, and_self, if_true]; rw [Bool.and_true]; congr 1)
 refine (Eq.trans (by rfl) this).trans ?_
 congr 1
 rw [<- Bool.decide_and]
 congr 1
 apply propext
 constructor
 ·rintro ⟨h1, h2⟩; exact Prod.ext (Subtype.ext h1) h2
 rintro rfl; exact ⟨rfl, rfl⟩
theorem sub_at {w0 : World} {S : SS} {r E tot off : Nat} {c A B C : List Value} (hm : (r, AO.cells c E tot) ∈ S.flatten) (hc : c = A ++ B ++ C) (hA : A.length = off) : ∀ (j : Nat) (v : Value), B[j]? = some v -> Cell w0 S ((⟨r, off, none⟩ : Addr).add j) v := by
 intro j v hj
 have hl : j < B.length := (List.getElem?_eq_some_iff.1 hj).1
 have := own_at (w0 := w0) (j := off + j) hm (show c[off + j]? = some v by
  rw [hc, List.append_assoc, List.getElem?_append_right (by omega), List.getElem?_append_left (by omega), show off + j - A.length = j from by omega, hj])
 rw [Addr.add_lit]
 exact this
theorem all_at {w0 : World} {S : SS} {r E tot : Nat} {c : List Value} (hm : (r, AO.cells c E tot) ∈ S.flatten) : ∀ (j : Nat) (v : Value), c[j]? = some v -> Cell w0 S ((⟨r, 0, none⟩ : Addr).add j) v := fun j v hj => (Rd.own hm).at hj
theorem vtx_read {w0 : World} {S : SS} {r E tot : Nat} {v : Vtx} (hm : (r, AO.cells (vtxL v) E tot) ∈ S.flatten) : ReadsAs w0 S (some 33) ⟨r, 0, none⟩ (vtxV v) := ⟨vtxL v, rfl, vtxL_len v, all_at hm⟩
theorem setAll {c d : List Value} (h : c.length = d.length) : setAt c 0 d = d := by
 rw [setAt_eq _ _ _ (by omega), Nat.zero_add, h.symm, List.drop_length]; simp
theorem vset (h : HashB) (z : Int) : setAt (bytesC h.1 ++ [.int .i64 0]) 32 [.int .i64 z] = vtxL (h, z) := by
 have hh := hb_len h
 rw [setAt_eq _ _ _ (by simp [hh])]
 rw [List.take_append_of_le_length (by omega), List.take_of_length_le (by omega), List.drop_eq_nil_of_le (by simp [hh]), List.append_nil]
 rfl
theorem z33_hash (h : HashB) : setAt z33 0 (bytesC h.1) = bytesC h.1 ++ [.int .i64 0] := by
 have hh := hb_len h
 rw [setAt_eq _ _ _ (by rw [hh]; decide), hh]
 rfl
theorem fill_vtx {T : TT} {h : HashB} {z : Int} {a b : Nat} (h1 : Go.SL.look T a = some (.agg (bytesC h.1).toArray)) (h2 : Go.SL.look T b = some (.int .i64 z)) : fillP T z33 [(0, 32, .t a), (32, 1, .t b)] = some (vtxL (h, z)) := by
 have hh := hb_len h
 have e1 : (Value.agg (bytesC h.1).toArray).cells.size = 32 := by simp [Value.cells, hh]
 have e2 : (Value.agg (bytesC h.1).toArray).cells.toList = bytesC h.1 := rfl
 simp only [fillP, PV.val, h1, h2]
 rw [if_pos ⟨e1, by decide⟩, e2, z33_hash, if_pos ⟨rfl, by simp [hh]⟩]
 exact congrArg some (vset h z)
theorem vtxL_take (v : Vtx) : (vtxL v).take 32 = bytesC v.1.1 := by
 unfold vtxL
 rw [List.take_append_of_le_length (by rw [hb_len]; decide), List.take_of_length_le (by rw [hb_len]; decide)]
theorem vtxL_last (v : Vtx) : (vtxL v)[32]? = some (.int .i64 v.2) := by
 unfold vtxL
 rw [List.getElem?_append_right (by rw [hb_len]; decide), hb_len]; rfl
theorem mapM_some {α β : Type} {f : α -> Option β} : ∀ {l : List α}, (∀ a ∈ l, ∃ b, f a = some b) -> ∃ r, l.mapM f = some r
 | [], _ => ⟨[], rfl⟩
 | a :: l, h => by
  obtain ⟨b, hb⟩ := h a (by simp)
  obtain ⟨r, hr⟩ := mapM_some (l := l) fun x hx => h x (by simp [hx])
  exact ⟨b :: r, by simp [hb, hr]⟩
theorem lits_byte {e : TypeId} (he : Try.prog.underlying e = some (.int .u8)) (d : Nat) (b : UInt8) : ∃ l, Try.prog.keyLits (d + 1) e [.int .u8 (b.toNat : Int)] = some l := by
 have hw : (Lit.int .u8 (b.toNat : Int)).wf = true := by
  have := b.toNat_lt
  simp only [Lit.wf, Bool.and_eq_true, decide_eq_true_eq]
  constructor
  ·show (0 : Int) <= _; omega
  show _ <= (255 : Int); omega
 exact ⟨[.int .u8 (b.toNat : Int)], by simp only [Program.keyLits, he, hw]; rfl⟩
theorem lits_int {e : TypeId} (he : Try.prog.underlying e = some (.int .i64)) (d : Nat) (z : Int) (h1 : -9223372036854775808 <= z) (h2 : z <= 9223372036854775807) : ∃ l, Try.prog.keyLits (d + 1) e [.int .i64 z] = some l := by
 have hw : (Lit.int .i64 z).wf = true := by
  simp only [Lit.wf, Bool.and_eq_true, decide_eq_true_eq]
  exact ⟨h1, h2⟩
 exact ⟨[.int .i64 z], by simp only [Program.keyLits, he, hw]; rfl⟩
theorem lits_hash (d : Nat) (h : HashB) : ∃ l, Try.prog.keyLits (d + 1 + 1) 30 (bytesC h.1) = some l := by
 have c30 : Try.prog.cellsOf 30 = 32 := by kernel_rfl
 have c5 : Try.prog.cellsOf 5 = 1 := by kernel_rfl
 have u5 : Try.prog.underlying 5 = some (.int .u8) := Try.underlying5
 have hm : ∀ i ∈ List.range 32, ∃ b, Try.prog.keyLits (d + 1) 5 (((bytesC h.1).drop (i * 1)).take 1) = some b := by
  intro i hi
  have hi' : i < h.1.length := by rw [h.2]; exact List.mem_range.1 hi
  have e : ((bytesC h.1).drop (i * 1)).take 1 = [.int .u8 (h.1[i].toNat : Int)] := by
   unfold bytesC
   rw [Nat.mul_one, List.drop_eq_getElem_cons (by simpa using hi')]
   simp
  rw [e]
  exact lits_byte u5 d _
 obtain ⟨r, hr⟩ := mapM_some hm
 refine ⟨r.flatten, ?_⟩
 unfold Program.keyLits
 simp only [Try.underlying30, c30, c5, hb_len, if_true, hr, Option.map_some]
theorem lits_vtx (d : Nat) (v : Vtx) (hv : okV v) {t : TypeId} {f1 f2 : Field} (hu : Try.prog.underlying t = some (.struct #[f1, f2])) (ht : Try.prog.cellsOf t = 33) (h1 : f1.type = 30) (h2 : f1.offset = 0) (h3 : f2.type = 3) (h4 : f2.offset = 32) (h5 : f1.name ≠ "_") (h6 : f2.name ≠ "_") :
  ∃ l, Try.prog.keyLits (d + 1 + 1 + 1) t (vtxL v) = some l := by
 have c30 : Try.prog.cellsOf 30 = 32 := by kernel_rfl
 have c3 : Try.prog.cellsOf 3 = 1 := by kernel_rfl
 obtain ⟨a, ha⟩ := lits_hash d v.1
 obtain ⟨b, hb⟩ := lits_int (e := 3) Try.underlying3 (d + 1) v.2 hv.1 hv.2
 have e1 : ((vtxL v).drop 0).take 32 = bytesC v.1.1 := vtxL_take v
 have e2 : ((vtxL v).drop 32).take 1 = [.int .i64 v.2] := by
  unfold vtxL
  rw [List.drop_append_of_le_length (by rw [hb_len]; decide), List.drop_eq_nil_of_le (by rw [hb_len]; decide)]; rfl
 refine ⟨[a, b].flatten, ?_⟩
 unfold Program.keyLits
 simp only [hu, ht, vtxL_len]
 rw [if_pos ⟨trivial, by simp [h5, h6]⟩]
 simp [h1, h2, h3, h4, c30, c3, ha, hb, e2, vtxL_take]
theorem vtx_key {t : TypeId} (hk : Try.prog.keyType t = true) {f1 f2 : Field} (hu : Try.prog.underlying t = some (.struct #[f1, f2])) (ht : Try.prog.cellsOf t = 33) (h1 : f1.type = 30) (h2 : f1.offset = 0) (h3 : f2.type = 3) (h4 : f2.offset = 32) (h5 : f1.name ≠ "_") (h6 : f2.name ≠ "_") (v : Vtx) (hv : okV v) :
  ∃ l, keyOf Try.prog t (vtxV v) = some l := by
 have hs : Try.prog.types.size + 1 = 229 + 1 + 1 + 1 := by kernel_rfl
 obtain ⟨l, hl⟩ := lits_vtx 229 v hv hu ht h1 h2 h3 h4 h5 h6
 have hf : (vtxV v).formed Try.prog t = true := by
  unfold vtxV Value.formed
  simp only [hu, List.size_toArray, vtxL_len, ht]
  rfl
 refine ⟨.string (keyBytes l), ?_⟩
 unfold keyOf
 simp only [hu, hk, hf, Bool.and_self, if_true, hs]
 rw [show (vtxV v).cells.toList = vtxL v from rfl, hl]
 rfl
theorem tsize : Try.prog.types.size = 231 := by kernel_rfl
theorem laidOut : laidOutB Try.prog = true := by kernel_rfl
theorem keys32 : Keys Try.prog 32 vtxV okV :=
 ⟨deep_law_gate laidOut (by rw [tsize]; decide) (by rw [tsize]; decide) (by kernel_rfl) (by rw [Try.underlying32]), vtx_key (by kernel_rfl) Try.underlying32 (by kernel_rfl) rfl rfl rfl rfl (by decide) (by decide), fun a b => vtx_inj'⟩
theorem keys97 : Keys Try.prog 97 vtxV okV :=
 ⟨deep_law_gate laidOut (by rw [tsize]; decide) (by rw [tsize]; decide) (by kernel_rfl) (by rw [Try.underlying97]), vtx_key (by kernel_rfl) Try.underlying97 (by kernel_rfl) rfl rfl rfl rfl (by decide) (by decide), fun a b => vtx_inj'⟩
end Go.Proofs.Gr

namespace Go.Proofs.Gr
open Go.SL Go.RowKit Go.Proofs Go.GP
def strs (l : List ByteArray) : List Value := l.map .string
structure NodeM where
 text : ByteArray
 gone : Int
 named : Int
 A : Option Addr
 c : Nat
 next : List Vtx
def zM : NodeM := ⟨⟨#[]⟩, 0, 0, none, 0, []⟩
instance : Inhabited NodeM := ⟨zM⟩
def nodeC (n : NodeM) : List Value := [.string n.text, .int .i64 n.gone, .int .i64 n.named, .slice n.A n.next.length n.c]
def nodeV (n : NodeM) : Value := .agg (nodeC n).toArray
def NodeM.pl (n : NodeM) : NodeP := ⟨n.text, n.gone, n.named, n.next⟩
structure PartM where
 patch : HashB
 at_ : Int
 first : Int
 up : Vtx
 down : Vtx
 LA : Option Addr
 lc : Nat
 lines : List ByteArray
 GA : Option Addr
 gc : Nat
 gone : List Vtx
def PartM.pl (p : PartM) : PartP := ⟨p.patch, p.at_, p.first, p.up, p.down, p.lines, p.gone⟩
def partC (p : PartM) : List Value := bytesC p.patch.1 ++ [.int .i64 p.at_, .int .i64 p.first] ++ vtxL p.up ++ vtxL p.down ++ [.slice p.LA p.lines.length p.lc, .slice p.GA p.gone.length p.gc]
def partV (p : PartM) : Value := .agg (partC p).toArray
def zPart : PartM := ⟨h0, 0, 0, v0, v0, none, 0, [], none, 0, []⟩
instance : Inhabited PartM := ⟨zPart⟩
theorem partC_len (p : PartM) : (partC p).length = 102 := by simp [partC, hb_len, vtxL_len]
theorem partC_one (p : PartM) : (partC p).all (·.oneCell') = true := by
 unfold partC
 simp only [List.all_append, bytesC_all, vtxL_one, Bool.and_true, Bool.true_and]
 rfl
theorem partC_split (p : PartM) : partC p = bytesC p.patch.1 ++ ([.int .i64 p.at_] ++ ([.int .i64 p.first] ++ (vtxL p.up ++ (vtxL p.down ++ ([.slice p.LA p.lines.length p.lc] ++ [.slice p.GA p.gone.length p.gc]))))) := by simp [partC]
theorem partC_at (p : PartM) : (partC p)[32]? = some (.int .i64 p.at_) /\ (partC p)[33]? = some (.int .i64 p.first) /\ (partC p)[100]? = some (.slice p.LA p.lines.length p.lc) /\ (partC p)[101]? = some (.slice p.GA p.gone.length p.gc) := by
 rw [partC_split]
 have h1 := hb_len p.patch
 have h2 := vtxL_len p.up
 have h3 := vtxL_len p.down
 refine ⟨?_, ?_, ?_, ?_⟩
 ·rw [List.getElem?_append_right (by omega), h1]; rfl
 ·rw [List.getElem?_append_right (by omega), h1]; rfl
 ·rw [List.getElem?_append_right (by omega), h1, List.getElem?_append_right (by simp), List.getElem?_append_right (by simp), List.getElem?_append_right (by rw [h2]; simp), h2, List.getElem?_append_right (by rw [h3]; simp), h3]; rfl
 rw [List.getElem?_append_right (by omega), h1, List.getElem?_append_right (by simp), List.getElem?_append_right (by simp), List.getElem?_append_right (by rw [h2]; simp), h2, List.getElem?_append_right (by rw [h3]; simp), h3]; rfl
section
variable {w0 : World} {S : SS} {r E tot : Nat} {p : PartM}
theorem part_patch (hm : (r, AO.cells (partC p) E tot) ∈ S.flatten) : ∀ (j : Nat) (v : Value), (bytesC p.patch.1)[j]? = some v -> Cell w0 S ((⟨r, 0, none⟩ : Addr).add j) v :=
 sub_at (A := []) (B := bytesC p.patch.1) hm (by rw [partC_split]; simp; rfl) rfl
theorem part_up (hm : (r, AO.cells (partC p) E tot) ∈ S.flatten) : ∀ (j : Nat) (v : Value), (vtxL p.up)[j]? = some v -> Cell w0 S ((⟨r, 34, none⟩ : Addr).add j) v :=
 sub_at (A := bytesC p.patch.1 ++ [.int .i64 p.at_, .int .i64 p.first]) (B := vtxL p.up) hm (by rw [partC_split]; simp; rfl) (by simp [hb_len])
theorem part_down (hm : (r, AO.cells (partC p) E tot) ∈ S.flatten) : ∀ (j : Nat) (v : Value), (vtxL p.down)[j]? = some v -> Cell w0 S ((⟨r, 67, none⟩ : Addr).add j) v :=
 sub_at (A := bytesC p.patch.1 ++ [.int .i64 p.at_, .int .i64 p.first] ++ vtxL p.up) (B := vtxL p.down) hm (by rw [partC_split]; simp; rfl) (by simp [hb_len, vtxL_len])
theorem part_at (hm : (r, AO.cells (partC p) E tot) ∈ S.flatten) : Cell w0 S ⟨r, 32, none⟩ (.int .i64 p.at_) := own_at hm (partC_at p).1
theorem part_first (hm : (r, AO.cells (partC p) E tot) ∈ S.flatten) : Cell w0 S ⟨r, 33, none⟩ (.int .i64 p.first) := own_at hm (partC_at p).2.1
theorem part_lines (hm : (r, AO.cells (partC p) E tot) ∈ S.flatten) : Cell w0 S ⟨r, 100, none⟩ (.slice p.LA p.lines.length p.lc) := own_at hm (partC_at p).2.2.1
theorem part_gone (hm : (r, AO.cells (partC p) E tot) ∈ S.flatten) : Cell w0 S ⟨r, 101, none⟩ (.slice p.GA p.gone.length p.gc) := own_at hm (partC_at p).2.2.2
end
structure GrM where
 r : Nat
 pb : Nat
 nb : Nat
 FA : Option Addr
 fc : Nat
 parts : List (Vtx × PartM)
 nodes : List (Vtx × NodeM)
 first : List Vtx
 junk : Seg
 lim : Nat
def plP (l : List (Vtx × PartM)) : List ((HashB × Int) × PartP) := l.map fun q => (q.1, q.2.pl)
def plN (l : List (Vtx × NodeM)) : List (Vtx × NodeP) := l.map fun q => (q.1, q.2.pl)
def GrM.gr (m : GrM) : Gr := ⟨plP m.parts, plN m.nodes, m.first⟩
def GrM.cells (m : GrM) : List Value := [.bool true, .map (some m.pb), .map (some m.nb), .slice m.FA m.first.length m.fc]
def GrM.ptr (m : GrM) : Value := .pointer (some ⟨m.r, 0, none⟩)
def GS (m : GrM) : SS := [[(m.r, .cells m.cells 57 4)], [(m.pb, .gm (gmL vtxV partV m.parts))], [(m.nb, .gm (gmL vtxV nodeV m.nodes))], m.junk]
structure NodeOk' (w0 : World) (B : SS) (lim : Nat) (n : NodeM) : Prop where
 rd : Rd w0 B n.A (vtxs n.next)
 ok : ∀ v ∈ n.next, okV v
 len : n.next.length <= lim
 gone : -(lim : Int) <= n.gone /\ n.gone <= lim
 named : -(lim : Int) <= n.named /\ n.named <= lim
structure PartR (p : PartM) : Prop where
 at_ : -9223372036854775808 <= p.at_ /\ p.at_ <= 9223372036854775807
 first : -9223372036854775808 <= p.first /\ p.first <= 4611686018427387904
 lines : p.lines.length <= 1000000000
 gones : p.gone.length <= 1000000000
 gcap : p.gone.length <= p.gc
 gnil : p.GA = none -> p.gc = 0
 up : okV p.up
 down : okV p.down
 gone : ∀ v ∈ p.gone, okV v
structure PartOk' (w0 : World) (S : SS) (p : PartM) : Prop where
 rdL : Rd w0 S p.LA (strs p.lines)
 rdG : Rd w0 S p.GA (vtxs p.gone)
 rng : PartR p
structure GOk (w0 : World) (X : SS) (m : GrM) : Prop where
 pk : ∀ q ∈ m.parts, okV q.1
 part : ∀ q ∈ m.parts, PartOk' w0 (m.junk :: X) q.2
 nk : ∀ q ∈ m.nodes, okV q.1
 node : ∀ q ∈ m.nodes, NodeOk' w0 (m.junk :: X) m.lim q.2
 first : Rd w0 (m.junk :: X) m.FA (vtxs m.first)
 firstOk : ∀ v ∈ m.first, okV v
 firstLen : m.first.length <= m.lim
 lim : m.lim <= 1000000000000
 pkd : (mks m.parts).Nodup
 nkd : (mks m.nodes).Nodup
theorem GS_mem {m : GrM} {S X : SS} (h : Over (GS m ++ X) S) : (m.r, AO.cells m.cells 57 4) ∈ S.flatten /\ (m.pb, AO.gm (gmL vtxV partV m.parts)) ∈ S.flatten /\ (m.nb, AO.gm (gmL vtxV nodeV m.nodes)) ∈ S.flatten /\ ∀ p ∈ m.junk, p ∈ S.flatten := by
 unfold Over GS at h
 exact ⟨h _ (by simp), h _ (by simp), h _ (by simp), fun p hp => h p (by simp [hp])⟩
theorem _root_.Go.SL.Rd.junk {w0 : World} {m : GrM} {S : SS} {X : SS} {A : Option Addr} {l : List Value} (h : Rd w0 (m.junk :: X) A l) (hS : Over (GS m ++ X) S) : Rd w0 S A l := h.mono fun p hp => by
 rw [List.flatten_cons, List.mem_append] at hp
 rcases hp with hp | hp
 ·exact (GS_mem hS).2.2.2 p hp
 exact hS p (by rw [List.flatten_append, List.mem_append]; exact .inr hp)
theorem _root_.Go.SL.Over.app {a b : SS} : Over a (a ++ b) := fun q h => by simp only [List.flatten_append, List.mem_append]; exact .inl h
theorem _root_.Go.SL.Over.appR {a b c : SS} (h : Over a c) : Over a (b ++ c) := fun q hq => by simp only [List.flatten_append, List.mem_append]; exact .inr (h q hq)
theorem _root_.Go.SL.Over.both {a b c : SS} (h : Over b c) : Over (a ++ b) (a ++ c) := fun q hq => by
 rw [List.flatten_append, List.mem_append] at hq ⊢
 exact hq.imp_right (h q)
theorem _root_.Go.SL.Over.trans {a b c : SS} (h : Over a b) (k : Over b c) : Over a c := fun q hq => k q (h q hq)
section
variable {w0 : World} {S X : SS} {m : GrM}
theorem g_made (h : Over (GS m ++ X) S) : Cell w0 S ⟨m.r, 0, none⟩ (.bool true) := own_at (c := m.cells) (GS_mem h).1 rfl
theorem g_parts (h : Over (GS m ++ X) S) : Cell w0 S ⟨m.r, 1, none⟩ (.map (some m.pb)) := own_at (c := m.cells) (GS_mem h).1 rfl
theorem g_nodes (h : Over (GS m ++ X) S) : Cell w0 S ⟨m.r, 2, none⟩ (.map (some m.nb)) := own_at (c := m.cells) (GS_mem h).1 rfl
theorem g_first (h : Over (GS m ++ X) S) : Cell w0 S ⟨m.r, 3, none⟩ (.slice m.FA m.first.length m.fc) := own_at (c := m.cells) (GS_mem h).1 rfl
end
theorem mks_plN (l : List (Vtx × NodeM)) : mks (plN l) = mks l := by unfold mks plN; simp [List.map_map, Function.comp_def]
theorem mgt_map {α β γ : Type} [DecidableEq α] (h : β -> γ) (l : List (α × β)) (a : α) : mgt (l.map fun q => (q.1, h q.2)) a = (mgt l a).map h := by
 induction l with
 | nil => rfl
 | cons p l ih =>
  rw [List.map_cons, mgt_cons, mgt_cons, ih]
  split <;> rfl
theorem mpt_map {α β γ : Type} [DecidableEq α] (h : β -> γ) (l : List (α × β)) (a : α) (b : β) : (mpt l a b).map (fun q => (q.1, h q.2)) = mpt (l.map fun q => (q.1, h q.2)) a (h b) := by
 induction l with
 | nil => rfl
 | cons p l ih =>
  rw [List.map_cons]
  unfold mpt
  simp only
  split
  ·rfl
  rw [List.map_cons, ih]
theorem mdl_map {α β γ : Type} [DecidableEq α] (h : β -> γ) (l : List (α × β)) (a : α) : (mdl l a).map (fun q => (q.1, h q.2)) = mdl (l.map fun q => (q.1, h q.2)) a := by
 induction l with
 | nil => rfl
 | cons p l ih =>
  unfold mdl at ih ⊢
  rw [List.map_cons, List.filter_cons, List.filter_cons]
  simp only
  split
  ·rw [List.map_cons, ih]
  exact ih
theorem mgt_plN (l : List (Vtx × NodeM)) (v : Vtx) : mgt (plN l) v = (mgt l v).map NodeM.pl := mgt_map _ l v
theorem mpt_plN (l : List (Vtx × NodeM)) (v : Vtx) (n : NodeM) : plN (mpt l v n) = mpt (plN l) v n.pl := mpt_map _ l v n
theorem mdl_plN (l : List (Vtx × NodeM)) (v : Vtx) : plN (mdl l v) = mdl (plN l) v := mdl_map _ l v
theorem mgt_plP (l : List (Vtx × PartM)) (v : Vtx) : mgt (plP l) v = (mgt l v).map PartM.pl := mgt_map _ l v
theorem mpt_plP (l : List (Vtx × PartM)) (v : Vtx) (n : PartM) : plP (mpt l v n) = mpt (plP l) v n.pl := mpt_map _ l v n
theorem mdl_plP (l : List (Vtx × PartM)) (v : Vtx) : plP (mdl l v) = mdl (plP l) v := mdl_map _ l v
theorem nd_plN (l : List (Vtx × NodeM)) (v : Vtx) : nd (plN l) v = ((mgt l v).getD zM).pl := by
 unfold nd
 rw [mgt_plN]
 cases mgt l v <;> rfl
instance {G : Gr} {v : Vtx} : Decidable (HasG G v) := by unfold HasG; infer_instance
theorem mks_plP (l : List (Vtx × PartM)) : mks (plP l) = mks l := by unfold mks plP; simp [List.map_map, Function.comp_def]
theorem isSome_mks {α β : Type} [DecidableEq α] {l : List (α × β)} {a : α} [Decidable (a ∈ mks l)] : (mgt l a).isSome = decide (a ∈ mks l) := by
 cases h : mgt l a with
 | none => simp [mgt_none.1 h]
 | some b => simp [mem_mks.2 ⟨b, h⟩]
end Go.Proofs.Gr

namespace Go.Proofs.Gr
open Go.SL Go.RowKit Go.Proofs Go.GP
set_option maxHeartbeats 1000000
abbrev vseg (r : Nat) (v : Vtx) : Seg := [(r, .cells (vtxL v) 32 33)]
theorem vtx_box (v : Vtx) : (vtxV v).cells.toList = vtxL v := rfl
theorem part_box (p : PartM) : (partV p).cells.toList = partC p := rfl
theorem zero100 : ∃ i, Try.prog.info? 100 = some i /\ i.zero = some (nodeV zM) := Option.bind_eq_some_iff.1 (show (Try.prog.info? 100).bind (·.zero) = some (nodeV zM) by kernel_rfl)
theorem zero36 : ∃ i, Try.prog.info? 36 = some i /\ i.zero = some (partV zPart) := Option.bind_eq_some_iff.1 (show (Try.prog.info? 36).bind (·.zero) = some (partV zPart) by kernel_rfl)
theorem root_fc {w0 : World} {S : SS} : FC Try.prog w0 66 [] S (fun v S' => v = vtxV rootV /\ S' = S) := by
 refine FC.ofC Try.known66 (by simp) ?_
 unfold Try.pc66
 simp only [argT]
 refine PW.seqOps ?_
 refine OL.cons trivial OW.al ?_
 rintro _ _ ⟨r0, rfl, rfl⟩
 refine OL.nil ?_
 refine PW.k1 0 rfl ?_
 refine PW.seqOps ?_
 refine OL.det trivial (.build rfl) ?_
 refine OL.cons trivial (OW.st (k := 0) rfl rfl rfl rfl (by first | decide | (simp; done) | (simp; omega)) (by first | rfl | simp)) ?_
 rintro _ _ rfl
 refine OL.nil ?_
 refine PW.k1 0 rfl ?_
 refine PW.ret ?_
 change (Exit.ret = Exit.normal ∨ Exit.ret = Exit.ret) /\ ∃ a v, Go.SL.look _ _ = some (.pointer (some a)) /\ ReadsAs _ _ _ _ _ /\ _
 exact ⟨.inr rfl, _, _, rfl, vtx_read (r := r0) (v := rootV) (E := 32) (tot := 33) (List.Mem.head _), _, Sub.drop (Sub.refl _), rfl, rfl⟩
theorem end_fc {w0 : World} {S : SS} : FC Try.prog w0 65 [] S (fun v S' => v = vtxV endV /\ S' = S) := by
 refine FC.ofC Try.known65 (by simp) ?_
 unfold Try.pc65
 simp only [argT]
 refine PW.seqOps ?_
 refine OL.cons trivial OW.al ?_
 rintro _ _ ⟨r0, rfl, rfl⟩
 refine OL.nil ?_
 refine PW.k1 0 rfl ?_
 refine PW.seqOps ?_
 refine OL.det trivial (.build rfl) ?_
 refine OL.cons trivial (OW.st (k := 0) rfl rfl rfl rfl (by first | decide | (simp; done) | (simp; omega)) (by first | rfl | simp)) ?_
 rintro _ _ rfl
 refine OL.nil ?_
 refine PW.k1 0 rfl ?_
 refine PW.ret ?_
 change (Exit.ret = Exit.normal ∨ Exit.ret = Exit.ret) /\ ∃ a v, Go.SL.look _ _ = some (.pointer (some a)) /\ ReadsAs _ _ _ _ _ /\ _
 exact ⟨.inr rfl, _, _, rfl, vtx_read (r := r0) (v := endV) (E := 32) (tot := 33) (List.Mem.head _), _, Sub.drop (Sub.refl _), rfl, rfl⟩
theorem rootL_fc {w0 : World} {S : SS} : FC Try.prog w0 27 [] S (fun v S' => v = vtxV rootV /\ S' = S) := by
 refine FC.ofC Try.known27 (by simp) ?_
 unfold Try.pc27
 simp only [argT]
 refine PW.seqOps ?_
 refine OL.cons trivial OW.al ?_
 rintro _ _ ⟨r0, rfl, rfl⟩
 refine OL.nil ?_
 refine PW.k1 0 rfl ?_
 refine PW.seqOps ?_
 refine OL.det trivial (.build rfl) ?_
 refine OL.cons trivial (OW.st (k := 0) rfl rfl rfl rfl (by first | decide | (simp; done) | (simp; omega)) (by first | rfl | simp)) ?_
 rintro _ _ rfl
 refine OL.nil ?_
 refine PW.k1 0 rfl ?_
 refine PW.ret ?_
 change (Exit.ret = Exit.normal ∨ Exit.ret = Exit.ret) /\ ∃ a v, Go.SL.look _ _ = some (.pointer (some a)) /\ ReadsAs _ _ _ _ _ /\ _
 exact ⟨.inr rfl, _, _, rfl, vtx_read (r := r0) (v := rootV) (E := 32) (tot := 33) (List.Mem.head _), _, Sub.drop (Sub.refl _), rfl, rfl⟩
theorem endL_fc {w0 : World} {S : SS} : FC Try.prog w0 28 [] S (fun v S' => v = vtxV endV /\ S' = S) := by
 refine FC.ofC Try.known28 (by simp) ?_
 unfold Try.pc28
 simp only [argT]
 refine PW.seqOps ?_
 refine OL.cons trivial OW.al ?_
 rintro _ _ ⟨r0, rfl, rfl⟩
 refine OL.nil ?_
 refine PW.k1 0 rfl ?_
 refine PW.seqOps ?_
 refine OL.det trivial (.build rfl) ?_
 refine OL.cons trivial (OW.st (k := 0) rfl rfl rfl rfl (by first | decide | (simp; done) | (simp; omega)) (by first | rfl | simp)) ?_
 rintro _ _ rfl
 refine OL.nil ?_
 refine PW.k1 0 rfl ?_
 refine PW.ret ?_
 change (Exit.ret = Exit.normal ∨ Exit.ret = Exit.ret) /\ ∃ a v, Go.SL.look _ _ = some (.pointer (some a)) /\ ReadsAs _ _ _ _ _ /\ _
 exact ⟨.inr rfl, _, _, rfl, vtx_read (r := r0) (v := endV) (E := 32) (tot := 33) (List.Mem.head _), _, Sub.drop (Sub.refl _), rfl, rfl⟩
theorem node_st {w0 : World} {S : SS} {P : Program} {n r : Nat} {T : TT} {x v : PV} {u : NodeM} (hx : x.val T = some (.pointer (some ⟨r, 0, none⟩))) (hv : v.val T = some (nodeV u)) (a b c d : Value) :
  OW P w0 n (.st 4 x v) T ([(r, .cells [a, b, c, d] 100 4)] :: S) (fun _ S' => S' = [(r, .cells (nodeC u) 100 4)] :: S) :=
 OW.st (k := 0) (c := [a, b, c, d]) (u := nodeV u) hx hv rfl rfl (Nat.le_refl 4) rfl
theorem is_fc {w0 : World} {S X : SS} {m : GrM} (hS : Over (GS m ++ X) S) : FC Try.prog w0 48 [m.ptr] S (fun v S' => v = .bool true /\ S' = S) := by
 refine FC.of Try.known48 (by simp) ?_
 unfold Try.pc48
 simp only [argT]
 refine PW.seqOps ?_
 refine OL.dp rfl ?_
 refine OL.nil ?_
 refine PW.k1 0 rfl ?_
 refine PW.seqOps ?_
 refine OL.dp rfl ?_
 refine OL.det trivial (Yields.eqPn rfl rfl) ?_
 refine OL.dp rfl ?_
 refine OL.det rfl (.pure rfl) ?_
 refine OL.det rfl (Yields.nilc rfl) ?_
 refine OL.det rfl (.pure rfl) ?_
 refine OL.det rfl (.ld rfl (g_made hS)) ?_
 refine OL.dp rfl ?_
 refine OL.dp rfl ?_
 refine OL.nil ?_
 refine PW.k1 2 rfl ?_
 refine PW.ret ?_
 change (Exit.ret = Exit.normal ∨ Exit.ret = Exit.ret) /\ ∃ v, resV _ _ = some v /\ _
 exact ⟨.inr rfl, _, rfl, rfl, rfl⟩
theorem isNil_fc {w0 : World} {S : SS} : FC Try.prog w0 48 [.pointer none] S (fun v S' => v = .bool false /\ S' = S) := by
 refine FC.of Try.known48 (by simp) ?_
 unfold Try.pc48
 simp only [argT]
 refine PW.seqOps ?_
 refine OL.dp rfl ?_
 refine OL.nil ?_
 refine PW.k1 0 rfl ?_
 refine PW.seqOps ?_
 refine OL.dp rfl ?_
 refine OL.det trivial (Yields.eqPn rfl rfl) ?_
 refine OL.dp rfl ?_
 refine OL.off rfl rfl ?_
 refine OL.off rfl rfl ?_
 refine OL.off rfl rfl ?_
 refine OL.off rfl rfl ?_
 refine OL.dp rfl ?_
 refine OL.dp rfl ?_
 refine OL.nil ?_
 refine PW.k1 2 rfl ?_
 refine PW.ret ?_
 change (Exit.ret = Exit.normal ∨ Exit.ret = Exit.ret) /\ ∃ v, resV _ _ = some v /\ _
 exact ⟨.inr rfl, _, rfl, rfl, rfl⟩
theorem vertex_fc {w0 : World} {S : SS} {p : PartM} {i : Nat} (hr : PartR p) (hi : (i : Int) <= 4611686018427387903) : FC Try.prog w0 58 [partV p, .int .i64 (i : Int)] S (fun v S' => v = vtxV (p.pl.vtx i) /\ S' = S) := by
 have h1 := hr.first
 refine FC.ofC Try.known58 (by simp) ?_
 unfold Try.pc58
 simp only [argT]
 refine PW.seqOps ?_
 refine OL.cons trivial (OW.bx rfl) ?_
 rintro _ _ ⟨r2, rfl, rfl⟩
 rw [part_box, partC_len]
 refine OL.cons trivial OW.al ?_
 rintro _ _ ⟨r4, rfl, rfl⟩
 refine OL.nil ?_
 refine PW.k3 1 2 4 rfl rfl rfl ?_
 refine PW.seqOps ?_
 refine OL.dp rfl ?_
 refine OL.det trivial (.ldA rfl (hb_len _) (part_patch (p := p) (E := 36) (tot := 102) (List.mem_flatten.2 ⟨_, .tail _ (.head _), List.mem_singleton.2 rfl⟩))) ?_
 refine OL.dp rfl ?_
 refine OL.det trivial (.ld rfl (part_first (p := p) (E := 36) (tot := 102) (List.mem_flatten.2 ⟨_, .tail _ (.head _), List.mem_singleton.2 rfl⟩))) ?_
 refine OL.dp rfl ?_
 refine OL.det trivial (.add64 rfl rfl (by omega) (by omega)) ?_
 refine OL.det trivial (.build (fill_vtx rfl rfl)) ?_
 refine OL.cons trivial (OW.st (k := 0) (u := vtxV (p.patch, p.first + (i : Int))) rfl rfl rfl (by rw [vtxV]; exact (List.size_toArray).trans (vtxL_len _)) (by decide) (vtxL_one _)) ?_
 rintro _ _ rfl
 rw [vtx_box, setAll (by rw [vtxL_len]; rfl)]
 refine OL.nil ?_
 refine PW.k1 4 rfl ?_
 refine PW.ret ?_
 change (Exit.ret = Exit.normal ∨ Exit.ret = Exit.ret) /\ ∃ a v, Go.SL.look _ _ = some (.pointer (some a)) /\ ReadsAs _ _ _ _ _ /\ _
 exact ⟨.inr rfl, _, _, rfl, vtx_read (r := r4) (v := (p.patch, p.first + (i : Int))) (E := 32) (tot := 33) (List.Mem.head _), _, Sub.drop (Sub.drop (Sub.refl _)), rfl, rfl⟩
theorem line_fc {w0 : World} {S X : SS} {m : GrM} (hm : GOk w0 X m) (hS : Over (GS m ++ X) S) {v : Vtx} (hv : okV v) : FC Try.prog w0 56 [m.ptr, vtxV v] S (fun u S' => u = .bool (decide (v ∈ mks m.nodes)) /\ S' = S) := by
 obtain ⟨z, hz1, hz2⟩ := zero100
 refine FC.ofD Try.known56 (by simp) ?_
 unfold Try.pc56
 simp only [argT]
 refine PW.seqOps ?_
 refine OL.cons trivial (OW.bx rfl) ?_
 rintro _ _ ⟨r3, rfl, rfl⟩
 rw [vtx_box, vtxL_len]
 refine OL.dp rfl ?_
 refine OL.nil ?_
 refine PW.k2 0 3 rfl rfl ?_
 refine PW.seq fun K1 hK1 => ?_
 have hS1 : Over (GS m ++ X) (vseg r3 v :: S) := hS.cons
 refine PW.quietG (Ss := Over (vseg r3 v :: S)) (fr := false) [(0, 0), (1, 0), (2, 0), (3, 0), (4, 0), (5, 0), (6, 0), (7, 0), (8, 0), (9, 2), (10, 2)] Try.mixed (by decide +kernel) (Over.refl _) (fun h => by cases h) ?_
 refine GL.dp rfl ?_
 refine GL.det trivial (fun Sx hSx => Yields.nilc rfl) ?_
 refine GL.dp rfl ?_
 refine GL.det trivial (fun Sx hSx => Yields.ld rfl (g_nodes (hS1.trans hSx))) ?_
 refine GL.det trivial (fun Sx hSx => Yields.ldA rfl (vtxL_len _) (all_at (c := vtxL v) (E := 32) (tot := 33) (hSx _ (List.mem_flatten.2 ⟨_, .head _, List.mem_singleton.2 rfl⟩)))) ?_
 refine GL.det trivial (fun Sx hSx => Yields.lookG (okc := true) Try.underlying55 hz1 hz2 keys32 hm.nk hv rfl rfl (GS_mem (hS1.trans hSx)).2.2.1) ?_
 refine GL.dp rfl ?_
 refine GL.dp rfl ?_
 refine GL.dp rfl ?_
 refine GL.lo trivial (OW.mono (OW.al) ?_)
 rintro _ _ ⟨r5, rfl, rfl⟩
 refine ⟨(Over.refl _).cons, ?_⟩
 refine GL.lo trivial (OW.mono (node_st rfl rfl _ _ _ _) ?_)
 rintro _ _ rfl
 refine ⟨(Over.refl _).cons, ?_⟩
 change OL _ _ _ [_] _ _ _
 refine OL.dp rfl ?_
 refine OL.nil ?_
 refine hK1 _ _ ?_
 refine PW.k1 6 rfl ?_
 refine PW.seqOps ?_
 refine OL.dp rfl ?_
 refine OL.dp rfl ?_
 refine OL.nil ?_
 refine PW.k1 4 rfl ?_
 refine PW.ret ?_
 change (Exit.ret = Exit.normal ∨ Exit.ret = Exit.ret) /\ ∃ v, resV _ _ = some v /\ _
 exact ⟨.inr rfl, _, rfl, _, Sub.drop (Sub.drop (Sub.refl _)), congrArg Value.bool isSome_mks, rfl⟩
end Go.Proofs.Gr

namespace Go.Proofs.Gr
open Go.SL Go.RowKit Go.Proofs Go.GP
set_option maxHeartbeats 1000000
theorem hasG_iff {m : GrM} {v : Vtx} : HasG m.gr v ↔ v = rootV ∨ v = endV ∨ v ∈ mks m.nodes := by
 unfold HasG
 show _ ∨ _ ∨ v ∈ mks (plN m.nodes) ↔ _
 rw [mks_plN]
def idxZ (q : Vtx -> Bool) (l : List Vtx) : Int := match l.findIdx? q with | some k => (k : Int) | none => -1
theorem idx_take {q : Vtx -> Bool} {l : List Vtx} {k : Nat} (hk : k < l.length) (h : ∀ x ∈ l.take k, q x = false) (hq : q l[k] = true) : idxZ q l = (k : Int) := by
 unfold idxZ
 have : l.findIdx? q = some k := by
  rw [List.findIdx?_eq_some_iff_getElem]
  refine ⟨hk, hq, fun j hj => ?_⟩
  have := h l[j] (List.mem_take_iff_getElem.2 ⟨j, by omega, rfl⟩)
  simp [this]
 rw [this]
theorem idx_no {q : Vtx -> Bool} {l : List Vtx} (h : ∀ x ∈ l, q x = false) : idxZ q l = -1 := by
 unfold idxZ
 have : l.findIdx? q = none := by rw [List.findIdx?_eq_none_iff]; exact h
 rw [this]
theorem idx_any {q : Vtx -> Bool} {l : List Vtx} : (idxZ q l ≥ 0) = (l.any q = true) := by
 unfold idxZ
 apply propext
 cases h : l.findIdx? q with
 | none =>
  have := List.findIdx?_eq_none_iff.1 h
  simp only [List.any_eq_true]
  constructor
  ·intro h; omega
  rintro ⟨x, hx, hq⟩; rw [this x hx] at hq; cases hq
 | some k =>
  obtain ⟨h1, h2, _⟩ := List.findIdx?_eq_some_iff_getElem.1 h
  simp only [List.any_eq_true]
  exact ⟨fun _ => ⟨_, List.getElem_mem h1, h2⟩, fun _ => by omega⟩
theorem vtake_snoc {l : List Vtx} {k : Nat} (hk : k < l.length) : l.take (k + 1) = l.take k ++ [l[k]] := by
 rw [List.take_add_one, List.getElem?_eq_getElem hk]; rfl
def behA (m : GrM) (v : Vtx) : Option Addr × Nat × List Vtx := if v = rootV then (m.FA, m.fc, m.first) else (((mgt m.nodes v).getD zM).A, ((mgt m.nodes v).getD zM).c, ((mgt m.nodes v).getD zM).next)
def behV (m : GrM) (v : Vtx) : Value := .slice (behA m v).1 (behA m v).2.2.length (behA m v).2.1
theorem getD_ok {w0 : World} {X : SS} {m : GrM} (hm : GOk w0 X m) (v : Vtx) : NodeOk' w0 (m.junk :: X) m.lim ((mgt m.nodes v).getD zM) := by
 cases h : mgt m.nodes v with
 | none => exact ⟨Rd.nil, by simp [zM], by simp [zM], by simp [zM], by simp [zM]⟩
 | some n => exact hm.node _ (mgt_some_mem h)
theorem behA_ok {w0 : World} {X : SS} {m : GrM} (hm : GOk w0 X m) (v : Vtx) : Rd w0 (m.junk :: X) (behA m v).1 (vtxs (behA m v).2.2) /\ (∀ w ∈ (behA m v).2.2, okV w) /\ (behA m v).2.2.length <= m.lim := by
 unfold behA
 split
 ·exact ⟨hm.first, hm.firstOk, hm.firstLen⟩
 exact ⟨(getD_ok hm v).rd, (getD_ok hm v).ok, (getD_ok hm v).len⟩
theorem behA_gr {m : GrM} {v : Vtx} : (behA m v).2.2 = behindG m.gr v := by
 unfold behA behindG
 split
 ·rfl
 show _ = (nd (plN m.nodes) v).next
 rw [nd_plN]
 rfl
theorem has_fc {w0 : World} {S X : SS} {m : GrM} (hm : GOk w0 X m) (hS : Over (GS m ++ X) S) {v : Vtx} (hv : okV v) : FC Try.prog w0 29 [m.ptr, vtxV v] S (fun u S' => u = .bool (decide (HasG m.gr v)) /\ S' = S) := by
 refine FC.ofD Try.known29 (by simp) ?_
 unfold Try.pc29
 simp only [argT]
 refine PW.seqOps ?_
 refine OL.cons trivial (OW.bx rfl) ?_
 rintro _ _ ⟨r3, rfl, rfl⟩
 rw [vtx_box, vtxL_len]
 refine OL.dp rfl ?_
 refine OL.nil ?_
 refine PW.k2 0 3 rfl rfl ?_
 refine PW.seq fun K1 hK1 => ?_
 refine PW.quietK Try.mixed ?_
 refine QK.dp rfl ?_
 refine QK.call trivial rfl (is_fc hS.cons) ?_
 refine QK.dp rfl ?_
 refine QK.det rfl (.ldA rfl (vtxL_len _) (all_at (List.mem_flatten.2 ⟨_, .head _, List.mem_singleton.2 rfl⟩))) ?_
 refine QK.call rfl rfl (root_fc) ?_
 refine QK.det rfl (.eqD (neg := false) rfl rfl (eqL_vtx _ _)) ?_
 refine QK.bool rfl (Yields.pure rfl) (fun g11 => ?_) (fun g11 => ?_)
 ·try simp only [cvS] at g11
  refine QK.off rfl rfl ?_
  refine QK.off rfl rfl ?_
  refine QK.off rfl rfl ?_
  refine QK.det rfl (.pure rfl) ?_
  refine QK.det rfl (.pure rfl) ?_
  refine QK.off rfl rfl ?_
  refine QK.off rfl rfl ?_
  refine QK.nil ?_
  change OL _ _ _ [_, _, _, _] _ _ _
  refine OL.off rfl rfl ?_
  refine OL.det rfl (.pure rfl) ?_
  refine OL.dp rfl ?_
  refine OL.dp rfl ?_
  refine OL.nil ?_
  refine hK1 _ _ ?_
  refine PW.k1 4 rfl ?_
  refine PW.ret ?_
  change (Exit.ret = Exit.normal ∨ Exit.ret = Exit.ret) /\ ∃ v, resV _ _ = some v /\ _
  refine ⟨.inr rfl, _, rfl, _, Sub.drop (Sub.refl _), ?_, rfl⟩
  first
   | exact congrArg Value.bool (decide_eq_true (show HasG m.gr v from hasG_iff.2 (.inl g11))).symm
   | exact congrArg Value.bool (decide_eq_true (show HasG m.gr v from hasG_iff.2 (.inr (.inl g16)))).symm
   | exact congrArg Value.bool (decide_eq_decide.2 ⟨fun h => hasG_iff.2 (.inr (.inr h)), fun h => ((hasG_iff.1 h).resolve_left g11).resolve_left g16⟩)
 try simp only [cvS] at g11
 refine QK.det rfl (.ldA rfl (vtxL_len _) (all_at (List.mem_flatten.2 ⟨_, .head _, List.mem_singleton.2 rfl⟩))) ?_
 refine QK.call rfl rfl (end_fc) ?_
 refine QK.det rfl (.eqD (neg := false) rfl rfl (eqL_vtx _ _)) ?_
 refine QK.det rfl (.pure rfl) ?_
 refine QK.bool rfl (Yields.pure rfl) (fun g16 => ?_) (fun g16 => ?_)
 ·try simp only [cvS] at g16
  refine QK.off rfl rfl ?_
  refine QK.off rfl rfl ?_
  refine QK.nil ?_
  change OL _ _ _ [_, _, _, _] _ _ _
  refine OL.off rfl rfl ?_
  refine OL.det rfl (.pure rfl) ?_
  refine OL.dp rfl ?_
  refine OL.dp rfl ?_
  refine OL.nil ?_
  refine hK1 _ _ ?_
  refine PW.k1 4 rfl ?_
  refine PW.ret ?_
  change (Exit.ret = Exit.normal ∨ Exit.ret = Exit.ret) /\ ∃ v, resV _ _ = some v /\ _
  refine ⟨.inr rfl, _, rfl, _, Sub.drop (Sub.refl _), ?_, rfl⟩
  first
   | exact congrArg Value.bool (decide_eq_true (show HasG m.gr v from hasG_iff.2 (.inl g11))).symm
   | exact congrArg Value.bool (decide_eq_true (show HasG m.gr v from hasG_iff.2 (.inr (.inl g16)))).symm
   | exact congrArg Value.bool (decide_eq_decide.2 ⟨fun h => hasG_iff.2 (.inr (.inr h)), fun h => ((hasG_iff.1 h).resolve_left g11).resolve_left g16⟩)
 try simp only [cvS] at g16
 refine QK.det rfl (.pure rfl) ?_
 refine QK.det rfl (.ldA rfl (vtxL_len _) (all_at (List.mem_flatten.2 ⟨_, .head _, List.mem_singleton.2 rfl⟩))) ?_
 refine QK.nil ?_
 change OL _ _ _ [_, _, _, _] _ _ _
 refine OL.call rfl rfl (line_fc hm hS.cons hv) ?_
 rintro _ Sx ⟨rfl, hSx⟩
 rw [hSx]
 clear hSx
 refine OL.det rfl (.pure rfl) ?_
 refine OL.dp rfl ?_
 refine OL.dp rfl ?_
 refine OL.nil ?_
 refine hK1 _ _ ?_
 refine PW.k1 4 rfl ?_
 refine PW.ret ?_
 change (Exit.ret = Exit.normal ∨ Exit.ret = Exit.ret) /\ ∃ v, resV _ _ = some v /\ _
 refine ⟨.inr rfl, _, rfl, _, Sub.drop (Sub.refl _), ?_, rfl⟩
 first
  | exact congrArg Value.bool (decide_eq_true (show HasG m.gr v from hasG_iff.2 (.inl g11))).symm
  | exact congrArg Value.bool (decide_eq_true (show HasG m.gr v from hasG_iff.2 (.inr (.inl g16)))).symm
  | exact congrArg Value.bool (decide_eq_decide.2 ⟨fun h => hasG_iff.2 (.inr (.inr h)), fun h => ((hasG_iff.1 h).resolve_left g11).resolve_left g16⟩)
theorem hasNil_fc {w0 : World} {S : SS} {v : Vtx} : FC Try.prog w0 29 [.pointer none, vtxV v] S (fun u S' => u = .bool false /\ S' = S) := by
 refine FC.ofD Try.known29 (by simp) ?_
 unfold Try.pc29
 simp only [argT]
 refine PW.seqOps ?_
 refine OL.cons trivial (OW.bx rfl) ?_
 rintro _ _ ⟨r3, rfl, rfl⟩
 rw [vtx_box, vtxL_len]
 refine OL.dp rfl ?_
 refine OL.nil ?_
 refine PW.k2 0 3 rfl rfl ?_
 refine PW.seq fun K1 hK1 => ?_
 refine PW.quietK Try.mixed ?_
 refine QK.dp rfl ?_
 refine QK.call trivial rfl (isNil_fc) ?_
 refine QK.dp rfl ?_
 refine QK.off rfl rfl ?_
 refine QK.off rfl rfl ?_
 refine QK.off rfl rfl ?_
 refine QK.off rfl rfl ?_
 refine QK.off rfl rfl ?_
 refine QK.off rfl rfl ?_
 refine QK.off rfl rfl ?_
 refine QK.off rfl rfl ?_
 refine QK.off rfl rfl ?_
 refine QK.off rfl rfl ?_
 refine QK.off rfl rfl ?_
 refine QK.nil ?_
 change OL _ _ _ [_, _, _, _] _ _ _
 refine OL.off rfl rfl ?_
 refine OL.off rfl rfl ?_
 refine OL.dp rfl ?_
 refine OL.dp rfl ?_
 refine OL.nil ?_
 refine hK1 _ _ ?_
 refine PW.k1 4 rfl ?_
 refine PW.ret ?_
 change (Exit.ret = Exit.normal ∨ Exit.ret = Exit.ret) /\ ∃ v, resV _ _ = some v /\ _
 exact ⟨.inr rfl, _, rfl, _, Sub.drop (Sub.refl _), rfl, rfl⟩
theorem behind_fc {w0 : World} {S X : SS} {m : GrM} (hm : GOk w0 X m) (hS : Over (GS m ++ X) S) {v : Vtx} (hv : okV v) : FC Try.prog w0 67 [m.ptr, vtxV v] S (fun u S' => u = behV m v /\ S' = S) := by
 obtain ⟨z, hz1, hz2⟩ := zero100
 refine FC.ofD Try.known67 (by simp) ?_
 unfold Try.pc67
 simp only [argT]
 refine PW.seqOps ?_
 refine OL.cons trivial (OW.bx rfl) ?_
 rintro _ _ ⟨r3, rfl, rfl⟩
 rw [vtx_box, vtxL_len]
 refine OL.dp rfl ?_
 refine OL.nil ?_
 refine PW.k2 0 3 rfl rfl ?_
 refine PW.seq fun K1 hK1 => ?_
 refine PW.seq fun K2 hK2 => ?_
 refine PW.quietK Try.mixed ?_
 refine QK.det trivial (.ldA rfl (vtxL_len _) (all_at (List.mem_flatten.2 ⟨_, .head _, List.mem_singleton.2 rfl⟩))) ?_
 refine QK.call trivial rfl (root_fc) ?_
 refine QK.nil ?_
 change OL _ _ _ [_] _ _ _
 refine OL.det trivial (.eqD (neg := false) rfl rfl (eqL_vtx _ _)) ?_
 refine OL.nil ?_
 refine hK2 _ _ ?_
 refine PW.k3 0 3 7 rfl rfl rfl ?_
 refine PW.cond rfl (fun c7 => ?_) (fun c7 => ?_)
 ·try simp only [cvS] at c7
  refine PW.seqOps ?_
  refine OL.dp rfl ?_
  refine OL.det trivial (Yields.nilc rfl) ?_
  refine OL.dp rfl ?_
  refine OL.det trivial (.ld rfl (g_first hS.cons)) ?_
  refine OL.dp rfl ?_
  refine OL.nil ?_
  refine PW.k1 4 rfl ?_
  refine PW.ret ?_
  change (Exit.ret = Exit.normal ∨ Exit.ret = Exit.ret) /\ ∃ v, resV _ _ = some v /\ _
  exact ⟨.inr rfl, _, rfl, _, Sub.drop (Sub.refl _), by unfold behV behA; rw [if_pos c7], rfl⟩
 try simp only [cvS] at c7
 refine PW.skip ?_
 refine hK1 _ _ ?_
 refine PW.k2 0 3 rfl rfl ?_
 refine PW.seq fun K3 hK3 => ?_
 refine PW.quietK Try.mixed ?_
 refine QK.dp rfl ?_
 refine QK.det trivial (Yields.nilc rfl) ?_
 refine QK.dp rfl ?_
 refine QK.det trivial (.ld rfl (g_nodes hS.cons)) ?_
 refine QK.det trivial (.ldA rfl (vtxL_len _) (all_at (List.mem_flatten.2 ⟨_, .head _, List.mem_singleton.2 rfl⟩))) ?_
 refine QK.nil ?_
 change OL _ _ _ [_, _, _] _ _ _
 refine OL.det trivial (.lookG (okc := false) Try.underlying55 hz1 hz2 keys32 hm.nk hv rfl rfl (GS_mem hS.cons).2.2.1) ?_
 refine OL.det trivial (Yields.fld rfl rfl) ?_
 refine OL.dp rfl ?_
 refine OL.nil ?_
 refine hK3 _ _ ?_
 refine PW.k1 4 rfl ?_
 refine PW.ret ?_
 change (Exit.ret = Exit.normal ∨ Exit.ret = Exit.ret) /\ ∃ v, resV _ _ = some v /\ _
 exact ⟨.inr rfl, _, rfl, _, Sub.drop (Sub.refl _), by unfold behV behA; rw [if_neg c7]; rfl, rfl⟩
theorem index_fc {w0 : World} {S : SS} {A : Option Addr} {c : Nat} {l : List Vtx} {v : Vtx} (hx : Rd w0 S A (vtxs l)) (hb : l.length <= 1000000000000) :
  FC Try.prog w0 110 [.slice A l.length c, vtxV v] S (fun u S' => u = .int .i64 (idxZ (fun x => decide (v = x)) l) /\ S' = S) := by
 obtain ⟨q, hq⟩ : ∃ q : Vtx -> Bool, q = fun x => decide (v = x) := ⟨_, rfl⟩
 rw [<- hq]
 refine FC.ofD Try.known110 (by simp) ?_
 unfold Try.pc110
 simp only [argT]
 refine PW.seqOps ?_
 refine OL.cons trivial (OW.bx rfl) ?_
 rintro _ _ ⟨r3, rfl, rfl⟩
 rw [vtx_box, vtxL_len]
 refine OL.dp rfl ?_
 refine OL.nil ?_
 refine PW.k2 0 3 rfl rfl ?_
 refine PW.seq fun K1 hK1 => ?_
 refine PW.seqOps ?_
 refine OL.dp rfl ?_
 refine OL.dp rfl ?_
 refine OL.dp rfl ?_
 refine OL.nil ?_
 refine PW.k4 0 3 7 8 rfl rfl rfl rfl ?_
 refine PW.block ?_
 refine PW.k4 0 3 7 8 rfl rfl rfl rfl ?_
 refine PW.loopK (I := fun m T S' => ∃ (k : Nat), (k <= l.length /\ m = l.length - k /\ ∀ x ∈ l.take k, q x = false) /\ T = ([(0, .slice A l.length c), (3, .pointer (some ⟨r3, 0, none⟩)), (7, .int .i64 (l.length : Int)), (8, .int .i64 k)] : TT) /\ S' = vseg r3 v :: S) (m := l.length) ⟨0, ⟨by omega, by omega, by simp⟩, rfl, rfl⟩ ?_
 rintro m _ _ ⟨k, ⟨hk, hm, hall⟩, rfl, rfl⟩
 refine PW.seqOps ?_
 refine OL.dp rfl ?_
 refine OL.nil ?_
 refine PW.k5 0 3 7 8 9 rfl rfl rfl rfl rfl ?_
 refine PW.seq fun K2 hK2 => ?_
 refine PW.cond rfl (fun c9 => ?_) (fun c9 => ?_)
 ·try simp only [cvS] at c9
  have hkl : k < l.length := by omega
  obtain ⟨a0, rfl⟩ := vtxs_some hx (by omega)
  refine PW.skip ?_
  refine hK2 _ _ ?_
  refine PW.k4 0 3 7 8 rfl rfl rfl rfl ?_
  refine PW.seq fun K3 hK3 => ?_
  refine PW.block ?_
  refine PW.seqOps ?_
  refine OL.dp rfl ?_
  refine OL.dp rfl ?_
  refine OL.nil ?_
  refine PW.k5 0 3 5 7 8 rfl rfl rfl rfl rfl ?_
  refine PW.seq fun K4 hK4 => ?_
  refine PW.quietK Try.mixed ?_
  refine QK.det trivial (.ldA rfl (vtxL_len _) (all_at (List.mem_flatten.2 ⟨_, .head _, List.mem_singleton.2 rfl⟩))) ?_
  refine QK.dp rfl ?_
  refine QK.dp rfl ?_
  refine QK.det trivial (.ixN rfl rfl rfl (by omega)) ?_
  refine QK.det trivial (.ldA rfl (vtxL_len _) (vtx_at hx.cons hkl)) ?_
  refine QK.nil ?_
  change OL _ _ _ [_] _ _ _
  refine OL.det trivial (.eqD (neg := false) rfl rfl (eqL_vtx _ _)) ?_
  refine OL.nil ?_
  refine hK4 _ _ ?_
  refine PW.k6 0 3 5 7 8 16 rfl rfl rfl rfl rfl rfl ?_
  refine PW.cond rfl (fun c16 => ?_) (fun c16 => ?_)
  ·try simp only [cvS] at c16
   have hqt : q l[k] = true := by rw [hq]; simpa using c16
   refine PW.seqOps ?_
   refine OL.dp rfl ?_
   refine OL.dp rfl ?_
   refine OL.nil ?_
   refine PW.k1 4 rfl ?_
   refine PW.ret ?_
   change (Exit.ret = Exit.normal ∨ Exit.ret = Exit.ret) /\ ∃ v, resV _ _ = some v /\ _
   exact ⟨.inr rfl, _, rfl, _, Sub.drop (Sub.refl _), by rw [idx_take hkl hall hqt], rfl⟩
  try simp only [cvS] at c16
  have hqf : q l[k] = false := by rw [hq]; simpa using c16
  refine PW.skip ?_
  refine hK3 _ _ ?_
  refine PW.k4 0 3 7 8 rfl rfl rfl rfl ?_
  refine PW.ops ?_
  refine OL.det trivial (.add64 rfl rfl (by omega) (by omega)) ?_
  refine OL.dp rfl ?_
  refine OL.nil ?_
  repeat rw [inBlk_n]
  try rw [thenK_n]
  refine LoopEnd.mk (T'' := [(0, _), (3, _), (7, _), (8, _)]) ⟨rfl, rfl, rfl, rfl, trivial⟩ ?_
  refine ⟨l.length - (k + 1), by omega, k + 1, ⟨by omega, rfl, fun x hx => ?_⟩, rfl, rfl⟩
  rw [vtake_snoc hkl, List.mem_append, List.mem_singleton] at hx
  rcases hx with hx | rfl
  ·exact hall x hx
  exact hqf
 try simp only [cvS] at c9
 refine PW.exit ?_
 refine hK1 _ _ ?_
 refine PW.keep (T' := []) trivial ?_
 refine PW.seqOps ?_
 refine OL.dp rfl ?_
 refine OL.nil ?_
 refine PW.k1 4 rfl ?_
 refine PW.ret ?_
 change (Exit.ret = Exit.normal ∨ Exit.ret = Exit.ret) /\ ∃ v, resV _ _ = some v /\ _
 exact ⟨.inr rfl, _, rfl, _, Sub.drop (Sub.refl _), by rw [idx_no (fun x hx => hall x (by rw [List.take_of_length_le (by omega)]; exact hx))], rfl⟩
theorem indexFunc_fc {w0 : World} {S : SS} {A : Option Addr} {c : Nat} {l : List Vtx} {g : FuncId} {ca : List Value} {q : Vtx -> Bool} (hx : Rd w0 S A (vtxs l)) (hb : l.length <= 1000000000000) (hok : fnOk Try.prog g = true)
  (hq : ∀ x ∈ l, FC Try.prog w0 g ([] ++ [vtxV x] ++ ca) S (fun u S' => u = .bool (q x) /\ S' = S)) :
  FC Try.prog w0 86 [.slice A l.length c, .func (.func g) #[] ca.toArray] S (fun u S' => u = .int .i64 (idxZ q l) /\ S' = S) := by
 refine FC.of Try.known86 (by simp) ?_
 unfold Try.pc86
 simp only [argT]
 refine PW.seqOps ?_
 refine OL.dp rfl ?_
 refine OL.nil ?_
 refine PW.k2 0 1 rfl rfl ?_
 refine PW.seq fun K1 hK1 => ?_
 refine PW.seqOps ?_
 refine OL.dp rfl ?_
 refine OL.dp rfl ?_
 refine OL.dp rfl ?_
 refine OL.nil ?_
 refine PW.k4 0 1 7 8 rfl rfl rfl rfl ?_
 refine PW.block ?_
 refine PW.k4 0 1 7 8 rfl rfl rfl rfl ?_
 refine PW.loopK (I := fun m T S' => ∃ (k : Nat), (k <= l.length /\ m = l.length - k /\ ∀ x ∈ l.take k, q x = false) /\ T = ([(0, .slice A l.length c), (1, .func (.func g) #[] ca.toArray), (7, .int .i64 (l.length : Int)), (8, .int .i64 k)] : TT) /\ S' = S) (m := l.length) ⟨0, ⟨by omega, by omega, by simp⟩, rfl, rfl⟩ ?_
 rintro m _ _ ⟨k, ⟨hk, hm, hall⟩, rfl, rfl⟩
 refine PW.seqOps ?_
 refine OL.dp rfl ?_
 refine OL.nil ?_
 refine PW.k5 0 1 7 8 9 rfl rfl rfl rfl rfl ?_
 refine PW.seq fun K2 hK2 => ?_
 refine PW.cond rfl (fun c9 => ?_) (fun c9 => ?_)
 ·try simp only [cvS] at c9
  have hkl : k < l.length := by omega
  obtain ⟨a0, rfl⟩ := vtxs_some hx (by omega)
  refine PW.skip ?_
  refine hK2 _ _ ?_
  refine PW.k4 0 1 7 8 rfl rfl rfl rfl ?_
  refine PW.seq fun K3 hK3 => ?_
  refine PW.block ?_
  refine PW.seqOps ?_
  refine OL.dp rfl ?_
  refine OL.dp rfl ?_
  refine OL.nil ?_
  refine PW.k5 0 1 5 7 8 rfl rfl rfl rfl rfl ?_
  refine PW.seqOps ?_
  refine OL.dp rfl ?_
  refine OL.dp rfl ?_
  refine OL.dp rfl ?_
  refine OL.det trivial (.ixN rfl rfl rfl (by omega)) ?_
  refine OL.det trivial (.ldA rfl (vtxL_len _) (vtx_at hx hkl)) ?_
  refine OL.cons trivial (OW.callv (fi := []) (ca := ca) rfl hok rfl (hq _ (List.getElem_mem hkl))) ?_
  rintro _ Sx ⟨rfl, hSx⟩
  rw [hSx]
  clear hSx
  refine OL.nil ?_
  refine PW.k6 0 1 5 7 8 16 rfl rfl rfl rfl rfl rfl ?_
  refine PW.cond rfl (fun c16 => ?_) (fun c16 => ?_)
  ·try simp only [cvS] at c16
   have hqt : q l[k] = true := by simpa using c16
   refine PW.seqOps ?_
   refine OL.dp rfl ?_
   refine OL.dp rfl ?_
   refine OL.nil ?_
   refine PW.k1 4 rfl ?_
   refine PW.ret ?_
   change (Exit.ret = Exit.normal ∨ Exit.ret = Exit.ret) /\ ∃ v, resV _ _ = some v /\ _
   exact ⟨.inr rfl, _, rfl, by rw [idx_take hkl hall hqt], rfl⟩
  try simp only [cvS] at c16
  have hqf : q l[k] = false := by simpa using c16
  refine PW.skip ?_
  refine hK3 _ _ ?_
  refine PW.k4 0 1 7 8 rfl rfl rfl rfl ?_
  refine PW.ops ?_
  refine OL.det trivial (.add64 rfl rfl (by omega) (by omega)) ?_
  refine OL.dp rfl ?_
  refine OL.nil ?_
  repeat rw [inBlk_n]
  try rw [thenK_n]
  refine LoopEnd.mk (T'' := [(0, _), (1, _), (7, _), (8, _)]) ⟨rfl, rfl, rfl, rfl, trivial⟩ ?_
  refine ⟨l.length - (k + 1), by omega, k + 1, ⟨by omega, rfl, fun x hx => ?_⟩, rfl, rfl⟩
  rw [vtake_snoc hkl, List.mem_append, List.mem_singleton] at hx
  rcases hx with hx | rfl
  ·exact hall x hx
  exact hqf
 try simp only [cvS] at c9
 refine PW.exit ?_
 refine hK1 _ _ ?_
 refine PW.keep (T' := []) trivial ?_
 refine PW.seqOps ?_
 refine OL.dp rfl ?_
 refine OL.nil ?_
 refine PW.k1 4 rfl ?_
 refine PW.ret ?_
 change (Exit.ret = Exit.normal ∨ Exit.ret = Exit.ret) /\ ∃ v, resV _ _ = some v /\ _
 exact ⟨.inr rfl, _, rfl, by rw [idx_no (fun x hx => hall x (by rw [List.take_of_length_le (by omega)]; exact hx))], rfl⟩
theorem contains_fc {w0 : World} {S : SS} {A : Option Addr} {c : Nat} {l : List Vtx} {v : Vtx} (hx : Rd w0 S A (vtxs l)) (hb : l.length <= 1000000000000) :
  FC Try.prog w0 85 [.slice A l.length c, vtxV v] S (fun u S' => u = .bool (l.any fun x => decide (v = x)) /\ S' = S) := by
 refine FC.ofD Try.known85 (by simp) ?_
 unfold Try.pc85
 simp only [argT]
 refine PW.seqOps ?_
 refine OL.cons trivial (OW.bx rfl) ?_
 rintro _ _ ⟨r3, rfl, rfl⟩
 rw [vtx_box, vtxL_len]
 refine OL.dp rfl ?_
 refine OL.nil ?_
 refine PW.k2 0 3 rfl rfl ?_
 refine PW.seqOps ?_
 refine OL.dp rfl ?_
 refine OL.det trivial (.ldA rfl (vtxL_len _) (all_at (List.mem_flatten.2 ⟨_, .head _, List.mem_singleton.2 rfl⟩))) ?_
 refine OL.call trivial rfl (index_fc hx.cons hb) ?_
 rintro _ Sx ⟨rfl, hSx⟩
 rw [hSx]
 clear hSx
 refine OL.dp rfl ?_
 refine OL.dp rfl ?_
 refine OL.nil ?_
 refine PW.k1 4 rfl ?_
 refine PW.ret ?_
 change (Exit.ret = Exit.normal ∨ Exit.ret = Exit.ret) /\ ∃ v, resV _ _ = some v /\ _
 exact ⟨.inr rfl, _, rfl, _, Sub.drop (Sub.refl _), congrArg Value.bool (by rw [Bool.eq_iff_iff, decide_eq_true_eq]; exact iff_of_eq idx_any), rfl⟩
theorem containsFunc_fc {w0 : World} {S : SS} {A : Option Addr} {c : Nat} {l : List Vtx} {g : FuncId} {ca : List Value} {q : Vtx -> Bool} (hx : Rd w0 S A (vtxs l)) (hb : l.length <= 1000000000000) (hok : fnOk Try.prog g = true)
  (hq : ∀ x ∈ l, FC Try.prog w0 g ([] ++ [vtxV x] ++ ca) S (fun u S' => u = .bool (q x) /\ S' = S)) :
  FC Try.prog w0 54 [.slice A l.length c, .func (.func g) #[] ca.toArray] S (fun u S' => u = .bool (l.any q) /\ S' = S) := by
 refine FC.of Try.known54 (by simp) ?_
 unfold Try.pc54
 simp only [argT]
 refine PW.seqOps ?_
 refine OL.dp rfl ?_
 refine OL.nil ?_
 refine PW.k2 0 1 rfl rfl ?_
 refine PW.seqOps ?_
 refine OL.dp rfl ?_
 refine OL.dp rfl ?_
 refine OL.call trivial rfl (indexFunc_fc hx hb hok hq) ?_
 rintro _ Sx ⟨rfl, hSx⟩
 rw [hSx]
 clear hSx
 refine OL.dp rfl ?_
 refine OL.dp rfl ?_
 refine OL.nil ?_
 refine PW.k1 4 rfl ?_
 refine PW.ret ?_
 change (Exit.ret = Exit.normal ∨ Exit.ret = Exit.ret) /\ ∃ v, resV _ _ = some v /\ _
 exact ⟨.inr rfl, _, rfl, congrArg Value.bool (by rw [Bool.eq_iff_iff, decide_eq_true_eq]; exact iff_of_eq idx_any), rfl⟩
theorem add1_fc {w0 : World} {S X : SS} {m : GrM} {b : Nat} (hm : GOk w0 X m) (hS : Over (GS m ++ X) S) {v : Vtx} (hv : okV v) (hb : Cell w0 S ⟨b, 0, none⟩ m.ptr) : FC Try.prog w0 55 [vtxV v, .pointer (some ⟨b, 0, none⟩)] S (fun u S' => u = .bool (!decide (v ∈ mks m.nodes)) /\ S' = S) := by
 refine FC.ofD Try.known55 (by simp) ?_
 unfold Try.pc55
 simp only [argT]
 refine PW.seqOps ?_
 refine OL.cons trivial (OW.bx rfl) ?_
 rintro _ _ ⟨r2, rfl, rfl⟩
 rw [vtx_box, vtxL_len]
 refine OL.dp rfl ?_
 refine OL.nil ?_
 refine PW.k2 1 2 rfl rfl ?_
 refine PW.seqOps ?_
 refine OL.det trivial (.ld rfl (hb.mono fun p hp => by simp [hp])) ?_
 refine OL.det trivial (.ldA rfl (vtxL_len _) (all_at (List.mem_flatten.2 ⟨_, .head _, List.mem_singleton.2 rfl⟩))) ?_
 refine OL.call trivial rfl (line_fc hm hS.cons hv) ?_
 rintro _ Sx ⟨rfl, hSx⟩
 rw [hSx]
 clear hSx
 refine OL.dp rfl ?_
 refine OL.dp rfl ?_
 refine OL.nil ?_
 refine PW.k1 3 rfl ?_
 refine PW.ret ?_
 change (Exit.ret = Exit.normal ∨ Exit.ret = Exit.ret) /\ ∃ v, resV _ _ = some v /\ _
 exact ⟨.inr rfl, _, rfl, _, Sub.drop (Sub.refl _), rfl, rfl⟩
end Go.Proofs.Gr

namespace Go.SL
open Go.RowKit
section
variable {P : Program} {w0 : World} {n : Nat} {T : TT} {S : SS}
theorem OW.appIn {t E sz bytes i q cap cp r tot k : Nat} {z : Value} {s x : PV} {a : Addr} {c news : List Value} (hs' : s.val T = some (.slice (some ⟨r, 0, none⟩) i cap)) (hk : S[k]? = some [(r, .cells c E tot)])
  (hx : x.val T = some (.slice (some a) q cp)) (hl : news.length = q * sz) (hc : ∀ j u, news[j]? = some u -> Cell w0 S (a.add j) u) (h1 : news.all (·.oneCell') = true)
  (hroom : i + q <= cap) (hfit : i * sz + news.length <= c.length) :
  OW P w0 n (.app t E sz bytes z s x) T S (fun v' S' => v' = .slice (some ⟨r, 0, none⟩) (i + q) cap /\ S' = S.set k [(r, .cells (setAt c (i * sz) news) E tot)]) := by
 intro op ac w Q hco hs hr
 obtain ⟨y, y', cl, ti, ho, hca, hat, har, rfl, rfl, hu, hi, hz, rfl, rfl, hzs, hsz⟩ := cOp_spec P hco
 obtain ⟨hge, C, hC, htot, hpre⟩ := hr.own (r, .cells c E tot) (List.mem_flatten.2 ⟨_, List.mem_of_getElem? hk, by simp⟩)
 simp only at hge hC
 have hlen : c.length <= C.size := by
  have := congrArg List.length hpre
  simp at this
  omega
 have hrun := run_append_room (P := P) w t op.type E ti hu hi r i cap C hC a q cp news hl (fun j u hj => hr.cell (hc j u hj)) (oneCells h1) hroom (by omega)
 unfold Oper.wp
 have hrun' : (execOp ac.eval op).run P w = .ok (.value (.slice (some ⟨r, 0, none⟩) (i + q) cap)) (w.setRow r (C.toList.take (i * ti.size) ++ news ++ C.toList.drop (i * ti.size + news.length)).toArray) := by
  simp only [execOp, ho, resolve, hca, invoke, builtin, hat, har]
  simp [hs.eval hs', hs.eval hx, hrun]
 rw [hrun']
 refine ⟨_, _, rfl, ?_, rfl, rfl⟩
 have hheap := setRow_heap w r C (C.toList.take (i * ti.size) ++ news ++ C.toList.drop (i * ti.size + news.length)).toArray E (0, 0) hC
 refine hr.replace hk (below_setRow w r _ hge) (fun i _ hne => setRow_heap_other w r i _ (by simpa using hne)) (by simp) ?_
 intro p hp
 simp only [List.mem_singleton] at hp
 subst hp
 refine ⟨hge, ⟨_, hheap, ?_, ?_⟩, .inl (by simp)⟩
 ·simp only [List.size_toArray, List.length_append, List.length_take, List.length_drop, Array.length_toList]; omega
 rw [setAt_length, setAt_eq c _ _ (by omega)]
 have := take_lay C.toList (i * ti.size) news c.length (by omega) (by simp; omega)
 rw [hpre] at this
 simpa using this
theorem Yields.sl3 {sz : Nat} {x lo hi mx : Operand} {A : Option Addr} {len cap l h m : Nat} {t E : TypeId} {i : TypeInfo} (hu : P.underlying t = some (.slice E)) (hi' : P.info? E = some i) (hsz : i.size = sz)
  (hx : (cV x).val T = some (.slice A len cap)) (hl : (cV lo).val T = some (.int .i64 (l : Int))) (hh : (cV hi).val T = some (.int .i64 (h : Int))) (hm : (cV mx).val T = some (.int .i64 (m : Int))) (h1 : l <= h) (h2 : h <= m) (h3 : m <= cap) :
  Yields P w0 n (.more (.other (.gen (.slice t x (some lo) (some hi) (some mx))))) T S (.slice (if m = l then A else A.map (·.add (l * sz))) (h - l) (m - l)) := by
 intro o a w hco hs hr
 have ho : o.op = .slice t x (some lo) (some hi) (some mx) := cOp_spec P hco
 subst hsz
 have b1 : ¬ ((cap : Int) < (m : Int)) := by omega
 simp only [execOp, ho, hs.eval hx, hs.eval hl, hs.eval hh, hs.eval hm, Instr.sliceAt, Option.map_some]
 simp [run_underlying hu, Instr.slice, Instr.sliceBounds, Instr.sliceBound, asIntOf, sizeOf, typeInfo, program, hi', Sem.run, h1, h2, h3]
theorem FC.perm {k : FuncId} {args : List Value} {S' : SS} {post : Value -> SS -> Prop} (hp : S.Perm S') (h : FC P w0 k args S' post) : FC P w0 k args S post := fun w hw => h w (hw.permS hp)
end
end Go.SL

namespace Go.SL
open Go.RowKit
section
variable {P : Program} {w0 : World} {n : Nat} {T : TT} {S : SS}
def madeL (z : List Value) (n : Nat) : List Value := (List.range n).map fun i => z.getD (i % z.length) undef
theorem zeroCells_eq {z : Array Value} (h : 0 < z.size) (k : Nat) : (Builtin.zeroCells z k).toList = madeL z.toList (k * z.size) := by
 simp only [Builtin.zeroCells, madeL, Array.toList_map, Array.toList_range]
 apply List.map_congr_left
 intro i _
 have : i % z.size < z.size := Nat.mod_lt _ h
 rw [getElem!_pos z (i % z.size) this]
 simp [List.getD_eq_getElem?_getD, this]
theorem OW.clr {E E' sz b o l cp tot k : Nat} {z : Value} {x : PV} {c news : List Value} (hx : x.val T = some (.slice (some ⟨b, o, none⟩) l cp)) (hk : S[k]? = some [(b, .cells c E' tot)]) (hl : 0 < l) (hz : 0 < z.cells.size)
  (hn : news = madeL z.cells.toList (l * z.cells.size)) (hb : o + news.length <= c.length) (h1 : news.all (·.oneCell') = true) :
  OW P w0 n (.more (.clr E sz z x)) T S (fun v S' => v = .tuple #[] /\ S' = S.set k [(b, .cells (setAt c o news) E' tot)]) := by
 intro op a w Q hco hs hr
 obtain ⟨t, y, cl, i, ho, hca, hat, har, rfl, hu, hi, hiz, hsz, hzs, hs0⟩ := cOp_spec P hco
 obtain ⟨hge, C, hC, htot, hpre⟩ := hr.own (b, .cells c E' tot) (List.mem_flatten.2 ⟨_, List.mem_of_getElem? hk, by simp⟩)
 simp only at hge hC
 have hlen : c.length <= C.size := by
  have := congrArg List.length hpre
  simp at this
  omega
 have hst := run_storeCells_at P b o E' news 0 C w hC (by omega) (fun v hv => (List.all_eq_true.1 h1) v hv)
 simp only [Nat.add_zero] at hst
 unfold Oper.wp
 have hrun : (execOp a.eval op).run P w = .ok (.value (.tuple #[])) (w.setRow b (C.toList.take o ++ news ++ C.toList.drop (o + news.length)).toArray) := by
  simp only [execOp, ho, resolve, hca, invoke, builtin, hat, har]
  obtain ⟨l', rfl⟩ : ∃ l', l = l' + 1 := ⟨l - 1, by omega⟩
  simp [Builtin.clear_, hs.eval hx, run_underlying hu, zeroValue, typeInfo, program, Sem.run, hi, hiz, zeroCells_eq hz, <- hn, hst]
 rw [hrun]
 refine ⟨_, _, rfl, ?_, rfl, rfl⟩
 have hheap := setRow_heap w b C (C.toList.take o ++ news ++ C.toList.drop (o + news.length)).toArray E' (0, 0) hC
 refine hr.replace hk (below_setRow w b _ hge) (fun i _ hne => setRow_heap_other w b i _ (by simpa using hne)) (by simp) ?_
 intro p hp
 simp only [List.mem_singleton] at hp
 subst hp
 refine ⟨hge, ⟨_, hheap, ?_, ?_⟩, .inl (by simp)⟩
 ·simp only [List.size_toArray, List.length_append, List.length_take, List.length_drop, Array.length_toList]; omega
 rw [setAt_length, setAt_eq c o _ (by omega)]
 have := take_lay C.toList o news c.length (by omega) (by simp; omega)
 simp only at this ⊢
 rw [hpre] at this
 simpa using this
end
end Go.SL

namespace Go.Proofs.Gr
open Go.SL Go.RowKit Go.Proofs Go.GP
set_option maxHeartbeats 1000000
instance {p : PartP} : Decidable (Formed p) := decidable_of_iff (p.gone.Nodup /\ (∀ v ∈ p.gone, v ≠ rootV /\ v ≠ endV) /\ 0 <= p.first /\ p.up ≠ endV /\ p.down ≠ rootV) ⟨fun ⟨a, b, c, d, e⟩ => ⟨a, b, c, d, e⟩, fun ⟨a, b, c, d, e⟩ => ⟨a, b, c, d, e⟩⟩
instance {G : Gr} {p : PartP} : Decidable (ThereG G p) := by unfold ThereG; infer_instance
theorem PartR.vtx {p : PartM} (h : PartR p) {i : Nat} (hi : i < p.lines.length) : okV (p.pl.vtx i) := by
 have h1 := h.first
 have h2 := h.lines
 unfold okV PartP.vtx
 show -9223372036854775808 <= p.first + (i : Int) /\ p.first + (i : Int) <= 9223372036854775807
 omega
theorem PartR.name {p : PartM} (h : PartR p) : okV p.pl.name := h.at_
abbrev pseg (r : Nat) (p : PartM) : Seg := [(r, .cells (partC p) 36 102)]
theorem part_st {w0 : World} {S : SS} {P : Program} {n r : Nat} {T : TT} {x v : PV} {u : PartM} {z : List Value} (hx : x.val T = some (.pointer (some ⟨r, 0, none⟩))) (hv : v.val T = some (partV u)) (hz : z.length = 102) :
  OW P w0 n (.st 102 x v) T ([(r, .cells z 36 102)] :: S) (fun _ S' => S' = pseg r u :: S) := by
 refine (OW.st (k := 0) (c := z) (u := partV u) hx hv rfl ((List.size_toArray).trans (partC_len u)) (by omega) (partC_one u)).mono ?_
 rintro _ _ rfl
 rw [part_box, setAll (by rw [partC_len, hz])]
 rfl
theorem vtx_st {w0 : World} {S : SS} {P : Program} {n r : Nat} {T : TT} {x v : PV} {u : Vtx} {z : List Value} (hx : x.val T = some (.pointer (some ⟨r, 0, none⟩))) (hv : v.val T = some (vtxV u)) (hz : z.length = 33) :
  OW P w0 n (.st 33 x v) T ([(r, .cells z 32 33)] :: S) (fun _ S' => S' = vseg r u :: S) := by
 refine (OW.st (k := 0) (c := z) (u := vtxV u) hx hv rfl ((List.size_toArray).trans (vtxL_len u)) (by omega) (vtxL_one u)).mono ?_
 rintro _ _ rfl
 rw [vtx_box, setAll (by rw [vtxL_len, hz])]
 rfl
theorem vtxs_pre {l : List Vtx} (k : Nat) : vtxs (l.take k) <+: vtxs l := ⟨vtxs (l.drop k), by rw [<- vtxs_app, List.take_append_drop]⟩
theorem formed_fc {w0 : World} {S : SS} {p : PartM} (hp : PartOk' w0 S p) : FC Try.prog w0 53 [partV p] S (fun u S' => u = .bool (decide (Formed p.pl)) /\ S' = S) := by
  have hgl := hp.rng.gones
  have hgc := hp.rng.gcap
  have hrd := hp.rdG
  refine FC.ofD Try.known53 (by simp) ?_
  unfold Try.pc53
  simp only [argT]
  refine PW.seqOps ?_
  refine OL.cons trivial (OW.bx rfl) ?_
  rintro _ _ ⟨r1, rfl, rfl⟩
  rw [part_box, partC_len]
  refine OL.dp rfl ?_
  refine OL.nil ?_
  refine PW.k1 1 rfl ?_
  refine PW.seq fun K1 hK1 => ?_
  refine PW.seqOps ?_
  refine OL.dp rfl ?_
  refine OL.det trivial (.ld rfl (part_gone (p := p) (E := 36) (tot := 102) (List.mem_flatten.2 ⟨_, .head _, List.mem_singleton.2 rfl⟩))) ?_
  refine OL.dp rfl ?_
  refine OL.dp rfl ?_
  refine OL.nil ?_
  refine PW.k4 1 6 7 8 rfl rfl rfl rfl ?_
  refine PW.block ?_
  refine PW.k4 1 6 7 8 rfl rfl rfl rfl ?_
  refine PW.loopK (I := fun m T S' => ∃ (k : Nat), (k <= p.gone.length /\ m = p.gone.length - k /\ (p.gone.take k).Nodup /\ ∀ v ∈ p.gone.take k, v ≠ rootV /\ v ≠ endV) /\ T = ([(1, .pointer (some ⟨r1, 0, none⟩)), (6, .slice p.GA p.gone.length p.gc), (7, .int .i64 (p.gone.length : Int)), (8, .int .i64 k)] : TT) /\ S' = pseg r1 p :: S) (m := p.gone.length) ⟨0, ⟨by omega, by omega, by simp, by simp⟩, rfl, rfl⟩ ?_
  rintro m _ _ ⟨k, ⟨hk, hm, hnd, hre⟩, rfl, rfl⟩
  refine PW.seqOps ?_
  refine OL.dp rfl ?_
  refine OL.nil ?_
  refine PW.k5 1 6 7 8 9 rfl rfl rfl rfl rfl ?_
  refine PW.seq fun K2 hK2 => ?_
  refine PW.cond rfl (fun c9 => ?_) (fun c9 => ?_)
  · try simp only [cvS] at c9
    have hkl : k < p.gone.length := by omega
    obtain ⟨a0, ha0⟩ := vtxs_some hrd (by omega)
    have hrd2 := hrd
    rw [ha0] at hrd2
    refine PW.skip ?_
    refine hK2 _ _ ?_
    refine PW.k4 1 6 7 8 rfl rfl rfl rfl ?_
    refine PW.seq fun K3 hK3 => ?_
    refine PW.block ?_
    refine PW.seqOps ?_
    refine OL.dp rfl ?_
    rw [ha0]
    refine OL.det trivial (.ixN rfl rfl rfl (by omega)) ?_
    refine OL.det trivial (.ldA rfl (vtxL_len _) (vtx_at hrd2.cons hkl)) ?_
    refine OL.cons trivial OW.al ?_
    rintro _ _ ⟨r4, rfl, rfl⟩
    refine OL.dp rfl ?_
    refine OL.cons trivial (vtx_st rfl rfl rfl) ?_
    rintro _ _ rfl
    refine OL.nil ?_
    refine PW.k6 1 3 4 6 7 8 rfl rfl rfl rfl rfl rfl ?_
    refine PW.seq fun K4 hK4 => ?_
    refine PW.quietK Try.mixed ?_
    refine QK.det trivial (.ldA rfl (vtxL_len _) (all_at (List.mem_flatten.2 ⟨_, .head _, List.mem_singleton.2 rfl⟩))) ?_
    refine QK.call trivial rfl (root_fc) ?_
    refine QK.det trivial (.eqD (neg := false) rfl rfl (eqL_vtx _ _)) ?_
    refine QK.bool trivial (Yields.pure rfl) (fun g16 => ?_) (fun g16 => ?_)
    · try simp only [cvS] at g16
      refine QK.off rfl rfl ?_
      refine QK.off rfl rfl ?_
      refine QK.off rfl rfl ?_
      refine QK.dp rfl ?_
      refine QK.dp rfl ?_
      refine QK.off rfl rfl ?_
      refine QK.off rfl rfl ?_
      refine QK.off rfl rfl ?_
      refine QK.off rfl rfl ?_
      refine QK.off rfl rfl ?_
      refine QK.nil ?_
      change OL _ _ _ [_, _] _ _ _
      refine OL.off rfl rfl ?_
      refine OL.dp rfl ?_
      refine OL.nil ?_
      refine hK4 _ _ ?_
      refine PW.k5 1 6 7 8 28 rfl rfl rfl rfl rfl ?_
      refine PW.ite (b := true) rfl ?_
      rw [if_pos rfl]
      refine PW.seqOps ?_
      refine OL.dp rfl ?_
      refine OL.nil ?_
      refine PW.k1 2 rfl ?_
      refine PW.ret ?_
      change (Exit.ret = Exit.normal ∨ Exit.ret = Exit.ret) /\ ∃ v, resV _ _ = some v /\ _
      refine ⟨.inr rfl, _, rfl, _, Sub.drop (Sub.drop (Sub.refl _)), congrArg Value.bool (decide_eq_false fun hf => ?_).symm, rfl⟩
      first
        | exact (hf.goneR _ (List.getElem_mem hkl)).1 g16
        | exact (hf.goneR _ (List.getElem_mem hkl)).2 g21
        | (simp only [List.any_eq_true, decide_eq_true_eq] at c28
           obtain ⟨x, hx, rfl⟩ := c28
           obtain ⟨j, hj, e⟩ := List.mem_take_iff_getElem.1 hx
           have := (List.getElem_inj hf.gone0).1 e
           omega)
    try simp only [cvS] at g16
    refine QK.det rfl (.ldA rfl (vtxL_len _) (all_at (List.mem_flatten.2 ⟨_, .head _, List.mem_singleton.2 rfl⟩))) ?_
    refine QK.call rfl rfl (end_fc) ?_
    refine QK.det rfl (.eqD (neg := false) rfl rfl (eqL_vtx _ _)) ?_
    refine QK.dp rfl ?_
    refine QK.bool trivial (Yields.pure rfl) (fun g21 => ?_) (fun g21 => ?_)
    · try simp only [cvS] at g21
      refine QK.off rfl rfl ?_
      refine QK.off rfl rfl ?_
      refine QK.off rfl rfl ?_
      refine QK.off rfl rfl ?_
      refine QK.off rfl rfl ?_
      refine QK.nil ?_
      change OL _ _ _ [_, _] _ _ _
      refine OL.off rfl rfl ?_
      refine OL.dp rfl ?_
      refine OL.nil ?_
      refine hK4 _ _ ?_
      refine PW.k5 1 6 7 8 28 rfl rfl rfl rfl rfl ?_
      refine PW.ite (b := true) rfl ?_
      rw [if_pos rfl]
      refine PW.seqOps ?_
      refine OL.dp rfl ?_
      refine OL.nil ?_
      refine PW.k1 2 rfl ?_
      refine PW.ret ?_
      change (Exit.ret = Exit.normal ∨ Exit.ret = Exit.ret) /\ ∃ v, resV _ _ = some v /\ _
      refine ⟨.inr rfl, _, rfl, _, Sub.drop (Sub.drop (Sub.refl _)), congrArg Value.bool (decide_eq_false fun hf => ?_).symm, rfl⟩
      first
        | exact (hf.goneR _ (List.getElem_mem hkl)).1 g16
        | exact (hf.goneR _ (List.getElem_mem hkl)).2 g21
        | (simp only [List.any_eq_true, decide_eq_true_eq] at c28
           obtain ⟨x, hx, rfl⟩ := c28
           obtain ⟨j, hj, e⟩ := List.mem_take_iff_getElem.1 hx
           have := (List.getElem_inj hf.gone0).1 e
           omega)
    try simp only [cvS] at g21
    refine QK.det rfl (.pure rfl) ?_
    refine QK.det rfl (.ld rfl (part_gone (p := p) (E := 36) (tot := 102) (List.mem_flatten.2 ⟨_, .tail _ (.head _), List.mem_singleton.2 rfl⟩))) ?_
    refine QK.det rfl (.pure rfl) ?_
    refine QK.det rfl (.to (v' := .slice p.GA (p.gone.take k).length p.gc) (Yields.slS (A := p.GA) (len := p.gone.length) (cap := p.gc) (l := 0) (h := k) rfl rfl rfl (.inr ⟨rfl, rfl⟩) (.inl rfl) (by omega) (by omega)) (by rw [cutV0, List.length_take, Nat.min_eq_left (by omega)])) ?_
    refine QK.det rfl (.ldA rfl (vtxL_len _) (all_at (List.mem_flatten.2 ⟨_, .head _, List.mem_singleton.2 rfl⟩))) ?_
    refine QK.nil ?_
    change OL _ _ _ [_, _] _ _ _
    refine OL.call rfl rfl (contains_fc (l := p.gone.take k) ((hrd.pre (vtxs_pre k)).cons.cons) (by rw [List.length_take]; omega)) ?_
    rintro _ Sx ⟨rfl, hSx⟩
    rw [hSx]
    clear hSx
    refine OL.dp rfl ?_
    refine OL.nil ?_
    refine hK4 _ _ ?_
    refine PW.k5 1 6 7 8 28 rfl rfl rfl rfl rfl ?_
    refine PW.cond rfl (fun c28 => ?_) (fun c28 => ?_)
    · try simp only [cvS] at c28
      refine PW.seqOps ?_
      refine OL.dp rfl ?_
      refine OL.nil ?_
      refine PW.k1 2 rfl ?_
      refine PW.ret ?_
      change (Exit.ret = Exit.normal ∨ Exit.ret = Exit.ret) /\ ∃ v, resV _ _ = some v /\ _
      refine ⟨.inr rfl, _, rfl, _, Sub.drop (Sub.drop (Sub.refl _)), congrArg Value.bool (decide_eq_false fun hf => ?_).symm, rfl⟩
      first
        | exact (hf.goneR _ (List.getElem_mem hkl)).1 g16
        | exact (hf.goneR _ (List.getElem_mem hkl)).2 g21
        | (simp only [List.any_eq_true, decide_eq_true_eq] at c28
           obtain ⟨x, hx, rfl⟩ := c28
           obtain ⟨j, hj, e⟩ := List.mem_take_iff_getElem.1 hx
           have := (List.getElem_inj hf.gone0).1 e
           omega)
    try simp only [cvS] at c28
    simp only [List.any_eq_false, decide_eq_true_eq] at c28
    refine PW.skip ?_
    refine hK3 _ _ ?_
    refine PW.k4 1 6 7 8 rfl rfl rfl rfl ?_
    refine PW.ops ?_
    refine OL.det trivial (.add64 rfl rfl (by omega) (by omega)) ?_
    refine OL.dp rfl ?_
    refine OL.nil ?_
    repeat rw [inBlk_n]
    try rw [thenK_n]
    refine LoopEnd.mkS (Sub.drop (Sub.refl _)) (T'' := [(1, _), (6, _), (7, _), (8, _)]) ⟨rfl, rfl, rfl, rfl, trivial⟩ ?_
    refine ⟨p.gone.length - (k + 1), by omega, k + 1, ⟨by omega, rfl, ?_, ?_⟩, by rw [ha0]; rfl, rfl⟩
    · rw [vtake_snoc hkl, List.nodup_append]
      refine ⟨hnd, by simp, fun a ha b hb e => ?_⟩
      rw [List.mem_singleton] at hb
      subst hb; subst e
      exact c28 _ ha rfl
    intro x hx
    rw [vtake_snoc hkl, List.mem_append, List.mem_singleton] at hx
    rcases hx with hx | rfl
    · exact hre x hx
    exact ⟨g16, g21⟩
  try simp only [cvS] at c9
  refine PW.exit ?_
  refine hK1 _ _ ?_
  refine PW.k1 1 rfl ?_
  refine PW.seq fun K5 hK5 => ?_
  refine PW.quietK Try.mixed ?_
  refine QK.dp rfl ?_
  refine QK.det trivial (.ld rfl (part_first (p := p) (E := 36) (tot := 102) (List.mem_flatten.2 ⟨_, .head _, List.mem_singleton.2 rfl⟩))) ?_
  refine QK.dp rfl ?_
  refine QK.bool trivial (Yields.pure rfl) (fun g33 => ?_) (fun g33 => ?_)
  · try simp only [cvS] at g33
    refine QK.det rfl (.pure rfl) ?_
    refine QK.det rfl (.ldA rfl (vtxL_len _) (part_up (p := p) (E := 36) (tot := 102) (List.mem_flatten.2 ⟨_, .head _, List.mem_singleton.2 rfl⟩))) ?_
    refine QK.call rfl rfl (end_fc) ?_
    refine QK.det rfl (.eqD (neg := true) rfl rfl (eqL_vtx _ _)) ?_
    refine QK.dp rfl ?_
    refine QK.bool trivial (Yields.pure rfl) (fun g39 => ?_) (fun g39 => ?_)
    · try simp only [cvS] at g39
      refine QK.det rfl (.pure rfl) ?_
      refine QK.det rfl (.ldA rfl (vtxL_len _) (part_down (p := p) (E := 36) (tot := 102) (List.mem_flatten.2 ⟨_, .head _, List.mem_singleton.2 rfl⟩))) ?_
      refine QK.call rfl rfl (root_fc) ?_
      refine QK.nil ?_
      change OL _ _ _ [_, _, _] _ _ _
      refine OL.det rfl (.eqD (neg := true) rfl rfl (eqL_vtx _ _)) ?_
      refine OL.dp rfl ?_
      refine OL.dp rfl ?_
      refine OL.nil ?_
      refine hK5 _ _ ?_
      refine PW.k1 2 rfl ?_
      refine PW.ret ?_
      change (Exit.ret = Exit.normal ∨ Exit.ret = Exit.ret) /\ ∃ v, resV _ _ = some v /\ _
      have hke : k = p.gone.length := by omega
      rw [hke, List.take_length] at hnd hre
      have hiff : Formed p.pl ↔ 0 <= p.first /\ p.up ≠ endV /\ p.down ≠ rootV := ⟨fun h => ⟨h.first, h.upE, h.downR⟩, fun h => ⟨hnd, hre, h.1, h.2.1, h.2.2⟩⟩
      refine ⟨.inr rfl, _, rfl, _, Sub.drop (Sub.refl _), ?_, rfl⟩
      first
        | exact congrArg Value.bool (decide_eq_false fun hf => g33 (hiff.1 hf).1).symm
        | exact congrArg Value.bool (decide_eq_false fun hf => (hiff.1 hf).2.1 g39).symm
        | (refine congrArg Value.bool (show (!decide (p.down = rootV)) = decide (Formed p.pl) from ?_)
           rw [Bool.eq_iff_iff]
           simp only [Bool.not_eq_true', decide_eq_false_iff_not, decide_eq_true_eq, hiff]
           exact ⟨fun h => ⟨g33, g39, h⟩, fun h => h.2.2⟩)
    try simp only [cvS] at g39
    refine QK.off rfl rfl ?_
    refine QK.off rfl rfl ?_
    refine QK.off rfl rfl ?_
    refine QK.nil ?_
    change OL _ _ _ [_, _, _] _ _ _
    refine OL.off rfl rfl ?_
    refine OL.dp rfl ?_
    refine OL.dp rfl ?_
    refine OL.nil ?_
    refine hK5 _ _ ?_
    refine PW.k1 2 rfl ?_
    refine PW.ret ?_
    change (Exit.ret = Exit.normal ∨ Exit.ret = Exit.ret) /\ ∃ v, resV _ _ = some v /\ _
    have hke : k = p.gone.length := by omega
    rw [hke, List.take_length] at hnd hre
    have hiff : Formed p.pl ↔ 0 <= p.first /\ p.up ≠ endV /\ p.down ≠ rootV := ⟨fun h => ⟨h.first, h.upE, h.downR⟩, fun h => ⟨hnd, hre, h.1, h.2.1, h.2.2⟩⟩
    refine ⟨.inr rfl, _, rfl, _, Sub.drop (Sub.refl _), ?_, rfl⟩
    first
      | exact congrArg Value.bool (decide_eq_false fun hf => g33 (hiff.1 hf).1).symm
      | exact congrArg Value.bool (decide_eq_false fun hf => (hiff.1 hf).2.1 g39).symm
      | (refine congrArg Value.bool (show (!decide (p.down = rootV)) = decide (Formed p.pl) from ?_)
         rw [Bool.eq_iff_iff]
         simp only [Bool.not_eq_true', decide_eq_false_iff_not, decide_eq_true_eq, hiff]
         exact ⟨fun h => ⟨g33, g39, h⟩, fun h => h.2.2⟩)
  try simp only [cvS] at g33
  refine QK.off rfl rfl ?_
  refine QK.off rfl rfl ?_
  refine QK.off rfl rfl ?_
  refine QK.off rfl rfl ?_
  refine QK.dp rfl ?_
  refine QK.dp rfl ?_
  refine QK.off rfl rfl ?_
  refine QK.off rfl rfl ?_
  refine QK.off rfl rfl ?_
  refine QK.nil ?_
  change OL _ _ _ [_, _, _] _ _ _
  refine OL.off rfl rfl ?_
  refine OL.dp rfl ?_
  refine OL.dp rfl ?_
  refine OL.nil ?_
  refine hK5 _ _ ?_
  refine PW.k1 2 rfl ?_
  refine PW.ret ?_
  change (Exit.ret = Exit.normal ∨ Exit.ret = Exit.ret) /\ ∃ v, resV _ _ = some v /\ _
  have hke : k = p.gone.length := by omega
  rw [hke, List.take_length] at hnd hre
  have hiff : Formed p.pl ↔ 0 <= p.first /\ p.up ≠ endV /\ p.down ≠ rootV := ⟨fun h => ⟨h.first, h.upE, h.downR⟩, fun h => ⟨hnd, hre, h.1, h.2.1, h.2.2⟩⟩
  refine ⟨.inr rfl, _, rfl, _, Sub.drop (Sub.refl _), ?_, rfl⟩
  first
    | exact congrArg Value.bool (decide_eq_false fun hf => g33 (hiff.1 hf).1).symm
    | exact congrArg Value.bool (decide_eq_false fun hf => (hiff.1 hf).2.1 g39).symm
    | (refine congrArg Value.bool (show (!decide (p.down = rootV)) = decide (Formed p.pl) from ?_)
       rw [Bool.eq_iff_iff]
       simp only [Bool.not_eq_true', decide_eq_false_iff_not, decide_eq_true_eq, hiff]
       exact ⟨fun h => ⟨g33, g39, h⟩, fun h => h.2.2⟩)
theorem there_fc {w0 : World} {S X : SS} {m : GrM} {p : PartM} (hm : GOk w0 X m) (hS : Over (GS m ++ X) S) (hp : PartR p) : FC Try.prog w0 52 [m.ptr, partV p] S (fun u S' => u = .bool (decide (ThereG m.gr p.pl)) /\ S' = S) := by
 obtain ⟨z, hz1, hz2⟩ := zero36
 have hll := hp.lines
 have hthere : ThereG m.gr p.pl ↔ p.pl.name ∈ mks m.parts ∨ ∃ v ∈ own p.pl, v ∈ mks m.nodes := by
  unfold ThereG
  show _ ∈ mks (plP m.parts) ∨ (∃ v ∈ _, v ∈ mks (plN m.nodes)) ↔ _
  rw [mks_plP, mks_plN]
 refine FC.ofD Try.known52 (by simp) ?_
 unfold Try.pc52
 simp only [argT]
 refine PW.seqOps ?_
 refine OL.cons trivial (OW.bx rfl) ?_
 rintro _ _ ⟨r3, rfl, rfl⟩
 rw [part_box, partC_len]
 refine OL.dp rfl ?_
 refine OL.nil ?_
 refine PW.k2 0 3 rfl rfl ?_
 refine PW.seq fun K1 hK1 => ?_
 refine PW.seq fun K2 hK2 => ?_
 have hS1 : Over (GS m ++ X) (pseg r3 p :: S) := hS.cons
 refine PW.quietG (Ss := Over (pseg r3 p :: S)) (fr := false) [(0, 0), (1, 0), (2, 0), (3, 0), (4, 0), (5, 0), (6, 0), (7, 0), (8, 0), (9, 0), (10, 0), (11, 0), (12, 0), (13, 2), (14, 2)] Try.mixed (by decide +kernel) (Over.refl _) (fun h => by cases h) ?_
 refine GL.dp rfl ?_
 refine GL.det trivial (fun Sx hSx => Yields.nilc rfl) ?_
 refine GL.dp rfl ?_
 refine GL.det trivial (fun Sx hSx => Yields.ld rfl (g_parts (hS1.trans hSx))) ?_
 refine GL.dp rfl ?_
 refine GL.det trivial (fun Sx hSx => Yields.ldA rfl (hb_len _) (part_patch (p := p) (E := 36) (tot := 102) (hSx _ (List.mem_flatten.2 ⟨_, .head _, List.mem_singleton.2 rfl⟩)))) ?_
 refine GL.dp rfl ?_
 refine GL.det trivial (fun Sx hSx => Yields.ld rfl (part_at (p := p) (E := 36) (tot := 102) (hSx _ (List.mem_flatten.2 ⟨_, .head _, List.mem_singleton.2 rfl⟩)))) ?_
 refine GL.det trivial (fun Sx hSx => Yields.build (fill_vtx rfl rfl)) ?_
 refine GL.det trivial (fun Sx hSx => Yields.lookG (okc := true) (a := p.pl.name) Try.underlying54 hz1 hz2 keys97 hm.pk hp.name rfl rfl (GS_mem (hS1.trans hSx)).2.1) ?_
 refine GL.dp rfl ?_
 refine GL.dp rfl ?_
 refine GL.dp rfl ?_
 refine GL.lo trivial (OW.mono (OW.al) ?_)
 rintro _ _ ⟨r5, rfl, rfl⟩
 refine ⟨(Over.refl _).cons, ?_⟩
 refine GL.lo trivial (OW.mono (part_st rfl rfl rfl) ?_)
 rintro _ _ rfl
 refine ⟨(Over.refl _).cons, ?_⟩
 refine OL.subS (S' := pseg r3 p :: S) (Sub.drop (Sub.refl _)) ?_
 change OL _ _ _ [_] _ _ _
 refine OL.dp rfl ?_
 refine OL.nil ?_
 refine hK2 _ _ ?_
 refine PW.k3 0 3 6 rfl rfl rfl ?_
 refine PW.seqOps ?_
 refine OL.dp rfl ?_
 refine OL.nil ?_
 refine PW.k3 0 3 21 rfl rfl rfl ?_
 refine PW.cond rfl (fun c21 => ?_) (fun c21 => ?_)
 ·rw [isSome_mks] at c21; try simp only [cvS] at c21
  refine PW.seqOps ?_
  refine OL.dp rfl ?_
  refine OL.nil ?_
  refine PW.k1 4 rfl ?_
  refine PW.ret ?_
  change (Exit.ret = Exit.normal ∨ Exit.ret = Exit.ret) /\ ∃ v, resV _ _ = some v /\ _
  exact ⟨.inr rfl, _, rfl, _, Sub.drop (Sub.refl _), congrArg Value.bool (decide_eq_true (hthere.2 (.inl c21))).symm, rfl⟩
 rw [isSome_mks] at c21; try simp only [cvS] at c21
 refine PW.skip ?_
 refine hK1 _ _ ?_
 refine PW.k2 0 3 rfl rfl ?_
 refine PW.seq fun K3 hK3 => ?_
 refine PW.seqOps ?_
 refine OL.dp rfl ?_
 refine OL.det trivial (.ld rfl (part_lines (p := p) (E := 36) (tot := 102) (List.mem_flatten.2 ⟨_, .head _, List.mem_singleton.2 rfl⟩))) ?_
 refine OL.dp rfl ?_
 refine OL.dp rfl ?_
 refine OL.nil ?_
 refine PW.k4 0 3 24 25 rfl rfl rfl rfl ?_
 refine PW.block ?_
 refine PW.k4 0 3 24 25 rfl rfl rfl rfl ?_
 refine PW.loopK (I := fun mm T S' => ∃ (k : Nat), (k <= p.lines.length /\ mm = p.lines.length - k /\ ∀ i, i < k -> p.pl.vtx i ∉ mks m.nodes) /\ T = ([(0, m.ptr), (3, .pointer (some ⟨r3, 0, none⟩)), (24, .int .i64 (p.lines.length : Int)), (25, .int .i64 k)] : TT) /\ S' = pseg r3 p :: S) (m := p.lines.length) ⟨0, ⟨by omega, by omega, fun i h => absurd h (by omega)⟩, rfl, rfl⟩ ?_
 rintro mm _ _ ⟨k, ⟨hk, hmm, hall⟩, rfl, rfl⟩
 refine PW.seqOps ?_
 refine OL.dp rfl ?_
 refine OL.nil ?_
 refine PW.k5 0 3 24 25 26 rfl rfl rfl rfl rfl ?_
 refine PW.seq fun K4 hK4 => ?_
 refine PW.cond rfl (fun c26 => ?_) (fun c26 => ?_)
 ·try simp only [cvS] at c26
  have hkl : k < p.lines.length := by omega
  refine PW.skip ?_
  refine hK4 _ _ ?_
  refine PW.k4 0 3 24 25 rfl rfl rfl rfl ?_
  refine PW.seq fun K5 hK5 => ?_
  refine PW.block ?_
  refine PW.seqOps ?_
  refine OL.dp rfl ?_
  refine OL.dp rfl ?_
  refine OL.nil ?_
  refine PW.k5 0 3 7 24 25 rfl rfl rfl rfl rfl ?_
  refine PW.seqOps ?_
  refine OL.dp rfl ?_
  refine OL.det trivial (.ldA rfl (partC_len _) (all_at (List.mem_flatten.2 ⟨_, .head _, List.mem_singleton.2 rfl⟩))) ?_
  refine OL.dp rfl ?_
  refine OL.call trivial rfl (vertex_fc (i := k) hp (by omega)) ?_
  rintro _ Sx ⟨rfl, hSx⟩
  rw [hSx]
  clear hSx
  refine OL.call trivial rfl (line_fc hm hS1 (hp.vtx hkl)) ?_
  rintro _ Sx ⟨rfl, hSx⟩
  rw [hSx]
  clear hSx
  refine OL.nil ?_
  refine PW.k5 0 3 24 25 32 rfl rfl rfl rfl rfl ?_
  refine PW.cond rfl (fun c32 => ?_) (fun c32 => ?_)
  ·try simp only [cvS] at c32
   refine PW.seqOps ?_
   refine OL.dp rfl ?_
   refine OL.nil ?_
   refine PW.k1 4 rfl ?_
   refine PW.ret ?_
   change (Exit.ret = Exit.normal ∨ Exit.ret = Exit.ret) /\ ∃ v, resV _ _ = some v /\ _
   exact ⟨.inr rfl, _, rfl, _, Sub.drop (Sub.refl _), congrArg Value.bool (decide_eq_true (hthere.2 (.inr ⟨_, mem_own.2 ⟨k, hkl, rfl⟩, c32⟩))).symm, rfl⟩
  try simp only [cvS] at c32
  refine PW.skip ?_
  refine hK5 _ _ ?_
  refine PW.k4 0 3 24 25 rfl rfl rfl rfl ?_
  refine PW.ops ?_
  refine OL.det trivial (.add64 rfl rfl (by omega) (by omega)) ?_
  refine OL.dp rfl ?_
  refine OL.nil ?_
  repeat rw [inBlk_n]
  try rw [thenK_n]
  refine LoopEnd.mk (T'' := [(0, _), (3, _), (24, _), (25, _)]) ⟨rfl, rfl, rfl, rfl, trivial⟩ ?_
  refine ⟨p.lines.length - (k + 1), by omega, k + 1, ⟨by omega, rfl, fun i hi => ?_⟩, rfl, rfl⟩
  by_cases h : i = k
  ·subst h; exact c32
  exact hall i (by omega)
 try simp only [cvS] at c26
 refine PW.exit ?_
 refine hK3 _ _ ?_
 refine PW.keep (T' := []) trivial ?_
 refine PW.seqOps ?_
 refine OL.dp rfl ?_
 refine OL.nil ?_
 refine PW.k1 4 rfl ?_
 refine PW.ret ?_
 change (Exit.ret = Exit.normal ∨ Exit.ret = Exit.ret) /\ ∃ v, resV _ _ = some v /\ _
 refine ⟨.inr rfl, _, rfl, _, Sub.drop (Sub.refl _), congrArg Value.bool (decide_eq_false fun h => ?_).symm, rfl⟩
 rcases hthere.1 h with h | ⟨v, hv, h⟩
 ·exact c21 h
 obtain ⟨i, hi, rfl⟩ := mem_own.1 hv
 exact hall i (by have : i < p.lines.length := hi; omega) h
end Go.Proofs.Gr

namespace Go.Proofs.Gr
open Go.SL Go.RowKit Go.Proofs Go.GP
theorem mem_mpt {α β : Type} [DecidableEq α] {l : List (α × β)} {a : α} {b : β} {q : α × β} (h : q ∈ mpt l a b) : q = (a, b) ∨ q ∈ l := by
 induction l with
 | nil => simpa [mpt] using h
 | cons p l ih =>
  unfold mpt at h
  split at h
  ·rcases List.mem_cons.1 h with h | h
   ·exact .inl h
   exact .inr (List.mem_cons_of_mem _ h)
  rcases List.mem_cons.1 h with h | h
  ·exact .inr (by rw [h]; exact List.mem_cons_self)
  exact (ih h).imp_right (List.mem_cons_of_mem _)
theorem mem_mdl {α β : Type} [DecidableEq α] {l : List (α × β)} {a : α} {q : α × β} (h : q ∈ mdl l a) : q ∈ l := (List.mem_filter.1 h).1
theorem _root_.Go.SL.Rd.junkR {w0 : World} {a b : Seg} {A : Option Addr} {l : List Value} {X : SS} (h : Rd w0 (a :: X) A l) : Rd w0 ((a ++ b) :: X) A l := h.mono fun p hp => by simp only [List.flatten_cons, List.mem_append] at hp ⊢; exact hp.imp_left .inl
theorem _root_.Go.SL.Rd.junkL {w0 : World} {a b : Seg} {A : Option Addr} {l : List Value} {X : SS} (h : Rd w0 [b] A l) : Rd w0 ((a ++ b) :: X) A l := h.mono fun p hp => by simp only [List.flatten_cons, List.flatten_nil, List.append_nil, List.mem_append] at hp ⊢; exact .inl (.inr hp)
theorem _root_.Go.SL.Rd.jmono {w0 : World} {X : SS} {a b : Seg} {A : Option Addr} {l : List Value} (h : Rd w0 (a :: X) A l) (hj : ∀ x ∈ a, x ∈ b) : Rd w0 (b :: X) A l := h.mono fun p hp => by
 rw [List.flatten_cons, List.mem_append] at hp ⊢
 exact hp.imp_left (hj p)
theorem NodeOk'.grow {w0 : World} {X : SS} {a b : Seg} {i j : Nat} {n : NodeM} (h : NodeOk' w0 (a :: X) i n) (hij : i <= j) : NodeOk' w0 ((a ++ b) :: X) j n :=
 ⟨h.rd.junkR, h.ok, Nat.le_trans h.len hij, by have := h.gone; omega, by have := h.named; omega⟩
theorem PartOk'.grow {w0 : World} {X : SS} {a b : Seg} {p : PartM} (h : PartOk' w0 (a :: X) p) : PartOk' w0 ((a ++ b) :: X) p := ⟨h.rdL.junkR, h.rdG.junkR, h.rng⟩
theorem GOk.node' {w0 : World} {X : SS} {m : GrM} {seg : Seg} {k : Nat} {a : Vtx} {n : NodeM} (hm : GOk w0 X m) (ha : okV a) (hn : NodeOk' w0 ((m.junk ++ seg) :: X) (m.lim + k) n) (hk : m.lim + k <= 1000000000000) :
  GOk w0 X { m with nodes := mpt m.nodes a n, junk := m.junk ++ seg, lim := m.lim + k } where
 pk := hm.pk
 part := fun q hq => (hm.part q hq).grow
 nk := fun q hq => by
  rcases mem_mpt hq with rfl | h
  ·exact ha
  exact hm.nk q h
 node := fun q hq => by
  rcases mem_mpt hq with rfl | h
  ·exact hn
  exact (hm.node q h).grow (Nat.le_add_right _ _)
 first := hm.first.junkR
 firstOk := hm.firstOk
 firstLen := Nat.le_trans hm.firstLen (Nat.le_add_right _ _)
 lim := hk
 pkd := hm.pkd
 nkd := mpt_nodup hm.nkd _ _
theorem GOk.node0 {w0 : World} {X : SS} {m : GrM} {k : Nat} {a : Vtx} {n : NodeM} (hm : GOk w0 X m) (ha : okV a) (hn : NodeOk' w0 (m.junk :: X) (m.lim + k) n) (hk : m.lim + k <= 1000000000000) :
  GOk w0 X { m with nodes := mpt m.nodes a n, lim := m.lim + k } where
 pk := hm.pk
 part := hm.part
 nk := fun q hq => by
  rcases mem_mpt hq with rfl | h
  ·exact ha
  exact hm.nk q h
 node := fun q hq => by
  rcases mem_mpt hq with rfl | h
  ·exact hn
  have := hm.node q h
  exact ⟨this.rd, this.ok, Nat.le_trans this.len (Nat.le_add_right _ _), by have := this.gone; show -((m.lim + k : Nat) : Int) <= _ /\ _ <= ((m.lim + k : Nat) : Int); omega, by have := this.named; show -((m.lim + k : Nat) : Int) <= _ /\ _ <= ((m.lim + k : Nat) : Int); omega⟩
 first := hm.first
 firstOk := hm.firstOk
 firstLen := Nat.le_trans hm.firstLen (Nat.le_add_right _ _)
 lim := hk
 pkd := hm.pkd
 nkd := mpt_nodup hm.nkd _ _
theorem edgeL_get {V : Type} : ∀ {l : List V} {i : Nat} (h : i + 1 < l.length), (edgeL l)[i]? = some (l[i], l[i + 1])
 | a :: b :: r, 0, _ => rfl
 | a :: b :: r, i + 1, h => by
  have := edgeL_get (l := b :: r) (i := i) (by simpa using h)
  simpa [edgeL] using this
theorem edgeL_len {V : Type} : ∀ (l : List V), (edgeL l).length = l.length - 1
 | [] => rfl
 | [_] => rfl
 | a :: b :: r => by
  have := edgeL_len (b :: r)
  simp only [edgeL, List.length_cons] at this ⊢
  omega
theorem edgeL_take {V : Type} {l : List V} {i : Nat} (h : i + 1 < l.length) : (edgeL l).take (i + 1) = (edgeL l).take i ++ [(l[i], l[i + 1])] := by
 rw [List.take_add_one, edgeL_get h]; rfl
theorem linksG_snoc (t : Bool) (G : Gr) (es : List (Vtx × Vtx)) (e : Vtx × Vtx) : linksG t G (es ++ [e]) = linkG t (linksG t G es) e := by
 unfold linksG; rw [List.foldl_append]; rfl
theorem way_len (p : PartP) : (way p).length = p.lines.length + 2 := by simp [way, own_len]
theorem names_len (p : PartP) : (names p).length = p.gone.length + 2 := rfl
theorem fill_one {T : TT} {v : Vtx} {x : PV} {zero : List Value} (h : x.val T = some (vtxV v)) (hz : zero.length = 33) : fillP T zero [(0, 33, x)] = some (vtxL v) := by
 simp only [fillP, h]
 rw [if_pos ⟨(List.size_toArray).trans (vtxL_len v), by omega⟩]
 exact congrArg some (setAll (by rw [hz]; exact (vtxL_len v).symm))
theorem fill_two {T : TT} {v u : Vtx} {x y : PV} {zero : List Value} (h : x.val T = some (vtxV v)) (h2 : y.val T = some (vtxV u)) (hz : zero.length = 66) : fillP T zero [(0, 33, x), (33, 33, y)] = some (vtxs [v, u]) := by
 have e1 : (vtxL v).length = 33 := vtxL_len v
 have e2 : (vtxL u).length = 33 := vtxL_len u
 have f1 : (setAt zero 0 (vtxL v)).length = 66 := by rw [setAt_length]; exact hz
 simp only [fillP, h, h2]
 rw [if_pos ⟨(List.size_toArray).trans (vtxL_len v), by omega⟩]
 show (if (vtxV u).cells.size = 33 /\ 33 + 33 <= (setAt zero 0 (vtxL v)).length then some (setAt (setAt zero 0 (vtxL v)) 33 (vtxL u)) else none) = _
 rw [if_pos ⟨(List.size_toArray).trans (vtxL_len u), by omega⟩]
 congr 1
 rw [setAt_eq _ _ _ (by omega), setAt_eq zero 0 _ (by omega)]
 rw [show List.take 0 zero = [] from rfl, List.nil_append, List.take_append_of_le_length (by omega), List.take_of_length_le (by omega), List.drop_eq_nil_of_le (by rw [List.length_append, List.length_drop]; omega)]
 simp [vtxs]
theorem _root_.Go.SL.OW.appL {P : Program} {w0 : World} {n : Nat} {T : TT} {S : SS} {t E sz bytes m q c k : Nat} {z v : Value} {s x : PV} {A : Option Addr} {xs news : List Value} {seg : Seg} (hs' : s.val T = some v) (hk : S[k]? = some seg) (hv : SlV E sz v m xs seg)
  (hx : x.val T = some (.slice A q c)) (hl : news.length = q * sz) (hrd : Rd w0 S A news) (hsz : 0 < sz) (hc : A = none -> c = 0) (h1 : news.all (·.oneCell') = true)
  (hb : (m + q) * bytes <= 140737488355328) (h63 : m + q <= maxLen) :
  OW P w0 n (.app t E sz bytes z s x) T S (fun v' S' => ∃ seg', S' = S.set k seg' /\ SlV E sz v' (m + q) (xs ++ news) seg') := by
 cases A with
 | none =>
  obtain rfl := hc rfl
  have : news = [] := by
   cases news with
   | nil => rfl
   | cons b l => obtain ⟨_, e, _⟩ := hrd 0 _ rfl; cases e
  subst this
  have : q = 0 := by
   rcases Nat.eq_zero_or_pos q with h | h
   ·exact h
   have := Nat.mul_pos h hsz
   simp at hl
   omega
  subst this
  refine (OW.of_yields (OW.app_none (P := P) (w0 := w0) (n := n) (t := t) (bytes := bytes) (z := z) hs' hk hv hx)).mono ?_
  rintro v' S' ⟨rfl, rfl⟩
  refine ⟨seg, ?_, by simpa using hv⟩
  obtain ⟨A, R, rfl, rfl⟩ := split_at hk
  exact (set_at rfl).symm
 | some a =>
  exact OW.app hs' hk hv hx hl (fun j u hj => hrd.at hj) h1 hb h63
theorem GOk.first' {w0 : World} {X : SS} {m : GrM} {seg : Seg} {k c : Nat} {A : Option Addr} {l : List Vtx} (hm : GOk w0 X m) (hr : Rd w0 ((m.junk ++ seg) :: X) A (vtxs l)) (ho : ∀ v ∈ l, okV v) (hl : l.length <= m.lim + k) (hk : m.lim + k <= 1000000000000) :
  GOk w0 X { m with FA := A, fc := c, first := l, junk := m.junk ++ seg, lim := m.lim + k } where
 pk := hm.pk
 part := fun q hq => (hm.part q hq).grow
 nk := hm.nk
 node := fun q hq => (hm.node q hq).grow (Nat.le_add_right _ _)
 first := hr
 firstOk := ho
 firstLen := hl
 lim := hk
 pkd := hm.pkd
 nkd := hm.nkd
theorem slv_rdL {w0 : World} {E sz m : Nat} {v : Value} {xs : List Value} {seg : Seg} (hv : SlV E sz v m xs seg) : ∃ A cap, v = .slice A m cap /\ (A = none -> cap = 0) /\ m <= cap /\ ∀ S, Rd w0 (seg :: S) A xs := by
 obtain ⟨hl, ⟨rfl, rfl, rfl⟩ | ⟨r, cap, rfl, rfl, h1, h2⟩⟩ := hv
 ·have : xs = [] := List.eq_nil_of_length_eq_zero (by simpa using hl)
  subst this
  exact ⟨none, 0, rfl, fun _ => rfl, Nat.le_refl _, fun S => Rd.nil⟩
 exact ⟨some ⟨r, 0, none⟩, cap, rfl, fun h => by (cases h), h1, fun S => Rd.own (E := E) (tot := cap * sz) (by simp)⟩
theorem slv_own {E sz m : Nat} {v : Value} {xs : List Value} {seg : Seg} (hv : SlV E sz v m xs seg) (h : 0 < m) : ∃ r cap, v = .slice (some ⟨r, 0, none⟩) m cap /\ seg = [(r, .cells xs E (cap * sz))] /\ m <= cap /\ cap <= maxLen := by
 obtain ⟨hl, ⟨rfl, rfl, rfl⟩ | h2⟩ := hv
 ·omega
 exact h2
theorem owns_take {w : World} {b E tot : Nat} {c : List Value} (m : Nat) (h : Owns w b (.cells c E tot)) : Owns w b (.cells (c.take m) E tot) := by
 obtain ⟨C, h1, h2, h3⟩ := h
 refine ⟨C, h1, h2, ?_⟩
 rw [<- h3]
 simp [List.take_take]
theorem vtxs_eraseIdx (l : List Vtx) (i : Nat) : vtxs (l.eraseIdx i) = vtxs (l.take i) ++ vtxs (l.drop (i + 1)) := by rw [List.eraseIdx_eq_take_drop_succ, vtxs_app]
theorem vtxs_take (l : List Vtx) (i : Nat) (h : i <= l.length) : (vtxs l).take (i * 33) = vtxs (l.take i) := by
 have e : vtxs l = vtxs (l.take i) ++ vtxs (l.drop i) := by rw [<- vtxs_app, List.take_append_drop]
 have hl : (vtxs (l.take i)).length = i * 33 := by rw [vtxs_len, List.length_take, Nat.min_eq_left h]
 rw [e, List.take_append_of_le_length (by omega), List.take_of_length_le (by omega)]
theorem vtxs_drop (l : List Vtx) (i : Nat) (h : i <= l.length) : (vtxs l).drop (i * 33) = vtxs (l.drop i) := by
 have e : vtxs l = vtxs (l.take i) ++ vtxs (l.drop i) := by rw [<- vtxs_app, List.take_append_drop]
 have hl : (vtxs (l.take i)).length = i * 33 := by rw [vtxs_len, List.length_take, Nat.min_eq_left h]
 rw [e, List.drop_append_of_le_length (by omega), List.drop_eq_nil_of_le (by omega), List.nil_append]
theorem cut_rd {w0 : World} {S : SS} {r cap j : Nat} {l : List Vtx} (h : Rd w0 S (some ⟨r, 0, none⟩) (vtxs l)) (hj : j <= l.length) (hc : l.length <= cap) :
  ∃ a, (if cap = j then some (⟨r, 0, none⟩ : Addr) else (some (⟨r, 0, none⟩ : Addr)).map (·.add (j * 33))) = some a /\ ∀ (i : Nat) (u : Value), (vtxs (l.drop j))[i]? = some u -> Cell w0 S (a.add i) u := by
 by_cases e : cap = j
 ·have : l.drop j = [] := List.drop_eq_nil_of_le (by omega)
  rw [if_pos e, this]
  exact ⟨_, rfl, fun i u hi => by simp [vtxs] at hi⟩
 rw [if_neg e]
 refine ⟨_, rfl, fun i u hi => ?_⟩
 rw [addr_add_add]
 refine h.at ?_
 rw [<- vtxs_drop l j hj, List.getElem?_drop] at hi
 exact hi
theorem del_cells {l : List Vtx} {i : Nat} {Z : List Value} (hi : i < l.length) (hz : Z.length = 33) :
  (setAt (setAt (vtxs l) (i * 33) (vtxs (l.drop (i + 1)))) ((l.length - 1) * 33) Z).take ((l.length - 1) * 33) = vtxs (l.eraseIdx i) := by
 have h1 : i * 33 + (vtxs (l.drop (i + 1))).length = (l.length - 1) * 33 := by rw [vtxs_len, List.length_drop]; omega
 have h2 : (vtxs l).length = l.length * 33 := vtxs_len l
 have h3 : (setAt (vtxs l) (i * 33) (vtxs (l.drop (i + 1)))).length = l.length * 33 := by rw [setAt_length, h2]
 rw [setAt_eq _ _ _ (by rw [h3, hz]; omega), setAt_eq _ _ _ (by rw [h2]; omega), h1]
 have h4 : ((vtxs l).take (i * 33) ++ vtxs (l.drop (i + 1))).length = (l.length - 1) * 33 := by
  rw [List.length_append, List.length_take, h2, <- h1]
  omega
 rw [List.append_assoc, List.take_append_of_le_length (by rw [List.length_take, List.length_append, h4]; omega), List.take_take, Nat.min_self, List.take_append_of_le_length (by omega), List.take_of_length_le (by omega), vtxs_take _ _ (by omega), vtxs_eraseIdx]
theorem erase_idx {l : List Vtx} {v : Vtx} {k : Nat} (hk : idxZ (fun x => decide (v = x)) l = (k : Int)) : k < l.length /\ l.eraseIdx k = l.erase v := by
 unfold idxZ at hk
 split at hk
 ·rename_i j hj
  have : j = k := by omega
  subst this
  obtain ⟨h1, h2, h3⟩ := List.findIdx?_eq_some_iff_getElem.1 hj
  refine ⟨h1, ?_⟩
  have hv : l[j] = v := by
   have h4 : v = l[j] := by simpa using h2
   exact h4.symm
  have hn : ∀ i (hi : i < j), l[i]'(by omega) ≠ v := fun i hi e => by have := h3 i hi; simp [e] at this
  clear h2 h3 hj hk
  induction l generalizing j with
  | nil => simp at h1
  | cons a l ih =>
   cases j with
   | zero =>
    have : a = v := hv
    subst this
    simp
   | succ j =>
    have ha : a ≠ v := hn 0 (by omega)
    rw [List.eraseIdx_cons_succ, List.erase_cons_tail (by simpa using ha)]
    congr 1
    exact ih j (by simpa using h1) (by simpa using hv) fun i hi => hn (i + 1) (by omega)
 omega
theorem erase_no {l : List Vtx} {v : Vtx} (hk : idxZ (fun x => decide (v = x)) l < 0) : l.erase v = l := by
 unfold idxZ at hk
 split at hk
 ·omega
 rename_i h
 refine List.erase_of_not_mem fun hm => ?_
 have := List.findIdx?_eq_none_iff.1 h v hm
 simp at this
end Go.Proofs.Gr
