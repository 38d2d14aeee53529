/- Walks. -/
import Derived.Test.YtbejcoeajlhmcaaPart1
import Derived.MapKept
import Derived.Laws.StructEq
import Derived.WalkKit
import Derived.ProofKit
import Derived.OpenShut
import Derived.ShutString
import Derived.ChangeOld
import Derived.Below
import Derived.SizedLaws
import Derived.SliceStrings
import Derived.Carry
import Derived.Laws.IdiomStrings
import Derived.Laws.IdiomCopy
import Derived.Lib.AppendStr
import Derived.ChangeKeysEq
import Derived.RangeFuncLeaves
import Derived.RangeFuncRecord
import Derived.RangeFuncKeeps
import Derived.OrdersIn
import Derived.Lib.AppendZerosOnto
import Derived.Lib.Overlaps
import Derived.Test.YtbejcoeajlhmcaaProg
set_option linter.unusedVariables false
set_option linter.unusedSimpArgs false
set_option linter.unusedSectionVars false

namespace Go.SL
open Go.RowKit
section
variable {P : Program} {w0 : World} {n : Nat} {T : TT} {S : SS}
theorem setAt_cons (cs : List Value) (k : Nat) (v : Value) (vs : List Value) (h : k < cs.length) : setAt cs k (v :: vs) = setAt (cs.set k v) (k + 1) vs := by
 induction cs generalizing k with
 | nil => simp at h
 | cons c cs ih =>
  cases k with
  | zero => simp [setAt]
  | succ k => simp only [setAt, List.set_cons_succ]; rw [ih k (by simpa using h)]
theorem foldl_setAt (off : Nat) : ∀ (l : List Value) (k : Nat) (cells : Array Value), off + k + l.length <= cells.size ->
  ((l.zipIdx k).foldl (fun cs p => cs.setIfInBounds (off + p.2) p.1) cells).toList = setAt cells.toList (off + k) l
 | [], k, cells, _ => by simp [setAt_nil]
 | c :: l, k, cells, h => by
  simp only [List.zipIdx_cons, List.foldl_cons, List.length_cons] at h ⊢
  rw [foldl_setAt off l (k + 1) _ (by simp; omega)]
  rw [setAt_cons _ _ _ _ (by simp; omega)]
  simp [Nat.add_assoc]
def fillP (T : TT) : List Value -> List (Nat × Nat × PV) -> Option (List Value)
 | cs, [] => some cs
 | cs, (off, size, x) :: r => match x.val T with
  | some v => if v.cells.size = size /\ off + size <= cs.length then fillP T (setAt cs off v.cells.toList) r else none
  | none => none
theorem fill_spec {a : Act} (hs : Sat n T a) {place : Nat -> Option (Nat × Nat)} : ∀ {qs : List (Nat × Operand)} {ps : List (Nat × Nat × PV)} {cells : Array Value} {cs : List Value},
  partsAt place qs = some ps -> fillP T cells.toList ps = some cs -> Instr.fill place cells (qs.map fun (i, x) => (i, a.eval x)) = some cs.toArray
 | [], ps, cells, cs, h1, h2 => by
  simp [partsAt] at h1
  subst h1
  simp [fillP] at h2
  subst h2
  simp [Instr.fill]
 | (i, x) :: qs, ps, cells, cs, h1, h2 => by
  simp only [partsAt, List.mapM_cons, Option.bind_eq_bind, Option.pure_def] at h1
  cases hp : place i with
  | none => simp [hp] at h1
  | some p =>
   obtain ⟨off, size⟩ := p
   simp only [hp, Option.map_some, Option.bind_some] at h1
   change (partsAt place qs).bind _ = _ at h1
   cases hq : partsAt place qs with
   | none => rw [hq] at h1; simp at h1
   | some ps' =>
    rw [hq] at h1
    simp only [Option.bind_some, Option.some.injEq] at h1
    subst h1
    simp only [fillP] at h2
    split at h2
    ·rename_i v hv
     split at h2
     ·rename_i hcond
      obtain ⟨hsz, hle⟩ := hcond
      have hev := hs.eval hv
      simp only [List.map_cons, Instr.fill, hp, hev]
      have hc : ¬ (v.cells.size ≠ size || decide (off + v.cells.size > cells.size)) = true := by
       simp at hle ⊢
       omega
      rw [if_neg hc]
      have hfold : (v.cells.zipIdx.foldl (fun cs x => cs.setIfInBounds (off + x.2) x.1) cells).toList = setAt cells.toList off v.cells.toList := by
       rw [<- Array.foldl_toList, Array.toList_zipIdx]
       have := foldl_setAt off v.cells.toList 0 cells (by simp at hle ⊢; omega)
       simpa using this
      have := fill_spec hs (place := place) (qs := qs) (ps := ps') (cells := v.cells.zipIdx.foldl (fun cs x => cs.setIfInBounds (off + x.2) x.1) cells) (cs := cs) hq (by rw [hfold]; exact h2)
      exact this
     simp at h2
    simp at h2
theorem Yields.build {zero : List Value} {parts : List (Nat × Nat × PV)} {cs : List Value} (h : fillP T zero parts = some cs) : Yields P w0 n (.build zero parts) T S (.agg cs.toArray) := by
 intro o a w hco hs hr
 obtain ⟨t, qs, fs, i, z, ps, ho, hu, hi, hz, rfl, hps, hpa⟩ := cOp_spec P hco
 have hfill := fill_spec hs (place := fun j => ps[j]?) (cells := z.cells) hpa h
 simp only [execOp, ho]
 have hb : P.built t (qs.map fun (i, x) => (i, a.eval x)).toList = some cs.toArray := by
  unfold Program.built
  simp only [hi, hu, hz]
  unfold placesOf at hps
  rw [hps]
  simp only [Array.toList_map]
  have e : (fun x : Nat => ps.toArray[x]?) = fun j => ps[j]? := by funext j; simp
  rw [e]
  exact hfill
 have := run_build (P := P) w t _ cs.toArray hb
 simp only [Sem.run_bind, this, Result.andThen_ok]
 rfl
theorem OW.bsl {E : TypeId} {len : Nat} {zero : List Value} {parts : List (Nat × Nat × PV)} {cs : List Value} (h : fillP T zero parts = some cs) :
  OW P w0 n (.bsl E zero len parts) T S (fun v S' => ∃ r, v = .slice (some ⟨r, 0, none⟩) len len /\ S' = [(r, .cells cs E cs.length)] :: S) := by
 intro op a w Q hco hs hr
 obtain ⟨t, qs, i, z, ho, hu, hi, hz, hle, hne, rfl, hpa⟩ := cOp_spec P hco
 have hfill := fill_spec hs (place := fun j => some (j * i.size, i.size)) (cells := (Array.range (len * i.size)).map (z.cells[· % z.cells.size]!)) hpa h
 have hrun : (execOp a.eval op).run P w = .ok (.value (.slice (some ⟨w.heap.size, 0, none⟩) len len)) (w.alloc (.cells cs.toArray E)) := by
  simp only [execOp, ho, Instr.buildSlice]
  have hle' : ¬ (16777216 < len * i.size) := by omega
  simp only [Array.toList_map]
  have hsz : (sizeOf E).run P w = .ok i.size w := by simp [sizeOf, typeInfo, program, hi, Sem.run]
  have hzv : (zeroValue E).run P w = .ok z w := by simp [zeroValue, typeInfo, program, hi, hz, Sem.run]
  simp only [Array.toList_map] at hfill ⊢
  simp only [Sem.run_bind, run_underlying hu, Result.andThen_ok, hsz]
  simp [hle', hne, hzv]
  rw [hfill]
  simp [newRow, newObj, Sem.run]
 unfold Oper.wp
 rw [hrun]
 refine ⟨_, _, rfl, ?_, w.heap.size, rfl, rfl⟩
 have := hr.alloc cs.toArray E
 simpa using this
theorem Yields.fld {off : Nat} {x : PV} {cs : Array Value} {v : Value} (hx : x.val T = some (.agg cs)) (hc : cs[off]? = some v) : Yields P w0 n (.fld off x) T S v := by
 intro o a w hco hs hr
 obtain ⟨s, y, j, fs, f, ho, rfl, hu, hf, rfl, hagg⟩ := cOp_spec P hco
 obtain ⟨d, hd, hrow⟩ := aggOf_none hagg
 simp only [execOp, ho, hs.eval hx, Instr.field]
 simp [run_underlying hu, hf, asAgg, part, run_isAgg hd, hrow, hc]
theorem Yields.fldA {off m : Nat} {x : PV} {cs : Array Value} (hx : x.val T = some (.agg cs)) : Yields P w0 n (.fldA off m x) T S (.agg (cs.extract off (off + m))) := by
 intro o a w hco hs hr
 obtain ⟨s, y, j, fs, f, ho, rfl, hu, hf, rfl, hagg⟩ := cOp_spec P hco
 obtain ⟨d, i, hd, hrow, hi, rfl⟩ := aggOf_some hagg
 simp only [execOp, ho, hs.eval hx, Instr.field]
 simp [run_underlying hu, hf, asAgg, part, run_isAgg hd, hrow, sizeOf, typeInfo, program, hi, Sem.run]
def skey (es : List (ByteArray × Value)) : List (Value × Value) := es.map fun p => (.string p.1, p.2)
def mget (es : List (ByteArray × Value)) (s : ByteArray) : Option Value := (es.find? fun p => s == p.1).map (·.2)
def mputAt : List (ByteArray × Value) -> ByteArray -> Value -> List (ByteArray × Value)
 | [], s, v => [(s, v)]
 | p :: r, s, v => if s == p.1 then (s, v) :: r else p :: mputAt r s v
theorem findNow_string {s : ByteArray} : ∀ (en : List MapEntry) (es : List (ByteArray × Value)) (i : Nat), en.map (fun e => (e.key, e.val)) = skey es ->
  ∃ r, Instr.findNow .string (.string s) en i = some r /\ r.map (·.2) = mget es s
 | [], es, i, h => by
  cases es with
  | nil => exact ⟨none, rfl, rfl⟩
  | cons p es => simp [skey] at h
 | e :: en, es, i, h => by
  cases es with
  | nil => simp [skey] at h
  | cons p es =>
   simp only [skey, List.map_cons, List.cons.injEq, Prod.mk.injEq] at h
   obtain ⟨⟨h1, h2⟩, h3⟩ := h
   simp only [Instr.findNow, h1, Instr.sameNow]
   by_cases hb : (s == p.1) = true
   ·refine ⟨some (i, e.val), by simp [hb], by simp [mget, List.find?_cons, hb, h2]⟩
   have hb' : (s == p.1) = false := by simpa using hb
   obtain ⟨r, hr1, hr2⟩ := findNow_string (s := s) en es (i + 1) h3
   exact ⟨r, by simp [hb', hr1], by rw [hr2]; simp [mget, List.find?_cons, hb']⟩
theorem run_checkKey_string {kt : TypeId} (h : P.underlying kt = some .string) (b : Bool) (m : Nat) (s : ByteArray) (w : World) : (Instr.checkKey b (m + 1) kt (.string s)).run P w = .ok () w := by
 simp [Instr.checkKey, run_underlying h]
theorem Rep.mapAt {w : World} {k b : Nat} {es : List (Value × Value)} (h : Rep w0 S w) (hk : S[k]? = some [(b, .map es)]) :
  w0.heap.size <= b /\ ∃ en clk, w.heap[b]? = some (.map en clk) /\ en.toList.map (fun e => (e.key, e.val)) = es :=
 h.own (b, .map es) (List.mem_flatten.2 ⟨_, List.mem_of_getElem? hk, by simp⟩)
theorem Yields.lenM {x : PV} {b k : Nat} {es : List (Value × Value)} (hx : x.val T = some (.map (some b))) (hk : S[k]? = some [(b, .map es)]) : Yields P w0 n (.lenM x) T S (.int .i64 es.length) := by
 intro o a w hco hs hr
 obtain ⟨t, kt, vt, c, cl, ho, hca, hat, har, rfl, hu⟩ := cOp_spec P hco
 obtain ⟨_, en, clk, hw, he⟩ := hr.mapAt hk
 have hlen : en.size = es.length := by rw [<- he]; simp
 simp [execOp, ho, resolve, hca, invoke, builtin, Builtin.len_, hat, har, hs.eval hx, run_underlying hu, goInt, getObj, Sem.run, hw, hlen]
theorem Yields.lookS {zero : Value} {ok : Bool} {x y : PV} {b k : Nat} {es : List (ByteArray × Value)} {s : ByteArray} (hx : x.val T = some (.map (some b))) (hy : y.val T = some (.string s)) (hk : S[k]? = some [(b, .map (skey es))]) :
  Yields P w0 n (.lookS zero ok x y) T S (if ok then .tuple #[(mget es s).getD zero, .bool (mget es s).isSome] else (mget es s).getD zero) := by
 intro o a w hco hs hr
 obtain ⟨t, c, d, kt, et, i, ho, rfl, rfl, hu, hkt, hi, hz⟩ := cOp_spec P hco
 obtain ⟨_, en, clk, hw, he⟩ := hr.mapAt hk
 obtain ⟨r, hr1, hr2⟩ := findNow_string (s := s) en.toList es 0 he
 simp only [execOp, ho, hs.eval hx, hs.eval hy, Instr.lookup]
 have hck := fun bb => run_checkKey_string (P := P) hkt bb 9999 s w
 simp only [Sem.run_bind, run_underlying hu, Result.andThen_ok]
 have hg : (getObj b).run P w = .ok (.map en clk) w := by simp [getObj, Sem.run, hw]
 simp only [Sem.run_bind, hg, Result.andThen_ok]
 simp only [Sem.run_pure, Result.andThen_ok, hck, Instr.findKey, Sem.run_bind, run_underlying hkt, hr1]
 cases r with
 | none =>
  simp at hr2
  simp [zeroValue, typeInfo, program, hi, hz, Sem.run, <- hr2]
 | some p =>
  obtain ⟨j, v⟩ := p
  simp at hr2
  simp [<- hr2]
theorem OW.mkM : OW P w0 n .mkM T S (fun v S' => ∃ r, v = .map (some r) /\ S' = [(r, .map [])] :: S) := by
 intro op a w Q hco hs hr
 obtain ⟨t, ho⟩ := cOp_spec P hco
 have hrun : (execOp a.eval op).run P w = .ok (.value (.map (some w.heap.size))) (w.alloc (.map #[] 0)) := by
  simp [execOp, ho, Instr.makeMap, newObj, Sem.run]
 unfold Oper.wp
 rw [hrun]
 refine ⟨_, _, rfl, ?_, w.heap.size, rfl, rfl⟩
 refine hr.push (below_alloc hr _) (fun i hi => alloc_heap_lt w _ i hi) (by simp) ?_
 intro p hp
 simp only [List.mem_singleton] at hp
 subst hp
 exact ⟨⟨#[], 0, alloc_heap_new w _, by simp⟩, Nat.le_refl _⟩
theorem findNow_put {s : ByteArray} : ∀ (en : List MapEntry) (es : List (ByteArray × Value)) (i : Nat), en.map (fun e => (e.key, e.val)) = skey es ->
  (Instr.findNow .string (.string s) en i = some none /\ mget es s = none /\ ∀ v, mputAt es s v = es ++ [(s, v)]) ∨
  (∃ j u e, Instr.findNow .string (.string s) en i = some (some (i + j, u)) /\ en[j]? = some e /\ e.key = .string s /\ ∀ v, skey (mputAt es s v) = (skey es).set j (.string s, v))
 | [], es, i, h => by
  cases es with
  | nil => exact .inl ⟨rfl, rfl, fun v => rfl⟩
  | cons p es => simp [skey] at h
 | e :: en, es, i, h => by
  cases es with
  | nil => simp [skey] at h
  | cons p es =>
   simp only [skey, List.map_cons, List.cons.injEq, Prod.mk.injEq] at h
   obtain ⟨⟨h1, h2⟩, h3⟩ := h
   simp only [Instr.findNow, h1, Instr.sameNow]
   by_cases hb : (s == p.1) = true
   ·right
    have hsp : s = p.1 := (Go.MapKept.bytes_beq s p.1).1 hb
    refine ⟨0, e.val, e, by simp [hb], by simp, by rw [h1, hsp], fun v => by simp [mputAt, hb, skey]⟩
   have hb' : (s == p.1) = false := by simpa using hb
   rcases findNow_put (s := s) en es (i + 1) h3 with ⟨h4, h5, h6⟩ | ⟨j, u, e', h4, h5, h6, h7⟩
   ·exact .inl ⟨by simp [hb', h4], by simp only [mget] at h5 ⊢; simp [List.find?_cons, hb'] at h5 ⊢; exact h5, fun v => by simp [mputAt, hb', h6]⟩
   refine .inr ⟨j + 1, u, e', by simp [hb', h4]; omega, by simpa using h5, h6, fun v => ?_⟩
   have := h7 v
   simp only [skey] at this ⊢
   simp [mputAt, hb', this]
theorem OW.updSU {x y z : PV} {b k : Nat} {es : List (ByteArray × Value)} {s : ByteArray} {v : Value} (hx : x.val T = some (.map (some b))) (hy : y.val T = some (.string s)) (hz : z.val T = some v) (hk : S[k]? = some [(b, .map (skey es))]) :
  OW P w0 n (.updS x y z) T S (fun v' S' => v' = undef /\ S' = S.set k [(b, .map (skey (mputAt es s v)))]) := by
 intro op a w Q hco hs hr
 obtain ⟨t, c, d, u, kt, et, ho, rfl, rfl, rfl, hu, hkt⟩ := cOp_spec P hco
 obtain ⟨hge, en, clk, hw, he⟩ := hr.mapAt hk
 have hlt : b < w.heap.size := (Array.getElem?_eq_some_iff.1 hw).1
 have hck := run_checkKey_string (P := P) hkt false 9999 s w
 have hg : (getObj b).run P w = .ok (.map en clk) w := by simp [getObj, Sem.run, hw]
 have hput : ∀ o : Obj, (∀ c e f, o ≠ .cells c e f) -> (setObj b o).run P w = .ok () { w with heap := w.heap.setIfInBounds b o } := by
  intro o _
  simp [setObj, Sem.run, hw]
 have fin : ∀ (en' : Array MapEntry) (clk' : Nat), (execOp a.eval op).run P w = .ok .skip { w with heap := w.heap.setIfInBounds b (.map en' clk') } -> en'.toList.map (fun e => (e.key, e.val)) = skey (mputAt es s v) ->
   op.wp P a w (fun a' w' => ∃ v_1 S', a' = a.put op.dst v_1 /\ Rep w0 S' w' /\ v_1 = undef /\ S' = S.set k [(b, .map (skey (mputAt es s v)))]) Q := by
  intro en' clk' hrun hen
  unfold Oper.wp
  rw [hrun]
  refine ⟨undef, _, rfl, ?_, rfl, rfl⟩
  refine hr.replace hk ⟨rfl, rfl, rfl, by simp, fun i hi => ?_⟩ (fun i hi hne => ?_) (by simp) ?_
  ·have : b ≠ i := by omega
   simp [Array.getElem?_setIfInBounds_ne this]
  ·have : b ≠ i := by simp at hne; omega
   simp [Array.getElem?_setIfInBounds_ne this]
  intro p hp
  simp only [List.mem_singleton] at hp
  subst hp
  exact ⟨hge, ⟨en', clk', by simp [hlt], hen⟩, .inl (by simp)⟩
 rcases findNow_put (s := s) en.toList es 0 he with ⟨h4, h5, h6⟩ | ⟨j, u', e', h4, h5, h6, h7⟩
 ·refine fin (en.push { key := .string s, val := v, born := clk }) (clk + 1) ?_ ?_
  ·simp only [execOp, ho, hs.eval hx, hs.eval hy, hs.eval hz, Instr.mapUpdate]
   simp [run_underlying hu, hg, hck, Instr.findKey, run_underlying hkt, h4, hput]
  simp [he, h6, skey]
 simp only [Nat.zero_add] at h4
 have hstay : (Instr.keyThatStays (.string s) (.string s)).run P w = .ok (.string s) w := by
  have hss : (s == s) = true := (Go.MapKept.bytes_beq s s).2 rfl
  simp [Instr.keyThatStays, Instr.sameBits, hss]
 have hkey : ((en[j]?).map (·.key)).getD (.string s) = .string s := by
  have : en[j]? = some e' := by simpa using h5
  simp [this, h6]
 refine fin (en.modify j fun e => { e with key := .string s, val := v }) clk ?_ ?_
 ·simp only [execOp, ho, hs.eval hx, hs.eval hy, hs.eval hz, Instr.mapUpdate]
  simp [run_underlying hu, hg, hck, Instr.findKey, run_underlying hkt, h4, hkey, hstay, hput]
 rw [h7 v, <- he]
 apply List.ext_getElem?
 intro i
 by_cases e : j = i
 ·subst e
  have hlt' : j < en.size := by have := (List.getElem?_eq_some_iff.1 h5).1; simpa using this
  simp [Array.getElem?_modify, hlt']
 simp [Array.getElem?_modify, e, List.getElem?_set_ne e]
theorem OW.updS {x y z : PV} {b k : Nat} {es : List (ByteArray × Value)} {s : ByteArray} {v : Value} (hx : x.val T = some (.map (some b))) (hy : y.val T = some (.string s)) (hz : z.val T = some v) (hk : S[k]? = some [(b, .map (skey es))]) :
  OW P w0 n (.updS x y z) T S (fun _ S' => S' = S.set k [(b, .map (skey (mputAt es s v)))]) := by
 exact (OW.updSU hx hy hz hk).mono fun _ _ h => h.2
def eqCell : CK -> Value -> Value -> Option Bool
 | .int k, .int j a, .int j' b => if j = k /\ j' = k then some (a == b) else none
 | .str, .string a, .string b => some (a.toList == b.toList)
 | .bool, .bool a, .bool b => some (a == b)
 | _, _, _ => none
def eqCells : List CK -> List Value -> List Value -> Option Bool
 | [], [], [] => some true
 | [c], [x], [y] => eqCell c x y
 | c :: cs, x :: xs, y :: ys => match eqCell c x y, eqCells cs xs ys with | some p, some q => some (p && q) | _, _ => none
 | _, _, _ => none
theorem run_eqCell {c : CK} {t : TypeId} {x y : Value} {r : Bool} (hc : ckOf P t = some c) (h : eqCell c x y = some r) (d : Nat) (w : World) : (Op.equalIn (d + 1) t x y).run P w = .ok r w := by
 unfold ckOf at hc
 split at hc
 ·rename_i k hu
  obtain rfl := Option.some.inj hc
  unfold eqCell at h
  split at h <;> simp_all
  obtain ⟨⟨rfl, rfl⟩, rfl⟩ := h
  simp [Op.equalIn, run_underlying hu]
 ·rename_i hu
  obtain rfl := Option.some.inj hc
  unfold eqCell at h
  split at h <;> simp_all
  subst h
  exact run_equalIn_string w d t _ _ hu
 ·rename_i hu
  obtain rfl := Option.some.inj hc
  unfold eqCell at h
  split at h <;> simp_all
  subst h
  simp [Op.equalIn, run_underlying hu]
 simp at hc
theorem ckOf_agg {t : TypeId} {c : CK} (h : ckOf P t = some c) : ∃ d, P.underlying t = some d /\ rowD d = false := by
 unfold ckOf at h
 split at h
 all_goals (first | (simp at h; done) | exact ⟨_, by assumption, rfl⟩)
theorem run_eqFields_flat {xs ys : Array Value} {d : Nat} {w : World} : ∀ (fs : List Field) (i : Nat) (sh : List CK) (r : Bool), flatFrom P i fs = some sh -> eqCells sh (xs.toList.drop i) (ys.toList.drop i) = some r ->
  (Op.eqFields (d + 1) xs ys fs).run P w = .ok r w
 | [], i, sh, r, hf, he => by
  simp [flatFrom] at hf
  subst hf
  unfold eqCells at he
  split at he <;> simp_all [Op.eqFields]
 | f :: fs, i, sh, r, hf, he => by
  simp only [flatFrom] at hf
  split at hf
  ·rename_i c cs hc hcs
   split at hf
   ·rename_i hcond
    obtain ⟨hoff, hname⟩ := hcond
    obtain rfl := Option.some.inj hf
    obtain ⟨dd, hu, hrow⟩ := ckOf_agg hc
    have hpart : ∀ (zs : Array Value) z, zs[i]? = some z -> (part f.type zs f.offset).run P w = .ok z w := by
     intro zs z hz
     simp [part, run_isAgg hu, hrow, hoff, hz]
    -- the first cells
    have hx : ∃ x y rx ry, xs.toList.drop i = x :: rx /\ ys.toList.drop i = y :: ry /\ xs[i]? = some x /\ ys[i]? = some y /\ xs.toList.drop (i + 1) = rx /\ ys.toList.drop (i + 1) = ry := by
     cases hx : xs.toList.drop i with
     | nil => rw [hx] at he; cases cs <;> simp [eqCells] at he
     | cons x rx =>
      cases hy : ys.toList.drop i with
      | nil => rw [hx, hy] at he; cases cs <;> cases rx <;> simp [eqCells] at he
      | cons y ry =>
       have e1 : xs[i]? = some x := by
        have : (xs.toList.drop i)[0]? = some x := by rw [hx]; rfl
        simpa using this
       have e2 : ys[i]? = some y := by
        have : (ys.toList.drop i)[0]? = some y := by rw [hy]; rfl
        simpa using this
       refine ⟨x, y, rx, ry, rfl, rfl, e1, e2, ?_, ?_⟩
       ·rw [<- List.drop_drop, hx]; rfl
       rw [<- List.drop_drop, hy]; rfl
    obtain ⟨x, y, rx, ry, h1, h2, h3, h4, h5, h6⟩ := hx
    rw [h1, h2] at he
    have hstep : ∃ p q, eqCell c x y = some p /\ eqCells cs rx ry = some q /\ r = (p && q) := by
     cases cs with
     | nil =>
      cases rx with
      | nil =>
       cases ry with
       | nil => exact ⟨r, true, by simpa [eqCells] using he, rfl, by simp⟩
       | cons _ _ => simp [eqCells] at he
      | cons _ _ => simp [eqCells] at he
     | cons c' cs' =>
      rw [show eqCells (c :: c' :: cs') (x :: rx) (y :: ry) = (match eqCell c x y, eqCells (c' :: cs') rx ry with | some p, some q => some (p && q) | _, _ => none) from rfl] at he
      split at he
      ·rename_i p q hp hq
       exact ⟨p, q, hp, hq, by simpa using he.symm⟩
      simp at he
    obtain ⟨p, q, hp, hq, rfl⟩ := hstep
    simp only [Op.eqFields, hname, ne_eq, not_false_eq_true, if_true, Sem.run_bind, hpart xs x h3, hpart ys y h4, Result.andThen_ok, run_eqCell hc hp d w]
    cases p
    ·simp
    simp only [Bool.not_true, Bool.false_eq_true, if_false, Bool.true_and]
    exact run_eqFields_flat fs (i + 1) cs q hcs (by rw [h5, h6]; exact hq)
   simp at hf
  simp at hf
theorem flatOf_spec {t : TypeId} {sh : List CK} (h : flatOf P t = some sh) : P.underlying t = some (.struct (P.fieldsOf t)) /\ P.stoodInHeld t = false /\ P.eqGuardType P.depth t = false /\ flatFrom P 0 (P.fieldsOf t).toList = some sh := by
 unfold flatOf at h
 split at h
 ·rename_i fs hu
  split at h
  ·rename_i hc
   have : P.fieldsOf t = fs := by simp [Program.fieldsOf, hu]
   rw [this]
   exact ⟨hu, hc.1, hc.2, h⟩
  simp at h
 simp at h
theorem Yields.eqA {neg : Bool} {t : TypeId} {sh : List CK} {x y : PV} {xs ys : Array Value} {r : Bool} (hx : x.val T = some (.agg xs)) (hy : y.val T = some (.agg ys)) (h : eqCells sh xs.toList ys.toList = some r) :
  Yields P w0 n (.eqA neg t sh x y) T S (.bool (if neg then !r else r)) := by
 intro o a w hco hs hr
 obtain ⟨c, d, u, ho, rfl, rfl, hfl⟩ := cOp_spec P hco
 obtain ⟨hu, hst, hg, hff⟩ := flatOf_spec hfl
 have heq : (Op.equalIn 10000 t (.agg xs) (.agg ys)).run P w = .ok r w := by
  rw [run_equalIn_struct w 9999 t xs ys hu hst]
  exact run_eqFields_flat _ 0 sh r hff (by simpa using h)
 simp only [execOp, ho, hs.eval hx, hs.eval hy]
 cases neg
 ·simp only [Bool.false_eq_true, if_false, Sem.run_bind, run_eqGuard_agg w .eql t c d xs ys hg, Result.andThen_ok, run_eql_struct, heq]
  simp
 simp only [if_true, Sem.run_bind, run_eqGuard_agg w .neq t c d xs ys hg, Result.andThen_ok, run_neq_struct, heq]
 simp
theorem OW.al {E : TypeId} {zero : List Value} : OW P w0 n (.al E zero) T S (fun v S' => ∃ r, v = .pointer (some ⟨r, 0, none⟩) /\ S' = [(r, .cells zero E zero.length)] :: S) := by
 intro op a w Q hco hs hr
 obtain ⟨i, z, ho, hi, hz, rfl⟩ := cOp_spec P hco
 have hrun : (execOp a.eval op).run P w = .ok (.value (.pointer (some ⟨w.heap.size, 0, none⟩))) (w.alloc (.cells z.cells E)) := by
  simp [execOp, ho, Instr.alloc, zeroValue, typeInfo, program, hi, hz, Sem.run, newVar, newRow, newObj]
 unfold Oper.wp
 rw [hrun]
 exact ⟨_, _, rfl, by simpa using hr.alloc z.cells E, w.heap.size, rfl, rfl⟩
theorem OW.bx {E : TypeId} {x : PV} {v : Value} (hx : x.val T = some v) : OW P w0 n (.bx E x) T S (fun u S' => ∃ r, u = .pointer (some ⟨r, 0, none⟩) /\ S' = [(r, .cells v.cells.toList E v.cells.toList.length)] :: S) := by
 intro op a w Q hco hs hr
 obtain ⟨c, ho, rfl⟩ := cOp_spec P hco
 have hrun : (execOp a.eval op).run P w = .ok (.value (.pointer (some ⟨w.heap.size, 0, none⟩))) (w.alloc (.cells v.cells E)) := by
  simp [execOp, ho, hs.eval hx, Instr.box, Sem.run, newVar, newRow, newObj]
 unfold Oper.wp
 rw [hrun]
 exact ⟨_, _, rfl, by simpa using hr.alloc v.cells E, w.heap.size, rfl, rfl⟩
end
end Go.SL

namespace Go.SL
open Go.RowKit
section
variable {P : Program} {w0 : World} {n : Nat} {T : TT} {S : SS}
def Rd (w0 : World) (S : SS) (A : Option Addr) (cs : List Value) : Prop := ∀ j v, cs[j]? = some v -> ∃ a, A = some a /\ Cell w0 S (a.add j) v
theorem Rd.mono {S S' : SS} {A : Option Addr} {cs : List Value} (h : Rd w0 S A cs) (hs : ∀ p ∈ S.flatten, p ∈ S'.flatten) : Rd w0 S' A cs :=
 fun j v hj => let ⟨a, e, hc⟩ := h j v hj; ⟨a, e, hc.mono hs⟩
theorem Rd.any {S : SS} {A : Option Addr} {cs : List Value} (h : Rd w0 [] A cs) : Rd w0 S A cs := h.mono (by simp)
theorem Rd.cons {S : SS} {s : Seg} {A : Option Addr} {cs : List Value} (h : Rd w0 S A cs) : Rd w0 (s :: S) A cs := h.mono (fun p hp => by simp [hp])
theorem Rd.nil {S : SS} {A : Option Addr} : Rd w0 S A [] := fun j v h => by simp at h
theorem Rd.some {S : SS} {A : Option Addr} {cs : List Value} (h : Rd w0 S A cs) (h0 : cs ≠ []) : ∃ a, A = Option.some a := by
 cases cs with
 | nil => exact absurd rfl h0
 | cons c cs => obtain ⟨a, e, _⟩ := h 0 c rfl; exact ⟨a, e⟩
theorem Rd.at {S : SS} {a : Addr} {cs : List Value} (h : Rd w0 S (Option.some a) cs) {j : Nat} {v : Value} (hj : cs[j]? = Option.some v) : Cell w0 S (a.add j) v := by
 obtain ⟨b, e, hc⟩ := h j v hj
 obtain rfl := Option.some.inj e
 exact hc
theorem Rd.own {S : SS} {r E tot : Nat} {xs : List Value} (h : (r, AO.cells xs E tot) ∈ S.flatten) : Rd w0 S (Option.some ⟨r, 0, none⟩) xs := by
 intro j v hj
 refine ⟨_, rfl, .inr (.inl ⟨xs, E, tot, ?_, ?_, ?_⟩)⟩
 ·simpa [Addr.add_lit] using h
 ·simp [Addr.add_lit]
 simpa [Addr.add_lit] using hj
theorem SlV.rd {S : SS} {k E sz m : Nat} {v : Value} {xs : List Value} {seg : Seg} (hv : SlV E sz v m xs seg) (hk : S[k]? = some seg) : ∃ A cap, v = .slice A m cap /\ Rd w0 S A xs /\ xs.length = m * sz := by
 obtain ⟨hl, ⟨rfl, rfl, rfl⟩ | ⟨r, cap, rfl, rfl, h1, h2⟩⟩ := hv
 ·have : xs = [] := List.eq_nil_of_length_eq_zero (by simpa using hl)
  subst this
  exact ⟨none, 0, rfl, Rd.nil, hl⟩
 have hm : (r, AO.cells xs E (cap * sz)) ∈ S.flatten := List.mem_flatten.2 ⟨[(r, AO.cells xs E (cap * sz))], List.mem_of_getElem? hk, List.mem_singleton.2 rfl⟩
 exact ⟨_, cap, rfl, Rd.own hm, hl⟩
theorem OL.keep {l : List PI} {T' : TT} {K : TT -> SS -> Prop} (hk : Within T' T) (h : OL P w0 n l T' S K) : OL P w0 n l T S K :=
 fun ops is a w Q hc hs hr hq => h ops is a w Q hc (hs.keep hk.spec) hr hq
theorem OL.call {f : FuncId} {args : List PV} {vs : List Value} {post : Value -> SS -> Prop} {d : Option Nat} {g : Option (Nat × Bool)} {r : List PI} {K : TT -> SS -> Prop} (hg : gOk T g) (hv : valsP T args = some vs) (h : FC P w0 f vs S post)
  (hk : ∀ v S', post v S' -> OL P w0 n r (put d v T) S' K) : OL P w0 n (⟨d, g, .call f args⟩ :: r) T S K := OL.cons hg (OW.call hv h) hk
theorem PW.seqOps {l : List PI} {y : PC} {Q : Exit -> TT -> SS -> Prop} (h : OL P w0 n l T S (fun T' S' => PW P w0 n y T' S' Q)) : PW P w0 n (.seq (.ops l) y) T S Q :=
 PW.seq fun K hK => PW.ops (fun ops is a w Q' hc hs hr hk => h ops is a w Q' hc hs hr fun a' w' T' S' h1 h2 h3 => hk a' w' T' S' h1 h2 (hK T' S' h3))
def QK (P : Program) (w0 : World) (n : Nat) (S : SS) (l : List PI) (T : TT) (K : TT -> Prop) : Prop := ∃ T', QL P w0 n S l T T' /\ K T'
theorem QK.nil {K : TT -> Prop} (h : K T) : QK P w0 n S [] T K := ⟨T, .nil, h⟩
theorem QK.cons {po : PO} {d : Option Nat} {g : Option (Nat × Bool)} {v : Value} {r : List PI} {K : TT -> Prop} (hg : gOk T g) (h : OW P w0 n po T S (fun v' S' => v' = v /\ S' = S)) (k : QK P w0 n S r (put d v T) K) : QK P w0 n S (⟨d, g, po⟩ :: r) T K :=
 let ⟨T', h1, h2⟩ := k; ⟨T', .step hg h h1, h2⟩
theorem QK.det {po : PO} {d : Option Nat} {g : Option (Nat × Bool)} {v : Value} {r : List PI} {K : TT -> Prop} (hg : gOk T g) (h : Yields P w0 n po T S v) (k : QK P w0 n S r (put d v T) K) : QK P w0 n S (⟨d, g, po⟩ :: r) T K := QK.cons hg (OW.of_yields h) k
theorem QK.dp {po : PO} {d : Option Nat} {v : Value} {r : List PI} {K : TT -> Prop} (h : evalP po T = some v) (k : QK P w0 n S r (put d v T) K) : QK P w0 n S (⟨d, none, po⟩ :: r) T K := QK.det trivial (.pure h) k
theorem _root_.Go.SL.OL.dp {po : PO} {d : Option Nat} {v : Value} {r : List PI} {K : TT -> SS -> Prop} (h : evalP po T = some v) (k : OL P w0 n r (put d v T) S K) : OL P w0 n (⟨d, none, po⟩ :: r) T S K := OL.det trivial (.pure h) k
theorem QK.call {f : FuncId} {args : List PV} {vs : List Value} {v : Value} {d : Option Nat} {g : Option (Nat × Bool)} {r : List PI} {K : TT -> Prop} (hg : gOk T g) (hv : valsP T args = some vs) (h : FC P w0 f vs S (fun v' S' => v' = v /\ S' = S)) (k : QK P w0 n S r (put d v T) K) : QK P w0 n S (⟨d, g, .call f args⟩ :: r) T K :=
 QK.cons hg (OW.call hv h) k
theorem QK.off {po : PO} {d : Option Nat} {s : Nat} {b : Bool} {u : Value} {r : List PI} {K : TT -> Prop} (hl : look T s = some u) (hc : (boolOf u == some b) = false) (k : QK P w0 n S r (put d undef T) K) : QK P w0 n S (⟨d, some (s, b), po⟩ :: r) T K :=
 let ⟨T', h1, h2⟩ := k; ⟨T', .off hl hc h1, h2⟩
theorem QL.keep {l : List PI} {T1 T2 T3 : TT} (h : QL P w0 n S l T1 T2) : True := trivial
theorem PW.quietK {b : List Nat} {k : Nat} {l : List PI} {Q : Exit -> TT -> SS -> Prop} (hm : P.follows .mixedOrders = true) (h : QK P w0 n S (l.take k) T (fun T' => OL P w0 n (l.drop k) T' S (Q .normal))) : PW P w0 n (.quietR b k l) T S Q :=
 let ⟨_, h1, h2⟩ := h; PW.quiet hm h1 h2
theorem Yields.to {po : PO} {v v' : Value} (h : Yields P w0 n po T S v) (e : v = v') : Yields P w0 n po T S v' := e ▸ h
theorem OL.bool {po : PO} {d : Nat} {g : Option (Nat × Bool)} {r : List PI} {K : TT -> SS -> Prop} {b : Bool} (hg : gOk T g) (h : Yields P w0 n po T S (.bool b)) (ht : b = true -> OL P w0 n r ((d, .bool true) :: T) S K) (hf : b = false -> OL P w0 n r ((d, .bool false) :: T) S K) : OL P w0 n (⟨some d, g, po⟩ :: r) T S K := by
 cases b
 ·exact OL.det hg h (hf rfl)
 exact OL.det hg h (ht rfl)
theorem QK.bool {po : PO} {d : Nat} {g : Option (Nat × Bool)} {r : List PI} {K : TT -> Prop} {b : Bool} (hg : gOk T g) (h : Yields P w0 n po T S (.bool b)) (ht : b = true -> QK P w0 n S r ((d, .bool true) :: T) K) (hf : b = false -> QK P w0 n S r ((d, .bool false) :: T) K) : QK P w0 n S (⟨some d, g, po⟩ :: r) T K := by
 cases b
 ·exact QK.det hg h (hf rfl)
 exact QK.det hg h (ht rfl)
theorem PW.ite {v : PV} {x y : PC} {Q : Exit -> TT -> SS -> Prop} {b : Bool} (hv : v.val T = some (.bool b)) (h : PW P w0 n (if b then x else y) T S Q) : PW P w0 n (.cond v x y) T S Q :=
 PW.cond hv (fun e => by subst e; exact h) (fun e => by subst e; exact h)
theorem addr_add_add (a : Addr) (m k : Nat) : (a.add m).add k = a.add (m + k) := by
 unfold Addr.add
 by_cases hm : m = 0
 ·subst hm; simp
 by_cases hk : k = 0
 ·subst hk; simp
 simp [hm, hk, Nat.add_assoc]
theorem Yields.ixN {sz : Nat} {x i : PV} {a : Addr} {len cap j : Nat} {k : IntKind} {z : Int} (hx : x.val T = some (.slice (some a) len cap)) (hi : i.val T = some (.int k z)) (hz : z = (j : Int)) (h : j < len) :
  Yields P w0 n (.ixS sz x i) T S (.pointer (some (a.add (j * sz)))) := by
 subst hz
 exact Yields.ixS hx hi (by omega) (by omega)
theorem Yields.ixN1 {x i : PV} {a : Addr} {len cap j : Nat} {k : IntKind} {z : Int} (hx : x.val T = some (.slice (some a) len cap)) (hi : i.val T = some (.int k z)) (hz : z = (j : Int)) (h : j < len) :
  Yields P w0 n (.ixS 1 x i) T S (.pointer (some (a.add j))) := by
 have := Yields.ixN (P := P) (w0 := w0) (n := n) (S := S) (sz := 1) hx hi hz h
 simpa using this
theorem OL.drop1 {l : List PI} {s : Seg} {K : TT -> SS -> Prop} (h : OL P w0 n l T S K) : OL P w0 n l T (s :: S) K :=
 fun ops is a w Q hc hs hr hq => h ops is a w Q hc hs (hr.sub (fun p hp => by simp [hp]) (by
  have := hr.nodup
  simp only [List.flatten_cons, List.map_append, List.nodup_append] at this
  exact this.2.1)) hq
theorem Within.del {d : Nat} {T : TT} : ∀ i v, look (SL.del (some d) T) i = some v -> look T i = some v := fun i v h => (look_del h).2
theorem look_put_del {d1 d2 : Nat} {u v' : Value} {T : TT} (i : Nat) (v : Value) (h : look ((d2, v') :: SL.del (some d1) T) i = some v) : look ((d2, v') :: (d1, u) :: T) i = some v := by
 by_cases e : d2 = i
 ·subst e
  rw [look_put_same] at h ⊢
  exact h
 rw [look_cons_ne _ _ e] at h ⊢
 obtain ⟨h1, h2⟩ := look_del h
 rw [look_cons_ne _ _ h1]
 exact h2
theorem OL.app1 {t E sz bytes m k d1 d2 : Nat} {z v base : Value} {s x : PV} {zero : List Value} {xs : List Value} {seg : Seg} {r : List PI} {K : TT -> SS -> Prop}
  (hx : x.val T = some v) (hz : zero.length = sz) (hv1 : v.cells.size = sz) (hs : s.val T = some base) (hne : s.val ((d1, .bool true) :: T) = some base) (hk : S[k]? = some seg) (hv : SlV E sz base m xs seg) (h1 : v.cells.toList.all (·.oneCell') = true)
  (hb : (m + 1) * bytes <= 140737488355328) (h63 : m + 1 <= maxLen)
  (hK : ∀ v' seg', SlV E sz v' (m + 1) (xs ++ v.cells.toList) seg' -> OL P w0 n r ((d2, v') :: SL.del (some d1) T) (S.set k seg') K) :
  OL P w0 n (⟨some d1, none, .bsl E zero 1 [(0, sz, x)]⟩ :: ⟨some d2, none, .app t E sz bytes z s (.t d1)⟩ :: r) T S K := by
 have hfill : fillP T zero [(0, sz, x)] = some v.cells.toList := by
  simp only [fillP, hx]
  have hl : v.cells.toList.length = zero.length := by simp [hv1, hz]
  rw [if_pos ⟨hv1, by omega⟩]
  rw [setAt_eq zero 0 v.cells.toList (by omega)]
  simp [hl]
 refine OL.cons trivial (OW.bsl hfill) ?_
 rintro _ _ ⟨b, rfl, rfl⟩
 have hsv : s.val (put (some d1) (.slice (some ⟨b, 0, none⟩) 1 1) T) = some base := by
  cases s with
  | v y => simpa [PV.val] using hs
  | t i =>
   simp only [PV.val, put] at hne hs ⊢
   by_cases e : d1 = i
   ·subst e
    rw [look_put_same] at hne ⊢
    cases m with
    | zero =>
     obtain ⟨_, ⟨rfl, _⟩ | ⟨_, _, rfl, _⟩⟩ := hv <;> simp at hne
    | succ m => obtain ⟨_, ⟨rfl, _⟩ | ⟨_, _, rfl, _⟩⟩ := hv <;> simp at hne
   rw [look_cons_ne _ _ e]; exact hs
 refine OL.cons trivial (OW.app (k := k + 1) (a := ⟨b, 0, none⟩) (q := 1) (c := 1) (news := v.cells.toList) hsv (by simpa using hk) hv (by simp [PV.val, put, look_put_same]) (by simp [hv1]) (fun j u hj => (Rd.own (E := E) (tot := v.cells.toList.length) (by simp)).at hj) h1 hb h63) ?_
 rintro v' _ ⟨seg', rfl, hsl⟩
 rw [List.set_cons_succ]
 refine OL.drop1 ?_
 refine fun ops is a w Q hc hs hr hq => hK v' seg' hsl ops is a w Q hc (hs.keep fun i u hu => ?_) hr hq
 exact look_put_del i u hu
theorem thenK_n {K : TT -> SS -> Prop} {Q : Exit -> TT -> SS -> Prop} : thenK K Q .normal T S = K T S := rfl
structure Sub (S' S : SS) : Prop where
 mem : ∀ p ∈ S'.flatten, p ∈ S.flatten
 nodup : (S.flatten.map Prod.fst).Nodup -> (S'.flatten.map Prod.fst).Nodup
theorem Sub.refl (S : SS) : Sub S S := ⟨fun _ h => h, fun h => h⟩
theorem Sub.trans {A B C : SS} (h : Sub A B) (k : Sub B C) : Sub A C := ⟨fun p hp => k.mem p (h.mem p hp), fun hn => h.nodup (k.nodup hn)⟩
theorem Sub.drop {s : Seg} {S' S : SS} (h : Sub S' S) : Sub S' (s :: S) := ⟨fun p hp => by simp [h.mem p hp], fun hn => h.nodup (by
 simp only [List.flatten_cons, List.map_append, List.nodup_append] at hn
 exact hn.2.1)⟩
theorem Sub.sel (is : List Nat) (m : Nat) (hi : (decide is.Nodup && is.all (· < m)) = true) (S : SS) : Sub (SL.sel is m S) S := by
 simp only [Bool.and_eq_true, decide_eq_true_eq, List.all_eq_true] at hi
 exact ⟨fun p hp => sel_mem hp, fun hn => sel_nodup hn hi.1 hi.2⟩
theorem Sub.cons {s : Seg} {S' S : SS} (h : Sub S' S) : Sub (s :: S') (s :: S) := ⟨fun p hp => by
  simp only [List.flatten_cons, List.mem_append] at hp ⊢
  exact hp.imp id (h.mem p), fun hn => by
  simp only [List.flatten_cons, List.map_append, List.nodup_append] at hn ⊢
  exact ⟨hn.1, h.nodup hn.2.1, fun a ha b hb => hn.2.2 a ha b (by
   obtain ⟨p, hp, rfl⟩ := List.mem_map.1 hb
   exact List.mem_map.2 ⟨p, h.mem p hp, rfl⟩)⟩⟩
theorem Rep.subS {w : World} {S' : SS} (h : Rep w0 S w) (hs : Sub S' S) : Rep w0 S' w := h.sub hs.mem (hs.nodup h.nodup)
theorem FC.ofD {k : FuncId} {pc : PC} {rs : List Nat} {args : List Value} {post : Value -> SS -> Prop} (hk : Known P k pc n rs) (hn : args.length <= n)
  (h : PW P w0 n pc (argT 0 args) S (fun e T' S' => (e = .normal ∨ e = .ret) /\ ∃ v, resV T' rs = some v /\ ∃ S'', Sub S'' S' /\ post v S'')) : FC P w0 k args S post := by
 intro w hw
 refine (FC.of hk hn h w hw).mono ?_
 rintro e w' ⟨v, S', rfl, hr, S'', hs, hp⟩
 exact ⟨v, S'', rfl, hr.subS hs, hp⟩
theorem PW.subS {pc : PC} {S' : SS} {Q : Exit -> TT -> SS -> Prop} (hs : Sub S' S) (h : PW P w0 n pc T S' Q) : PW P w0 n pc T S Q := PW.sub hs.mem hs.nodup h
theorem OL.subS {l : List PI} {S' : SS} {K : TT -> SS -> Prop} (hs : Sub S' S) (h : OL P w0 n l T S' K) : OL P w0 n l T S K :=
 fun ops is a w Q hc hsat hr hq => h ops is a w Q hc hsat (hr.subS hs) hq
theorem FC.subS {k : FuncId} {args : List Value} {S' : SS} {post : Value -> SS -> Prop} (hs : Sub S' S) (h : FC P w0 k args S' post) : FC P w0 k args S post := fun w hw => h w (hw.subS hs)
theorem Sub.join {a b : Seg} {S : SS} : Sub ((a ++ b) :: S) (a :: b :: S) := ⟨fun p hp => by simpa using hp, fun hn => by simpa using hn⟩
theorem Sub.split {a b : Seg} {S : SS} : Sub (a :: b :: S) ((a ++ b) :: S) := ⟨fun p hp => by simpa using hp, fun hn => by simpa using hn⟩
def LoopEnd (I : Nat -> TT -> SS -> Prop) (m : Nat) (T' : TT) (S' : SS) : Prop := ∃ T'' S'', Within T'' T' /\ Sub S'' S' /\ ∃ k, k < m /\ I k T'' S''
theorem LoopEnd.mk {I : Nat -> TT -> SS -> Prop} {m : Nat} {T' T'' : TT} {S' : SS} (h : Within T'' T') (k : ∃ k, k < m /\ I k T'' S') : LoopEnd I m T' S' := ⟨T'', S', h, Sub.refl _, k⟩
theorem LoopEnd.mkS {I : Nat -> TT -> SS -> Prop} {m : Nat} {T' T'' : TT} {S' S'' : SS} (hs : Sub S'' S') (h : Within T'' T') (k : ∃ k, k < m /\ I k T'' S'') : LoopEnd I m T' S' := ⟨T'', S'', h, hs, k⟩
theorem PW.keepS {pc : PC} {T' : TT} {Q : Exit -> TT -> SS -> Prop} (hk : ∀ i v, look T' i = some v -> look T i = some v) (h : PW P w0 n pc T' S Q) : PW P w0 n pc T S Q :=
 fun c hc a w hs hr => h c hc a w (hs.keep hk) hr
theorem PW.loopK {x : PC} {Q : Exit -> TT -> SS -> Prop} (I : Nat -> TT -> SS -> Prop) {m : Nat} (h0 : I m T S)
  (round : ∀ m T S, I m T S -> PW P w0 n x T S (thenK (LoopEnd I m) Q)) : PW P w0 n (.loop x) T S Q := by
 refine PW.loop (fun m T S => ∃ T' S', (∀ i v, look T' i = some v -> look T i = some v) /\ Sub S' S /\ I m T' S') (m := m) ⟨T, S, fun _ _ h => h, Sub.refl _, h0⟩ ?_
 rintro m T S ⟨T', S', hw, hsub, hI⟩
 refine PW.subS hsub (PW.keepS hw (PW.mono (round m T' S' hI) ?_))
 intro e T S h
 cases e with
 | normal =>
  obtain ⟨T'', S'', h1, h2, k, h3, h4⟩ := h
  exact ⟨k, h3, T'', S'', h1.spec, h2, h4⟩
 | _ => exact h
variable {Ss : SS -> Prop} {fr : Bool} {K : TT -> SS -> Prop}
theorem GL.det {po : PO} {d : Option Nat} {g : Option (Nat × Bool)} {v : Value} {r : List (Nat × PI)} (hg : gOk T g) (h : ∀ S, Ss S -> Yields P w0 n po T S v) (k : GL P w0 n Ss fr K r (put d v T) S) : GL P w0 n Ss fr K ((0, ⟨d, g, po⟩) :: r) T S := .inr ⟨hg, .inl ⟨rfl, v, h, k⟩⟩
theorem GL.dp {po : PO} {d : Option Nat} {v : Value} {r : List (Nat × PI)} (h : evalP po T = some v) (k : GL P w0 n Ss fr K r (put d v T) S) : GL P w0 n Ss fr K ((0, ⟨d, none, po⟩) :: r) T S := GL.det trivial (fun _ _ => .pure h) k
theorem GL.call {f : FuncId} {args : List PV} {vs : List Value} {v : Value} {d : Option Nat} {g : Option (Nat × Bool)} {r : List (Nat × PI)} (hg : gOk T g) (hv : valsP T args = some vs) (h : ∀ S, Ss S -> FC P w0 f vs S (fun v' S' => v' = v /\ S' = S)) (k : GL P w0 n Ss fr K r (put d v T) S) : GL P w0 n Ss fr K ((1, ⟨d, g, .call f args⟩) :: r) T S :=
 .inr ⟨hg, .inr (.inl ⟨rfl, v, fun S hS => OW.call hv (h S hS), k⟩)⟩
theorem GL.off {q : Nat} {po : PO} {d : Option Nat} {s : Nat} {b : Bool} {u : Value} {r : List (Nat × PI)} (hl : look T s = some u) (hc : (boolOf u == some b) = false) (k : GL P w0 n Ss fr K r (put d undef T) S) : GL P w0 n Ss fr K ((q, ⟨d, some (s, b), po⟩) :: r) T S := .inl ⟨⟨s, b, u, rfl, hl, hc⟩, k⟩
theorem GL.bool {po : PO} {d : Nat} {g : Option (Nat × Bool)} {r : List (Nat × PI)} {b : Bool} (hg : gOk T g) (h : ∀ S, Ss S -> Yields P w0 n po T S (.bool b)) (ht : b = true -> GL P w0 n Ss fr K r ((d, .bool true) :: T) S) (hf : b = false -> GL P w0 n Ss fr K r ((d, .bool false) :: T) S) : GL P w0 n Ss fr K ((0, ⟨some d, g, po⟩) :: r) T S := by
 cases b with
 | true => exact GL.det hg h (ht rfl)
 | false => exact GL.det hg h (hf rfl)
theorem GL.lo {po : PO} {d : Option Nat} {g : Option (Nat × Bool)} {r : List (Nat × PI)} (hg : gOk T g) (h : OW P w0 n po T S (fun v S' => Ss S' /\ GL P w0 n Ss false K r (put d v T) S')) : GL P w0 n Ss false K ((2, ⟨d, g, po⟩) :: r) T S :=
 .inr ⟨hg, .inr (.inr (.inl ⟨rfl, fun F hF => by rw [hF rfl]; exact h.mono fun v S' ⟨h1, h2⟩ => ⟨S', List.Perm.refl _, h1, h2⟩⟩))⟩
theorem GL.fresh {E : TypeId} {z : List Value} {d : Option Nat} {g : Option (Nat × Bool)} {r : List (Nat × PI)} (hg : gOk T g) (k : ∀ q, GL P w0 n Ss true K r (put d (.pointer (some ⟨q, 0, none⟩)) T) ([(q, .cells z E z.length)] :: S)) : GL P w0 n Ss true K ((3, ⟨d, g, .al E z⟩) :: r) T S :=
 .inr ⟨hg, .inr (.inr (.inr ⟨rfl, rfl, fun S' => OW.al, k⟩))⟩
end
end Go.SL

namespace Go.SL
open Go.RowKit
section
variable {P : Program} {w0 : World} {n : Nat} {T : TT} {S : SS}
theorem add_own (r j : Nat) : (⟨r, 0, none⟩ : Addr).add j = ⟨r, j, none⟩ := by rw [Addr.add_lit]; simp
theorem Yields.ixO {sz : Nat} {x i : PV} {r len cap j : Nat} {k : IntKind} {z : Int} (hx : x.val T = some (.slice (some ⟨r, 0, none⟩) len cap)) (hi : i.val T = some (.int k z)) (hz : z = (j : Int)) (h : j < len) :
  Yields P w0 n (.ixS sz x i) T S (.pointer (some ⟨r, j * sz, none⟩)) := by
 have := Yields.ixN (P := P) (w0 := w0) (n := n) (S := S) (sz := sz) hx hi hz h
 rwa [add_own] at this
theorem own_at {r E tot : Nat} {c : List Value} (h : (r, AO.cells c E tot) ∈ S.flatten) {j : Nat} {v : Value} (hj : c[j]? = some v) : Cell w0 S ⟨r, j, none⟩ v := by
 have := (Rd.own (w0 := w0) h).at hj
 rwa [add_own] at this
theorem cutV0 (A : Option Addr) (cap sz h : Nat) : cutV A cap sz 0 h = .slice A h cap := by
 unfold cutV
 have : A.map (fun a => a.add (0 * sz)) = A := by cases A <;> simp [Addr.add]
 rw [this]; simp
theorem Rd.pre {A : Option Addr} {cs cs' : List Value} (h : Rd w0 S A cs) (hp : cs' <+: cs) : Rd w0 S A cs' := by
 obtain ⟨r, rfl⟩ := hp
 intro j v hj
 have hlt := (List.getElem?_eq_some_iff.1 hj).1
 exact h j v (by rw [List.getElem?_append_left hlt]; exact hj)
theorem Sub.nilL {S' S : SS} (h : Sub S' S) : Sub ([] :: S') S := ⟨fun p hp => h.mem p (by simpa using hp), fun hn => by simpa using h.nodup hn⟩
theorem inBlk_n {k : Nat} {Q : Exit -> TT -> SS -> Prop} : inBlk k Q .normal T S = Q .normal T S := rfl
end
end Go.SL

namespace Go.SL
open Go.ChangeShapes Go.WideShapes Go.ChangeAt Go.RowKit
section
variable {H : Type} {enc : TypeId × Value -> H} {P : Program} {W : World}
theorem trodAll_below (hl : laidOutB P = true) {W' : World} (hb : Below W.heap.size W W') : ∀ {ts : List TypeId} {vs : List Value} {ds : List (DataW H)} {ps : List MemPlace}, ts.all (fun t => P.readableRec t && decide (t < P.types.size)) = true ->
  DataW.TrodAll enc P W 0 (fun _ => true) true ts vs ds ps -> DataW.TrodAll enc P W' 0 (fun b => decide (b < W.heap.size)) true ts vs ds ps
 | [], [], [], ps, _, h => h
 | t :: ts, v :: vs, d :: ds, ps, hr, h => by
  obtain ⟨p, q, h1, h2, rfl⟩ := h
  simp only [List.all_cons, Bool.and_eq_true, decide_eq_true_eq] at hr
  obtain ⟨m, hm⟩ := h1
  exact ⟨p, q, Below.trod hl hr.1.1 hr.1.2 ⟨m, hm⟩ hb (DataW.trod_lt m _ _ _ hm), trodAll_below hl hb hr.2 h2, rfl⟩
def Fits : CK -> Value -> Prop
 | .int k, v => ∃ n, v = .int k n /\ (Lit.int k n).wf = true
 | .str, v => ∃ s : ByteArray, v = .string s /\ s.size <= maxLen
 | .bool, v => ∃ b, v = .bool b
theorem FC.below {k : FuncId} {args : List Value} {v : Value} (h : FC P W k args [] (fun u _ => u = v)) : Calls P k args.toArray W fun e w' => e = .returned v /\ Below W.heap.size W w' :=
 (h W ⟨Below.refl _ _, by simp, by simp, .inr (Nat.le_refl _)⟩).mono fun e w' ⟨u, S', he, hr, hu⟩ => ⟨by rw [he, hu], hr.below⟩
end
end Go.SL

namespace Go.SL
open Go.RowKit
section
variable {P : Program} {w0 : World} {n : Nat} {T : TT} {S : SS}
theorem Rd.ro {r : Nat} {xs : List Value} (h : (r, AO.ro xs) ∈ S.flatten) : Rd w0 S (Option.some ⟨r, 0, none⟩) xs := by
 intro j v hj
 refine ⟨_, rfl, .inr (.inr ⟨xs, ?_, ?_, ?_⟩)⟩
 ·simpa [Addr.add_lit] using h
 ·simp [Addr.add_lit]
 simpa [Addr.add_lit] using hj
theorem Yields.nilc {x : PV} {a : Addr} (hx : x.val T = some (.pointer (some a))) : Yields P w0 n (.nilc x) T S (.pointer (some a)) := by
 intro o ac w hco hs hr
 obtain ⟨y, ho, rfl⟩ := cOp_spec P hco
 simp [execOp, ho, hs.eval hx]
theorem ptrB_spec {t : TypeId} (h : ptrB P t = true) : ∃ e, P.underlying t = some (.pointer e) := by
 unfold ptrB at h
 split at h
 ·exact ⟨_, by assumption⟩
 simp at h
theorem Yields.eqPn {neg : Bool} {x y : PV} {A : Option Addr} (hx : x.val T = some (.pointer A)) (hy : y.val T = some (.pointer none)) : Yields P w0 n (.eqP neg x y) T S (.bool (if neg then A.isSome else A.isNone)) := by
 intro o ac w hco hs hr
 obtain ⟨t, a, b, u, ho, rfl, rfl, hp⟩ := cOp_spec P hco
 obtain ⟨e, he⟩ := ptrB_spec hp
 have heq : (Op.equalIn 10000 t (.pointer A) (.pointer none)).run P w = .ok A.isNone w := by
  unfold Op.equalIn
  cases A <;> simp [run_underlying he]
 cases neg
 ·simp [execOp, ho, hs.eval hx, hs.eval hy, eqGuard, binOp, Op.equal, Op.maxDepth, heq]
 simp [execOp, ho, hs.eval hx, hs.eval hy, eqGuard, binOp, Op.equal, Op.maxDepth, heq]
def bytesC (l : List UInt8) : List Value := l.map fun b => .int .u8 (b.toNat : Int)
theorem bytesC_length (l : List UInt8) : (bytesC l).length = l.length := by simp [bytesC]
theorem bytesC_all (l : List UInt8) : (bytesC l).all (·.oneCell') = true := by
 rw [List.all_eq_true]
 intro u hu
 obtain ⟨b, _, rfl⟩ := List.mem_map.1 hu
 rfl
theorem Yields.strOf {x : PV} {A : Option Addr} {len cap : Nat} {l : List UInt8} (hx : x.val T = some (.slice A len cap)) (hl : l.length = len) (h : Rd w0 S A (bytesC l)) : Yields P w0 n (.strOf x) T S (.string ⟨l.toArray⟩) := by
 intro o ac w hco hs hr
 obtain ⟨s, t, a, e, ho, rfl, hs1, ht, he⟩ := cOp_spec P hco
 subst hl
 simp only [execOp, ho, hs.eval hx]
 cases A with
 | none =>
  have : l = [] := by
   cases l with
   | nil => rfl
   | cons b l => obtain ⟨_, e, _⟩ := h 0 _ rfl; cases e
  subst this
  rw [Sem.run_bind, run_convert_bytes_string w s t e none _ _ hs1 he ht]
  simp [Conv.bytesToString]
  rfl
 | some a' =>
  have := run_convert_bytes_back (P := P) w s t e a' cap l hs1 he ht (fun j hj => hr.cell (h.at (by simp [bytesC, hj])))
  rw [Sem.run_bind, this]
  simp
theorem OW.bytesOf {E : TypeId} {x : PV} {s : ByteArray} (hx : x.val T = some (.string s)) : OW P w0 n (.bytesOf E x) T S (fun v S' => ∃ r cap, v = .slice (some ⟨r, 0, none⟩) s.size cap /\ s.size <= cap /\ S' = [(r, .ro (bytesC s.data.toList))] :: S) := by
 intro op a w Q hco hs hr
 obtain ⟨u, t, y, ho, rfl, hs1, ht, he⟩ := cOp_spec P hco
 have hrun := run_bytes_of_string (P := P) w u t E s hs1 ht he
 have hex : (execOp a.eval op).run P w = .ok (.value (.slice (some ⟨w.heap.size, 0, none⟩) s.size (grownCap w s.size 0 E))) (w.drew.alloc (.cells (bytesRow s (grownCap w s.size 0 E)) E ((bytesRow s (grownCap w s.size 0 E)).size, (bytesRow s (grownCap w s.size 0 E)).size + 1))) := by
  simp only [execOp, ho, hs.eval hx]
  rw [Sem.run_bind, hrun]
  simp
 unfold Oper.wp
 rw [hex]
 refine ⟨_, _, rfl, ?_, w.heap.size, _, rfl, grownCap_ge .., rfl⟩
 have hb : Below w0.heap.size w (w.drew.alloc (.cells (bytesRow s (grownCap w s.size 0 E)) E ((bytesRow s (grownCap w s.size 0 E)).size, (bytesRow s (grownCap w s.size 0 E)).size + 1))) := (Below.refl _ w).drew.alloc hr.base _
 refine hr.push hb (fun i hi => alloc_heap_lt w.drew _ i hi) (by simp) ?_
 intro p hp
 simp only [List.mem_singleton] at hp
 subst hp
 refine ⟨?_, Nat.le_refl _⟩
 refine ⟨_, _, _, alloc_heap_new w.drew _, ?_⟩
 simp only [bytesRow, bytesC, Array.toList_append, Array.toList_map, List.length_map]
 have : (List.map (fun b : UInt8 => Value.int .u8 (b.toNat : Int)) s.data.toList).length = s.data.toList.length := by simp
 rw [<- this, List.take_left']
 simp
theorem Yields.slA {len : Nat} {x : PV} {a : Addr} (hx : x.val T = some (.pointer (some a))) : Yields P w0 n (.slA len x) T S (.slice (some a) len len) := by
 intro o ac w hco hs hr
 obtain ⟨t, y, e, ie, ho, rfl, hu, hi⟩ := cOp_spec P hco
 have hb := run_bounds (P := P) false len len none none 0 len (.inr ⟨rfl, rfl⟩) (.inr ⟨rfl, rfl⟩) (Nat.zero_le _) (Nat.le_refl _) w
 have hsz : (sizeOf e).run P w = .ok ie.size w := by simp [sizeOf, typeInfo, program, hi, Sem.run]
 simp only [execOp, ho, hs.eval hx, Instr.sliceAt, Option.map_none]
 simp [run_underlying hu, Instr.sureAddr, hb, hsz]
 cases len <;> simp [Addr.add]
theorem Yields.ixA {len sz j : Nat} {x i : PV} {a : Addr} {k : IntKind} {z : Int} (hx : x.val T = some (.pointer (some a))) (hi : i.val T = some (.int k z)) (hz : z = (j : Int)) (h : j < len) : Yields P w0 n (.ixA len sz x i) T S (.pointer (some (a.add (j * sz)))) := by
 intro o ac w hco hs hr
 obtain ⟨t, y, y2, e, ie, ho, rfl, rfl, hu, hie, rfl⟩ := cOp_spec P hco
 subst hz
 have hsz : (sizeOf e).run P w = .ok ie.size w := by simp [sizeOf, typeInfo, program, hie, Sem.run]
 simp only [execOp, ho, hs.eval hx, hs.eval hi, Instr.indexAt]
 simp [run_underlying hu, Instr.sureAddr, asIntOf, hsz, h]
theorem Yields.mkF {f : FuncId} {caps : List PV} {vs : List Value} (hv : valsP T caps = some vs) : Yields P w0 n (.mkF f caps) T S (.func (.func f) #[] vs.toArray) := by
 intro o ac w hco hs hr
 obtain ⟨fi, cs, ho, hfi, rfl⟩ := cOp_spec P hco
 have hfi' : fi = #[] := by apply Array.toList_inj.1; simpa using hfi
 subst hfi'
 have hargs : cs.map ac.eval = vs.toArray := by
  have := valsP_spec hs hv
  rw [<- this, <- Array.toArray_toList (xs := cs.map ac.eval), Array.toList_map]
 simp [execOp, ho, Instr.makeFunc, hargs]
theorem OW.callv {f : PV} {g : FuncId} {args : List PV} {fi ca : List Value} {vs : List Value} {post : Value -> SS -> Prop} (hf : f.val T = some (.func (.func g) fi.toArray ca.toArray)) (hok : fnOk P g = true) (hv : valsP T args = some vs)
  (h : FC P w0 g (fi ++ vs ++ ca) S post) : OW P w0 n (.callv f args) T S post := by
 intro op ac w Q hco hs hr
 obtain ⟨cl, y, ho, hca, rfl, rfl⟩ := cOp_spec P hco
 have hargs : cl.args.map ac.eval = vs.toArray := by
  have := valsP_spec hs hv
  rw [<- this, <- Array.toArray_toList (xs := cl.args.map ac.eval), Array.toList_map]
 have hrun : (execOp ac.eval op).run P w = .ok (.enter g (fi ++ vs ++ ca).toArray) w := by
  unfold fnOk at hok
  split at hok
  ·rename_i fn hfn
   simp only [Bool.and_eq_true, bne_iff_ne, ne_eq] at hok
   have hb : ¬ fn.body = none := by intro hh; simp [hh] at hok
   simp only [execOp, ho, resolve, hca, hs.eval hf, Deferred.ofValue]
   simp [invoke, callFunc, program, Sem.run, hfn, hok.1, hb, hargs]
  simp at hok
 unfold Oper.wp
 rw [hrun]
 refine (h w hr).mono ?_
 rintro e w' ⟨v, S', rfl, hr', hp⟩
 exact ⟨v, S', rfl, hr', hp⟩
theorem OW.bsl0 {E : TypeId} : OW P w0 n (.bsl0 E) T S (fun v S' => ∃ r, v = .slice (some ⟨r, 0, none⟩) 0 0 /\ S' = [(r, .cells [] E 0)] :: S) := by
 intro op a w Q hco hs hr
 obtain ⟨t, l, qs, i, ho, rfl, hq, hu, hi⟩ := cOp_spec P hco
 have hq' : qs = #[] := by apply Array.toList_inj.1; simpa using hq
 subst hq'
 have hrun : (execOp a.eval op).run P w = .ok (.value (.slice (some ⟨w.heap.size, 0, none⟩) 0 0)) (w.alloc (.cells #[] E)) := by
  have hsz : (sizeOf E).run P w = .ok i.size w := by simp [sizeOf, typeInfo, program, hi, Sem.run]
  simp [execOp, ho, Instr.buildSlice, run_underlying hu, hsz, Instr.fill, newRow, newObj, Sem.run]
  rw [show Array.range 0 = #[] from by simp [Array.range], Array.map_empty]
 unfold Oper.wp
 rw [hrun]
 exact ⟨_, _, rfl, by simpa using hr.alloc #[] E, w.heap.size, rfl, rfl⟩
theorem strCells_bytesC (s : ByteArray) : Lib.strCells s = bytesC s.data.toList := by simp [Lib.strCells, bytesC]
theorem app_new_str {w : World} (t u ty e : TypeId) (i : TypeInfo) (ht : P.underlying t = some (.slice e)) (hu : P.underlying u = some .string) (hi : P.info? e = some i) (hz : i.zero = some (.int .u8 0)) (hsz : i.size = 1) (hby : i.bytes = 1)
  {base : Nat} (v : Value) (m : Nat) (xs : List Value) (hown : w.ownsRow base e 1 v m xs) (s : ByteArray) (hb : m + s.size <= 140737488355328) (hbase : base <= w.heap.size) :
  ∃ v' w', (Builtin.append_ #[t, u] ty #[v, .string s]).run P w = .ok v' w' /\ w'.ownsRow base e 1 v' (m + s.size) (xs ++ Lib.strCells s) /\ w.grownBy w' v.ownBlock /\
   (∀ r, v'.ownBlock = some r -> v.ownBlock = some r ∨ w.heap.size <= r) := by
 have h63 : m + s.size <= maxLen := by unfold maxLen; omega
 obtain ⟨v', w', hrun, ho, hg, hnil⟩ := Lib.run_append_own_string (P := P) w base t u ty e i ht hu hi hz hsz hby v m xs hown s h63 hb hbase
 refine ⟨v', w', hrun, ho, hg, fun r hr => ?_⟩
 obtain ⟨hxl, ⟨rfl, rfl⟩ | ⟨g, cap, cur, rfl, hbg, hgc, hnc, hcm, hcs, htake⟩⟩ := hown
 ·by_cases hm : s.size = 0
  ·rw [hnil.2 ⟨rfl, hm⟩] at hr
   simp [Value.ownBlock] at hr
  have h2 := run_append_nil_string (P := P) w t u ty e i (.int .u8 0) ht hu hi hz s (by omega) (by omega) (by rw [hby]; omega)
  rw [h2] at hrun
  injection hrun with e1 e2
  subst e1
  simp [Value.ownBlock] at hr
  exact .inr (by omega)
 by_cases hroom : m + s.size <= cap
 ·have h2 := Lib.run_append_room_string (P := P) w t u ty e i ht hu hi hsz g m cap cur hgc s hroom (by omega)
  rw [h2] at hrun
  injection hrun with e1 e2
  subst e1
  exact .inl hr
 have holds : ∀ j u, xs[j]? = some u -> w.cell? ((⟨g, 0, none⟩ : Addr).add j) = some u := (show w.ownsRow base e 1 _ m xs from ⟨hxl, .inr ⟨g, cap, cur, rfl, hbg, hgc, hnc, hcm, hcs, htake⟩⟩).cells (g := g) rfl
 have h2 := Lib.run_append_grow_string (P := P) w t u ty e i (.int .u8 0) ht hu hi hz ⟨g, 0, none⟩ m cap xs (by rw [hsz]; exact hxl) holds s (by omega) (by omega) (growslice_fits (by omega) (by rw [hby]; omega))
 rw [h2] at hrun
 injection hrun with e1 e2
 subst e1
 simp [Value.ownBlock] at hr
 exact .inr (by omega)
theorem OW.appStr {t u E m k : Nat} {v : Value} {s x : PV} {xs : List Value} {seg : Seg} {st : ByteArray} (hs' : s.val T = some v) (hk : S[k]? = some seg) (hv : SlV E 1 v m xs seg)
  (hx : x.val T = some (.string st)) (hb : m + st.size <= 140737488355328) :
  OW P w0 n (.appStr t u E 1 (.int .u8 0) s x) T S (fun v' S' => ∃ seg', S' = S.set k seg' /\ SlV E 1 v' (m + st.size) (xs ++ bytesC st.data.toList) seg') := by
 intro op ac w Q hco hs hr
 obtain ⟨y, y', cl, i, ho, hca, hat, har, rfl, rfl, ht, hu, hi, hz, hby, hzs, hsz⟩ := cOp_spec P hco
 obtain ⟨v', w', hrun, hown, hg, hnew⟩ := app_new_str (P := P) t u op.type E i ht hu hi hz hsz hby v m xs (hr.owns hk hv) st hb hr.base
 rw [strCells_bytesC] at hown
 obtain ⟨seg', hsl, hrep⟩ := hr.ofOwns hk hv hown hg hnew
 unfold Oper.wp
 have hrun' : (execOp ac.eval op).run P w = .ok (.value v') w' := by
  simp only [execOp, ho, resolve, hca, invoke, builtin, hat, har]
  simp [hs.eval hs', hs.eval hx, hrun]
 rw [hrun']
 exact ⟨v', _, rfl, hrep, seg', rfl, hsl⟩
theorem OW.cpy {E E' b o dl dc sl sc tot k : Nat} {d s : PV} {A : Option Addr} {c news : List Value} (hd : d.val T = some (.slice (some ⟨b, o, none⟩) dl dc)) (hs' : s.val T = some (.slice A sl sc)) (hk : S[k]? = some [(b, .cells c E' tot)])
  (hn : news.length = Nat.min sl dl) (hrd : Rd w0 S A news) (hb : o + news.length <= c.length) (h1 : news.all (·.oneCell') = true) :
  OW P w0 n (.cpy E 1 d s) T S (fun v S' => v = .int .i64 (news.length : Int) /\ S' = S.set k [(b, .cells (setAt c o news) E' tot)]) := by
 intro op a w Q hco hs hr
 obtain ⟨t, u, y, z, cl, i, ho, hca, hat, har, rfl, rfl, hu, hi, hsz⟩ := cOp_spec P hco
 obtain ⟨hge, C, hC, htot, hpre⟩ := hr.own (b, .cells c E' tot) (List.mem_flatten.2 ⟨_, List.mem_of_getElem? hk, by simp⟩)
 simp only at hge hC
 have hlen : c.length <= C.size := by
  have := congrArg List.length hpre
  simp at this
  omega
 have hst := run_storeCells_at P b o E' news 0 C w hC (by omega) (fun v hv => (List.all_eq_true.1 h1) v hv)
 simp only [Nat.add_zero] at hst
 have hfirst : (Builtin.firstCells 1 (Nat.min sl dl) (.slice A sl sc)).run P w = .ok news.toArray w := by
  cases A with
  | none =>
   have : news = [] := by
    cases news with
    | nil => rfl
    | cons x r => obtain ⟨_, e, _⟩ := hrd 0 _ rfl; cases e
   subst this
   simp [Builtin.firstCells]
  | some a' =>
   have hl := run_loadCells_list (P := P) w a' news (fun j v hj => hr.cell (hrd.at hj))
   simp [Builtin.firstCells, <- hn, hl]
 unfold Oper.wp
 have hrun : (execOp a.eval op).run P w = .ok (.value (.int .i64 (news.length : Int))) (w.setRow b (C.toList.take o ++ news ++ C.toList.drop (o + news.length)).toArray) := by
  simp only [execOp, ho, resolve, hca, invoke, builtin, hat, har]
  simp [Builtin.copy_, hs.eval hd, hs.eval hs', run_underlying hu, Builtin.lenOf, sizeOf, typeInfo, program, Sem.run, hi, hsz, hfirst, hst, goInt]
  exact congrArg _ hn.symm
 rw [hrun]
 refine ⟨_, _, rfl, ?_, rfl, rfl⟩
 have hheap := setRow_heap w b C (C.toList.take o ++ news ++ C.toList.drop (o + news.length)).toArray E' (0, 0) hC
 refine hr.replace hk (below_setRow w b _ hge) (fun i _ hne => setRow_heap_other w b i _ (by simpa using hne)) (by simp) ?_
 intro p hp
 simp only [List.mem_singleton] at hp
 subst hp
 refine ⟨hge, ⟨_, hheap, ?_, ?_⟩, .inl (by simp)⟩
 ·simp only [List.size_toArray, List.length_append, List.length_take, List.length_drop, Array.length_toList]; omega
 rw [setAt_length, setAt_eq c o _ (by omega)]
 have := take_lay C.toList o news c.length (by omega) (by simp; omega)
 rw [hpre] at this
 simpa using this
def KnownC (P : Program) (k : FuncId) (pc : PC) (n s : Nat) (m : Option Nat) : Prop :=
 ∃ fn c t, P.funcs[k]? = some fn /\ fn.body = some c /\ cC P fn.ntmps c = some pc /\ fn.ntmps = n /\ fn.results = #[.cell s t] /\ aggOf P t = some m
def ReadsAs (w0 : World) (S : SS) (m : Option Nat) (a : Addr) (v : Value) : Prop := match m with
 | none => Cell w0 S a v
 | some m => ∃ cs : List Value, v = .agg cs.toArray /\ cs.length = m /\ ∀ j u, cs[j]? = some u -> Cell w0 S (a.add j) u
theorem FC.ofC {k : FuncId} {pc : PC} {s : Nat} {m : Option Nat} {args : List Value} {post : Value -> SS -> Prop} (hk : KnownC P k pc n s m) (hn : args.length <= n)
  (h : PW P w0 n pc (argT 0 args) S (fun e T' S' => (e = .normal ∨ e = .ret) /\ ∃ a v, look T' s = some (.pointer (some a)) /\ ReadsAs w0 S' m a v /\ ∃ S'', Sub S'' S' /\ post v S'')) : FC P w0 k args S post := by
 obtain ⟨fn, c, t, hf, hb, hc, rfl, hres, hm⟩ := hk
 intro w hw
 refine calls_of_wp hf hb (wp_mono (h c hc _ w (argT_sat hn) hw) ?_)
 rintro e a' w' ⟨T', S', hs', hr', he, a, v, hl, hv, S'', hsub, hp⟩
 have ht := hs'.get s _ hl
 have hload : (loadVar t a).run P w' = .ok v w' := by
  cases m with
  | none =>
   obtain ⟨d, hu, hd⟩ := aggOf_none hm
   have := hr'.cell hv
   simp [loadVar, run_isAgg hu, hd, load, Sem.run, this]
  | some m =>
   obtain ⟨cs, rfl, hcl, hcs⟩ := hv
   obtain ⟨d, i, hu, hd, hi, hsz⟩ := aggOf_some hm
   have hload := run_loadCells_list (P := P) w' a cs (fun j v hj => hr'.cell (hcs j v hj))
   rw [hcl] at hload
   simp [loadVar, run_isAgg hu, hd, sizeOf, typeInfo, program, hi, hsz, hload, Sem.run]
 have hrun : (results fn a'.tmps).run P w' = .ok v w' := by
  simp [results, hres, ht, asAddr, hload]
 rcases he with rfl | rfl
 ·exact ⟨hs'.defers, v, hrun, v, S'', rfl, hr'.subS hsub, hp⟩
 exact ⟨hs'.defers, v, hrun, v, S'', rfl, hr'.subS hsub, hp⟩
end
end Go.SL

namespace Go.SL
open Go.RowKit
section
variable {P : Program} {w0 : World} {n : Nat} {T : TT} {S : SS}
theorem Yields.binRaw {op : BinOp} {x y : PV} {u v r : Value} (hx : x.val T = some u) (hy : y.val T = some v) (hg : ∀ t a b w, (eqGuard op t a b u v).run P w = .ok () w) (h : ∀ t w, (binOp op t u v).run P w = .ok r w) : Yields P w0 n (.bin op x y) T S r := by
 intro o ac w hco hs hr
 obtain ⟨t, c, d, z, ho, rfl, rfl, hp⟩ := cOp_spec P hco
 simp only [execOp, ho, hs.eval hx, hs.eval hy]
 simp [hg, h]
theorem Yields.quo {x y : PV} {k : IntKind} {a b : Int} (hx : x.val T = some (.int k a)) (hy : y.val T = some (.int k b)) (hb : b ≠ 0) : Yields P w0 n (.bin .quo x y) T S (.int k (k.wrap (a.tdiv b))) :=
 Yields.binRaw hx hy (fun t a b w => by simp [eqGuard]) (fun t w => by simp [binOp, Op.intDiv, hb])
theorem Yields.rem {x y : PV} {k : IntKind} {a b : Int} (hx : x.val T = some (.int k a)) (hy : y.val T = some (.int k b)) (hb : b ≠ 0) : Yields P w0 n (.bin .rem x y) T S (.int k (a.tmod b)) :=
 Yields.binRaw hx hy (fun t a b w => by simp [eqGuard]) (fun t w => by simp [binOp, Op.intDiv, hb])
end
end Go.SL

namespace Go.SL
open Go.RowKit
section
variable {P : Program} {w0 : World} {n : Nat} {T : TT} {S : SS}
end
end Go.SL

namespace Go.SL
open Go.ChangeShapes Go.WideShapes Go.ChangeAt Go.RowKit
section
variable {H : Type} {enc : TypeId × Value -> H} {P : Program} {W : World}
def FitsAll : List CK -> List Value -> Prop
 | [], [] => True
 | c :: cs, v :: vs => Fits c v /\ FitsAll cs vs
 | _, _ => False
theorem FitsAll.append {s t : List CK} {a b : List Value} (h1 : FitsAll s a) (h2 : FitsAll t b) : FitsAll (s ++ t) (a ++ b) := by
 induction s generalizing a with
 | nil => cases a with
  | nil => exact h2
  | cons v a => exact h1.elim
 | cons c s ih => cases a with
  | nil => exact h1.elim
  | cons v a => exact ⟨h1.1, ih h1.2⟩
theorem FitsAll.len {s : List CK} {a : List Value} (h : FitsAll s a) : s.length = a.length := by
 induction s generalizing a with
 | nil => cases a with
  | nil => rfl
  | cons v a => exact h.elim
 | cons c s ih => cases a with
  | nil => exact h.elim
  | cons v a => simp [ih h.2]
end
end Go.SL

namespace Go.SL
open Go.RowKit Go.ChangeShapes Go.WideShapes Go.ChangeAt
section
variable {H : Type} {enc : TypeId × Value -> H} {P : Program} {W : World}
end
end Go.SL

namespace Go.SL
open Go.RowKit
section
variable {P : Program} {w0 : World} {n : Nat} {T : TT} {S : SS}
theorem Yields.neg {x : PV} {k : IntKind} {z : Int} (hx : x.val T = some (.int k z)) : Yields P w0 n (.more (.neg x)) T S (.int k (k.wrap (0 - z))) := by
 intro o a w hco hs hr
 obtain ⟨t, y, ho, rfl⟩ := cOp_spec P hco
 simp [execOp, ho, hs.eval hx, Op.unary, Op.intArith]
theorem constNil1 {y : Operand} (h : constNil y = 1) : y = .const .nilIface := by
 unfold constNil at h
 split at h
 ·rfl
 ·cases h
 cases h
theorem constNil2 {y : Operand} (h : constNil y = 2) : y = .const (.slice none 0 0) := by
 unfold constNil at h
 split at h
 ·cases h
 ·rfl
 cases h
theorem Yields.mkI {t : TypeId} {x : PV} {v : Value} (hx : x.val T = some v) : Yields P w0 n (.more (.mkI t x)) T S (.iface t v) := by
 intro o a w hco hs hr
 obtain ⟨y, d, ho, rfl, hu, hd⟩ := cOp_spec P hco
 have : (Instr.makeInterface t v).run P w = .ok (.iface t v) w := by
  unfold Instr.makeInterface
  simp only [Sem.run_bind, run_underlying hu, Result.andThen_ok]
  cases d <;> (first | rfl | exact absurd rfl (hd _))
 simp [execOp, ho, hs.eval hx, this]
def isNilI : Value -> Option Bool
 | .nilIface => some true
 | .iface _ _ => some false
 | _ => none
theorem Yields.eqJ {neg : Bool} {tys : List (TypeId × IntKind)} {x y : PV} {tx ty : TypeId} {k k' : IntKind} {a b : Int} {r : Bool} (hx : x.val T = some (.iface tx (.int k a))) (hy : y.val T = some (.iface ty (.int k' b)))
  (hr : (tx ≠ ty /\ r = false) ∨ (tx = ty /\ k = k' /\ (tx, k) ∈ tys /\ r = (a == b))) : Yields P w0 n (.more (.eqJ neg tys x y)) T S (.bool (if neg then !r else r)) := by
 intro o ac w hco hs hrep
 obtain ⟨t, p, q, u, ms, ho, rfl, rfl, rfl, hu⟩ := cOp_spec P hco
 have heq0 : ∀ d, (Op.equalIn (d + 2) t (.iface tx (.int k a)) (.iface ty (.int k' b))).run P w = .ok r w := by
  intro d
  rcases hr with ⟨hne, rfl⟩ | ⟨rfl, rfl, hm, rfl⟩
  ·simp [Op.equalIn, run_underlying hu, hne]
  obtain ⟨h1, i, h2, h3⟩ := intTys_mem hm
  simp [Op.equalIn, run_underlying hu, run_underlying h1, typeInfo, program, Sem.run, h2, h3]
 have heq : (Op.equal t (.iface tx (.int k a)) (.iface ty (.int k' b))).run P w = .ok r w := heq0 9998
 cases neg with
 | false =>
  simp only [execOp, ho, hs.eval hx, hs.eval hy, Bool.false_eq_true, if_false]
  simp [eqGuard, binOp, heq]
 | true =>
  simp only [execOp, ho, hs.eval hx, hs.eval hy, if_true]
  simp [eqGuard, binOp, heq]
theorem Yields.eqI {neg : Bool} {x : PV} {v : Value} {b : Bool} (hx : x.val T = some v) (hb : isNilI v = some b) : Yields P w0 n (.more (.eqI neg x)) T S (.bool (if neg then !b else b)) := by
 intro o a w hco hs hr
 obtain ⟨t, y, z, u, ms, ho, rfl, hz, hu⟩ := cOp_spec P hco
 obtain rfl := constNil1 hz
 have he : a.eval (.const .nilIface) = .nilIface := rfl
 have heq0 : ∀ d, (Op.equalIn (d + 1) t v .nilIface).run P w = .ok b w := by
  intro d
  unfold isNilI at hb
  split at hb <;> (first | cases hb | skip)
  ·simp [Op.equalIn, run_underlying hu]
  simp [Op.equalIn, run_underlying hu]
 have heq : (Op.equal t v .nilIface).run P w = .ok b w := heq0 9999
 have hg : ∀ op, (eqGuard op t y (.const .nilIface) v .nilIface).run P w = .ok () w := by
  intro op
  unfold isNilI at hb
  split at hb <;> (first | cases hb | skip)
  ·cases op <;> simp [eqGuard]
  cases op <;> simp [eqGuard]
 have hbin : ∀ op, op = BinOp.eql ∨ op = .neq -> (binOp op t v .nilIface).run P w = .ok (.bool (if op == .neq then !b else b)) w := by
  intro op hop
  unfold isNilI at hb
  split at hb <;> (first | cases hb | skip)
  ·rcases hop with rfl | rfl <;> simp [binOp, heq]
  rcases hop with rfl | rfl <;> simp [binOp, heq]
 cases neg
 ·simp only [execOp, ho, Bool.false_eq_true, if_false, hs.eval hx, he]
  simp [hg, hbin]
 simp only [execOp, ho, if_true, hs.eval hx, he]
 simp [hg, hbin]
theorem Yields.slNil {neg : Bool} {x : PV} {A : Option Addr} {l c : Nat} (hx : x.val T = some (.slice A l c)) : Yields P w0 n (.more (.slNil neg x)) T S (.bool (if neg then A.isSome else A.isNone)) := by
 intro o a w hco hs hr
 obtain ⟨t, y, z, u, e, ho, rfl, hz, hu⟩ := cOp_spec P hco
 obtain rfl := constNil2 hz
 have he : a.eval (.const (.slice none 0 0)) = .slice none 0 0 := rfl
 have heq0 : ∀ d, (Op.equalIn (d + 1) t (.slice A l c) (.slice none 0 0)).run P w = .ok A.isNone w := by
  intro d
  cases A <;> simp [Op.equalIn, run_underlying hu]
 have heq : (Op.equal t (.slice A l c) (.slice none 0 0)).run P w = .ok A.isNone w := heq0 9999
 cases neg
 ·simp only [execOp, ho, Bool.false_eq_true, if_false, hs.eval hx, he]
  simp [eqGuard, binOp, heq]
 simp only [execOp, ho, if_true, hs.eval hx, he]
 simp [eqGuard, binOp, heq]
theorem Yields.slAr {len sz : Nat} {x : PV} {lo hi : Option PV} {a : Addr} {l h : Nat} {li hi' : Option Int} (hx : x.val T = some (.pointer (some a)))
  (hl : ovI lo T = some li) (hh : ovI hi T = some hi') (el : li = some (l : Int) ∨ (li = none /\ l = 0)) (eh : hi' = some (h : Int) ∨ (hi' = none /\ h = len)) (h1 : l <= h) (h2 : h <= len) :
  Yields P w0 n (.more (.slAr len sz x lo hi)) T S (.slice (some (if len = l then a else a.add (l * sz))) (h - l) (len - l)) := by
 intro o ac w hco hs hr
 obtain ⟨t, y, ol, oh, e, ie, ho, rfl, rfl, rfl, hu, hie, rfl⟩ := cOp_spec P hco
 have e1 : (∃ k, ol.map ac.eval = some (.int k (l : Int))) ∨ (ol.map ac.eval = none /\ l = 0) := by
  rcases ovI_spec hs hl with ⟨h, h'⟩ | ⟨j, k, h, h'⟩
  ·rw [h] at el; rcases el with el | el
   ·cases el
   exact .inr ⟨h', el.2⟩
  rw [h] at el; rcases el with el | el
  ·obtain rfl := Option.some.inj el; exact .inl ⟨k, h'⟩
  cases el.1
 have e2 : (∃ k, oh.map ac.eval = some (.int k (h : Int))) ∨ (oh.map ac.eval = none /\ h = len) := by
  rcases ovI_spec hs hh with ⟨h, h'⟩ | ⟨j, k, h, h'⟩
  ·rw [h] at eh; rcases eh with eh | eh
   ·cases eh
   exact .inr ⟨h', eh.2⟩
  rw [h] at eh; rcases eh with eh | eh
  ·obtain rfl := Option.some.inj eh; exact .inl ⟨k, h'⟩
  cases eh.1
 have hb := run_bounds (P := P) false len len (ol.map ac.eval) (oh.map ac.eval) l h e1 e2 h1 h2 w
 simp only [execOp, ho, hs.eval hx, Instr.sliceAt]
 simp [run_underlying hu, Instr.sureAddr, hb, sizeOf, typeInfo, program, Sem.run, hie]
theorem Yields.bldA {zero : List Value} {parts : List (Nat × Nat × PV)} {cs : List Value} (h : fillP T zero parts = some cs) : Yields P w0 n (.more (.bldA zero parts)) T S (.agg cs.toArray) := by
 intro o a w hco hs hr
 obtain ⟨t, qs, m, e, i, ie, z, ho, hu, hi, hie, hz, rfl, hpa⟩ := cOp_spec P hco
 have hfill := fill_spec hs (place := fun j => some (j * ie.size, ie.size)) (cells := z.cells) hpa h
 simp only [execOp, ho]
 have hb : P.built t (qs.map fun (i, x) => (i, a.eval x)).toList = some cs.toArray := by
  unfold Program.built
  simp only [hi, hu, hz, hie]
  simp only [Array.toList_map]
  exact hfill
 have := run_build (P := P) w t _ cs.toArray hb
 simp only [Sem.run_bind, this, Result.andThen_ok]
 rfl
theorem OW.cvS {x : PV} {b o l c k E tot : Nat} {cs : List Value} (hx : x.val T = some (.slice (some ⟨b, o, none⟩) l c)) (hk : S[k]? = some [(b, .cells cs E tot)]) :
  OW P w0 n (.more (.cvS x)) T S (fun v S' => v = .slice (some ⟨b, o, none⟩) l c /\ S' = S.set k [(b, .ro cs)]) := by
 intro op a w Q hco hs hr
 obtain ⟨s, t, y, e, ho, rfl, rfl, hu, he⟩ := cOp_spec P hco
 obtain ⟨hge, C, hC, htot, hpre⟩ := hr.own (b, .cells cs E tot) (List.mem_flatten.2 ⟨_, List.mem_of_getElem? hk, by simp⟩)
 simp only at hge hC
 have hlt : b < w.heap.size := (Array.getElem?_eq_some_iff.1 hC).1
 have hrun : (execOp a.eval op).run P w = .ok (.value (.slice (some ⟨b, o, none⟩) l c)) (w.freeze ⟨b, C.size, none⟩ 1) := by
  simp only [execOp, ho, hs.eval hx, convert]
  have hsh : w.shape? b = some (E, C.size) := by simp [World.shape?, hC]
  simp [run_underlying hu, run_underlying he, markStringish, shape, freeze, Sem.run, hsh]
 unfold Oper.wp
 rw [hrun]
 refine ⟨_, _, rfl, ?_, rfl, rfl⟩
 have hheap : ∀ i, i ≠ b -> (w.freeze ⟨b, C.size, none⟩ 1).heap[i]? = w.heap[i]? := by
  intro i hi
  simp [World.freeze, Array.getElem?_modify]
  intro e
  exact absurd e.symm hi
 refine hr.replace hk ⟨rfl, rfl, rfl, by simp [World.freeze], fun i hi => hheap i (by omega)⟩ (fun i _ hne => hheap i (by simpa using hne)) (by simp) ?_
 intro p hp
 simp only [List.mem_singleton] at hp
 subst hp
 refine ⟨hge, ?_, .inl (by simp)⟩
 refine ⟨C, E, (C.size, C.size + 1), ?_, hpre⟩
 simp [World.freeze, Array.getElem?_modify, hC]
theorem OW.rngS {x : PV} {s : ByteArray} (hx : x.val T = some (.string s)) : OW P w0 n (.more (.rngS x)) T S (fun v S' => ∃ r, v = .pointer (some ⟨r, 0, none⟩) /\ S' = [(r, .obj (.stringIter s 0))] :: S) := by
 intro op a w Q hco hs hr
 obtain ⟨t, y, ho, rfl, hu⟩ := cOp_spec P hco
 have hrun : (execOp a.eval op).run P w = .ok (.value (.pointer (some ⟨w.heap.size, 0, none⟩))) (w.alloc (.stringIter s 0)) := by
  simp [execOp, ho, hs.eval hx, Instr.range, run_underlying hu, newObj, Sem.run]
 unfold Oper.wp
 rw [hrun]
 refine ⟨_, _, rfl, ?_, w.heap.size, rfl, rfl⟩
 refine hr.push (below_alloc hr _) (fun i hi => alloc_heap_lt w _ i hi) (by simp) ?_
 intro p hp
 simp only [List.mem_singleton] at hp
 subst hp
 exact ⟨alloc_heap_new w _, Nat.le_refl _⟩
theorem iter_at {w : World} {k b : Nat} {o : Obj} (h : Rep w0 S w) (hk : S[k]? = some [(b, .obj o)]) : w0.heap.size <= b /\ w.heap[b]? = some o :=
 h.own (b, .obj o) (List.mem_flatten.2 ⟨_, List.mem_of_getElem? hk, by simp⟩)
theorem OW.nxtS {x : PV} {s : ByteArray} {b k p : Nat} (hx : x.val T = some (.pointer (some ⟨b, 0, none⟩))) (hk : S[k]? = some [(b, .obj (.stringIter s p))]) (hp : p < s.size) :
  OW P w0 n (.more (.nxtS x)) T S (fun v S' => v = .tuple #[.bool true, .int .i64 (p : Int), .int .i32 ((Utf8.decode s p).1 : Int)] /\ S' = S.set k [(b, .obj (.stringIter s (p + (Utf8.decode s p).2)))]) := by
 intro op a w Q hco hs hr
 obtain ⟨y, ho, rfl⟩ := cOp_spec P hco
 obtain ⟨hge, hw⟩ := iter_at hr hk
 have hlt : b < w.heap.size := (Array.getElem?_eq_some_iff.1 hw).1
 have hrun : (execOp a.eval op).run P w = .ok (.value (.tuple #[.bool true, .int .i64 (p : Int), .int .i32 ((Utf8.decode s p).1 : Int)])) { w with heap := w.heap.setIfInBounds b (.stringIter s (p + (Utf8.decode s p).2)) } := by
  simp [execOp, ho, hs.eval hx, Instr.next, getObj, setObj, Sem.run, hw, hp, goInt]
 unfold Oper.wp
 rw [hrun]
 refine ⟨_, _, rfl, ?_, rfl, rfl⟩
 refine hr.replace hk ⟨rfl, rfl, rfl, by simp, fun i hi => ?_⟩ (fun i hi hne => ?_) (by simp) ?_
 ·have : b ≠ i := by omega
  simp [Array.getElem?_setIfInBounds_ne this]
 ·have : b ≠ i := by simp at hne; omega
  simp [Array.getElem?_setIfInBounds_ne this]
 intro q hq
 simp only [List.mem_singleton] at hq
 subst hq
 refine ⟨hge, ?_, .inl (by simp)⟩
 show ({ w with heap := w.heap.setIfInBounds b (.stringIter s (p + (Utf8.decode s p).2)) } : World).heap[b]? = some _
 simp [hlt]
theorem ext_none {fn : Func} {name : String} (hn : fn.name = name) (ho : fn.origin = "") (h1 : (Extern.allNextRows.lookup name).isNone = true) (h2 : (Extern.allNextRows.lookup "").isNone = true) : Extern.findNext fn = none := by
 unfold Extern.findNext
 rw [hn, ho]
 simp only [Option.isNone_iff_eq_none] at h1 h2
 simp [h1, h2]
theorem Yields.xc {row : Nat} {args : List PV} {vs : List Value} {v : Value} {e : Array Value -> Sem Value} (hv : valsP T args = some vs) (h1 : (Extern.allNextRows.lookup (rowOf row)).isNone = true) (h2 : (Extern.allNextRows.lookup "").isNone = true)
  (he : ∀ fn : Func, fn.name = rowOf row -> Extern.find fn = some e) (hr : ∀ w, (e vs.toArray).run P w = .ok v w) : Yields P w0 n (.more (.xc row args)) T S v := by
 intro o a w hco hs hrep
 obtain ⟨c, f, fn, ho, hca, rfl, hf, hn, hor, hb, hng⟩ := cOp_spec P hco
 have hargs : c.args.map a.eval = vs.toArray := by
  apply Array.toList_inj.1
  simpa using valsP_spec hs hv
 have := run_callFunc_extern hf hng hb (ext_none hn hor h1 h2) (he fn hn) vs.toArray w
 rw [hr w] at this
 simp only [execOp, ho]
 simp [resolve, hca, Act.eval, Deferred.ofValue, invoke, hargs, this]
end
end Go.SL

namespace Go.SL
open Go.RowKit
def eqL : List CK -> List Value -> List Value -> Option Bool
 | [], [], [] => some true
 | c :: cs, x :: xs, y :: ys => match eqCell c x y, eqL cs xs ys with | some p, some q => some (p && q) | _, _ => none
 | _, _, _ => none
theorem eqL_cons {c : CK} {cs : List CK} {xs ys : List Value} {r : Bool} (h : eqL (c :: cs) xs ys = some r) : ∃ x xs' y ys' p q, xs = x :: xs' /\ ys = y :: ys' /\ eqCell c x y = some p /\ eqL cs xs' ys' = some q /\ r = (p && q) := by
 cases xs with
 | nil => simp [eqL] at h
 | cons x xs' =>
  cases ys with
  | nil => simp [eqL] at h
  | cons y ys' =>
   simp only [eqL] at h
   split at h
   ·rename_i p q h1 h2
    exact ⟨x, xs', y, ys', p, q, rfl, rfl, h1, h2, (Option.some.inj h).symm⟩
   cases h
theorem eqL_append {s t : List CK} : ∀ {xs ys : List Value} {r : Bool}, eqL (s ++ t) xs ys = some r -> ∃ p q, eqL s (xs.take s.length) (ys.take s.length) = some p /\ eqL t (xs.drop s.length) (ys.drop s.length) = some q /\ r = (p && q) := by
 induction s with
 | nil => intro xs ys r h; exact ⟨true, r, by simp [eqL], by simpa using h, by simp⟩
 | cons c s ih =>
  intro xs ys r h
  obtain ⟨x, xs', y, ys', p, q, rfl, rfl, h1, h2, rfl⟩ := eqL_cons (cs := s ++ t) h
  obtain ⟨p', q', h3, h4, rfl⟩ := ih h2
  exact ⟨p && p', q', by simp [eqL, h1, h3], by simpa using h4, by rw [Bool.and_assoc]⟩
theorem eqL_len {s : List CK} : ∀ {xs ys : List Value} {r : Bool}, eqL s xs ys = some r -> xs.length = s.length /\ ys.length = s.length := by
 induction s with
 | nil => intro xs ys r h; cases xs <;> cases ys <;> simp [eqL] at h ⊢
 | cons c s ih =>
  intro xs ys r h
  obtain ⟨x, xs', y, ys', p, q, rfl, rfl, h1, h2, rfl⟩ := eqL_cons h
  have := ih h2
  simp [this]
section
variable {P : Program} {w0 : World} {n : Nat} {T : TT} {S : SS} {w : World}
def AggEq (P : Program) (w : World) (d : Nat) : Prop := ∀ (t : TypeId) (sh : List CK), deepQ P d t = some sh -> ckOf P t = none -> (∃ dd, P.underlying t = some dd /\ rowD dd = true) /\
 ∀ (D : Nat), d <= D -> ∀ (xs ys : Array Value) (r : Bool), eqL sh xs.toList ys.toList = some r -> (Op.equalIn D t (.agg xs) (.agg ys)).run P w = .ok r w
theorem part_eq {d : Nat} (ih : AggEq P w d) {t : TypeId} {sh : List CK} (hd : deepQ P d t = some sh) (hc : P.cellsOf t = sh.length) {D : Nat} (hD : d <= D) (h1 : 0 < d) {xs ys : Array Value} {off : Nat} {r : Bool}
  (h : eqL sh ((xs.toList.drop off).take sh.length) ((ys.toList.drop off).take sh.length) = some r) : ∃ a b, (part t xs off).run P w = .ok a w /\ (part t ys off).run P w = .ok b w /\ (Op.equalIn D t a b).run P w = .ok r w := by
 cases hk : ckOf P t with
 | some c =>
  obtain ⟨d', rfl⟩ : ∃ d', d = d' + 1 := ⟨d - 1, by omega⟩
  simp only [deepQ, hk, Option.some.injEq] at hd
  subst hd
  obtain ⟨x, xs', y, ys', p, q, hx, hy, h2, h3, rfl⟩ := eqL_cons h
  have hq : q = true := by
   have := eqL_len h3
   obtain ⟨l1, l2⟩ := this
   have e1 : xs' = [] := List.eq_nil_of_length_eq_zero (by simpa using l1)
   have e2 : ys' = [] := List.eq_nil_of_length_eq_zero (by simpa using l2)
   subst e1; subst e2
   simpa [eqL] using h3.symm
  have get : ∀ (zs : Array Value) z zs', (zs.toList.drop off).take 1 = z :: zs' -> zs[off]? = some z := by
   intro zs z zs' hz
   have : ((zs.toList.drop off).take 1)[0]? = some z := by rw [hz]; rfl
   simpa using this
  obtain ⟨dd, hu, hrow⟩ := ckOf_agg hk
  obtain ⟨D', rfl⟩ : ∃ D', D = D' + 1 := ⟨D - 1, by omega⟩
  refine ⟨x, y, ?_, ?_, ?_⟩
  ·simp [part, run_isAgg hu, hrow, get xs x xs' hx]
  ·simp [part, run_isAgg hu, hrow, get ys y ys' hy]
  rw [hq, Bool.and_true]
  exact run_eqCell hk h2 D' w
 | none =>
  obtain ⟨⟨dd, hu, hrow⟩, hrun⟩ := ih t sh hd hk
  obtain ⟨i, hi⟩ := info_of_underlying hu
  have hsz := run_sizeOf w hi
  have hpart : ∀ zs : Array Value, (part t zs off).run P w = .ok (.agg (zs.extract off (off + sh.length))) w := by
   intro zs
   simp only [part, Sem.run_bind, run_isAgg hu, hrow, Result.andThen_ok, if_true, hsz, hc]
   rfl
  refine ⟨_, _, hpart xs, hpart ys, hrun D hD _ _ r ?_⟩
  simpa [List.extract] using h
theorem eqFields_deep {d : Nat} (ih : AggEq P w d) (h1 : 0 < d) {D : Nat} (hD : d <= D) {xs ys : Array Value} : ∀ (fs : List Field) (off : Nat) (sh : List CK) (r : Bool), structQ P (deepQ P d) off fs = some sh -> eqL sh (xs.toList.drop off) (ys.toList.drop off) = some r -> (Op.eqFields D xs ys fs).run P w = .ok r w
 | [], off, sh, r, hs, he => by
  simp only [structQ, Option.some.injEq] at hs
  subst hs
  have := eqL_len he
  obtain ⟨l1, l2⟩ := this
  have e1 : xs.toList.drop off = [] := List.eq_nil_of_length_eq_zero l1
  have e2 : ys.toList.drop off = [] := List.eq_nil_of_length_eq_zero l2
  rw [e1, e2] at he
  simp only [eqL, Option.some.injEq] at he
  subst he
  simp [Op.eqFields]
 | f :: fs, off, sh, r, hs, he => by
  simp only [structQ] at hs
  split at hs
  ·rename_i s hf
   split at hs
   ·rename_i hc
    obtain ⟨ho, hcells, hname⟩ := hc
    simp only [Option.map_eq_some_iff] at hs
    obtain ⟨sh', hs', rfl⟩ := hs
    obtain ⟨p, q, h2, h3, rfl⟩ := eqL_append he
    rw [List.drop_drop, List.drop_drop] at h3
    obtain ⟨a, b, g1, g2, g3⟩ := part_eq ih hf hcells hD h1 h2
    subst ho
    simp only [Op.eqFields, hname, ne_eq, not_false_eq_true, if_true, Sem.run_bind, g1, g2, g3, Result.andThen_ok]
    cases p
    ·simp
    simp only [Bool.not_true, Bool.false_eq_true, if_false, Bool.true_and]
    exact eqFields_deep ih h1 hD fs _ sh' q hs' h3
   cases hs
  cases hs
theorem eqItems_deep {d : Nat} (ih : AggEq P w d) (h1 : 0 < d) {D : Nat} (hD : d <= D) {xs ys : Array Value} {e : TypeId} {s : List CK} (hd : deepQ P d e = some s) (hc : P.cellsOf e = s.length) : ∀ (m i : Nat) (r : Bool), eqL (List.replicate m s).flatten (xs.toList.drop (i * s.length)) (ys.toList.drop (i * s.length)) = some r ->
  (Op.eqItems D e (P.cellsOf e) xs ys (List.range' i m)).run P w = .ok r w
 | 0, i, r, he => by
  obtain ⟨l1, l2⟩ := eqL_len he
  have e1 : xs.toList.drop (i * s.length) = [] := List.eq_nil_of_length_eq_zero (by simpa using l1)
  have e2 : ys.toList.drop (i * s.length) = [] := List.eq_nil_of_length_eq_zero (by simpa using l2)
  rw [e1, e2] at he
  have : r = true := by simpa [eqL] using he.symm
  subst this
  simp [Op.eqItems]
 | m + 1, i, r, he => by
  rw [List.replicate_succ, List.flatten_cons] at he
  obtain ⟨p, q, h2, h3, rfl⟩ := eqL_append he
  rw [List.drop_drop, List.drop_drop] at h3
  obtain ⟨a, b, g1, g2, g3⟩ := part_eq ih hd hc hD h1 h2
  rw [<- hc] at g1 g2
  rw [List.range'_succ]
  simp only [Op.eqItems, Sem.run_bind, g1, g2, g3, Result.andThen_ok]
  cases p
  ·simp
  simp only [Bool.not_true, Bool.false_eq_true, if_false, Bool.true_and]
  refine eqItems_deep ih h1 hD hd hc m (i + 1) q ?_
  rw [show (i + 1) * s.length = i * s.length + s.length by rw [Nat.add_mul, Nat.one_mul]]
  exact h3
theorem agg_eq (P : Program) (w : World) : ∀ d, AggEq P w d
 | 0 => fun t sh h => by simp [deepQ] at h
 | d + 1 => by
  intro t sh h hk
  have ih := agg_eq P w d
  simp only [deepQ, hk] at h
  split at h
  ·rename_i fs hu
   split at h
   ·rename_i hst
    refine ⟨⟨_, hu, rfl⟩, fun D hD xs ys r he => ?_⟩
    obtain ⟨D', rfl⟩ : ∃ D', D = D' + 1 := ⟨D - 1, by omega⟩
    have hfs : P.fieldsOf t = fs := by simp [Program.fieldsOf, hu]
    rw [run_equalIn_struct w D' t xs ys (by rw [hfs]; exact hu) hst, hfs]
    by_cases h0 : 0 < d
    ·exact eqFields_deep ih h0 (by omega) _ 0 sh r h (by simpa using he)
    obtain rfl : d = 0 := by omega
    cases hl : fs.toList with
    | nil =>
     rw [hl] at h
     simp only [structQ, Option.some.injEq] at h
     subst h
     obtain ⟨l1, l2⟩ := eqL_len he
     have e1 : xs.toList = [] := List.eq_nil_of_length_eq_zero l1
     have e2 : ys.toList = [] := List.eq_nil_of_length_eq_zero l2
     rw [e1, e2] at he
     simp only [eqL, Option.some.injEq] at he
     subst he
     simp [Op.eqFields]
    | cons f fs => rw [hl] at h; simp [structQ, deepQ] at h
   cases h
  ·rename_i m e hu
   split at h
   ·rename_i s hs
    split at h
    ·rename_i hc
     obtain rfl := Option.some.inj h
     refine ⟨⟨_, hu, rfl⟩, fun D hD xs ys r he => ?_⟩
     obtain ⟨D', rfl⟩ : ∃ D', D = D' + 1 := ⟨D - 1, by omega⟩
     obtain ⟨i, hi⟩ : ∃ i, P.info? e = some i := by
      cases hq : P.info? e with
      | some i => exact ⟨i, rfl⟩
      | none =>
       exfalso
       by_cases h0 : 0 < d
       ·obtain ⟨d', rfl⟩ : ∃ d', d = d' + 1 := ⟨d - 1, by omega⟩
        have hun : P.underlying e = none := by
         cases hx : P.underlying e with
         | none => rfl
         | some x => obtain ⟨i, hi⟩ := info_of_underlying hx; rw [hq] at hi; cases hi
        simp [deepQ, ckOf, hun] at hs
       obtain rfl : d = 0 := by omega
       simp [deepQ] at hs
     rw [run_equalIn_array w D' xs ys hu hi, List.range_eq_range']
     have h0 : 0 < d := Nat.pos_of_ne_zero fun e => by subst e; simp [deepQ] at hs
     exact eqItems_deep ih h0 (by omega) hs hc m 0 r (by simpa using he)
    cases h
   cases h
  cases h
theorem Yields.eqD {neg : Bool} {t : TypeId} {sh : List CK} {x y : PV} {xs ys : Array Value} {r : Bool} (hx : x.val T = some (.agg xs)) (hy : y.val T = some (.agg ys)) (h : eqL sh xs.toList ys.toList = some r) :
  Yields P w0 n (.more (.eqD neg t sh x y)) T S (.bool (if neg then !r else r)) := by
 intro o a w hco hs hr
 obtain ⟨c, d, u, ho, rfl, rfl, hfl, hg, dd, hu, hdd⟩ := cOp_spec P hco
 have hk : ckOf P t = none := by
  unfold ckOf
  rw [hu]
  cases dd <;> simp_all
 have heq : (Op.equalIn 10000 t (.agg xs) (.agg ys)).run P w = .ok r w := (agg_eq P w 8 t sh hfl hk).2 10000 (by omega) xs ys r h
 simp only [execOp, ho, hs.eval hx, hs.eval hy]
 cases neg
 ·simp only [Bool.false_eq_true, if_false, Sem.run_bind, run_eqGuard_agg w .eql t c d xs ys hg, Result.andThen_ok, run_eql_struct, heq]
  simp
 simp only [if_true, Sem.run_bind, run_eqGuard_agg w .neq t c d xs ys hg, Result.andThen_ok]
 have : (binOp .neq t (.agg xs) (.agg ys)).run P w = .ok (.bool !r) w := by
  show (do Pure.pure (Value.bool (!(<- Op.equal t (.agg xs) (.agg ys)))) : Sem Value).run P w = _
  have h2 : (Op.equal t (.agg xs) (.agg ys)).run P w = .ok r w := heq
  simp [h2]
 simp [this]
end
end Go.SL

namespace Go.SL
open Go.RowKit
def fen : Option Nat -> Fence
 | none => Fence.wide
 | some l => Fence.wide.inRound l
theorem fen_calls {r : Option Nat} {m : Nat} {P : Program} {f : FuncId} {args : Array Value} {w : World} {R : Ending -> World -> Prop} : CallsIn (fen r) m P f args w R ↔ Calls P f args w R := by
 have h0 := callsIn_wide (n := m) (P := P) (f := f) (args := args) (w := w) (R := R)
 cases r with
 | none => exact h0
 | some l => exact ⟨fun h => h0.1 h, fun h => h0.2 h⟩
section
variable {P : Program} {w0 : World} {n : Nat} {T : TT} {S : SS} {r : Option Nat} {m : Nat}
theorem Rep.putObj {l : Nat} {o o' : Obj} {w : World} (h : Rep w0 ([(l, .obj o)] :: S) w) (hc : o.isCells = false) (hw : o.isWalk = false) : Rep w0 ([(l, .obj o')] :: S) (w.putObj l o') := by
 obtain ⟨hge, hown⟩ := h.own (l, .obj o) (by simp)
 have hl : w.heap[l]? = some o := hown
 refine ⟨h.below.trans (belowK_b (w := w0) (Nat.le_refl _) w l o o' hge hl hc hw), by simpa using h.nodup, fun p hp => ?_, h.drawn⟩
 simp only [List.flatten_cons, List.singleton_append, List.mem_cons] at hp
 rcases hp with rfl | hp
 ·exact ⟨hge, World.putObj_heap_same (h.lt (p := (l, .obj o)) (by simp))⟩
 obtain ⟨h1, h2⟩ := h.own p (by simp [hp])
 refine ⟨h1, h2.congr (World.putObj_heap_other ?_)⟩
 intro e
 have := h.nodup
 simp only [List.flatten_cons, List.singleton_append, List.map_cons, List.nodup_cons] at this
 exact this.1 (e ▸ List.mem_map.2 ⟨p, hp, rfl⟩)
end
end Go.SL

namespace Go.SL
open Go.RowKit
section
variable {P : Program} {w0 : World} {n : Nat} {T : TT} {S : SS}
theorem eval_defers (a : Act) (ds : List Deferred) : Act.eval { a with defers := ds } = a.eval := by funext x; cases x <;> rfl
theorem put_defers (a : Act) (ds : List Deferred) (d : Option Nat) (v : Value) : Act.put { a with defers := ds } d v = { a.put d v with defers := ds } := by cases d <;> rfl
theorem wp_defers {o : Oper} {a : Act} {w : World} {K K' : Act -> World -> Prop} {Q Q' : Exit -> Act -> World -> Prop} (ds : List Deferred) (hnd : ∀ d w', (execOp a.eval o).run P w ≠ .ok (.defer d) w') (hk : ∀ a w, K a w -> K' { a with defers := ds } w) (hq : ∀ e a w, Q e a w -> Q' e { a with defers := ds } w) (h : o.wp P a w K Q) : o.wp P { a with defers := ds } w K' Q' := by
 unfold Oper.wp at *
 rw [eval_defers]
 have hput := fun d v => put_defers a ds d v
 have hlo : LetsOut Q -> LetsOut Q' := fun ⟨a0, w0, h⟩ => ⟨_, w0, hq _ _ _ h⟩
 generalize hx : (execOp a.eval o).run P w = x at *
 cases x with
 | ok y w' =>
  cases y <;> simp only [Oper.upon] at h ⊢ <;>
   first
    | (rw [hput]; exact hk _ _ h)
    | exact h.elim
    | (exact Calls.mono h (fun e w'' he => by cases e <;> first | (simp only at he ⊢; rw [hput]; exact hk _ _ he) | exact hq _ _ _ he | exact hlo he))
    | (exact Rows.mono h (fun v w'' he => by rw [hput]; exact hk _ _ he))
    | exact absurd rfl (hnd _ _)
 | halt y w' => cases y <;> simp only [Oper.upon] at h ⊢ <;> first | exact hq _ _ _ h | exact h.elim
def noDefer (P : Program) (po : PO) : Prop := ∀ o, cOp P o = some po -> ∀ (ρ : Operand -> Value) (w w' : World) d, (execOp ρ o).run P w ≠ .ok (.defer d) w'
def OLd (P : Program) (w0 : World) (n : Nat) (ds : List Deferred) (l : List PI) (T : TT) (S : SS) (K : TT -> SS -> Prop) : Prop :=
 ∀ (ops : Array Oper) (is : List Nat) a w (Q : Exit -> Act -> World -> Prop), cIs P n ops is = some l -> Sat n T a -> Rep w0 S w ->
  (∀ a' w' T' S', Sat n T' a' -> Rep w0 S' w' -> K T' S' -> Q .normal { a' with defers := ds } w') -> wpOps P ops Q is { a with defers := ds } w
theorem OLd.nil {ds : List Deferred} {K : TT -> SS -> Prop} (h : K T S) : OLd P w0 n ds [] T S K := by
 intro ops is a w Q hc hs hr hk
 cases is with
 | nil => exact hk a w T S hs hr h
 | cons i is =>
  simp only [cIs] at hc
  split at hc
  ·simp at hc
  simp at hc
theorem OLd.cons {ds : List Deferred} {po : PO} {d : Option Nat} {rr : List PI} {K : TT -> SS -> Prop} {K' : Value -> SS -> Prop} (hnd : noDefer P po) (h : OW P w0 n po T S K') (hk : ∀ v S', K' v S' -> OLd P w0 n ds rr (put d v T) S' K) : OLd P w0 n ds (⟨d, none, po⟩ :: rr) T S K := by
 intro ops is a w Q hc hs hr hq
 obtain ⟨i, is, rfl, hi, hrest⟩ := cIs_cons hc
 obtain ⟨o, ho, hpo, hd, hdst, hg⟩ := cI_spec hi
 have hw : Region.wanted o (yielded ops a.tmps) = true := by
  rcases hg with ⟨hg, _⟩ | ⟨j, b, s, hg, hj, he⟩
  ·simp [Region.wanted, hg]
  simp at he
 rw [wpOps_cons]
 unfold wpOp
 simp only [ho]
 rw [if_pos hw]
 refine .inl (wp_defers (Q := fun e a w => Q e { a with defers := ds } w) ds (fun d w' => hnd o hpo _ _ _ _) ?_ (fun _ _ _ h => h) (h o a w _ hpo hs hr))
 rintro a' w' ⟨v, S', rfl, hr', hk'⟩
 simp only at hdst
 subst hdst
 exact hk v S' hk' ops is _ w' Q hrest (hs.put hd _) hr' hq
theorem Rep.allocObj {w : World} (h : Rep w0 S w) (o : Obj) : Rep w0 ([(w.heap.size, .obj o)] :: S) (w.alloc o) := by
 refine h.push (below_alloc h _) (fun i hi => alloc_heap_lt w _ i hi) (by simp) ?_
 intro p hp
 simp only [List.mem_singleton] at hp
 subst hp
 exact ⟨World.alloc_heap_new w o, Nat.le_refl _⟩
def LS (l D : Nat) (L : Loop) (S : SS) : SS := [(l, .obj (.loop L))] :: [(D, .obj (.deferred (some [])))] :: S
theorem Rep.putD {l D : Nat} {L : Loop} {w : World} (h : Rep w0 (LS l D L S) w) : ∃ S', Rep w0 S' (w.putObj D (.deferred none)) /\ S' = S := by
 have h2 : Rep w0 ([(D, .obj (.deferred (some [])))] :: S) w := h.sub (fun p hp => by unfold LS; simp only [List.flatten_cons, List.mem_append] at hp ⊢; exact .inr hp) (by have := h.nodup; unfold LS at this; simp only [List.flatten_cons, List.singleton_append, List.map_cons, List.nodup_cons] at this ⊢; exact this.2)
 have h3 := Rep.putObj (o' := .deferred none) h2 rfl rfl
 exact ⟨S, h3.sub (fun p hp => by simp only [List.flatten_cons, List.mem_append]; exact .inr hp) (by have := h3.nodup; simp only [List.flatten_cons, List.singleton_append, List.map_cons, List.nodup_cons] at this; exact this.2), rfl⟩
def resOk (P : Program) (w0 : World) (n : Nat) (fn : Func) (post : Value -> SS -> Prop) (T : TT) (S : SS) : Prop :=
 ∃ v, (∀ a w, Sat n T a -> Rep w0 S w -> (results fn a.tmps).run P w = .ok v w) /\ post v S
theorem FC.range {k id : Nat} {fn : Func} {c0 c1 c7 A B : Code} {g : Operand} {ps : Array Nat} {l0 l1 l7 : List PI} {args : List Value} {post : Value -> SS -> Prop}
    (hf : P.funcs[k]? = some fn) (hb : fn.body = some (.seq c0 (.seq (.seq c1 (.block id (.rangeFunc g ps A B))) (.seq c7 .ret)))) (hnt : fn.ntmps = n)
    (hc0 : cC P n c0 = some (.ops l0)) (hc1 : cC P n c1 = some (.ops l1)) (hc7 : cC P n c7 = some (.ops l7)) (hn : args.length <= n)
    (h : OL P w0 n l0 (argT 0 args) S (fun T0 S0 => OL P w0 n l1 T0 S0 (fun T1 S1 => ∃ (f : Nat) (fi ca : List Value), (cV g).val T1 = some (.func (.func f) fi.toArray ca.toArray) /\ fnOk P f = true /\
      ∀ (l D fid : Nat) (tmps : Array Value), Sat n T1 { tmps := tmps, defers := [] } ->
        FC P w0 f (fi ++ [.func (.yield l) #[] #[]] ++ ca) (LS l D { state := .ready, pending := none, fn := fid, tmps := tmps, params := ps, assign := A, body := B, defers := D } S1) (fun _ S' => ∃ (L : Loop) (S3 : SS), S' = LS l D L S3 /\ L.state ≠ .busy /\
          ((L.pending = none /\ ∀ L' ds, OLd P w0 n ds l7 T1 (LS l D L' S3) (fun T7 S7 => ∃ S8, S7 = LS l D L' S8 /\ resOk P w0 n fn post T7 S8)) ∨
           (L.pending = some .ret /\ resOk P w0 n fn post T1 S3)))))) : FC P w0 k args S post := by
  intro w hw
  subst hnt
  refine (callsIn_wide (n := 1)).1 (callsIn_of_wp_marks hf hb trivial ?_)
  refine wpIn_seq (wpIn_mono (wpIn_wide.2 ((PW.ops (Q := thenK (fun T0 S0 => OL P w0 fn.ntmps l1 T0 S0 _) (fun _ _ _ => False)) h) c0 hc0 _ w (argT_sat hn) hw)) ?_)
  rintro e a w1 ⟨T0, S0, hs0, hr0, q⟩
  cases e <;> try exact q.elim
  refine wpIn_seq ?_
  refine wpIn_seq (wpIn_mono (wpIn_wide.2 ((PW.ops (Q := thenK (fun T1 S1 => _) (fun _ _ _ => False)) q) c1 hc1 _ w1 hs0 hr0)) ?_)
  rintro e a1 w2 ⟨T1, S1, hs1, hr1, q1⟩
  cases e <;> try exact q1.elim
  obtain ⟨f, fi, ca, hg, hok, hfc⟩ := q1
  refine wpIn_block ?_
  refine wpIn_rangeFunc ?_
  intro fid _
  obtain ⟨tmps, ds1⟩ := a1
  obtain rfl : ds1 = [] := hs1.defers
  have hev : Act.eval ⟨tmps, []⟩ g = .func (.func f) fi.toArray ca.toArray := hs1.eval hg
  have hrepD := Rep.allocObj hr1 (.deferred (some []))
  have hrepL := Rep.allocObj hrepD (.loop { state := .ready, pending := none, fn := fid, tmps := tmps, params := ps, assign := A, body := B, defers := w2.heap.size })
  rw [World.size_alloc] at hrepL
  have hcall := hfc (w2.heap.size + 1) w2.heap.size fid tmps hs1 _ hrepL
  obtain ⟨W, hW⟩ : ∃ W, (w2.alloc (.deferred (some []))).alloc (.loop { state := .ready, pending := none, fn := fid, tmps := tmps, params := ps, assign := A, body := B, defers := w2.heap.size }) = W := ⟨_, rfl⟩
  have henter : (Instr.enterLoop fid tmps ps A B none).run P w2 = .ok (w2.heap.size + 1, [{ target := .collected w2.heap.size, args := #[] }]) W := by rw [<- hW]; exact run_enterLoop_outer fid tmps ps A B
  rw [hW] at hcall
  clear hrepL hrepD
  refine ⟨w2.heap.size + 1, [{ target := .collected w2.heap.size, args := #[] }], W, { target := .fn (.func f) ca.toArray, args := fi.toArray ++ #[Value.func (.yield (w2.heap.size + 1)) #[] #[]] }, W, f, (fi ++ [Value.func (.yield (w2.heap.size + 1)) #[] #[]] ++ ca).toArray, W, henter, ?_, fun _ _ => trivial, ?_, (fun e => by cases e), ?_⟩
  · simp only [resolve, rangeCall, hev, Deferred.ofValue]
    simp [Sem.run, Act.eval]
  · unfold fnOk at hok
    split at hok
    · rename_i fn' hfn
      simp only [Bool.and_eq_true, bne_iff_ne, ne_eq] at hok
      have hb : ¬ fn'.body = none := by intro hh; simp [hh] at hok
      simp [invoke, callFunc, program, Sem.run, hfn, hok.1, hb]
    simp at hok
  refine (fen_calls (r := none)).2 (hcall.mono ?_)
  rintro e w3 ⟨v, S', rfl, hr3, L, S3, rfl, hbusy, hq⟩
  have hL : w3.heap[w2.heap.size + 1]? = some (.loop L) := (hr3.own (w2.heap.size + 1, .obj (.loop L)) (by simp [LS])).2
  refine ⟨L.pending, _, run_endLoop hL hbusy, ?_⟩
  have hr4 : Rep w0 (LS (w2.heap.size + 1) w2.heap.size { L with state := .exhausted } S3) (w3.putObj (w2.heap.size + 1) (.loop { L with state := .exhausted })) := Rep.putObj hr3 rfl rfl
  generalize w3.putObj (w2.heap.size + 1) (.loop { L with state := .exhausted }) = w4 at hr4
  have fin : ∀ (T7 : TT) (S7 : SS) (L7 : Loop) (a7 : Act) (w7 : World), Sat fn.ntmps T7 a7 -> Rep w0 (LS (w2.heap.size + 1) w2.heap.size L7 S7) w7 -> resOk P w0 fn.ntmps fn post T7 S7 ->
      LeavesInM Fence.wide 1 P fn a7.tmps (fun e w' => ∃ v S', e = .returned v /\ Rep w0 S' w' /\ post v S') [{ target := .collected w2.heap.size, args := #[] }] .returning w7 := by
    rintro T7 S7 L7 a7 w7 hs7 hr7 ⟨v7, hv7, hp7⟩
    have hD : w7.heap[w2.heap.size]? = some (.deferred (some [])) := (hr7.own (w2.heap.size, .obj (.deferred (some []))) (by simp [LS])).2
    obtain ⟨S9, hr9, rfl⟩ := Rep.putD hr7
    exact ⟨by simp, .inl ⟨_, _, rfl, run_takeDeferred hD, v7, hv7 a7 _ hs7 hr9, v7, _, rfl, hr9, hp7⟩⟩
  rcases hq with ⟨hp, hq⟩ | ⟨hp, hq⟩
  · rw [hp]
    show (Code.seq c7 .ret).wpIn _ _ _ _ _ _
    refine wpIn_seq ?_
    cases c7 with
    | region id7 ops7 dr7 =>
      cases dr7 with
      | false =>
        simp only [cC, Option.map_eq_some_iff] at hc7
        obtain ⟨l', hc7', he⟩ := hc7
        simp only [PC.ops.injEq] at he
        subst he
        refine wpIn_wide.2 (wp_region (hq _ _ ops7 _ ⟨tmps, []⟩ w4 _ hc7' hs1 hr4 ?_))
        rintro a7 w7 T7 S7 hs7 hr7 ⟨S8, rfl, hres⟩
        exact wpIn_ret (fin T7 S8 _ a7 w7 hs7 hr7 hres)
      | true =>
        simp only [cC] at hc7
        split at hc7
        · simp at hc7
        simp at hc7
    | _ => (first | (simp [cC] at hc7; done) | (simp only [cC] at hc7; split at hc7 <;> simp at hc7; done))
  rw [hp]
  show (Code.ret).wpIn _ _ _ _ _ _
  exact wpIn_ret (fin T1 S3 _ ⟨tmps, []⟩ w4 hs1 hr4 hq)
end
end Go.SL

namespace Go.SL
open Go.ChangeShapes Go.WideShapes Go.ChangeAt Go.RowKit
section
variable {H : Type} {enc : TypeId × Value -> H} {P : Program} {W : World}
end
end Go.SL

namespace Go.SL
open Go.RowKit
section
variable {P : Program} {w0 : World} {n : Nat} {T : TT} {S : SS}
theorem Yields.cap {x : PV} {A : Option Addr} {l c : Nat} (hx : x.val T = some (.slice A l c)) : Yields P w0 n (.more (.other (.cap x))) T S (.int .i64 (c : Int)) := by
 intro o a w hco hs hr
 obtain ⟨cl, t, y, e, ho, hca, hat, har, rfl, hu⟩ := cOp_spec P hco
 simp only [execOp, ho, resolve, hca, invoke, builtin, hat, har]
 simp [Builtin.cap_, hs.eval hx, run_underlying hu, goInt]
theorem OW.xf {f : FuncId} {args : List PV} {vs : List Value} {v : Value} (hv : valsP T args = some vs) (h : ∀ w, Rep w0 S w -> (callFunc f vs.toArray).run P w = .ok (.value v) w) :
  OW P w0 n (.more (.other (.xf f args))) T S (fun u S' => u = v /\ S' = S) := by
 intro o a w Q hco hs hr
 obtain ⟨c, ho, hca, rfl⟩ := cOp_spec P hco
 have hargs : c.args.map a.eval = vs.toArray := by
  apply Array.toList_inj.1
  simpa using valsP_spec hs hv
 unfold Oper.wp
 have hrun : (execOp a.eval o).run P w = .ok (.value v) w := by
  simp only [execOp, ho]
  simp [resolve, hca, Act.eval, Deferred.ofValue, invoke, hargs, h w hr]
 rw [hrun]
 exact ⟨v, S, rfl, hr, rfl, rfl⟩
theorem OW.appM {t u E sz bytes m q cp : Nat} {z : Value} {s l : PV} {A : Option Addr} {olds : List Value} {kq : IntKind} (hs' : s.val T = some (.slice A m cp)) (hl : l.val T = some (.int kq (q : Int))) (hrd : Rd w0 S A olds) (ho : olds.length = m * sz)
  (hq : 0 < q) (hg : cp < m + q) (h63 : m + q <= maxLen) (hb : (m + q) * bytes <= 140737488355328) :
  OW P w0 n (.more (.other (.appM t u E sz bytes z s l))) T S (fun v S' => ∃ r c, v = .slice (some ⟨r, 0, none⟩) (m + q) c /\ m + q <= c /\ c <= maxLen /\ S' = [(r, .cells (olds ++ (Builtin.zeroCells z.cells q).toList ++ (Builtin.zeroCells z.cells (c - (m + q))).toList) E (c * sz))] :: S) := by
 intro op a w Q hco hs hr
 obtain ⟨a1, b1, cl, i, kn, hop, hca, hat, har, rfl, rfl, hu, hun, hi, hiz, rfl, rfl, hzs, hs0⟩ := cOp_spec P hco
 have hold : (Builtin.firstCells i.size m (.slice A m cp)).run P w.drew = .ok olds.toArray w.drew := by
  cases A with
  | none =>
   have : olds = [] := by
    cases olds with
    | nil => rfl
    | cons x r => obtain ⟨_, e, _⟩ := hrd 0 _ rfl; cases e
   subst this
   simp [Builtin.firstCells]
  | some a' => exact run_firstCells_some (P := P) w.drew i.size m a' m cp olds ho (fun j v hj => hr.cell (hrd.at hj))
 have hfit : Builtin.nextslicecap (m + q) cp * i.bytes <= 281474976710656 := growslice_fits (by omega) hb
 have h48 : q * i.bytes <= 281474976710656 := by
  have : q * i.bytes <= (m + q) * i.bytes := Nat.mul_le_mul_right _ (by omega)
  omega
 have hm63 : ((m + q : Nat) : Int) <= 9223372036854775807 := by have : maxLen = 9223372036854775807 := rfl; omega
 have happ := Lib.run_append_grow_zeros (P := P) w t u op.type E i z kq kn hu hun hi hiz A m cp olds hold q hq hs0 hg hm63 h48 hfit
 unfold Oper.wp
 have hrun : (execOp a.eval op).run P w = .ok (.value (.slice (some ⟨w.heap.size, 0, none⟩) (m + q) (grownCap w (m + q) cp E)))
   (w.drew.alloc (.cells (olds.toArray ++ Builtin.zeroCells z.cells q ++ Builtin.zeroCells z.cells (grownCap w (m + q) cp E - (m + q))) E)) := by
  simp only [execOp, hop, resolve, hca, invoke, builtin, hat, har]
  simp [hs.eval hs', hs.eval hl, happ]
 rw [hrun]
 have hr' : Rep w0 S w.drew := hr.same ⟨rfl, rfl, rfl, Nat.le_refl _, fun _ _ => rfl⟩ (fun _ _ => rfl)
 have hge := grownCap_ge w (m + q) cp E
 have hle := grownCap_le_maxLen w (m + q) cp E h63
 have hal := hr'.alloc (olds.toArray ++ Builtin.zeroCells z.cells q ++ Builtin.zeroCells z.cells (grownCap w (m + q) cp E - (m + q))) E
 generalize hc : grownCap w (m + q) cp E = c at *
 refine ⟨_, _, rfl, hal, w.heap.size, c, rfl, hge, hle, ?_⟩
 have hz0 : 0 < z.cells.size := by omega
 have hsz : (olds.toArray ++ Builtin.zeroCells z.cells q ++ Builtin.zeroCells z.cells (c - (m + q))).size = c * i.size := by
  simp only [Array.size_append, Builtin.zeroCells, Array.size_map, Array.size_range, List.size_toArray, ho, hzs]
  rw [<- Nat.add_mul, <- Nat.add_mul, show m + q + (c - (m + q)) = c from by omega]
 rw [hsz]
 simp
end
end Go.SL

namespace Go.SL
open Go.RowKit
section
variable {P : Program} {w0 : World} {n : Nat} {T : TT} {S : SS}
theorem Rep.loadVar {w : World} {S : SS} {a : Addr} {v : Value} {m : Option Nat} {t : TypeId} (hr : Rep w0 S w) (hm : aggOf P t = some m) (hv : ReadsAs w0 S m a v) : (Go.loadVar t a).run P w = .ok v w := by
 cases m with
 | none =>
  obtain ⟨d, hu, hd⟩ := aggOf_none hm
  have := hr.cell hv
  simp [Go.loadVar, run_isAgg hu, hd, load, Sem.run, this]
 | some m =>
  obtain ⟨cs, rfl, hcl, hcs⟩ := hv
  obtain ⟨d, i, hu, hd, hi, hsz⟩ := aggOf_some hm
  have hload := run_loadCells_list (P := P) w a cs (fun j v hj => hr.cell (hcs j v hj))
  rw [hcl] at hload
  simp [Go.loadVar, run_isAgg hu, hd, sizeOf, typeInfo, program, hi, hsz, hload, Sem.run]
end
end Go.SL

namespace Go.SL
open Go.RowKit Go.ChangeShapes Go.WideShapes Go.ChangeAt
section
variable {H : Type} {enc : TypeId × Value -> H} {P : Program} {W : World}
end
end Go.SL

abbrev Go.SL.zo (d : Nat) (x : Go.SL.PO) : Go.SL.PI := ⟨some d, none, x⟩
abbrev Go.SL.zm (d a : Nat) : Go.SL.PI := ⟨some d, none, .mov (.t a)⟩
abbrev Go.SL.zg (d g : Nat) (b : Bool) (x : Go.SL.PO) : Go.SL.PI := ⟨some d, some (g, b), x⟩
abbrev Go.SL.zz : Go.Value := .int .u8 0
abbrev Go.SL.yy : Go.SL.CK := .int .u8
namespace Go.Proofs
open Go.SL
set_option maxRecDepth 100000
theorem Try.mixed : Try.prog.follows .mixedOrders = true := by kernel_rfl
def Try.pc14 : PC :=
 (.seq (.ops [zo 0 (.mov (.v (.pointer none)))])
 (.seq (.ops [zo 1 (.mkM), zo 2 (.mkM), zo 3 (.build [.bool false, .map none, .map none, .slice none 0 0] [(0, 1, (.v (.bool true))), (1, 1, (.t 1)), (2, 1, (.t 2))]), zo 4 (.bx 57 (.t 3)), zm 0 4])
 .ret))
theorem Try.known14 : Known Try.prog 14 Try.pc14 5 [0] := ⟨Try.f14, _, Try.func14, rfl, by kernel_rfl, rfl, rfl⟩
def Try.pc15 : PC :=
 (.seq (.ops [zo 2 (.mov (.v (.pointer none)))])
 (.seq (.seq (.ops [zm 3 0, zo 4 (.call 48 [(.t 3)]), zo 5 (.not (.t 4))])
 (.cond (.t 5) (.seq (.ops [zo 2 (.mov (.v (.pointer none)))])
 .ret) .skip))
 (.seq (.quietR [0, 1, 3, 7, 15, 0, 32, 96, 224, 511, 0, 1024, 3072, 7168] 14 [zm 6 0, zo 7 (.nilc (.t 6)), zo 8 (.fa 1 (.t 7)), zo 9 (.ld (.t 8)), zo 10 (.call 49 [(.t 9)]), zm 11 0, zo 12 (.nilc (.t 11)), zo 13 (.fa 2 (.t 12)), zo 14 (.ld (.t 13)), zo 15 (.call 50 [(.t 14)]), zm 16 0, zo 17 (.nilc (.t 16)), zo 18 (.fa 3 (.t 17)), zo 19 (.ld (.t 18)), zo 20 (.call 51 [(.t 19)]), zo 21 (.build [.bool false, .map none, .map none, .slice none 0 0] [(0, 1, (.v (.bool true))), (1, 1, (.t 10)), (2, 1, (.t 15)), (3, 1, (.t 20))]), zo 22 (.bx 57 (.t 21)), zm 2 22])
 .ret)))
theorem Try.known15 : Known Try.prog 15 Try.pc15 23 [2] := ⟨Try.f15, _, Try.func15, rfl, by kernel_rfl, rfl, rfl⟩
def Try.pc16 : PC :=
 (.seq (.ops [zo 2 (.bx 25 (.t 0)), zo 3 (.bx 36 (.t 1)), zo 4 (.mov (.v (.int .i64 0)))])
 (.seq (.block 0 (.seq (.ops [zo 8 (.ld (.t 2)), zo 9 (.call 48 [(.t 8)]), zo 10 (.not (.t 9)), zm 7 10])
 (.cond (.t 7) (.seq (.ops [zo 4 (.mov (.v (.int .i64 1)))])
 .ret) (.seq (.ops [zo 12 (.ld (.t 2)), zo 13 (.ldA 102 (.t 3)), zo 14 (.call 52 [(.t 12), (.t 13)]), zm 11 14])
 (.cond (.t 11) (.seq (.ops [zo 4 (.mov (.v (.int .i64 6)))])
 .ret) (.seq (.ops [zo 16 (.ldA 102 (.t 3)), zo 17 (.call 53 [(.t 16)]), zo 18 (.not (.t 17)), zm 15 18])
 (.cond (.t 15) (.seq (.ops [zo 4 (.mov (.v (.int .i64 4)))])
 .ret) (.seq (.ops [zo 20 (.ld (.t 2)), zo 21 (.fa 34 (.t 3)), zo 22 (.ldA 33 (.t 21)), zo 23 (.call 29 [(.t 20), (.t 22)]), zo 24 (.not (.t 23)), zm 25 24, zg 26 25 false (.ld (.t 2)), zg 27 25 false (.fa 67 (.t 3)), zg 28 25 false (.ldA 33 (.t 27)), zg 29 25 false (.call 29 [(.t 26), (.t 28)]), zg 30 25 false (.not (.t 29)), zo 31 (.pick (.t 25) (.v (.bool true)) (.t 30)), zm 32 31, zg 33 32 false (.fa 101 (.t 3)), zg 34 32 false (.ld (.t 33)), zg 35 32 false (.mkF 55 [(.t 2)]), zg 36 32 false (.call 54 [(.t 34), (.t 35)]), zo 37 (.pick (.t 32) (.v (.bool true)) (.t 36)), zm 19 37])
 (.cond (.t 19) (.seq (.ops [zo 4 (.mov (.v (.int .i64 10)))])
 .ret) (.seq (.ops [zo 39 (.ld (.t 2)), zo 40 (.fa 34 (.t 3)), zo 41 (.ldA 33 (.t 40)), zo 42 (.fa 67 (.t 3)), zo 43 (.ldA 33 (.t 42)), zo 44 (.call 18 [(.t 39), (.t 41), (.t 43)]), zo 45 (.not (.t 44)), zm 38 45])
 (.cond (.t 38) (.seq (.ops [zo 4 (.mov (.v (.int .i64 4)))])
 .ret) .skip)))))))))))
 (.seq (.quietR [0, 1, 3, 0, 8, 31, 31] 7 [zo 46 (.fa 100 (.t 3)), zo 47 (.ld (.t 46)), zo 48 (.call 57 [(.t 47)]), zo 49 (.fa 101 (.t 3)), zo 50 (.ld (.t 49)), zo 51 (.call 51 [(.t 50)]), zo 52 (.fa 100 (.t 3)), ⟨none, none, .st 1 (.t 52) (.t 48)⟩, zo 53 (.fa 101 (.t 3)), ⟨none, none, .st 1 (.t 53) (.t 51)⟩])
 (.seq (.quietR [] 10 [zo 54 (.ld (.t 2)), zo 55 (.nilc (.t 54)), zo 56 (.fa 1 (.t 55)), zo 57 (.ld (.t 56)), zo 58 (.fa 0 (.t 3)), zo 59 (.ldA 32 (.t 58)), zo 60 (.fa 32 (.t 3)), zo 61 (.ld (.t 60)), zo 62 (.build [zz, zz, zz, zz, zz, zz, zz, zz, zz, zz, zz, zz, zz, zz, zz, zz, zz, zz, zz, zz, zz, zz, zz, zz, zz, zz, zz, zz, zz, zz, zz, zz, .int .i64 0] [(0, 32, (.t 59)), (32, 1, (.t 61))]), zo 63 (.ldA 102 (.t 3)), ⟨none, none, .more (.other (.gen (.mapUpdate 54 (.tmp 57) (.tmp 62) (.tmp 63))))⟩])
 (.seq (.seq (.ops [zo 64 (.fa 100 (.t 3)), zo 65 (.ld (.t 64)), zo 66 (.lenS (.t 65)), zo 67 (.mov (.v (.int .i64 0)))])
 (.block 1 (.loop (.seq (.ops [zo 68 (.bin .lss (.t 67) (.t 66))])
 (.seq (.cond (.t 68) .skip (.exit 1))
 (.seq (.block 2 (.seq (.ops [zm 69 67, zo 70 (.ixS 1 (.t 65) (.t 67)), zo 71 (.ld (.t 70)), zm 5 69, zm 6 71])
 (.quietR [0, 1, 3, 7, 0, 0, 48, 0, 128] 9 [zo 72 (.ld (.t 2)), zo 73 (.nilc (.t 72)), zo 74 (.fa 2 (.t 73)), zo 75 (.ld (.t 74)), zo 76 (.ldA 102 (.t 3)), zm 77 5, zo 78 (.call 58 [(.t 76), (.t 77)]), zm 79 6, zo 80 (.build [.string ⟨#[]⟩, .int .i64 0, .int .i64 0, .slice none 0 0] [(0, 1, (.t 79))]), ⟨none, none, .more (.other (.gen (.mapUpdate 55 (.tmp 75) (.tmp 78) (.tmp 80))))⟩])))
 (.ops [zo 81 (.bin .add (.t 67) (.v (.int .i64 1))), zm 67 81])))))))
 (.seq (.ops [zo 82 (.ld (.t 2)), zo 83 (.ldA 102 (.t 3)), zo 84 (.call 59 [(.t 82), (.t 83), (.v (.bool true))])])
 (.seq (.ops [zo 85 (.ld (.t 2)), zo 86 (.ldA 102 (.t 3)), zo 87 (.call 60 [(.t 85), (.t 86), (.v (.int .i64 1))])])
 (.seq (.ops [zo 4 (.mov (.v (.int .i64 0)))])
 .ret))))))))
theorem Try.known16 : Known Try.prog 16 Try.pc16 88 [4] := ⟨Try.f16, _, Try.func16, rfl, by kernel_rfl, rfl, rfl⟩
def Try.pc17 : PC :=
 (.seq (.ops [zo 2 (.mov (.v (.slice none 0 0)))])
 (.seq (.seq (.ops [zm 11 0, zo 12 (.call 48 [(.t 11)]), zo 13 (.not (.t 12))])
 (.cond (.t 13) (.seq (.ops [zo 2 (.mov (.v (.slice none 0 0)))])
 .ret) .skip))
 (.seq (.ops [zm 14 0, zo 15 (.call 61 [(.t 14)]), zm 3 15])
 (.seq (.ops [zo 16 (.bsl0 32), zo 17 (.bx 110 (.t 16)), zm 4 17])
 (.seq (.seq (.ops [zm 18 0, zo 19 (.nilc (.t 18)), zo 20 (.fa 2 (.t 19)), zo 21 (.ld (.t 20)), zo 22 (.more (.other (.gen (.range 55 (.tmp 21)))))])
 (.block 0 (.loop (.seq (.ops [zo 23 (.more (.other (.gen (.next (.tmp 22) false)))), zo 24 (.ext 0 (.t 23))])
 (.seq (.cond (.t 24) .skip (.exit 0))
 (.block 1 (.seq (.ops [zo 25 (.more (.other (.gen (.entry (.tmp 22))))), zo 26 (.ext 0 (.t 25)), zo 5 (.al 32 [zz, zz, zz, zz, zz, zz, zz, zz, zz, zz, zz, zz, zz, zz, zz, zz, zz, zz, zz, zz, zz, zz, zz, zz, zz, zz, zz, zz, zz, zz, zz, zz, .int .i64 0]), ⟨none, none, .st 33 (.t 5) (.t 26)⟩])
 (.seq (.ops [zm 27 3, zo 28 (.ldA 33 (.t 5)), zo 29 (.more (.other (.gen (.lookup 107 (.tmp 27) (.tmp 28) false)))), zo 30 (.bin .eql (.t 29) (.v (.int .i64 0)))])
 (.cond (.t 30) (.ops [zm 31 4, zo 32 (.more (.mkI 109 (.t 31))), zo 33 (.ldA 33 (.t 5)), zo 34 (.more (.mkI 32 (.t 33))), zo 35 (.call 62 [(.t 32), (.t 34)])]) .skip)))))))))
 (.seq (.block 2 (.loop (.seq (.seq (.ops [zm 36 4, zo 37 (.nilc (.t 36)), zo 38 (.ld (.t 37)), zo 39 (.call 63 [(.t 38)]), zo 40 (.bin .gtr (.t 39) (.v (.int .i64 0)))])
 (.cond (.t 40) .skip (.exit 2)))
 (.block 3 (.seq (.ops [zm 42 4, zo 43 (.more (.mkI 109 (.t 42))), zo 44 (.call 64 [(.t 43)]), zo 45 (.more (.other (.gen (.typeAssert (.tmp 44) 20 32 true)))), zm 41 45, zo 46 (.ext 0 (.t 41)), zo 47 (.ext 1 (.t 41)), zo 6 (.al 32 [zz, zz, zz, zz, zz, zz, zz, zz, zz, zz, zz, zz, zz, zz, zz, zz, zz, zz, zz, zz, zz, zz, zz, zz, zz, zz, zz, zz, zz, zz, zz, zz, .int .i64 0]), ⟨none, none, .st 33 (.t 6) (.t 46)⟩, zm 7 47])
 (.seq (.seq (.ops [zm 48 7, zo 49 (.not (.t 48))])
 (.cond (.t 49) (.exit 3) .skip))
 (.seq (.quietR [0, 1, 3, 7, 0, 31, 0] 7 [zm 50 0, zo 51 (.nilc (.t 50)), zo 52 (.fa 2 (.t 51)), zo 53 (.ld (.t 52)), zo 54 (.ldA 33 (.t 6)), zo 55 (.more (.other (.gen (.lookup 55 (.tmp 53) (.tmp 54) false)))), zo 8 (.al 100 [.string ⟨#[]⟩, .int .i64 0, .int .i64 0, .slice none 0 0]), ⟨none, none, .st 4 (.t 8) (.t 55)⟩])
 (.seq (.ops [zm 56 2, zo 57 (.ldA 33 (.t 6)), zo 58 (.fa 0 (.t 8)), zo 59 (.ld (.t 58)), zo 60 (.fa 1 (.t 8)), zo 61 (.ld (.t 60)), zo 62 (.bin .eql (.t 61) (.v (.int .i64 0))), zo 63 (.build [zz, zz, zz, zz, zz, zz, zz, zz, zz, zz, zz, zz, zz, zz, zz, zz, zz, zz, zz, zz, zz, zz, zz, zz, zz, zz, zz, zz, zz, zz, zz, zz, .int .i64 0, .string ⟨#[]⟩, .bool false] [(0, 33, (.t 57)), (33, 1, (.t 59)), (34, 1, (.t 62))]), zo 64 (.bsl 43 [zz, zz, zz, zz, zz, zz, zz, zz, zz, zz, zz, zz, zz, zz, zz, zz, zz, zz, zz, zz, zz, zz, zz, zz, zz, zz, zz, zz, zz, zz, zz, zz, .int .i64 0, .string ⟨#[]⟩, .bool false] 1 [(0, 35, (.t 63))]), zo 65 (.app 39 43 35 64 (.agg #[zz, zz, zz, zz, zz, zz, zz, zz, zz, zz, zz, zz, zz, zz, zz, zz, zz, zz, zz, zz, zz, zz, zz, zz, zz, zz, zz, zz, zz, zz, zz, zz, .int .i64 0, .string ⟨#[]⟩, .bool false]) (.t 56) (.t 64)), zm 2 65])
 (.seq (.ops [zo 66 (.fa 3 (.t 8)), zo 67 (.ld (.t 66)), zo 68 (.lenS (.t 67)), zo 69 (.mov (.v (.int .i64 0)))])
 (.block 4 (.loop (.seq (.ops [zo 70 (.bin .lss (.t 69) (.t 68))])
 (.seq (.cond (.t 70) .skip (.exit 4))
 (.seq (.block 5 (.seq (.ops [zo 71 (.ixS 33 (.t 67) (.t 69)), zo 72 (.ldA 33 (.t 71)), zo 10 (.al 32 [zz, zz, zz, zz, zz, zz, zz, zz, zz, zz, zz, zz, zz, zz, zz, zz, zz, zz, zz, zz, zz, zz, zz, zz, zz, zz, zz, zz, zz, zz, zz, zz, .int .i64 0]), ⟨none, none, .st 33 (.t 10) (.t 72)⟩])
 (.seq (.quietR [0, 0, 3, 7, 3, 19] 6 [zm 73 3, zo 74 (.ldA 33 (.t 10)), zo 75 (.more (.other (.gen (.lookup 107 (.tmp 73) (.tmp 74) false)))), zo 76 (.bin .sub (.t 75) (.v (.int .i64 1))), zo 77 (.more (.other (.gen (.mapEntry 107 (.tmp 73) (.tmp 74))))), zo 78 (.ext 1 (.t 77)), ⟨none, none, .more (.other (.gen (.entryStore 107 (.tmp 73) (.tmp 78) (.tmp 76))))⟩])
 (.seq (.quietR [0, 0, 3, 7, 15, 15] 6 [zo 79 (.ldA 33 (.t 10)), zo 80 (.call 65 []), zo 81 (.more (.eqD true 32 [yy, yy, yy, yy, yy, yy, yy, yy, yy, yy, yy, yy, yy, yy, yy, yy, yy, yy, yy, yy, yy, yy, yy, yy, yy, yy, yy, yy, yy, yy, yy, yy, .int .i64] (.t 79) (.t 80))), zm 82 81, zg 83 82 true (.mov (.t 3)), zg 84 82 true (.ldA 33 (.t 10)), zg 85 82 true (.more (.other (.gen (.lookup 107 (.tmp 83) (.tmp 84) false)))), zg 86 82 true (.bin .eql (.t 85) (.v (.int .i64 0))), zo 87 (.pick (.t 82) (.t 86) (.v (.bool false)))])
 (.cond (.t 87) (.ops [zm 88 4, zo 89 (.more (.mkI 109 (.t 88))), zo 90 (.ldA 33 (.t 10)), zo 91 (.more (.mkI 32 (.t 90))), zo 92 (.call 62 [(.t 89), (.t 91)])]) .skip)))))
 (.ops [zo 93 (.bin .add (.t 69) (.v (.int .i64 1))), zm 69 93])))))))))))))))
 (.seq (.ops [zm 94 2, zm 2 94])
 .ret)))))))
theorem Try.known17 : Known Try.prog 17 Try.pc17 95 [2] := ⟨Try.f17, _, Try.func17, rfl, by kernel_rfl, rfl, rfl⟩
def Try.pc18 : PC :=
 (.seq (.ops [zo 4 (.bx 32 (.t 1)), zo 5 (.bx 32 (.t 2)), zo 6 (.mov (.v (.bool false)))])
 (.seq (.block 0 (.seq (.quietR [0, 0, 3, 7, 15, 31, 31, 127, 255, 511, 1023, 2047, 2047, 8191, 16383, 32767, 65535, 65535, 262143, 524287, 1048575, 2097151, 2097151] 23 [zm 15 0, zo 16 (.ldA 33 (.t 4)), zo 17 (.call 29 [(.t 15), (.t 16)]), zo 18 (.not (.t 17)), zm 19 18, zg 20 19 false (.mov (.t 0)), zg 21 19 false (.ldA 33 (.t 5)), zg 22 19 false (.call 29 [(.t 20), (.t 21)]), zg 23 19 false (.not (.t 22)), zo 24 (.pick (.t 19) (.v (.bool true)) (.t 23)), zm 25 24, zg 26 25 false (.ldA 33 (.t 4)), zg 27 25 false (.ldA 33 (.t 5)), zg 28 25 false (.more (.eqD false 32 [yy, yy, yy, yy, yy, yy, yy, yy, yy, yy, yy, yy, yy, yy, yy, yy, yy, yy, yy, yy, yy, yy, yy, yy, yy, yy, yy, yy, yy, yy, yy, yy, .int .i64] (.t 26) (.t 27))), zo 29 (.pick (.t 25) (.v (.bool true)) (.t 28)), zm 30 29, zg 31 30 false (.ldA 33 (.t 4)), zg 32 30 false (.call 65 []), zg 33 30 false (.more (.eqD false 32 [yy, yy, yy, yy, yy, yy, yy, yy, yy, yy, yy, yy, yy, yy, yy, yy, yy, yy, yy, yy, yy, yy, yy, yy, yy, yy, yy, yy, yy, yy, yy, yy, .int .i64] (.t 31) (.t 32))), zo 34 (.pick (.t 30) (.v (.bool true)) (.t 33)), zm 35 34, zg 36 35 false (.ldA 33 (.t 5)), zg 37 35 false (.call 66 []), zg 38 35 false (.more (.eqD false 32 [yy, yy, yy, yy, yy, yy, yy, yy, yy, yy, yy, yy, yy, yy, yy, yy, yy, yy, yy, yy, yy, yy, yy, yy, yy, yy, yy, yy, yy, yy, yy, yy, .int .i64] (.t 36) (.t 37))), zo 39 (.pick (.t 35) (.v (.bool true)) (.t 38)), zm 14 39])
 (.cond (.t 14) (.seq (.ops [zo 6 (.mov (.v (.bool false)))])
 .ret) (.seq (.quietR [0, 0, 3, 7, 15, 15] 6 [zo 41 (.ldA 33 (.t 4)), zo 42 (.call 66 []), zo 43 (.more (.eqD false 32 [yy, yy, yy, yy, yy, yy, yy, yy, yy, yy, yy, yy, yy, yy, yy, yy, yy, yy, yy, yy, yy, yy, yy, yy, yy, yy, yy, yy, yy, yy, yy, yy, .int .i64] (.t 41) (.t 42))), zm 44 43, zg 45 44 false (.ldA 33 (.t 5)), zg 46 44 false (.call 65 []), zg 47 44 false (.more (.eqD false 32 [yy, yy, yy, yy, yy, yy, yy, yy, yy, yy, yy, yy, yy, yy, yy, yy, yy, yy, yy, yy, yy, yy, yy, yy, yy, yy, yy, yy, yy, yy, yy, yy, .int .i64] (.t 45) (.t 46))), zo 48 (.pick (.t 44) (.v (.bool true)) (.t 47)), zm 40 48])
 (.cond (.t 40) (.seq (.ops [zo 6 (.mov (.v (.bool true)))])
 .ret) .skip)))))
 (.seq (.ops [zo 49 (.mkM), zo 50 (.ldA 33 (.t 4)), zo 51 (.build [] []), ⟨none, none, .more (.other (.gen (.insert 117 (.tmp 49) (.tmp 50) (.tmp 51))))⟩, zm 52 49, zm 7 52])
 (.seq (.ops [zo 53 (.ldA 33 (.t 4)), zo 54 (.bsl 32 [zz, zz, zz, zz, zz, zz, zz, zz, zz, zz, zz, zz, zz, zz, zz, zz, zz, zz, zz, zz, zz, zz, zz, zz, zz, zz, zz, zz, zz, zz, zz, zz, .int .i64 0] 1 [(0, 33, (.t 53))]), zm 8 54])
 (.seq (.block 1 (.loop (.seq (.seq (.ops [zm 55 8, zo 56 (.lenS (.t 55)), zo 57 (.bin .gtr (.t 56) (.v (.int .i64 0)))])
 (.cond (.t 57) .skip (.exit 1)))
 (.block 2 (.seq (.ops [zm 58 8, zm 59 8, zo 60 (.lenS (.t 59)), zo 61 (.bin .sub (.t 60) (.v (.int .i64 1))), zo 62 (.ixS 33 (.t 58) (.t 61)), zo 63 (.ldA 33 (.t 62)), zo 9 (.al 32 [zz, zz, zz, zz, zz, zz, zz, zz, zz, zz, zz, zz, zz, zz, zz, zz, zz, zz, zz, zz, zz, zz, zz, zz, zz, zz, zz, zz, zz, zz, zz, zz, .int .i64 0]), ⟨none, none, .st 33 (.t 9) (.t 63)⟩])
 (.seq (.ops [zm 64 8, zm 65 8, zo 66 (.lenS (.t 65)), zo 67 (.bin .sub (.t 66) (.v (.int .i64 1))), zo 68 (.slS 33 (.t 64) none (some (.t 67))), zm 8 68])
 (.seq (.ops [zm 69 0, zo 70 (.ldA 33 (.t 9)), zo 71 (.call 67 [(.t 69), (.t 70)]), zo 72 (.lenS (.t 71)), zo 73 (.mov (.v (.int .i64 0)))])
 (.block 3 (.loop (.seq (.ops [zo 74 (.bin .lss (.t 73) (.t 72))])
 (.seq (.cond (.t 74) .skip (.exit 3))
 (.seq (.block 4 (.seq (.ops [zo 75 (.ixS 33 (.t 71) (.t 73)), zo 76 (.ldA 33 (.t 75)), zo 11 (.al 32 [zz, zz, zz, zz, zz, zz, zz, zz, zz, zz, zz, zz, zz, zz, zz, zz, zz, zz, zz, zz, zz, zz, zz, zz, zz, zz, zz, zz, zz, zz, zz, zz, .int .i64 0]), ⟨none, none, .st 33 (.t 11) (.t 76)⟩])
 (.seq (.seq (.ops [zo 77 (.ldA 33 (.t 11)), zo 78 (.ldA 33 (.t 5)), zo 79 (.more (.eqD false 32 [yy, yy, yy, yy, yy, yy, yy, yy, yy, yy, yy, yy, yy, yy, yy, yy, yy, yy, yy, yy, yy, yy, yy, yy, yy, yy, yy, yy, yy, yy, yy, yy, .int .i64] (.t 77) (.t 78)))])
 (.cond (.t 79) (.seq (.ops [zo 6 (.mov (.v (.bool true)))])
 .ret) .skip))
 (.seq (.ops [zm 81 7, zo 82 (.ldA 33 (.t 11)), zo 83 (.more (.other (.gen (.lookup 117 (.tmp 81) (.tmp 82) true)))), zm 80 83, zo 84 (.ext 0 (.t 80)), zo 85 (.ext 1 (.t 80)), zo 12 (.al 116 []), ⟨none, none, .st 0 (.t 12) (.t 84)⟩, zm 13 85])
 (.seq (.ops [zm 86 13, zo 87 (.not (.t 86))])
 (.cond (.t 87) (.seq (.ops [zm 88 7, zo 89 (.ldA 33 (.t 11)), zo 90 (.build [] []), ⟨none, none, .more (.other (.gen (.mapUpdate 117 (.tmp 88) (.tmp 89) (.tmp 90))))⟩])
 (.ops [zm 91 8, zo 92 (.ldA 33 (.t 11)), zo 93 (.bsl 32 [zz, zz, zz, zz, zz, zz, zz, zz, zz, zz, zz, zz, zz, zz, zz, zz, zz, zz, zz, zz, zz, zz, zz, zz, zz, zz, zz, zz, zz, zz, zz, zz, .int .i64 0] 1 [(0, 33, (.t 92))]), zo 94 (.app 34 32 33 40 (.agg #[zz, zz, zz, zz, zz, zz, zz, zz, zz, zz, zz, zz, zz, zz, zz, zz, zz, zz, zz, zz, zz, zz, zz, zz, zz, zz, zz, zz, zz, zz, zz, zz, .int .i64 0]) (.t 91) (.t 93)), zm 8 94])) .skip))))))
 (.ops [zo 95 (.bin .add (.t 73) (.v (.int .i64 1))), zm 73 95])))))))))))))
 (.seq (.ops [zo 6 (.mov (.v (.bool false)))])
 .ret))))))
theorem Try.known18 : Known Try.prog 18 Try.pc18 96 [6] := ⟨Try.f18, _, Try.func18, rfl, by kernel_rfl, rfl, rfl⟩
def Try.pc21 : PC :=
 (.seq (.ops [zo 4 (.bx 30 (.t 1)), zo 6 (.mov (.v (.int .i64 0)))])
 (.seq (.seq (.ops [zm 11 0, zo 12 (.call 48 [(.t 11)]), zo 13 (.not (.t 12))])
 (.cond (.t 13) (.seq (.ops [zo 6 (.mov (.v (.int .i64 1)))])
 .ret) .skip))
 (.seq (.quietR [0, 1, 3, 7, 0, 0, 48, 127, 255, 511, 511, 0, 3071] 13 [zm 15 0, zo 16 (.nilc (.t 15)), zo 17 (.fa 1 (.t 16)), zo 18 (.ld (.t 17)), zo 19 (.ldA 32 (.t 4)), zm 20 2, zo 21 (.build [zz, zz, zz, zz, zz, zz, zz, zz, zz, zz, zz, zz, zz, zz, zz, zz, zz, zz, zz, zz, zz, zz, zz, zz, zz, zz, zz, zz, zz, zz, zz, zz, .int .i64 0] [(0, 32, (.t 19)), (32, 1, (.t 20))]), zo 22 (.more (.other (.gen (.lookup 54 (.tmp 18) (.tmp 21) true)))), zm 14 22, zo 23 (.ext 0 (.t 14)), zo 24 (.ext 1 (.t 14)), zo 7 (.al 36 [zz, zz, zz, zz, zz, zz, zz, zz, zz, zz, zz, zz, zz, zz, zz, zz, zz, zz, zz, zz, zz, zz, zz, zz, zz, zz, zz, zz, zz, zz, zz, zz, .int .i64 0, .int .i64 0, zz, zz, zz, zz, zz, zz, zz, zz, zz, zz, zz, zz, zz, zz, zz, zz, zz, zz, zz, zz, zz, zz, zz, zz, zz, zz, zz, zz, zz, zz, zz, zz, .int .i64 0, zz, zz, zz, zz, zz, zz, zz, zz, zz, zz, zz, zz, zz, zz, zz, zz, zz, zz, zz, zz, zz, zz, zz, zz, zz, zz, zz, zz, zz, zz, zz, zz, .int .i64 0, .slice none 0 0, .slice none 0 0]), ⟨none, none, .st 102 (.t 7) (.t 23)⟩, zm 8 24])
 (.seq (.seq (.ops [zm 25 8, zo 26 (.not (.t 25))])
 (.cond (.t 26) (.seq (.ops [zo 6 (.mov (.v (.int .i64 5)))])
 .ret) .skip))
 (.seq (.seq (.ops [zo 27 (.fa 100 (.t 7)), zo 28 (.ld (.t 27)), zo 29 (.lenS (.t 28)), zo 30 (.mov (.v (.int .i64 0)))])
 (.block 0 (.loop (.seq (.ops [zo 31 (.bin .lss (.t 30) (.t 29))])
 (.seq (.cond (.t 31) .skip (.exit 0))
 (.seq (.block 1 (.seq (.ops [zm 32 30, zm 9 32])
 (.seq (.quietR [0, 1, 3, 7, 0, 0, 48] 7 [zm 33 0, zo 34 (.nilc (.t 33)), zo 35 (.fa 2 (.t 34)), zo 36 (.ld (.t 35)), zo 37 (.ldA 102 (.t 7)), zm 38 9, zo 39 (.call 58 [(.t 37), (.t 38)]), zo 40 (.more (.other (.gen (.lookup 55 (.tmp 36) (.tmp 39) false)))), zo 41 (.fld 2 (.t 40)), zo 42 (.bin .gtr (.t 41) (.v (.int .i64 0)))])
 (.cond (.t 42) (.seq (.ops [zo 6 (.mov (.v (.int .i64 10)))])
 .ret) .skip))))
 (.ops [zo 43 (.bin .add (.t 30) (.v (.int .i64 1))), zm 30 43])))))))
 (.seq (.ops [zm 44 0, zo 45 (.ldA 102 (.t 7)), zo 46 (.call 59 [(.t 44), (.t 45), (.v (.bool false))])])
 (.seq (.ops [zm 47 0, zo 48 (.ldA 102 (.t 7)), zo 49 (.call 60 [(.t 47), (.t 48), (.v (.int .i64 (-1)))])])
 (.seq (.seq (.ops [zo 50 (.fa 100 (.t 7)), zo 51 (.ld (.t 50)), zo 52 (.lenS (.t 51)), zo 53 (.mov (.v (.int .i64 0)))])
 (.block 2 (.loop (.seq (.ops [zo 54 (.bin .lss (.t 53) (.t 52))])
 (.seq (.cond (.t 54) .skip (.exit 2))
 (.seq (.block 3 (.seq (.ops [zm 55 53, zm 10 55])
 (.quietR [0, 1, 3, 7, 0, 0, 48] 7 [zm 56 0, zo 57 (.nilc (.t 56)), zo 58 (.fa 2 (.t 57)), zo 59 (.ld (.t 58)), zo 60 (.ldA 102 (.t 7)), zm 61 10, zo 62 (.call 58 [(.t 60), (.t 61)]), ⟨none, none, .more (.other (.gen (.call { callee := (.builtin .delete), args := #[(.tmp 59), (.tmp 62)], argTypes := #[55, 32] })))⟩])))
 (.ops [zo 63 (.bin .add (.t 53) (.v (.int .i64 1))), zm 53 63])))))))
 (.seq (.quietR [] 7 [zm 64 0, zo 65 (.nilc (.t 64)), zo 66 (.fa 1 (.t 65)), zo 67 (.ld (.t 66)), zo 68 (.ldA 32 (.t 4)), zm 69 2, zo 70 (.build [zz, zz, zz, zz, zz, zz, zz, zz, zz, zz, zz, zz, zz, zz, zz, zz, zz, zz, zz, zz, zz, zz, zz, zz, zz, zz, zz, zz, zz, zz, zz, zz, .int .i64 0] [(0, 32, (.t 68)), (32, 1, (.t 69))]), ⟨none, none, .more (.other (.gen (.call { callee := (.builtin .delete), args := #[(.tmp 67), (.tmp 70)], argTypes := #[54, 97] })))⟩])
 (.seq (.ops [zo 6 (.mov (.v (.int .i64 0)))])
 .ret))))))))))
theorem Try.known21 : Known Try.prog 21 Try.pc21 71 [6] := ⟨Try.f21, _, Try.func21, rfl, by kernel_rfl, rfl, rfl⟩
def Try.pc26 : PC :=
 (.seq (.ops [zo 4 (.al 32 [zz, zz, zz, zz, zz, zz, zz, zz, zz, zz, zz, zz, zz, zz, zz, zz, zz, zz, zz, zz, zz, zz, zz, zz, zz, zz, zz, zz, zz, zz, zz, zz, .int .i64 0])])
 (.seq (.ops [zm 5 0, zo 6 (.more (.bldA [zz, zz, zz, zz, zz, zz, zz, zz, zz, zz, zz, zz, zz, zz, zz, zz, zz, zz, zz, zz, zz, zz, zz, zz, zz, zz, zz, zz, zz, zz, zz, .int .u8 0] [(0, 1, (.t 5))])), zm 7 1, zo 8 (.build [zz, zz, zz, zz, zz, zz, zz, zz, zz, zz, zz, zz, zz, zz, zz, zz, zz, zz, zz, zz, zz, zz, zz, zz, zz, zz, zz, zz, zz, zz, zz, zz, .int .i64 0] [(0, 32, (.t 6)), (32, 1, (.t 7))]), ⟨none, none, .st 33 (.t 4) (.t 8)⟩])
 .ret))
theorem Try.known26 : KnownC Try.prog 26 Try.pc26 9 4 (some 33) := ⟨Try.f26, _, _, Try.func26, rfl, by kernel_rfl, rfl, rfl, by kernel_rfl⟩
def Try.pc27 : PC :=
 (.seq (.ops [zo 0 (.al 32 [zz, zz, zz, zz, zz, zz, zz, zz, zz, zz, zz, zz, zz, zz, zz, zz, zz, zz, zz, zz, zz, zz, zz, zz, zz, zz, zz, zz, zz, zz, zz, zz, .int .i64 0])])
 (.seq (.ops [zo 1 (.build [zz, zz, zz, zz, zz, zz, zz, zz, zz, zz, zz, zz, zz, zz, zz, zz, zz, zz, zz, zz, zz, zz, zz, zz, zz, zz, zz, zz, zz, zz, zz, zz, .int .i64 0] [(32, 1, (.v (.int .i64 (-1))))]), ⟨none, none, .st 33 (.t 0) (.t 1)⟩])
 .ret))
theorem Try.known27 : KnownC Try.prog 27 Try.pc27 2 0 (some 33) := ⟨Try.f27, _, _, Try.func27, rfl, by kernel_rfl, rfl, rfl, by kernel_rfl⟩
def Try.pc28 : PC :=
 (.seq (.ops [zo 0 (.al 32 [zz, zz, zz, zz, zz, zz, zz, zz, zz, zz, zz, zz, zz, zz, zz, zz, zz, zz, zz, zz, zz, zz, zz, zz, zz, zz, zz, zz, zz, zz, zz, zz, .int .i64 0])])
 (.seq (.ops [zo 1 (.build [zz, zz, zz, zz, zz, zz, zz, zz, zz, zz, zz, zz, zz, zz, zz, zz, zz, zz, zz, zz, zz, zz, zz, zz, zz, zz, zz, zz, zz, zz, zz, zz, .int .i64 0] [(32, 1, (.v (.int .i64 (-2))))]), ⟨none, none, .st 33 (.t 0) (.t 1)⟩])
 .ret))
theorem Try.known28 : KnownC Try.prog 28 Try.pc28 2 0 (some 33) := ⟨Try.f28, _, _, Try.func28, rfl, by kernel_rfl, rfl, rfl, by kernel_rfl⟩
def Try.pc29 : PC :=
 (.seq (.ops [zo 3 (.bx 32 (.t 1)), zo 4 (.mov (.v (.bool false)))])
 (.seq (.quietR [0, 1, 3, 7, 7, 31, 63, 127, 127, 511, 1023, 2047, 4095, 4095] 14 [zm 5 0, zo 6 (.call 48 [(.t 5)]), zm 7 6, zg 8 7 true (.ldA 33 (.t 3)), zg 9 7 true (.call 66 []), zg 10 7 true (.more (.eqD false 32 [yy, yy, yy, yy, yy, yy, yy, yy, yy, yy, yy, yy, yy, yy, yy, yy, yy, yy, yy, yy, yy, yy, yy, yy, yy, yy, yy, yy, yy, yy, yy, yy, .int .i64] (.t 8) (.t 9))), zg 11 7 true (.mov (.t 10)), zg 12 11 false (.ldA 33 (.t 3)), zg 13 11 false (.call 65 []), zg 14 11 false (.more (.eqD false 32 [yy, yy, yy, yy, yy, yy, yy, yy, yy, yy, yy, yy, yy, yy, yy, yy, yy, yy, yy, yy, yy, yy, yy, yy, yy, yy, yy, yy, yy, yy, yy, yy, .int .i64] (.t 12) (.t 13))), zg 15 7 true (.pick (.t 11) (.v (.bool true)) (.t 14)), zg 16 7 true (.mov (.t 15)), zg 17 16 false (.mov (.t 0)), zg 18 16 false (.ldA 33 (.t 3)), zg 19 16 false (.call 56 [(.t 17), (.t 18)]), zg 20 7 true (.pick (.t 16) (.v (.bool true)) (.t 19)), zo 21 (.pick (.t 7) (.t 20) (.v (.bool false))), zm 4 21])
 .ret))
theorem Try.known29 : Known Try.prog 29 Try.pc29 22 [4] := ⟨Try.f29, _, Try.func29, rfl, by kernel_rfl, rfl, rfl⟩
def Try.pc48 : PC :=
 (.seq (.ops [zo 2 (.mov (.v (.bool false)))])
 (.seq (.ops [zm 3 0, zo 4 (.eqP true (.t 3) (.v (.pointer none))), zm 5 4, zg 6 5 true (.mov (.t 0)), zg 7 5 true (.nilc (.t 6)), zg 8 5 true (.fa 0 (.t 7)), zg 9 5 true (.ld (.t 8)), zo 10 (.pick (.t 5) (.t 9) (.v (.bool false))), zm 2 10])
 .ret))
theorem Try.known48 : Known Try.prog 48 Try.pc48 11 [2] := ⟨Try.f48, _, Try.func48, rfl, by kernel_rfl, rfl, rfl⟩
def Try.pc51 : PC :=
 (.seq (.ops [zo 2 (.mov (.v (.slice none 0 0)))])
 (.seq (.seq (.ops [zm 3 0, zo 4 (.more (.slNil false (.t 3)))])
 (.cond (.t 4) (.seq (.ops [zo 2 (.mov (.v (.slice none 0 0)))])
 .ret) .skip))
 (.seq (.ops [zo 5 (.bsl0 32), zm 6 0, zo 7 (.app 34 32 33 40 (.agg #[zz, zz, zz, zz, zz, zz, zz, zz, zz, zz, zz, zz, zz, zz, zz, zz, zz, zz, zz, zz, zz, zz, zz, zz, zz, zz, zz, zz, zz, zz, zz, zz, .int .i64 0]) (.t 5) (.t 6)), zm 2 7])
 .ret)))
theorem Try.known51 : Known Try.prog 51 Try.pc51 8 [2] := ⟨Try.f51, _, Try.func51, rfl, by kernel_rfl, rfl, rfl⟩
def Try.pc52 : PC :=
 (.seq (.ops [zo 3 (.bx 36 (.t 1)), zo 4 (.mov (.v (.bool false)))])
 (.seq (.seq (.quietR [0, 1, 3, 7, 0, 16, 0, 64, 240, 511, 1023, 2047, 2047, 0, 12287] 15 [zm 9 0, zo 10 (.nilc (.t 9)), zo 11 (.fa 1 (.t 10)), zo 12 (.ld (.t 11)), zo 13 (.fa 0 (.t 3)), zo 14 (.ldA 32 (.t 13)), zo 15 (.fa 32 (.t 3)), zo 16 (.ld (.t 15)), zo 17 (.build [zz, zz, zz, zz, zz, zz, zz, zz, zz, zz, zz, zz, zz, zz, zz, zz, zz, zz, zz, zz, zz, zz, zz, zz, zz, zz, zz, zz, zz, zz, zz, zz, .int .i64 0] [(0, 32, (.t 14)), (32, 1, (.t 16))]), zo 18 (.more (.other (.gen (.lookup 54 (.tmp 12) (.tmp 17) true)))), zm 8 18, zo 19 (.ext 0 (.t 8)), zo 20 (.ext 1 (.t 8)), zo 5 (.al 36 [zz, zz, zz, zz, zz, zz, zz, zz, zz, zz, zz, zz, zz, zz, zz, zz, zz, zz, zz, zz, zz, zz, zz, zz, zz, zz, zz, zz, zz, zz, zz, zz, .int .i64 0, .int .i64 0, zz, zz, zz, zz, zz, zz, zz, zz, zz, zz, zz, zz, zz, zz, zz, zz, zz, zz, zz, zz, zz, zz, zz, zz, zz, zz, zz, zz, zz, zz, zz, zz, .int .i64 0, zz, zz, zz, zz, zz, zz, zz, zz, zz, zz, zz, zz, zz, zz, zz, zz, zz, zz, zz, zz, zz, zz, zz, zz, zz, zz, zz, zz, zz, zz, zz, zz, .int .i64 0, .slice none 0 0, .slice none 0 0]), ⟨none, none, .st 102 (.t 5) (.t 19)⟩, zm 6 20])
 (.seq (.ops [zm 21 6])
 (.cond (.t 21) (.seq (.ops [zo 4 (.mov (.v (.bool true)))])
 .ret) .skip)))
 (.seq (.seq (.ops [zo 22 (.fa 100 (.t 3)), zo 23 (.ld (.t 22)), zo 24 (.lenS (.t 23)), zo 25 (.mov (.v (.int .i64 0)))])
 (.block 0 (.loop (.seq (.ops [zo 26 (.bin .lss (.t 25) (.t 24))])
 (.seq (.cond (.t 26) .skip (.exit 0))
 (.seq (.block 1 (.seq (.ops [zm 27 25, zm 7 27])
 (.seq (.ops [zm 28 0, zo 29 (.ldA 102 (.t 3)), zm 30 7, zo 31 (.call 58 [(.t 29), (.t 30)]), zo 32 (.call 56 [(.t 28), (.t 31)])])
 (.cond (.t 32) (.seq (.ops [zo 4 (.mov (.v (.bool true)))])
 .ret) .skip))))
 (.ops [zo 33 (.bin .add (.t 25) (.v (.int .i64 1))), zm 25 33])))))))
 (.seq (.ops [zo 4 (.mov (.v (.bool false)))])
 .ret))))
theorem Try.known52 : Known Try.prog 52 Try.pc52 34 [4] := ⟨Try.f52, _, Try.func52, rfl, by kernel_rfl, rfl, rfl⟩
def Try.pc53 : PC :=
 (.seq (.ops [zo 1 (.bx 36 (.t 0)), zo 2 (.mov (.v (.bool false)))])
 (.seq (.seq (.ops [zo 5 (.fa 101 (.t 1)), zo 6 (.ld (.t 5)), zo 7 (.lenS (.t 6)), zo 8 (.mov (.v (.int .i64 0)))])
 (.block 0 (.loop (.seq (.ops [zo 9 (.bin .lss (.t 8) (.t 7))])
 (.seq (.cond (.t 9) .skip (.exit 0))
 (.seq (.block 1 (.seq (.ops [zm 10 8, zo 11 (.ixS 33 (.t 6) (.t 8)), zo 12 (.ldA 33 (.t 11)), zo 4 (.al 32 [zz, zz, zz, zz, zz, zz, zz, zz, zz, zz, zz, zz, zz, zz, zz, zz, zz, zz, zz, zz, zz, zz, zz, zz, zz, zz, zz, zz, zz, zz, zz, zz, .int .i64 0]), zm 3 10, ⟨none, none, .st 33 (.t 4) (.t 12)⟩])
 (.seq (.quietR [0, 0, 3, 7, 15, 15, 63, 127, 255, 511, 1023, 511, 4095, 511] 14 [zo 13 (.ldA 33 (.t 4)), zo 14 (.call 66 []), zo 15 (.more (.eqD false 32 [yy, yy, yy, yy, yy, yy, yy, yy, yy, yy, yy, yy, yy, yy, yy, yy, yy, yy, yy, yy, yy, yy, yy, yy, yy, yy, yy, yy, yy, yy, yy, yy, .int .i64] (.t 13) (.t 14))), zm 16 15, zg 17 16 false (.ldA 33 (.t 4)), zg 18 16 false (.call 65 []), zg 19 16 false (.more (.eqD false 32 [yy, yy, yy, yy, yy, yy, yy, yy, yy, yy, yy, yy, yy, yy, yy, yy, yy, yy, yy, yy, yy, yy, yy, yy, yy, yy, yy, yy, yy, yy, yy, yy, .int .i64] (.t 17) (.t 18))), zo 20 (.pick (.t 16) (.v (.bool true)) (.t 19)), zm 21 20, zg 22 21 false (.fa 101 (.t 1)), zg 23 21 false (.ld (.t 22)), zg 24 21 false (.mov (.t 3)), zg 25 21 false (.slS 33 (.t 23) none (some (.t 24))), zg 26 21 false (.ldA 33 (.t 4)), zg 27 21 false (.call 85 [(.t 25), (.t 26)]), zo 28 (.pick (.t 21) (.v (.bool true)) (.t 27))])
 (.cond (.t 28) (.seq (.ops [zo 2 (.mov (.v (.bool false)))])
 .ret) .skip))))
 (.ops [zo 29 (.bin .add (.t 8) (.v (.int .i64 1))), zm 8 29])))))))
 (.seq (.quietR [0, 1, 3, 7, 15, 31, 15, 127, 255, 511, 1023, 2047, 1023] 13 [zo 30 (.fa 33 (.t 1)), zo 31 (.ld (.t 30)), zo 32 (.bin .geq (.t 31) (.v (.int .i64 0))), zm 33 32, zg 34 33 true (.fa 34 (.t 1)), zg 35 33 true (.ldA 33 (.t 34)), zg 36 33 true (.call 65 []), zg 37 33 true (.more (.eqD true 32 [yy, yy, yy, yy, yy, yy, yy, yy, yy, yy, yy, yy, yy, yy, yy, yy, yy, yy, yy, yy, yy, yy, yy, yy, yy, yy, yy, yy, yy, yy, yy, yy, .int .i64] (.t 35) (.t 36))), zo 38 (.pick (.t 33) (.t 37) (.v (.bool false))), zm 39 38, zg 40 39 true (.fa 67 (.t 1)), zg 41 39 true (.ldA 33 (.t 40)), zg 42 39 true (.call 66 []), zg 43 39 true (.more (.eqD true 32 [yy, yy, yy, yy, yy, yy, yy, yy, yy, yy, yy, yy, yy, yy, yy, yy, yy, yy, yy, yy, yy, yy, yy, yy, yy, yy, yy, yy, yy, yy, yy, yy, .int .i64] (.t 41) (.t 42))), zo 44 (.pick (.t 39) (.t 43) (.v (.bool false))), zm 2 44])
 .ret)))
theorem Try.known53 : Known Try.prog 53 Try.pc53 45 [2] := ⟨Try.f53, _, Try.func53, rfl, by kernel_rfl, rfl, rfl⟩
def Try.pc54 : PC :=
 (.seq (.ops [zo 4 (.mov (.v (.bool false)))])
 (.seq (.ops [zm 5 0, zm 6 1, zo 7 (.call 86 [(.t 5), (.t 6)]), zo 8 (.bin .geq (.t 7) (.v (.int .i64 0))), zm 4 8])
 .ret))
theorem Try.known54 : Known Try.prog 54 Try.pc54 9 [4] := ⟨Try.f54, _, Try.func54, rfl, by kernel_rfl, rfl, rfl⟩
def Try.pc55 : PC :=
 (.seq (.ops [zo 2 (.bx 32 (.t 0)), zo 3 (.mov (.v (.bool false)))])
 (.seq (.ops [zo 4 (.ld (.t 1)), zo 5 (.ldA 33 (.t 2)), zo 6 (.call 56 [(.t 4), (.t 5)]), zo 7 (.not (.t 6)), zm 3 7])
 .ret))
theorem Try.known55 : Known Try.prog 55 Try.pc55 8 [3] := ⟨Try.f55, _, Try.func55, rfl, by kernel_rfl, rfl, rfl⟩
def Try.pc56 : PC :=
 (.seq (.ops [zo 3 (.bx 32 (.t 1)), zo 4 (.mov (.v (.bool false)))])
 (.seq (.quietR [0, 1, 3, 7, 0, 31, 63, 127, 127, 0, 767] 11 [zm 8 0, zo 9 (.nilc (.t 8)), zo 10 (.fa 2 (.t 9)), zo 11 (.ld (.t 10)), zo 12 (.ldA 33 (.t 3)), zo 13 (.more (.other (.gen (.lookup 55 (.tmp 11) (.tmp 12) true)))), zm 7 13, zo 14 (.ext 0 (.t 7)), zo 15 (.ext 1 (.t 7)), zo 5 (.al 100 [.string ⟨#[]⟩, .int .i64 0, .int .i64 0, .slice none 0 0]), ⟨none, none, .st 4 (.t 5) (.t 14)⟩, zm 6 15])
 (.seq (.ops [zm 16 6, zm 4 16])
 .ret)))
theorem Try.known56 : Known Try.prog 56 Try.pc56 17 [4] := ⟨Try.f56, _, Try.func56, rfl, by kernel_rfl, rfl, rfl⟩
def Try.pc57 : PC :=
 (.seq (.ops [zo 2 (.mov (.v (.slice none 0 0)))])
 (.seq (.seq (.ops [zm 3 0, zo 4 (.more (.slNil false (.t 3)))])
 (.cond (.t 4) (.seq (.ops [zo 2 (.mov (.v (.slice none 0 0)))])
 .ret) .skip))
 (.seq (.ops [zo 5 (.bsl0 9), zm 6 0, zo 7 (.app 33 9 1 16 (.string ⟨#[]⟩) (.t 5) (.t 6)), zm 2 7])
 .ret)))
theorem Try.known57 : Known Try.prog 57 Try.pc57 8 [2] := ⟨Try.f57, _, Try.func57, rfl, by kernel_rfl, rfl, rfl⟩
def Try.pc58 : PC :=
 (.seq (.ops [zo 2 (.bx 36 (.t 0)), zo 4 (.al 32 [zz, zz, zz, zz, zz, zz, zz, zz, zz, zz, zz, zz, zz, zz, zz, zz, zz, zz, zz, zz, zz, zz, zz, zz, zz, zz, zz, zz, zz, zz, zz, zz, .int .i64 0])])
 (.seq (.ops [zo 5 (.fa 0 (.t 2)), zo 6 (.ldA 32 (.t 5)), zo 7 (.fa 33 (.t 2)), zo 8 (.ld (.t 7)), zm 9 1, zo 10 (.bin .add (.t 8) (.t 9)), zo 11 (.build [zz, zz, zz, zz, zz, zz, zz, zz, zz, zz, zz, zz, zz, zz, zz, zz, zz, zz, zz, zz, zz, zz, zz, zz, zz, zz, zz, zz, zz, zz, zz, zz, .int .i64 0] [(0, 32, (.t 6)), (32, 1, (.t 10))]), ⟨none, none, .st 33 (.t 4) (.t 11)⟩])
 .ret))
theorem Try.known58 : KnownC Try.prog 58 Try.pc58 12 4 (some 33) := ⟨Try.f58, _, _, Try.func58, rfl, by kernel_rfl, rfl, rfl, by kernel_rfl⟩
def Try.pc59 : PC :=
 (.seq (.ops [zo 4 (.bx 36 (.t 1))])
 (.seq (.seq (.ops [zo 9 (.fa 100 (.t 4)), zo 10 (.ld (.t 9)), zo 11 (.lenS (.t 10)), zo 12 (.bin .eql (.t 11) (.v (.int .i64 0)))])
 (.cond (.t 12) .ret .skip))
 (.seq (.ops [zo 13 (.fa 34 (.t 4)), zo 14 (.ldA 33 (.t 13)), zo 15 (.bsl 32 [zz, zz, zz, zz, zz, zz, zz, zz, zz, zz, zz, zz, zz, zz, zz, zz, zz, zz, zz, zz, zz, zz, zz, zz, zz, zz, zz, zz, zz, zz, zz, zz, .int .i64 0] 1 [(0, 33, (.t 14))]), zm 6 15])
 (.seq (.seq (.ops [zo 16 (.fa 100 (.t 4)), zo 17 (.ld (.t 16)), zo 18 (.lenS (.t 17)), zo 19 (.mov (.v (.int .i64 0)))])
 (.block 0 (.loop (.seq (.ops [zo 20 (.bin .lss (.t 19) (.t 18))])
 (.seq (.cond (.t 20) .skip (.exit 0))
 (.seq (.block 1 (.seq (.ops [zm 21 19, zm 7 21])
 (.ops [zm 22 6, zo 23 (.ldA 102 (.t 4)), zm 24 7, zo 25 (.call 58 [(.t 23), (.t 24)]), zo 26 (.bsl 32 [zz, zz, zz, zz, zz, zz, zz, zz, zz, zz, zz, zz, zz, zz, zz, zz, zz, zz, zz, zz, zz, zz, zz, zz, zz, zz, zz, zz, zz, zz, zz, zz, .int .i64 0] 1 [(0, 33, (.t 25))]), zo 27 (.app 34 32 33 40 (.agg #[zz, zz, zz, zz, zz, zz, zz, zz, zz, zz, zz, zz, zz, zz, zz, zz, zz, zz, zz, zz, zz, zz, zz, zz, zz, zz, zz, zz, zz, zz, zz, zz, .int .i64 0]) (.t 22) (.t 26)), zm 6 27])))
 (.ops [zo 28 (.bin .add (.t 19) (.v (.int .i64 1))), zm 19 28])))))))
 (.seq (.ops [zm 29 6, zo 30 (.fa 67 (.t 4)), zo 31 (.ldA 33 (.t 30)), zo 32 (.bsl 32 [zz, zz, zz, zz, zz, zz, zz, zz, zz, zz, zz, zz, zz, zz, zz, zz, zz, zz, zz, zz, zz, zz, zz, zz, zz, zz, zz, zz, zz, zz, zz, zz, .int .i64 0] 1 [(0, 33, (.t 31))]), zo 33 (.app 34 32 33 40 (.agg #[zz, zz, zz, zz, zz, zz, zz, zz, zz, zz, zz, zz, zz, zz, zz, zz, zz, zz, zz, zz, zz, zz, zz, zz, zz, zz, zz, zz, zz, zz, zz, zz, .int .i64 0]) (.t 29) (.t 32)), zm 6 33])
 (.seq (.ops [zo 8 (.mov (.v (.int .i64 1)))])
 (.block 2 (.loop (.seq (.seq (.ops [zm 34 8, zm 35 6, zo 36 (.lenS (.t 35)), zo 37 (.bin .lss (.t 34) (.t 36))])
 (.cond (.t 37) .skip (.exit 2)))
 (.seq (.block 3 (.quietR [] 11 [zm 40 0, zm 41 6, zm 42 8, zo 43 (.bin .sub (.t 42) (.v (.int .i64 1))), zo 44 (.ixS 33 (.t 41) (.t 43)), zo 45 (.ldA 33 (.t 44)), zm 46 6, zm 47 8, zo 48 (.ixS 33 (.t 46) (.t 47)), zo 49 (.ldA 33 (.t 48)), zm 50 2, zo 51 (.call 87 [(.t 40), (.t 45), (.t 49), (.t 50)])]))
 (.ops [zm 38 8, zo 39 (.bin .add (.t 38) (.v (.int .i64 1))), zm 8 39])))))))))))
theorem Try.known59 : Known Try.prog 59 Try.pc59 52 [] := ⟨Try.f59, _, Try.func59, rfl, by kernel_rfl, rfl, rfl⟩
def Try.pc60 : PC :=
 (.seq (.ops [zo 4 (.bx 36 (.t 1))])
 (.seq (.seq (.ops [zo 13 (.fa 34 (.t 4)), zo 14 (.ldA 33 (.t 13)), zo 15 (.fa 67 (.t 4)), zo 16 (.ldA 33 (.t 15)), zo 17 (.bsl 32 [zz, zz, zz, zz, zz, zz, zz, zz, zz, zz, zz, zz, zz, zz, zz, zz, zz, zz, zz, zz, zz, zz, zz, zz, zz, zz, zz, zz, zz, zz, zz, zz, .int .i64 0, zz, zz, zz, zz, zz, zz, zz, zz, zz, zz, zz, zz, zz, zz, zz, zz, zz, zz, zz, zz, zz, zz, zz, zz, zz, zz, zz, zz, zz, zz, zz, zz, .int .i64 0] 2 [(0, 33, (.t 14)), (33, 33, (.t 16))]), zo 18 (.fa 101 (.t 4)), zo 19 (.ld (.t 18)), zo 20 (.app 34 32 33 40 (.agg #[zz, zz, zz, zz, zz, zz, zz, zz, zz, zz, zz, zz, zz, zz, zz, zz, zz, zz, zz, zz, zz, zz, zz, zz, zz, zz, zz, zz, zz, zz, zz, zz, .int .i64 0]) (.t 17) (.t 19)), zo 21 (.lenS (.t 20)), zo 22 (.mov (.v (.int .i64 0)))])
 (.block 0 (.loop (.seq (.ops [zo 23 (.bin .lss (.t 22) (.t 21))])
 (.seq (.cond (.t 23) .skip (.exit 0))
 (.seq (.block 1 (.seq (.ops [zo 24 (.ixS 33 (.t 20) (.t 22)), zo 25 (.ldA 33 (.t 24)), zo 7 (.al 32 [zz, zz, zz, zz, zz, zz, zz, zz, zz, zz, zz, zz, zz, zz, zz, zz, zz, zz, zz, zz, zz, zz, zz, zz, zz, zz, zz, zz, zz, zz, zz, zz, .int .i64 0]), ⟨none, none, .st 33 (.t 7) (.t 25)⟩])
 (.seq (.quietR [0, 1, 3, 7, 0, 31, 63, 127, 127, 0, 767] 11 [zm 27 0, zo 28 (.nilc (.t 27)), zo 29 (.fa 2 (.t 28)), zo 30 (.ld (.t 29)), zo 31 (.ldA 33 (.t 7)), zo 32 (.more (.other (.gen (.lookup 55 (.tmp 30) (.tmp 31) true)))), zm 26 32, zo 33 (.ext 0 (.t 26)), zo 34 (.ext 1 (.t 26)), zo 8 (.al 100 [.string ⟨#[]⟩, .int .i64 0, .int .i64 0, .slice none 0 0]), ⟨none, none, .st 4 (.t 8) (.t 33)⟩, zm 9 34])
 (.seq (.ops [zm 35 9])
 (.cond (.t 35) (.seq (.ops [zo 36 (.fa 2 (.t 8)), zo 37 (.ld (.t 36)), zm 38 2, zo 39 (.bin .add (.t 37) (.t 38)), zo 40 (.fa 2 (.t 8)), ⟨none, none, .st 1 (.t 40) (.t 39)⟩])
 (.quietR [] 6 [zm 41 0, zo 42 (.nilc (.t 41)), zo 43 (.fa 2 (.t 42)), zo 44 (.ld (.t 43)), zo 45 (.ldA 33 (.t 7)), zo 46 (.ldA 4 (.t 8)), ⟨none, none, .more (.other (.gen (.mapUpdate 55 (.tmp 44) (.tmp 45) (.tmp 46))))⟩])) .skip)))))
 (.ops [zo 47 (.bin .add (.t 22) (.v (.int .i64 1))), zm 22 47])))))))
 (.seq (.ops [zo 48 (.fa 101 (.t 4)), zo 49 (.ld (.t 48)), zo 50 (.lenS (.t 49)), zo 51 (.mov (.v (.int .i64 0)))])
 (.block 2 (.loop (.seq (.ops [zo 52 (.bin .lss (.t 51) (.t 50))])
 (.seq (.cond (.t 52) .skip (.exit 2))
 (.seq (.block 3 (.seq (.ops [zo 53 (.ixS 33 (.t 49) (.t 51)), zo 54 (.ldA 33 (.t 53)), zo 11 (.al 32 [zz, zz, zz, zz, zz, zz, zz, zz, zz, zz, zz, zz, zz, zz, zz, zz, zz, zz, zz, zz, zz, zz, zz, zz, zz, zz, zz, zz, zz, zz, zz, zz, .int .i64 0]), ⟨none, none, .st 33 (.t 11) (.t 54)⟩])
 (.seq (.quietR [0, 1, 3, 7, 0, 31, 0] 7 [zm 55 0, zo 56 (.nilc (.t 55)), zo 57 (.fa 2 (.t 56)), zo 58 (.ld (.t 57)), zo 59 (.ldA 33 (.t 11)), zo 60 (.more (.other (.gen (.lookup 55 (.tmp 58) (.tmp 59) false)))), zo 12 (.al 100 [.string ⟨#[]⟩, .int .i64 0, .int .i64 0, .slice none 0 0]), ⟨none, none, .st 4 (.t 12) (.t 60)⟩])
 (.seq (.ops [zo 61 (.fa 1 (.t 12)), zo 62 (.ld (.t 61)), zm 63 2, zo 64 (.bin .add (.t 62) (.t 63)), zo 65 (.fa 1 (.t 12)), ⟨none, none, .st 1 (.t 65) (.t 64)⟩])
 (.quietR [] 6 [zm 66 0, zo 67 (.nilc (.t 66)), zo 68 (.fa 2 (.t 67)), zo 69 (.ld (.t 68)), zo 70 (.ldA 33 (.t 11)), zo 71 (.ldA 4 (.t 12)), ⟨none, none, .more (.other (.gen (.mapUpdate 55 (.tmp 69) (.tmp 70) (.tmp 71))))⟩])))))
 (.ops [zo 72 (.bin .add (.t 51) (.v (.int .i64 1))), zm 51 72])))))))))
theorem Try.known60 : Known Try.prog 60 Try.pc60 73 [] := ⟨Try.f60, _, Try.func60, rfl, by kernel_rfl, rfl, rfl⟩
def Try.pc61 : PC :=
 (.seq (.ops [zo 2 (.mov (.v (.map none)))])
 (.seq (.ops [zm 9 0, zo 10 (.nilc (.t 9)), zo 11 (.fa 2 (.t 10)), zo 12 (.ld (.t 11)), zo 13 (.lenM (.t 12)), zo 14 (.more (.other (.gen (.makeMap 107 (some (.tmp 13)))))), zm 3 14])
 (.seq (.seq (.ops [zm 15 0, zo 16 (.nilc (.t 15)), zo 17 (.fa 2 (.t 16)), zo 18 (.ld (.t 17)), zo 19 (.more (.other (.gen (.range 55 (.tmp 18)))))])
 (.block 0 (.loop (.seq (.ops [zo 20 (.more (.other (.gen (.next (.tmp 19) false)))), zo 21 (.ext 0 (.t 20))])
 (.seq (.cond (.t 21) .skip (.exit 0))
 (.block 1 (.seq (.ops [zo 22 (.more (.other (.gen (.entry (.tmp 19))))), zo 23 (.ext 0 (.t 22)), zo 4 (.al 32 [zz, zz, zz, zz, zz, zz, zz, zz, zz, zz, zz, zz, zz, zz, zz, zz, zz, zz, zz, zz, zz, zz, zz, zz, zz, zz, zz, zz, zz, zz, zz, zz, .int .i64 0]), ⟨none, none, .st 33 (.t 4) (.t 23)⟩])
 (.quietR [0, 0, 3, 7, 3, 19] 6 [zm 24 3, zo 25 (.ldA 33 (.t 4)), zo 26 (.more (.other (.gen (.lookup 107 (.tmp 24) (.tmp 25) false)))), zo 27 (.bin .add (.t 26) (.v (.int .i64 0))), zo 28 (.more (.other (.gen (.mapEntry 107 (.tmp 24) (.tmp 25))))), zo 29 (.ext 1 (.t 28)), ⟨none, none, .more (.other (.gen (.entryStore 107 (.tmp 24) (.tmp 29) (.tmp 27))))⟩]))))))))
 (.seq (.seq (.ops [zm 30 0, zo 31 (.nilc (.t 30)), zo 32 (.fa 2 (.t 31)), zo 33 (.ld (.t 32)), zo 34 (.more (.other (.gen (.range 55 (.tmp 33)))))])
 (.block 2 (.loop (.seq (.ops [zo 35 (.more (.other (.gen (.next (.tmp 34) false)))), zo 36 (.ext 0 (.t 35))])
 (.seq (.cond (.t 36) .skip (.exit 2))
 (.block 3 (.seq (.ops [zo 37 (.more (.other (.gen (.entry (.tmp 34))))), zo 38 (.ext 1 (.t 37)), zo 6 (.al 100 [.string ⟨#[]⟩, .int .i64 0, .int .i64 0, .slice none 0 0]), ⟨none, none, .st 4 (.t 6) (.t 38)⟩])
 (.seq (.ops [zo 39 (.fa 3 (.t 6)), zo 40 (.ld (.t 39)), zo 41 (.lenS (.t 40)), zo 42 (.mov (.v (.int .i64 0)))])
 (.block 4 (.loop (.seq (.ops [zo 43 (.bin .lss (.t 42) (.t 41))])
 (.seq (.cond (.t 43) .skip (.exit 4))
 (.seq (.block 5 (.seq (.ops [zo 44 (.ixS 33 (.t 40) (.t 42)), zo 45 (.ldA 33 (.t 44)), zo 8 (.al 32 [zz, zz, zz, zz, zz, zz, zz, zz, zz, zz, zz, zz, zz, zz, zz, zz, zz, zz, zz, zz, zz, zz, zz, zz, zz, zz, zz, zz, zz, zz, zz, zz, .int .i64 0]), ⟨none, none, .st 33 (.t 8) (.t 45)⟩])
 (.quietR [0, 0, 3, 7, 3, 19] 6 [zm 46 3, zo 47 (.ldA 33 (.t 8)), zo 48 (.more (.other (.gen (.lookup 107 (.tmp 46) (.tmp 47) false)))), zo 49 (.bin .add (.t 48) (.v (.int .i64 1))), zo 50 (.more (.other (.gen (.mapEntry 107 (.tmp 46) (.tmp 47))))), zo 51 (.ext 1 (.t 50)), ⟨none, none, .more (.other (.gen (.entryStore 107 (.tmp 46) (.tmp 51) (.tmp 49))))⟩])))
 (.ops [zo 52 (.bin .add (.t 42) (.v (.int .i64 1))), zm 42 52]))))))))))))))
 (.seq (.ops [zm 53 3, zm 2 53])
 .ret)))))
theorem Try.known61 : Known Try.prog 61 Try.pc61 54 [2] := ⟨Try.f61, _, Try.func61, rfl, by kernel_rfl, rfl, rfl⟩
def Try.pc62 : PC :=
 (.seq (.ops [zm 4 0, zm 5 1, zo 6 (.more (.other (.gen (.call { callee := (.invoke (.tmp 4) "Push"), args := #[(.tmp 5)], argTypes := #[20] }))))])
 (.ops [zm 7 0, zm 8 0, zo 9 (.more (.other (.gen (.call { callee := (.invoke (.tmp 8) "Len"), args := #[], argTypes := #[] })))), zo 10 (.bin .sub (.t 9) (.v (.int .i64 1))), zo 11 (.call 88 [(.t 7), (.t 10)])]))
theorem Try.known62 : Known Try.prog 62 Try.pc62 12 [] := ⟨Try.f62, _, Try.func62, rfl, by kernel_rfl, rfl, rfl⟩
def Try.pc63 : PC :=
 (.seq (.ops [zo 2 (.mov (.v (.int .i64 0)))])
 (.seq (.ops [zm 3 0, zo 4 (.lenS (.t 3)), zm 2 4])
 .ret))
theorem Try.known63 : Known Try.prog 63 Try.pc63 5 [2] := ⟨Try.f63, _, Try.func63, rfl, by kernel_rfl, rfl, rfl⟩
def Try.pc64 : PC :=
 (.seq (.ops [zo 2 (.mov (.v .nilIface))])
 (.seq (.ops [zm 4 0, zo 5 (.more (.other (.gen (.call { callee := (.invoke (.tmp 4) "Len"), args := #[], argTypes := #[] })))), zo 6 (.bin .sub (.t 5) (.v (.int .i64 1))), zm 3 6])
 (.seq (.ops [zm 7 0, zm 8 3, zo 9 (.more (.other (.gen (.call { callee := (.invoke (.tmp 7) "Swap"), args := #[(.const (.int .i64 0)), (.tmp 8)], argTypes := #[3, 3] }))))])
 (.seq (.ops [zm 10 0, zm 11 3, zo 12 (.call 89 [(.t 10), (.v (.int .i64 0)), (.t 11)])])
 (.seq (.ops [zm 13 0, zo 14 (.more (.other (.gen (.call { callee := (.invoke (.tmp 13) "Pop"), args := #[], argTypes := #[] })))), zm 2 14])
 .ret)))))
theorem Try.known64 : Known Try.prog 64 Try.pc64 15 [2] := ⟨Try.f64, _, Try.func64, rfl, by kernel_rfl, rfl, rfl⟩
def Try.pc65 : PC :=
 (.seq (.ops [zo 0 (.al 32 [zz, zz, zz, zz, zz, zz, zz, zz, zz, zz, zz, zz, zz, zz, zz, zz, zz, zz, zz, zz, zz, zz, zz, zz, zz, zz, zz, zz, zz, zz, zz, zz, .int .i64 0])])
 (.seq (.ops [zo 1 (.build [zz, zz, zz, zz, zz, zz, zz, zz, zz, zz, zz, zz, zz, zz, zz, zz, zz, zz, zz, zz, zz, zz, zz, zz, zz, zz, zz, zz, zz, zz, zz, zz, .int .i64 0] [(32, 1, (.v (.int .i64 (-2))))]), ⟨none, none, .st 33 (.t 0) (.t 1)⟩])
 .ret))
theorem Try.known65 : KnownC Try.prog 65 Try.pc65 2 0 (some 33) := ⟨Try.f65, _, _, Try.func65, rfl, by kernel_rfl, rfl, rfl, by kernel_rfl⟩
def Try.pc66 : PC :=
 (.seq (.ops [zo 0 (.al 32 [zz, zz, zz, zz, zz, zz, zz, zz, zz, zz, zz, zz, zz, zz, zz, zz, zz, zz, zz, zz, zz, zz, zz, zz, zz, zz, zz, zz, zz, zz, zz, zz, .int .i64 0])])
 (.seq (.ops [zo 1 (.build [zz, zz, zz, zz, zz, zz, zz, zz, zz, zz, zz, zz, zz, zz, zz, zz, zz, zz, zz, zz, zz, zz, zz, zz, zz, zz, zz, zz, zz, zz, zz, zz, .int .i64 0] [(32, 1, (.v (.int .i64 (-1))))]), ⟨none, none, .st 33 (.t 0) (.t 1)⟩])
 .ret))
theorem Try.known66 : KnownC Try.prog 66 Try.pc66 2 0 (some 33) := ⟨Try.f66, _, _, Try.func66, rfl, by kernel_rfl, rfl, rfl, by kernel_rfl⟩
def Try.pc67 : PC :=
 (.seq (.ops [zo 3 (.bx 32 (.t 1)), zo 4 (.mov (.v (.slice none 0 0)))])
 (.seq (.seq (.quietR [0, 0] 2 [zo 5 (.ldA 33 (.t 3)), zo 6 (.call 66 []), zo 7 (.more (.eqD false 32 [yy, yy, yy, yy, yy, yy, yy, yy, yy, yy, yy, yy, yy, yy, yy, yy, yy, yy, yy, yy, yy, yy, yy, yy, yy, yy, yy, yy, yy, yy, yy, yy, .int .i64] (.t 5) (.t 6)))])
 (.cond (.t 7) (.seq (.ops [zm 8 0, zo 9 (.nilc (.t 8)), zo 10 (.fa 3 (.t 9)), zo 11 (.ld (.t 10)), zm 4 11])
 .ret) .skip))
 (.seq (.quietR [] 5 [zm 12 0, zo 13 (.nilc (.t 12)), zo 14 (.fa 2 (.t 13)), zo 15 (.ld (.t 14)), zo 16 (.ldA 33 (.t 3)), zo 17 (.more (.other (.gen (.lookup 55 (.tmp 15) (.tmp 16) false)))), zo 18 (.fld 3 (.t 17)), zm 4 18])
 .ret)))
theorem Try.known67 : Known Try.prog 67 Try.pc67 19 [4] := ⟨Try.f67, _, Try.func67, rfl, by kernel_rfl, rfl, rfl⟩
def Try.pc85 : PC :=
 (.seq (.ops [zo 3 (.bx 32 (.t 1)), zo 4 (.mov (.v (.bool false)))])
 (.seq (.ops [zm 5 0, zo 6 (.ldA 33 (.t 3)), zo 7 (.call 110 [(.t 5), (.t 6)]), zo 8 (.bin .geq (.t 7) (.v (.int .i64 0))), zm 4 8])
 .ret))
theorem Try.known85 : Known Try.prog 85 Try.pc85 9 [4] := ⟨Try.f85, _, Try.func85, rfl, by kernel_rfl, rfl, rfl⟩
def Try.pc86 : PC :=
 (.seq (.ops [zo 4 (.mov (.v (.int .i64 0)))])
 (.seq (.seq (.ops [zm 6 0, zo 7 (.lenS (.t 6)), zo 8 (.mov (.v (.int .i64 0)))])
 (.block 0 (.loop (.seq (.ops [zo 9 (.bin .lss (.t 8) (.t 7))])
 (.seq (.cond (.t 9) .skip (.exit 0))
 (.seq (.block 1 (.seq (.ops [zm 10 8, zm 5 10])
 (.seq (.ops [zm 11 1, zm 12 0, zm 13 5, zo 14 (.ixS 33 (.t 12) (.t 13)), zo 15 (.ldA 33 (.t 14)), zo 16 (.callv (.t 11) [(.t 15)])])
 (.cond (.t 16) (.seq (.ops [zm 17 5, zm 4 17])
 .ret) .skip))))
 (.ops [zo 18 (.bin .add (.t 8) (.v (.int .i64 1))), zm 8 18])))))))
 (.seq (.ops [zo 4 (.mov (.v (.int .i64 (-1))))])
 .ret)))
theorem Try.known86 : Known Try.prog 86 Try.pc86 19 [4] := ⟨Try.f86, _, Try.func86, rfl, by kernel_rfl, rfl, rfl⟩
def Try.pc87 : PC :=
 (.seq (.ops [zo 5 (.bx 32 (.t 1)), zo 6 (.bx 32 (.t 2))])
 (.seq (.ops [zm 11 0, zo 12 (.ldA 33 (.t 5)), zo 13 (.call 67 [(.t 11), (.t 12)]), zo 14 (.call 51 [(.t 13)]), zm 8 14])
 (.seq (.seq (.ops [zm 15 3])
 (.cond (.t 15) (.ops [zm 16 8, zo 17 (.ldA 33 (.t 6)), zo 18 (.bsl 32 [zz, zz, zz, zz, zz, zz, zz, zz, zz, zz, zz, zz, zz, zz, zz, zz, zz, zz, zz, zz, zz, zz, zz, zz, zz, zz, zz, zz, zz, zz, zz, zz, .int .i64 0] 1 [(0, 33, (.t 17))]), zo 19 (.app 34 32 33 40 (.agg #[zz, zz, zz, zz, zz, zz, zz, zz, zz, zz, zz, zz, zz, zz, zz, zz, zz, zz, zz, zz, zz, zz, zz, zz, zz, zz, zz, zz, zz, zz, zz, zz, .int .i64 0]) (.t 16) (.t 18)), zm 8 19]) (.seq (.ops [zm 20 8, zo 21 (.ldA 33 (.t 6)), zo 22 (.call 110 [(.t 20), (.t 21)]), zm 9 22])
 (.seq (.ops [zm 23 9, zo 24 (.bin .geq (.t 23) (.v (.int .i64 0)))])
 (.cond (.t 24) (.ops [zm 25 8, zm 26 9, zm 27 9, zo 28 (.bin .add (.t 27) (.v (.int .i64 1))), zo 29 (.call 111 [(.t 25), (.t 26), (.t 28)]), zm 8 29]) .skip)))))
 (.seq (.seq (.quietR [0, 0] 2 [zo 30 (.ldA 33 (.t 5)), zo 31 (.call 66 []), zo 32 (.more (.eqD false 32 [yy, yy, yy, yy, yy, yy, yy, yy, yy, yy, yy, yy, yy, yy, yy, yy, yy, yy, yy, yy, yy, yy, yy, yy, yy, yy, yy, yy, yy, yy, yy, yy, .int .i64] (.t 30) (.t 31)))])
 (.cond (.t 32) (.seq (.ops [zm 33 0, zm 34 8, zo 35 (.nilc (.t 33)), zo 36 (.fa 3 (.t 35)), ⟨none, none, .st 1 (.t 36) (.t 34)⟩])
 .ret) .skip))
 (.seq (.quietR [0, 1, 3, 7, 0, 31, 0] 7 [zm 37 0, zo 38 (.nilc (.t 37)), zo 39 (.fa 2 (.t 38)), zo 40 (.ld (.t 39)), zo 41 (.ldA 33 (.t 5)), zo 42 (.more (.other (.gen (.lookup 55 (.tmp 40) (.tmp 41) false)))), zo 10 (.al 100 [.string ⟨#[]⟩, .int .i64 0, .int .i64 0, .slice none 0 0]), ⟨none, none, .st 4 (.t 10) (.t 42)⟩])
 (.seq (.ops [zm 43 8, zo 44 (.fa 3 (.t 10)), ⟨none, none, .st 1 (.t 44) (.t 43)⟩])
 (.quietR [] 6 [zm 45 0, zo 46 (.nilc (.t 45)), zo 47 (.fa 2 (.t 46)), zo 48 (.ld (.t 47)), zo 49 (.ldA 33 (.t 5)), zo 50 (.ldA 4 (.t 10)), ⟨none, none, .more (.other (.gen (.mapUpdate 55 (.tmp 48) (.tmp 49) (.tmp 50))))⟩])))))))
theorem Try.known87 : Known Try.prog 87 Try.pc87 51 [] := ⟨Try.f87, _, Try.func87, rfl, by kernel_rfl, rfl, rfl⟩
def Try.pc88 : PC :=
 (.block 0 (.loop (.block 1 (.seq (.ops [zm 5 1, zo 6 (.bin .sub (.t 5) (.v (.int .i64 1))), zo 7 (.bin .quo (.t 6) (.v (.int .i64 2))), zm 4 7])
 (.seq (.seq (.ops [zm 8 4, zm 9 1, zo 10 (.bin .eql (.t 8) (.t 9)), zm 11 10, zg 12 11 false (.mov (.t 0)), zg 13 11 false (.mov (.t 1)), zg 14 11 false (.mov (.t 4)), zg 15 11 false (.more (.other (.gen (.call { callee := (.invoke (.tmp 12) "Less"), args := #[(.tmp 13), (.tmp 14)], argTypes := #[3, 3] })))), zg 16 11 false (.not (.t 15)), zo 17 (.pick (.t 11) (.v (.bool true)) (.t 16))])
 (.cond (.t 17) (.exit 0) .skip))
 (.seq (.ops [zm 18 0, zm 19 4, zm 20 1, zo 21 (.more (.other (.gen (.call { callee := (.invoke (.tmp 18) "Swap"), args := #[(.tmp 19), (.tmp 20)], argTypes := #[3, 3] }))))])
 (.ops [zm 22 4, zm 1 22])))))))
theorem Try.known88 : Known Try.prog 88 Try.pc88 23 [] := ⟨Try.f88, _, Try.func88, rfl, by kernel_rfl, rfl, rfl⟩
def Try.pc89 : PC :=
 (.seq (.ops [zo 6 (.mov (.v (.bool false)))])
 (.seq (.ops [zm 11 1, zm 7 11])
 (.seq (.block 0 (.loop (.block 1 (.seq (.ops [zm 12 7, zo 13 (.bin .mul (.v (.int .i64 2)) (.t 12)), zo 14 (.bin .add (.t 13) (.v (.int .i64 1))), zm 8 14])
 (.seq (.seq (.ops [zm 15 8, zm 16 2, zo 17 (.bin .geq (.t 15) (.t 16)), zm 18 17, zg 19 18 false (.mov (.t 8)), zg 20 18 false (.bin .lss (.t 19) (.v (.int .i64 0))), zo 21 (.pick (.t 18) (.v (.bool true)) (.t 20))])
 (.cond (.t 21) (.exit 0) .skip))
 (.seq (.ops [zm 22 8, zm 9 22])
 (.seq (.seq (.ops [zm 23 8, zo 24 (.bin .add (.t 23) (.v (.int .i64 1))), zm 10 24])
 (.seq (.ops [zm 25 10, zm 26 2, zo 27 (.bin .lss (.t 25) (.t 26)), zm 28 27, zg 29 28 true (.mov (.t 0)), zg 30 28 true (.mov (.t 10)), zg 31 28 true (.mov (.t 8)), zg 32 28 true (.more (.other (.gen (.call { callee := (.invoke (.tmp 29) "Less"), args := #[(.tmp 30), (.tmp 31)], argTypes := #[3, 3] })))), zo 33 (.pick (.t 28) (.t 32) (.v (.bool false)))])
 (.cond (.t 33) (.ops [zm 34 10, zm 9 34]) .skip)))
 (.seq (.seq (.ops [zm 35 0, zm 36 9, zm 37 7, zo 38 (.more (.other (.gen (.call { callee := (.invoke (.tmp 35) "Less"), args := #[(.tmp 36), (.tmp 37)], argTypes := #[3, 3] })))), zo 39 (.not (.t 38))])
 (.cond (.t 39) (.exit 0) .skip))
 (.seq (.ops [zm 40 0, zm 41 7, zm 42 9, zo 43 (.more (.other (.gen (.call { callee := (.invoke (.tmp 40) "Swap"), args := #[(.tmp 41), (.tmp 42)], argTypes := #[3, 3] }))))])
 (.ops [zm 44 9, zm 7 44]))))))))))
 (.seq (.ops [zm 45 7, zm 46 1, zo 47 (.bin .gtr (.t 45) (.t 46)), zm 6 47])
 .ret))))
theorem Try.known89 : Known Try.prog 89 Try.pc89 48 [6] := ⟨Try.f89, _, Try.func89, rfl, by kernel_rfl, rfl, rfl⟩
def Try.pc109 : PC :=
 (.seq (.ops [zo 2 (.bx 32 (.t 0)), zo 3 (.bx 32 (.t 1)), zo 4 (.mov (.v (.int .i64 0)))])
 (.seq (.quietR [0, 1, 0, 4, 15, 0, 32, 0, 128] 9 [zo 5 (.fa 0 (.t 2)), zo 6 (.slA 32 (.t 5)), zo 7 (.fa 0 (.t 3)), zo 8 (.slA 32 (.t 7)), zo 9 (.call 124 [(.t 6), (.t 8)]), zo 10 (.fa 32 (.t 2)), zo 11 (.ld (.t 10)), zo 12 (.fa 32 (.t 3)), zo 13 (.ld (.t 12)), zo 14 (.call 125 [(.t 11), (.t 13)]), zo 15 (.bsl 3 [.int .i64 0, .int .i64 0] 2 [(0, 1, (.t 9)), (1, 1, (.t 14))]), zo 16 (.call 123 [(.t 15)]), zm 4 16])
 .ret))
theorem Try.known109 : Known Try.prog 109 Try.pc109 17 [4] := ⟨Try.f109, _, Try.func109, rfl, by kernel_rfl, rfl, rfl⟩
def Try.pc110 : PC :=
 (.seq (.ops [zo 3 (.bx 32 (.t 1)), zo 4 (.mov (.v (.int .i64 0)))])
 (.seq (.seq (.ops [zm 6 0, zo 7 (.lenS (.t 6)), zo 8 (.mov (.v (.int .i64 0)))])
 (.block 0 (.loop (.seq (.ops [zo 9 (.bin .lss (.t 8) (.t 7))])
 (.seq (.cond (.t 9) .skip (.exit 0))
 (.seq (.block 1 (.seq (.ops [zm 10 8, zm 5 10])
 (.seq (.quietR [] 5 [zo 11 (.ldA 33 (.t 3)), zm 12 0, zm 13 5, zo 14 (.ixS 33 (.t 12) (.t 13)), zo 15 (.ldA 33 (.t 14)), zo 16 (.more (.eqD false 32 [yy, yy, yy, yy, yy, yy, yy, yy, yy, yy, yy, yy, yy, yy, yy, yy, yy, yy, yy, yy, yy, yy, yy, yy, yy, yy, yy, yy, yy, yy, yy, yy, .int .i64] (.t 11) (.t 15)))])
 (.cond (.t 16) (.seq (.ops [zm 17 5, zm 4 17])
 .ret) .skip))))
 (.ops [zo 18 (.bin .add (.t 8) (.v (.int .i64 1))), zm 8 18])))))))
 (.seq (.ops [zo 4 (.mov (.v (.int .i64 (-1))))])
 .ret)))
theorem Try.known110 : Known Try.prog 110 Try.pc110 19 [4] := ⟨Try.f110, _, Try.func110, rfl, by kernel_rfl, rfl, rfl⟩
def Try.pc111 : PC :=
 (.seq (.ops [zo 6 (.mov (.v (.slice none 0 0)))])
 (.seq (.ops [zm 8 0, zm 9 1, zm 10 2, zm 11 0, zo 12 (.lenS (.t 11)), zo 13 (.more (.other (.gen (.slice 34 (.tmp 8) (some (.tmp 9)) (some (.tmp 10)) (some (.tmp 12))))))])
 (.seq (.seq (.ops [zm 14 1, zm 15 2, zo 16 (.bin .eql (.t 14) (.t 15))])
 (.cond (.t 16) (.seq (.ops [zm 17 0, zm 6 17])
 .ret) .skip))
 (.seq (.ops [zm 18 0, zo 19 (.lenS (.t 18)), zm 7 19])
 (.seq (.quietR [] 6 [zm 20 0, zm 21 1, zo 22 (.slS 33 (.t 20) none (some (.t 21))), zm 23 0, zm 24 2, zo 25 (.slS 33 (.t 23) (some (.t 24)) none), zo 26 (.app 34 32 33 40 (.agg #[zz, zz, zz, zz, zz, zz, zz, zz, zz, zz, zz, zz, zz, zz, zz, zz, zz, zz, zz, zz, zz, zz, zz, zz, zz, zz, zz, zz, zz, zz, zz, zz, .int .i64 0]) (.t 22) (.t 25)), zm 0 26])
 (.seq (.ops [zm 27 0, zm 28 0, zo 29 (.lenS (.t 28)), zm 30 7, zo 31 (.slS 33 (.t 27) (some (.t 29)) (some (.t 30))), ⟨none, none, .more (.clr 32 33 (.agg #[zz, zz, zz, zz, zz, zz, zz, zz, zz, zz, zz, zz, zz, zz, zz, zz, zz, zz, zz, zz, zz, zz, zz, zz, zz, zz, zz, zz, zz, zz, zz, zz, .int .i64 0]) (.t 31))⟩])
 (.seq (.ops [zm 32 0, zm 6 32])
 .ret)))))))
theorem Try.known111 : Known Try.prog 111 Try.pc111 33 [6] := ⟨Try.f111, _, Try.func111, rfl, by kernel_rfl, rfl, rfl⟩
def Try.pc123 : PC :=
 (.seq (.ops [zo 2 (.mov (.v (.int .i64 0)))])
 (.seq (.ops [zo 3 (.mov (.v (.int .i64 0)))])
 (.seq (.seq (.ops [zm 6 0, zo 7 (.lenS (.t 6)), zo 8 (.mov (.v (.int .i64 0)))])
 (.block 0 (.loop (.seq (.ops [zo 9 (.bin .lss (.t 8) (.t 7))])
 (.seq (.cond (.t 9) .skip (.exit 0))
 (.seq (.block 1 (.seq (.ops [zo 10 (.ixS 1 (.t 6) (.t 8)), zo 11 (.ld (.t 10)), zm 5 11])
 (.seq (.ops [zm 12 5, zm 13 3, zo 14 (.bin .neq (.t 12) (.t 13))])
 (.cond (.t 14) (.seq (.ops [zm 15 5, zm 2 15])
 .ret) .skip))))
 (.ops [zo 16 (.bin .add (.t 8) (.v (.int .i64 1))), zm 8 16])))))))
 (.seq (.ops [zm 17 3, zm 2 17])
 .ret))))
theorem Try.known123 : Known Try.prog 123 Try.pc123 18 [2] := ⟨Try.f123, _, Try.func123, rfl, by kernel_rfl, rfl, rfl⟩
def Try.pc124 : PC :=
 (.seq (.ops [zo 4 (.mov (.v (.int .i64 0)))])
 (.seq (.ops [zm 5 0, zm 6 1, zo 7 (.more (.other (.xf 137 [(.t 5), (.t 6)]))), zm 4 7])
 .ret))
theorem Try.known124 : Known Try.prog 124 Try.pc124 8 [4] := ⟨Try.f124, _, Try.func124, rfl, by kernel_rfl, rfl, rfl⟩
def Try.pc125 : PC :=
 (.seq (.ops [zo 4 (.mov (.v (.int .i64 0)))])
 (.seq (.ops [zm 7 0, zo 8 (.call 138 [(.t 7)]), zm 5 8])
 (.seq (.ops [zm 9 1, zo 10 (.call 138 [(.t 9)]), zm 6 10])
 (.seq (.seq (.ops [zm 11 5])
 (.cond (.t 11) (.seq (.seq (.ops [zm 12 6])
 (.cond (.t 12) (.seq (.ops [zo 4 (.mov (.v (.int .i64 0)))])
 .ret) .skip))
 (.seq (.ops [zo 4 (.mov (.v (.int .i64 (-1))))])
 .ret)) .skip))
 (.seq (.seq (.ops [zm 13 6])
 (.cond (.t 13) (.seq (.ops [zo 4 (.mov (.v (.int .i64 1)))])
 .ret) .skip))
 (.seq (.seq (.ops [zm 14 0, zm 15 1, zo 16 (.bin .lss (.t 14) (.t 15))])
 (.cond (.t 16) (.seq (.ops [zo 4 (.mov (.v (.int .i64 (-1))))])
 .ret) .skip))
 (.seq (.seq (.ops [zm 17 0, zm 18 1, zo 19 (.bin .gtr (.t 17) (.t 18))])
 (.cond (.t 19) (.seq (.ops [zo 4 (.mov (.v (.int .i64 1)))])
 .ret) .skip))
 (.seq (.ops [zo 4 (.mov (.v (.int .i64 0)))])
 .ret))))))))
theorem Try.known125 : Known Try.prog 125 Try.pc125 20 [4] := ⟨Try.f125, _, Try.func125, rfl, by kernel_rfl, rfl, rfl⟩
def Try.pc138 : PC :=
 (.seq (.ops [zo 2 (.mov (.v (.bool false)))])
 (.seq (.ops [zm 3 0, zm 4 0, zo 5 (.bin .neq (.t 3) (.t 4)), zm 2 5])
 .ret))
theorem Try.known138 : Known Try.prog 138 Try.pc138 6 [2] := ⟨Try.f138, _, Try.func138, rfl, by kernel_rfl, rfl, rfl⟩
def Try.pc161 : PC :=
 (.seq (.ops [zo 6 (.mov (.v (.bool false)))])
 (.seq (.quietR [] 8 [zm 7 0, zm 8 1, zo 9 (.ixS 33 (.t 7) (.t 8)), zo 10 (.ldA 33 (.t 9)), zm 11 0, zm 12 2, zo 13 (.ixS 33 (.t 11) (.t 12)), zo 14 (.ldA 33 (.t 13)), zo 15 (.call 109 [(.t 10), (.t 14)]), zo 16 (.bin .lss (.t 15) (.v (.int .i64 0))), zm 6 16])
 .ret))
theorem Try.known161 : Known Try.prog 161 Try.pc161 17 [6] := ⟨Try.f161, _, Try.func161, rfl, by kernel_rfl, rfl, rfl⟩
def Try.pc162 : PC :=
 (.seq (.ops [zo 2 (.mov (.v .nilIface))])
 (.seq (.ops [zm 5 0, zo 6 (.nilc (.t 5)), zo 7 (.ld (.t 6)), zo 8 (.lenS (.t 7)), zo 9 (.bin .sub (.t 8) (.v (.int .i64 1))), zm 3 9])
 (.seq (.ops [zm 10 0, zo 11 (.nilc (.t 10)), zo 12 (.ld (.t 11)), zm 13 3, zo 14 (.ixS 33 (.t 12) (.t 13)), zo 15 (.ldA 33 (.t 14)), zo 4 (.al 32 [zz, zz, zz, zz, zz, zz, zz, zz, zz, zz, zz, zz, zz, zz, zz, zz, zz, zz, zz, zz, zz, zz, zz, zz, zz, zz, zz, zz, zz, zz, zz, zz, .int .i64 0]), ⟨none, none, .st 33 (.t 4) (.t 15)⟩])
 (.seq (.ops [zm 16 0, zm 17 0, zo 18 (.nilc (.t 17)), zo 19 (.ld (.t 18)), zm 20 3, zo 21 (.slS 33 (.t 19) none (some (.t 20))), zo 22 (.nilc (.t 16)), ⟨none, none, .st 1 (.t 22) (.t 21)⟩])
 (.seq (.ops [zo 23 (.ldA 33 (.t 4)), zo 24 (.more (.mkI 32 (.t 23))), zm 2 24])
 .ret)))))
theorem Try.known162 : Known Try.prog 162 Try.pc162 25 [2] := ⟨Try.f162, _, Try.func162, rfl, by kernel_rfl, rfl, rfl⟩
def Try.pc163 : PC :=
 (.seq (.ops [zm 7 1, zo 8 (.more (.other (.gen (.typeAssert (.tmp 7) 20 32 true)))), zm 6 8, zo 9 (.ext 0 (.t 6)), zo 10 (.ext 1 (.t 6)), zo 4 (.al 32 [zz, zz, zz, zz, zz, zz, zz, zz, zz, zz, zz, zz, zz, zz, zz, zz, zz, zz, zz, zz, zz, zz, zz, zz, zz, zz, zz, zz, zz, zz, zz, zz, .int .i64 0]), ⟨none, none, .st 33 (.t 4) (.t 9)⟩, zm 5 10])
 (.seq (.ops [zm 11 5])
 (.cond (.t 11) (.quietR [0, 0, 2, 6, 0, 16] 6 [zm 12 0, zm 13 0, zo 14 (.nilc (.t 13)), zo 15 (.ld (.t 14)), zo 16 (.ldA 33 (.t 4)), zo 17 (.bsl 32 [zz, zz, zz, zz, zz, zz, zz, zz, zz, zz, zz, zz, zz, zz, zz, zz, zz, zz, zz, zz, zz, zz, zz, zz, zz, zz, zz, zz, zz, zz, zz, zz, .int .i64 0] 1 [(0, 33, (.t 16))]), zo 18 (.app 110 32 33 40 (.agg #[zz, zz, zz, zz, zz, zz, zz, zz, zz, zz, zz, zz, zz, zz, zz, zz, zz, zz, zz, zz, zz, zz, zz, zz, zz, zz, zz, zz, zz, zz, zz, zz, .int .i64 0]) (.t 15) (.t 17)), zo 19 (.nilc (.t 12)), ⟨none, none, .st 1 (.t 19) (.t 18)⟩]) .skip)))
theorem Try.known163 : Known Try.prog 163 Try.pc163 20 [] := ⟨Try.f163, _, Try.func163, rfl, by kernel_rfl, rfl, rfl⟩
def Try.pc164 : PC :=
 (.quietR [] 12 [zm 6 0, zm 7 1, zm 8 0, zm 9 2, zm 10 0, zm 11 2, zo 12 (.ixS 33 (.t 10) (.t 11)), zo 13 (.ldA 33 (.t 12)), zm 14 0, zm 15 1, zo 16 (.ixS 33 (.t 14) (.t 15)), zo 17 (.ldA 33 (.t 16)), zo 18 (.ixS 33 (.t 6) (.t 7)), ⟨none, none, .st 33 (.t 18) (.t 13)⟩, zo 19 (.ixS 33 (.t 8) (.t 9)), ⟨none, none, .st 33 (.t 19) (.t 17)⟩])
theorem Try.known164 : Known Try.prog 164 Try.pc164 20 [] := ⟨Try.f164, _, Try.func164, rfl, by kernel_rfl, rfl, rfl⟩
end Go.Proofs

namespace Go.Proofs
open Go.SL
set_option maxRecDepth 100000
def Try.pc5 : PC :=
 (.seq (.ops [zo 0 (.mov (.v (.bool false)))])
 (.seq (.ops [zo 6 (.call 23 []), zo 7 (.call 24 []), zo 8 (.call 25 []), zo 9 (.bsl 36 [zz, zz, zz, zz, zz, zz, zz, zz, zz, zz, zz, zz, zz, zz, zz, zz, zz, zz, zz, zz, zz, zz, zz, zz, zz, zz, zz, zz, zz, zz, zz, zz, .int .i64 0, .int .i64 0, zz, zz, zz, zz, zz, zz, zz, zz, zz, zz, zz, zz, zz, zz, zz, zz, zz, zz, zz, zz, zz, zz, zz, zz, zz, zz, zz, zz, zz, zz, zz, zz, .int .i64 0, zz, zz, zz, zz, zz, zz, zz, zz, zz, zz, zz, zz, zz, zz, zz, zz, zz, zz, zz, zz, zz, zz, zz, zz, zz, zz, zz, zz, zz, zz, zz, zz, .int .i64 0, .slice none 0 0, .slice none 0 0, zz, zz, zz, zz, zz, zz, zz, zz, zz, zz, zz, zz, zz, zz, zz, zz, zz, zz, zz, zz, zz, zz, zz, zz, zz, zz, zz, zz, zz, zz, zz, zz, .int .i64 0, .int .i64 0, zz, zz, zz, zz, zz, zz, zz, zz, zz, zz, zz, zz, zz, zz, zz, zz, zz, zz, zz, zz, zz, zz, zz, zz, zz, zz, zz, zz, zz, zz, zz, zz, .int .i64 0, zz, zz, zz, zz, zz, zz, zz, zz, zz, zz, zz, zz, zz, zz, zz, zz, zz, zz, zz, zz, zz, zz, zz, zz, zz, zz, zz, zz, zz, zz, zz, zz, .int .i64 0, .slice none 0 0, .slice none 0 0, zz, zz, zz, zz, zz, zz, zz, zz, zz, zz, zz, zz, zz, zz, zz, zz, zz, zz, zz, zz, zz, zz, zz, zz, zz, zz, zz, zz, zz, zz, zz, zz, .int .i64 0, .int .i64 0, zz, zz, zz, zz, zz, zz, zz, zz, zz, zz, zz, zz, zz, zz, zz, zz, zz, zz, zz, zz, zz, zz, zz, zz, zz, zz, zz, zz, zz, zz, zz, zz, .int .i64 0, zz, zz, zz, zz, zz, zz, zz, zz, zz, zz, zz, zz, zz, zz, zz, zz, zz, zz, zz, zz, zz, zz, zz, zz, zz, zz, zz, zz, zz, zz, zz, zz, .int .i64 0, .slice none 0 0, .slice none 0 0] 3 [(0, 102, (.t 6)), (102, 102, (.t 7)), (204, 102, (.t 8))]), zo 10 (.call 22 [(.t 9)]), zm 1 10])
 (.seq (.ops [zo 11 (.call 24 []), zo 2 (.al 36 [zz, zz, zz, zz, zz, zz, zz, zz, zz, zz, zz, zz, zz, zz, zz, zz, zz, zz, zz, zz, zz, zz, zz, zz, zz, zz, zz, zz, zz, zz, zz, zz, .int .i64 0, .int .i64 0, zz, zz, zz, zz, zz, zz, zz, zz, zz, zz, zz, zz, zz, zz, zz, zz, zz, zz, zz, zz, zz, zz, zz, zz, zz, zz, zz, zz, zz, zz, zz, zz, .int .i64 0, zz, zz, zz, zz, zz, zz, zz, zz, zz, zz, zz, zz, zz, zz, zz, zz, zz, zz, zz, zz, zz, zz, zz, zz, zz, zz, zz, zz, zz, zz, zz, zz, .int .i64 0, .slice none 0 0, .slice none 0 0]), ⟨none, none, .st 102 (.t 2) (.t 11)⟩])
 (.seq (.ops [zo 12 (.call 26 [(.v (.int .u8 1)), (.v (.int .i64 1))]), zo 13 (.call 26 [(.v (.int .u8 1)), (.v (.int .i64 0))]), zo 14 (.fa 34 (.t 2)), ⟨none, none, .st 33 (.t 14) (.t 12)⟩, zo 15 (.fa 67 (.t 2)), ⟨none, none, .st 33 (.t 15) (.t 13)⟩])
 (.seq (.ops [zo 16 (.call 23 []), zo 17 (.call 24 []), zo 18 (.bsl 36 [zz, zz, zz, zz, zz, zz, zz, zz, zz, zz, zz, zz, zz, zz, zz, zz, zz, zz, zz, zz, zz, zz, zz, zz, zz, zz, zz, zz, zz, zz, zz, zz, .int .i64 0, .int .i64 0, zz, zz, zz, zz, zz, zz, zz, zz, zz, zz, zz, zz, zz, zz, zz, zz, zz, zz, zz, zz, zz, zz, zz, zz, zz, zz, zz, zz, zz, zz, zz, zz, .int .i64 0, zz, zz, zz, zz, zz, zz, zz, zz, zz, zz, zz, zz, zz, zz, zz, zz, zz, zz, zz, zz, zz, zz, zz, zz, zz, zz, zz, zz, zz, zz, zz, zz, .int .i64 0, .slice none 0 0, .slice none 0 0, zz, zz, zz, zz, zz, zz, zz, zz, zz, zz, zz, zz, zz, zz, zz, zz, zz, zz, zz, zz, zz, zz, zz, zz, zz, zz, zz, zz, zz, zz, zz, zz, .int .i64 0, .int .i64 0, zz, zz, zz, zz, zz, zz, zz, zz, zz, zz, zz, zz, zz, zz, zz, zz, zz, zz, zz, zz, zz, zz, zz, zz, zz, zz, zz, zz, zz, zz, zz, zz, .int .i64 0, zz, zz, zz, zz, zz, zz, zz, zz, zz, zz, zz, zz, zz, zz, zz, zz, zz, zz, zz, zz, zz, zz, zz, zz, zz, zz, zz, zz, zz, zz, zz, zz, .int .i64 0, .slice none 0 0, .slice none 0 0] 2 [(0, 102, (.t 16)), (102, 102, (.t 17))]), zo 19 (.call 22 [(.t 18)]), zm 3 19])
 (.seq (.ops [zo 4 (.mov (.v (.pointer none)))])
 (.seq (.ops [zo 20 (.build [.bool false, .map none, .map none, .slice none 0 0] []), zo 21 (.bx 57 (.t 20)), zm 5 21])
 (.seq (.seq (.ops [zo 22 (.call 13 []), zo 23 (.not (.t 22)), zm 24 23, zg 25 24 false (.mov (.t 1)), zg 26 24 false (.eqP false (.t 25) (.v (.pointer none))), zo 27 (.pick (.t 24) (.v (.bool true)) (.t 26)), zm 28 27, zg 29 28 false (.mov (.t 3)), zg 30 28 false (.eqP false (.t 29) (.v (.pointer none))), zo 31 (.pick (.t 28) (.v (.bool true)) (.t 30)), zm 32 31, zg 33 32 false (.call 23 []), zg 34 32 false (.call 25 []), zg 35 32 false (.call 24 []), zg 36 32 false (.bsl 36 [zz, zz, zz, zz, zz, zz, zz, zz, zz, zz, zz, zz, zz, zz, zz, zz, zz, zz, zz, zz, zz, zz, zz, zz, zz, zz, zz, zz, zz, zz, zz, zz, .int .i64 0, .int .i64 0, zz, zz, zz, zz, zz, zz, zz, zz, zz, zz, zz, zz, zz, zz, zz, zz, zz, zz, zz, zz, zz, zz, zz, zz, zz, zz, zz, zz, zz, zz, zz, zz, .int .i64 0, zz, zz, zz, zz, zz, zz, zz, zz, zz, zz, zz, zz, zz, zz, zz, zz, zz, zz, zz, zz, zz, zz, zz, zz, zz, zz, zz, zz, zz, zz, zz, zz, .int .i64 0, .slice none 0 0, .slice none 0 0, zz, zz, zz, zz, zz, zz, zz, zz, zz, zz, zz, zz, zz, zz, zz, zz, zz, zz, zz, zz, zz, zz, zz, zz, zz, zz, zz, zz, zz, zz, zz, zz, .int .i64 0, .int .i64 0, zz, zz, zz, zz, zz, zz, zz, zz, zz, zz, zz, zz, zz, zz, zz, zz, zz, zz, zz, zz, zz, zz, zz, zz, zz, zz, zz, zz, zz, zz, zz, zz, .int .i64 0, zz, zz, zz, zz, zz, zz, zz, zz, zz, zz, zz, zz, zz, zz, zz, zz, zz, zz, zz, zz, zz, zz, zz, zz, zz, zz, zz, zz, zz, zz, zz, zz, .int .i64 0, .slice none 0 0, .slice none 0 0, zz, zz, zz, zz, zz, zz, zz, zz, zz, zz, zz, zz, zz, zz, zz, zz, zz, zz, zz, zz, zz, zz, zz, zz, zz, zz, zz, zz, zz, zz, zz, zz, .int .i64 0, .int .i64 0, zz, zz, zz, zz, zz, zz, zz, zz, zz, zz, zz, zz, zz, zz, zz, zz, zz, zz, zz, zz, zz, zz, zz, zz, zz, zz, zz, zz, zz, zz, zz, zz, .int .i64 0, zz, zz, zz, zz, zz, zz, zz, zz, zz, zz, zz, zz, zz, zz, zz, zz, zz, zz, zz, zz, zz, zz, zz, zz, zz, zz, zz, zz, zz, zz, zz, zz, .int .i64 0, .slice none 0 0, .slice none 0 0] 3 [(0, 102, (.t 33)), (102, 102, (.t 34)), (204, 102, (.t 35))]), zg 37 32 false (.call 22 [(.t 36)]), zg 38 32 false (.call 19 [(.t 37)]), zg 39 32 false (.bin .neq (.t 38) (.v (.string ⟨#[40, 97, 41, 32, 120, 32, 121, 32, 98, 32]⟩))), zo 40 (.pick (.t 32) (.v (.bool true)) (.t 39)), zm 41 40, zg 42 41 false (.mov (.t 1)), zg 43 41 false (.call 26 [(.v (.int .u8 2)), (.v (.int .i64 0))]), zg 44 41 false (.call 26 [(.v (.int .u8 3)), (.v (.int .i64 0))]), zg 45 41 false (.call 18 [(.t 42), (.t 43), (.t 44)]), zo 46 (.pick (.t 41) (.v (.bool true)) (.t 45)), zm 47 46, zg 48 47 false (.mov (.t 1)), zg 49 47 false (.call 26 [(.v (.int .u8 3)), (.v (.int .i64 0))]), zg 50 47 false (.call 26 [(.v (.int .u8 2)), (.v (.int .i64 0))]), zg 51 47 false (.call 18 [(.t 48), (.t 49), (.t 50)]), zo 52 (.pick (.t 47) (.v (.bool true)) (.t 51)), zm 53 52, zg 54 53 false (.mov (.t 1)), zg 55 53 false (.call 26 [(.v (.int .u8 1)), (.v (.int .i64 0))]), zg 56 53 false (.call 26 [(.v (.int .u8 1)), (.v (.int .i64 1))]), zg 57 53 false (.call 18 [(.t 54), (.t 55), (.t 56)]), zg 58 53 false (.not (.t 57)), zo 59 (.pick (.t 53) (.v (.bool true)) (.t 58)), zm 60 59, zg 61 60 false (.mov (.t 1)), zg 62 60 false (.call 27 []), zg 63 60 false (.call 28 []), zg 64 60 false (.call 18 [(.t 61), (.t 62), (.t 63)]), zg 65 60 false (.not (.t 64)), zo 66 (.pick (.t 60) (.v (.bool true)) (.t 65)), zm 67 66, zg 68 67 false (.mov (.t 1)), zg 69 67 false (.call 27 []), zg 70 67 false (.call 27 []), zg 71 67 false (.call 18 [(.t 68), (.t 69), (.t 70)]), zo 72 (.pick (.t 67) (.v (.bool true)) (.t 71))])
 (.cond (.t 72) (.seq (.ops [zo 0 (.mov (.v (.bool false)))])
 .ret) .skip))
 (.seq (.quietR [0, 1, 3, 7, 15, 31, 31, 127, 255, 511, 1023, 2047, 2047, 8191, 16383, 32767, 65535, 131071, 131071, 524287, 1048575, 2097151, 4194303, 8388607, 16777215, 33554431, 8388607, 134217727, 268435455, 536870911, 1073741823, 2147483647, 2147483647, 8589934591, 17179869183, 34359738367, 68719476735, 137438953471, 137438953471, 549755813887, 1099511627775, 2199023255551, 4398046511103, 8796093022207, 17592186044415, 35184372088831, 8796093022207, 105553116266495, 246290604621823, 562949953421311, 1125899906842623, 2251799813685247, 4503599627370495, 9007199254740991, 9007199254740991, 36028797018963967, 72057594037927935, 144115188075855871, 288230376151711743, 576460752303423487, 576460752303423487, 1729382256910270463, 4611686018427387903, 9223372036854775807, 18446744073709551615, 36893488147419103231, 73786976294838206463, 147573952589676412927, 295147905179352825855, 590295810358705651711, 1180591620717411303423, 2361183241434822606847, 2361183241434822606847] 73 [zo 73 (.call 14 []), zo 74 (.call 24 []), zo 75 (.call 16 [(.t 73), (.t 74)]), zo 76 (.bin .eql (.t 75) (.v (.int .i64 10))), zm 77 76, zg 78 77 true (.mov (.t 3)), zg 79 77 true (.more (.bldA [zz, zz, zz, zz, zz, zz, zz, zz, zz, zz, zz, zz, zz, zz, zz, zz, zz, zz, zz, zz, zz, zz, zz, zz, zz, zz, zz, zz, zz, zz, zz, .int .u8 0] [(0, 1, (.v (.int .u8 1)))])), zg 80 77 true (.call 21 [(.t 78), (.t 79), (.v (.int .i64 0))]), zg 81 77 true (.bin .eql (.t 80) (.v (.int .i64 10))), zo 82 (.pick (.t 77) (.t 81) (.v (.bool false))), zm 83 82, zg 84 83 true (.mov (.t 3)), zg 85 83 true (.more (.bldA [zz, zz, zz, zz, zz, zz, zz, zz, zz, zz, zz, zz, zz, zz, zz, zz, zz, zz, zz, zz, zz, zz, zz, zz, zz, zz, zz, zz, zz, zz, zz, .int .u8 0] [(0, 1, (.v (.int .u8 9)))])), zg 86 83 true (.call 21 [(.t 84), (.t 85), (.v (.int .i64 0))]), zg 87 83 true (.bin .eql (.t 86) (.v (.int .i64 5))), zo 88 (.pick (.t 83) (.t 87) (.v (.bool false))), zm 89 88, zg 90 89 true (.mov (.t 3)), zg 91 89 true (.call 23 []), zg 92 89 true (.call 16 [(.t 90), (.t 91)]), zg 93 89 true (.bin .eql (.t 92) (.v (.int .i64 6))), zo 94 (.pick (.t 89) (.t 93) (.v (.bool false))), zm 95 94, zg 96 95 true (.call 23 []), zg 97 95 true (.bsl 36 [zz, zz, zz, zz, zz, zz, zz, zz, zz, zz, zz, zz, zz, zz, zz, zz, zz, zz, zz, zz, zz, zz, zz, zz, zz, zz, zz, zz, zz, zz, zz, zz, .int .i64 0, .int .i64 0, zz, zz, zz, zz, zz, zz, zz, zz, zz, zz, zz, zz, zz, zz, zz, zz, zz, zz, zz, zz, zz, zz, zz, zz, zz, zz, zz, zz, zz, zz, zz, zz, .int .i64 0, zz, zz, zz, zz, zz, zz, zz, zz, zz, zz, zz, zz, zz, zz, zz, zz, zz, zz, zz, zz, zz, zz, zz, zz, zz, zz, zz, zz, zz, zz, zz, zz, .int .i64 0, .slice none 0 0, .slice none 0 0] 1 [(0, 102, (.t 96))]), zg 98 95 true (.call 22 [(.t 97)]), zg 99 95 true (.ldA 102 (.t 2)), zg 100 95 true (.call 16 [(.t 98), (.t 99)]), zg 101 95 true (.bin .eql (.t 100) (.v (.int .i64 4))), zo 102 (.pick (.t 95) (.t 101) (.v (.bool false))), zm 103 102, zg 104 103 true (.mov (.t 4)), zg 105 103 true (.call 23 []), zg 106 103 true (.call 16 [(.t 104), (.t 105)]), zg 107 103 true (.bin .eql (.t 106) (.v (.int .i64 1))), zo 108 (.pick (.t 103) (.t 107) (.v (.bool false))), zm 109 108, zg 110 109 true (.mov (.t 5)), zg 111 109 true (.more (.bldA [zz, zz, zz, zz, zz, zz, zz, zz, zz, zz, zz, zz, zz, zz, zz, zz, zz, zz, zz, zz, zz, zz, zz, zz, zz, zz, zz, zz, zz, zz, zz, .int .u8 0] [])), zg 112 109 true (.call 21 [(.t 110), (.t 111), (.v (.int .i64 0))]), zg 113 109 true (.bin .eql (.t 112) (.v (.int .i64 1))), zo 114 (.pick (.t 109) (.t 113) (.v (.bool false))), zm 115 114, zg 116 115 true (.mov (.t 4)), zg 117 115 true (.call 17 [(.t 116)]), zg 118 115 true (.lenS (.t 117)), zg 119 115 true (.mov (.t 5)), zg 120 115 true (.call 17 [(.t 119)]), zg 121 115 true (.lenS (.t 120)), zg 122 115 true (.bin .add (.t 118) (.t 121)), zg 123 115 true (.bin .eql (.t 122) (.v (.int .i64 0))), zo 124 (.pick (.t 115) (.t 123) (.v (.bool false))), zm 125 124, zg 126 125 true (.mov (.t 4)), zg 127 125 true (.call 27 []), zg 128 125 true (.call 29 [(.t 126), (.t 127)]), zg 129 125 true (.not (.t 128)), zo 130 (.pick (.t 125) (.t 129) (.v (.bool false))), zm 131 130, zg 132 131 true (.mov (.t 5)), zg 133 131 true (.call 27 []), zg 134 131 true (.call 28 []), zg 135 131 true (.call 18 [(.t 132), (.t 133), (.t 134)]), zg 136 131 true (.not (.t 135)), zo 137 (.pick (.t 131) (.t 136) (.v (.bool false))), zm 138 137, zg 139 138 true (.mov (.t 4)), zg 140 138 true (.call 15 [(.t 139)]), zg 141 138 true (.eqP false (.t 140) (.v (.pointer none))), zo 142 (.pick (.t 138) (.t 141) (.v (.bool false))), zm 143 142, zg 144 143 true (.mov (.t 1)), zg 145 143 true (.more (.bldA [zz, zz, zz, zz, zz, zz, zz, zz, zz, zz, zz, zz, zz, zz, zz, zz, zz, zz, zz, zz, zz, zz, zz, zz, zz, zz, zz, zz, zz, zz, zz, .int .u8 0] [(0, 1, (.v (.int .u8 3)))])), zg 146 143 true (.call 21 [(.t 144), (.t 145), (.v (.int .i64 0))]), zg 147 143 true (.bin .eql (.t 146) (.v (.int .i64 0))), zo 148 (.pick (.t 143) (.t 147) (.v (.bool false))), zm 149 148, zg 150 149 true (.mov (.t 1)), zg 151 149 true (.call 19 [(.t 150)]), zg 152 149 true (.bin .eql (.t 151) (.v (.string ⟨#[97, 32, 120, 32, 98, 32]⟩))), zo 153 (.pick (.t 149) (.t 152) (.v (.bool false))), zm 0 153])
 .ret)))))))))
theorem Try.known5 : Known Try.prog 5 Try.pc5 154 [0] := ⟨Try.f5, _, Try.func5, rfl, by kernel_rfl, rfl, rfl⟩
def Try.pc13 : PC :=
 (.seq (.ops [zo 0 (.mov (.v (.bool false)))])
 (.seq (.ops [zo 1 (.call 23 []), zo 2 (.bsl 36 [zz, zz, zz, zz, zz, zz, zz, zz, zz, zz, zz, zz, zz, zz, zz, zz, zz, zz, zz, zz, zz, zz, zz, zz, zz, zz, zz, zz, zz, zz, zz, zz, .int .i64 0, .int .i64 0, zz, zz, zz, zz, zz, zz, zz, zz, zz, zz, zz, zz, zz, zz, zz, zz, zz, zz, zz, zz, zz, zz, zz, zz, zz, zz, zz, zz, zz, zz, zz, zz, .int .i64 0, zz, zz, zz, zz, zz, zz, zz, zz, zz, zz, zz, zz, zz, zz, zz, zz, zz, zz, zz, zz, zz, zz, zz, zz, zz, zz, zz, zz, zz, zz, zz, zz, .int .i64 0, .slice none 0 0, .slice none 0 0] 1 [(0, 102, (.t 1))]), zo 3 (.call 22 [(.t 2)]), zo 4 (.call 19 [(.t 3)]), zo 5 (.bin .eql (.t 4) (.v (.string ⟨#[97, 32, 98, 32]⟩))), zm 6 5, zg 7 6 true (.call 23 []), zg 8 6 true (.call 24 []), zg 9 6 true (.call 25 []), zg 10 6 true (.bsl 36 [zz, zz, zz, zz, zz, zz, zz, zz, zz, zz, zz, zz, zz, zz, zz, zz, zz, zz, zz, zz, zz, zz, zz, zz, zz, zz, zz, zz, zz, zz, zz, zz, .int .i64 0, .int .i64 0, zz, zz, zz, zz, zz, zz, zz, zz, zz, zz, zz, zz, zz, zz, zz, zz, zz, zz, zz, zz, zz, zz, zz, zz, zz, zz, zz, zz, zz, zz, zz, zz, .int .i64 0, zz, zz, zz, zz, zz, zz, zz, zz, zz, zz, zz, zz, zz, zz, zz, zz, zz, zz, zz, zz, zz, zz, zz, zz, zz, zz, zz, zz, zz, zz, zz, zz, .int .i64 0, .slice none 0 0, .slice none 0 0, zz, zz, zz, zz, zz, zz, zz, zz, zz, zz, zz, zz, zz, zz, zz, zz, zz, zz, zz, zz, zz, zz, zz, zz, zz, zz, zz, zz, zz, zz, zz, zz, .int .i64 0, .int .i64 0, zz, zz, zz, zz, zz, zz, zz, zz, zz, zz, zz, zz, zz, zz, zz, zz, zz, zz, zz, zz, zz, zz, zz, zz, zz, zz, zz, zz, zz, zz, zz, zz, .int .i64 0, zz, zz, zz, zz, zz, zz, zz, zz, zz, zz, zz, zz, zz, zz, zz, zz, zz, zz, zz, zz, zz, zz, zz, zz, zz, zz, zz, zz, zz, zz, zz, zz, .int .i64 0, .slice none 0 0, .slice none 0 0, zz, zz, zz, zz, zz, zz, zz, zz, zz, zz, zz, zz, zz, zz, zz, zz, zz, zz, zz, zz, zz, zz, zz, zz, zz, zz, zz, zz, zz, zz, zz, zz, .int .i64 0, .int .i64 0, zz, zz, zz, zz, zz, zz, zz, zz, zz, zz, zz, zz, zz, zz, zz, zz, zz, zz, zz, zz, zz, zz, zz, zz, zz, zz, zz, zz, zz, zz, zz, zz, .int .i64 0, zz, zz, zz, zz, zz, zz, zz, zz, zz, zz, zz, zz, zz, zz, zz, zz, zz, zz, zz, zz, zz, zz, zz, zz, zz, zz, zz, zz, zz, zz, zz, zz, .int .i64 0, .slice none 0 0, .slice none 0 0] 3 [(0, 102, (.t 7)), (102, 102, (.t 8)), (204, 102, (.t 9))]), zg 11 6 true (.call 22 [(.t 10)]), zg 12 6 true (.call 19 [(.t 11)]), zg 13 6 true (.bin .eql (.t 12) (.v (.string ⟨#[40, 97, 41, 32, 120, 32, 121, 32, 98, 32]⟩))), zo 14 (.pick (.t 6) (.t 13) (.v (.bool false))), zm 0 14])
 .ret))
theorem Try.known13 : Known Try.prog 13 Try.pc13 15 [0] := ⟨Try.f13, _, Try.func13, rfl, by kernel_rfl, rfl, rfl⟩
def Try.pc19 : PC :=
 (.seq (.ops [zo 2 (.mov (.v (.string ⟨#[]⟩)))])
 (.seq (.ops [zo 3 (.mov (.v (.string ⟨#[]⟩)))])
 (.seq (.ops [zm 6 0, zo 7 (.call 17 [(.t 6)]), zm 4 7])
 (.seq (.seq (.ops [zo 5 (.mov (.v (.int .i64 0)))])
 (.block 0 (.loop (.seq (.seq (.ops [zm 8 5, zm 9 4, zo 10 (.lenS (.t 9)), zo 11 (.bin .lss (.t 8) (.t 10))])
 (.cond (.t 11) .skip (.exit 0)))
 (.seq (.block 1 (.seq (.ops [zm 14 4, zm 15 5, zo 16 (.ixS 35 (.t 14) (.t 15)), zo 17 (.fa 34 (.t 16)), zo 18 (.ld (.t 17))])
 (.cond (.t 18) (.ops [zm 19 3, zm 20 4, zm 21 5, zo 22 (.ixS 35 (.t 20) (.t 21)), zo 23 (.fa 33 (.t 22)), zo 24 (.ld (.t 23)), zo 25 (.bin .add (.t 19) (.t 24)), zo 26 (.bin .add (.t 25) (.v (.string ⟨#[32]⟩))), zm 3 26]) (.ops [zm 27 3, zo 28 (.bin .add (.t 27) (.v (.string ⟨#[40]⟩))), zm 29 4, zm 30 5, zo 31 (.ixS 35 (.t 29) (.t 30)), zo 32 (.fa 33 (.t 31)), zo 33 (.ld (.t 32)), zo 34 (.bin .add (.t 28) (.t 33)), zo 35 (.bin .add (.t 34) (.v (.string ⟨#[41, 32]⟩))), zm 3 35]))))
 (.ops [zm 12 5, zo 13 (.bin .add (.t 12) (.v (.int .i64 1))), zm 5 13]))))))
 (.seq (.ops [zm 36 3, zm 2 36])
 .ret)))))
theorem Try.known19 : Known Try.prog 19 Try.pc19 37 [2] := ⟨Try.f19, _, Try.func19, rfl, by kernel_rfl, rfl, rfl⟩
def Try.pc22 : PC :=
 (.seq (.ops [zo 2 (.mov (.v (.pointer none)))])
 (.seq (.ops [zo 5 (.call 14 []), zm 3 5])
 (.seq (.seq (.ops [zo 4 (.mov (.v (.int .i64 0)))])
 (.block 0 (.loop (.seq (.seq (.ops [zm 6 4, zm 7 0, zo 8 (.lenS (.t 7)), zo 9 (.bin .lss (.t 6) (.t 8))])
 (.cond (.t 9) .skip (.exit 0)))
 (.seq (.block 1 (.seq (.ops [zm 12 3, zm 13 0, zm 14 4, zo 15 (.ixS 102 (.t 13) (.t 14)), zo 16 (.ldA 102 (.t 15)), zo 17 (.call 16 [(.t 12), (.t 16)]), zo 18 (.bin .neq (.t 17) (.v (.int .i64 0)))])
 (.cond (.t 18) (.seq (.ops [zo 2 (.mov (.v (.pointer none)))])
 .ret) .skip)))
 (.ops [zm 10 4, zo 11 (.bin .add (.t 10) (.v (.int .i64 1))), zm 4 11]))))))
 (.seq (.ops [zm 19 3, zm 2 19])
 .ret))))
theorem Try.known22 : Known Try.prog 22 Try.pc22 20 [2] := ⟨Try.f22, _, Try.func22, rfl, by kernel_rfl, rfl, rfl⟩
def Try.pc23 : PC :=
 (.seq (.ops [zo 0 (.al 36 [zz, zz, zz, zz, zz, zz, zz, zz, zz, zz, zz, zz, zz, zz, zz, zz, zz, zz, zz, zz, zz, zz, zz, zz, zz, zz, zz, zz, zz, zz, zz, zz, .int .i64 0, .int .i64 0, zz, zz, zz, zz, zz, zz, zz, zz, zz, zz, zz, zz, zz, zz, zz, zz, zz, zz, zz, zz, zz, zz, zz, zz, zz, zz, zz, zz, zz, zz, zz, zz, .int .i64 0, zz, zz, zz, zz, zz, zz, zz, zz, zz, zz, zz, zz, zz, zz, zz, zz, zz, zz, zz, zz, zz, zz, zz, zz, zz, zz, zz, zz, zz, zz, zz, zz, .int .i64 0, .slice none 0 0, .slice none 0 0])])
 (.seq (.ops [zo 1 (.more (.bldA [zz, zz, zz, zz, zz, zz, zz, zz, zz, zz, zz, zz, zz, zz, zz, zz, zz, zz, zz, zz, zz, zz, zz, zz, zz, zz, zz, zz, zz, zz, zz, .int .u8 0] [(0, 1, (.v (.int .u8 1)))])), zo 2 (.call 27 []), zo 3 (.call 28 []), zo 4 (.bsl 9 [.string ⟨#[]⟩, .string ⟨#[]⟩] 2 [(0, 1, (.v (.string ⟨#[97]⟩))), (1, 1, (.v (.string ⟨#[98]⟩)))]), zo 5 (.build [zz, zz, zz, zz, zz, zz, zz, zz, zz, zz, zz, zz, zz, zz, zz, zz, zz, zz, zz, zz, zz, zz, zz, zz, zz, zz, zz, zz, zz, zz, zz, zz, .int .i64 0, .int .i64 0, zz, zz, zz, zz, zz, zz, zz, zz, zz, zz, zz, zz, zz, zz, zz, zz, zz, zz, zz, zz, zz, zz, zz, zz, zz, zz, zz, zz, zz, zz, zz, zz, .int .i64 0, zz, zz, zz, zz, zz, zz, zz, zz, zz, zz, zz, zz, zz, zz, zz, zz, zz, zz, zz, zz, zz, zz, zz, zz, zz, zz, zz, zz, zz, zz, zz, zz, .int .i64 0, .slice none 0 0, .slice none 0 0] [(0, 32, (.t 1)), (34, 33, (.t 2)), (67, 33, (.t 3)), (100, 1, (.t 4))]), ⟨none, none, .st 102 (.t 0) (.t 5)⟩])
 .ret))
theorem Try.known23 : KnownC Try.prog 23 Try.pc23 6 0 (some 102) := ⟨Try.f23, _, _, Try.func23, rfl, by kernel_rfl, rfl, rfl, by kernel_rfl⟩
def Try.pc24 : PC :=
 (.seq (.ops [zo 0 (.al 36 [zz, zz, zz, zz, zz, zz, zz, zz, zz, zz, zz, zz, zz, zz, zz, zz, zz, zz, zz, zz, zz, zz, zz, zz, zz, zz, zz, zz, zz, zz, zz, zz, .int .i64 0, .int .i64 0, zz, zz, zz, zz, zz, zz, zz, zz, zz, zz, zz, zz, zz, zz, zz, zz, zz, zz, zz, zz, zz, zz, zz, zz, zz, zz, zz, zz, zz, zz, zz, zz, .int .i64 0, zz, zz, zz, zz, zz, zz, zz, zz, zz, zz, zz, zz, zz, zz, zz, zz, zz, zz, zz, zz, zz, zz, zz, zz, zz, zz, zz, zz, zz, zz, zz, zz, .int .i64 0, .slice none 0 0, .slice none 0 0])])
 (.seq (.ops [zo 1 (.more (.bldA [zz, zz, zz, zz, zz, zz, zz, zz, zz, zz, zz, zz, zz, zz, zz, zz, zz, zz, zz, zz, zz, zz, zz, zz, zz, zz, zz, zz, zz, zz, zz, .int .u8 0] [(0, 1, (.v (.int .u8 2)))])), zo 2 (.call 26 [(.v (.int .u8 1)), (.v (.int .i64 0))]), zo 3 (.call 26 [(.v (.int .u8 1)), (.v (.int .i64 1))]), zo 4 (.bsl 9 [.string ⟨#[]⟩] 1 [(0, 1, (.v (.string ⟨#[120]⟩)))]), zo 5 (.build [zz, zz, zz, zz, zz, zz, zz, zz, zz, zz, zz, zz, zz, zz, zz, zz, zz, zz, zz, zz, zz, zz, zz, zz, zz, zz, zz, zz, zz, zz, zz, zz, .int .i64 0, .int .i64 0, zz, zz, zz, zz, zz, zz, zz, zz, zz, zz, zz, zz, zz, zz, zz, zz, zz, zz, zz, zz, zz, zz, zz, zz, zz, zz, zz, zz, zz, zz, zz, zz, .int .i64 0, zz, zz, zz, zz, zz, zz, zz, zz, zz, zz, zz, zz, zz, zz, zz, zz, zz, zz, zz, zz, zz, zz, zz, zz, zz, zz, zz, zz, zz, zz, zz, zz, .int .i64 0, .slice none 0 0, .slice none 0 0] [(0, 32, (.t 1)), (34, 33, (.t 2)), (67, 33, (.t 3)), (100, 1, (.t 4))]), ⟨none, none, .st 102 (.t 0) (.t 5)⟩])
 .ret))
theorem Try.known24 : KnownC Try.prog 24 Try.pc24 6 0 (some 102) := ⟨Try.f24, _, _, Try.func24, rfl, by kernel_rfl, rfl, rfl, by kernel_rfl⟩
def Try.pc25 : PC :=
 (.seq (.ops [zo 0 (.al 36 [zz, zz, zz, zz, zz, zz, zz, zz, zz, zz, zz, zz, zz, zz, zz, zz, zz, zz, zz, zz, zz, zz, zz, zz, zz, zz, zz, zz, zz, zz, zz, zz, .int .i64 0, .int .i64 0, zz, zz, zz, zz, zz, zz, zz, zz, zz, zz, zz, zz, zz, zz, zz, zz, zz, zz, zz, zz, zz, zz, zz, zz, zz, zz, zz, zz, zz, zz, zz, zz, .int .i64 0, zz, zz, zz, zz, zz, zz, zz, zz, zz, zz, zz, zz, zz, zz, zz, zz, zz, zz, zz, zz, zz, zz, zz, zz, zz, zz, zz, zz, zz, zz, zz, zz, .int .i64 0, .slice none 0 0, .slice none 0 0])])
 (.seq (.ops [zo 1 (.more (.bldA [zz, zz, zz, zz, zz, zz, zz, zz, zz, zz, zz, zz, zz, zz, zz, zz, zz, zz, zz, zz, zz, zz, zz, zz, zz, zz, zz, zz, zz, zz, zz, .int .u8 0] [(0, 1, (.v (.int .u8 3)))])), zo 2 (.call 26 [(.v (.int .u8 1)), (.v (.int .i64 0))]), zo 3 (.call 26 [(.v (.int .u8 1)), (.v (.int .i64 1))]), zo 4 (.bsl 9 [.string ⟨#[]⟩] 1 [(0, 1, (.v (.string ⟨#[121]⟩)))]), zo 5 (.call 26 [(.v (.int .u8 1)), (.v (.int .i64 0))]), zo 6 (.bsl 32 [zz, zz, zz, zz, zz, zz, zz, zz, zz, zz, zz, zz, zz, zz, zz, zz, zz, zz, zz, zz, zz, zz, zz, zz, zz, zz, zz, zz, zz, zz, zz, zz, .int .i64 0] 1 [(0, 33, (.t 5))]), zo 7 (.build [zz, zz, zz, zz, zz, zz, zz, zz, zz, zz, zz, zz, zz, zz, zz, zz, zz, zz, zz, zz, zz, zz, zz, zz, zz, zz, zz, zz, zz, zz, zz, zz, .int .i64 0, .int .i64 0, zz, zz, zz, zz, zz, zz, zz, zz, zz, zz, zz, zz, zz, zz, zz, zz, zz, zz, zz, zz, zz, zz, zz, zz, zz, zz, zz, zz, zz, zz, zz, zz, .int .i64 0, zz, zz, zz, zz, zz, zz, zz, zz, zz, zz, zz, zz, zz, zz, zz, zz, zz, zz, zz, zz, zz, zz, zz, zz, zz, zz, zz, zz, zz, zz, zz, zz, .int .i64 0, .slice none 0 0, .slice none 0 0] [(0, 32, (.t 1)), (34, 33, (.t 2)), (67, 33, (.t 3)), (100, 1, (.t 4)), (101, 1, (.t 6))]), ⟨none, none, .st 102 (.t 0) (.t 7)⟩])
 .ret))
theorem Try.known25 : KnownC Try.prog 25 Try.pc25 8 0 (some 102) := ⟨Try.f25, _, _, Try.func25, rfl, by kernel_rfl, rfl, rfl, by kernel_rfl⟩
end Go.Proofs
