/- Walks. -/
import Derived.Test.YtbejcoeajlhmcaaPart1
import Derived.MapKept
import Derived.Laws.StructEq
import Derived.WalkKit
import Derived.ProofKit
import Derived.OpenShut
import Derived.ShutString
import Derived.ChangeOld
import Derived.Below
import Derived.SizedLaws
import Derived.SliceStrings
import Derived.Carry
import Derived.Laws.IdiomStrings
import Derived.Laws.IdiomCopy
import Derived.Lib.AppendStr
import Derived.ChangeKeysEq
import Derived.RangeFuncLeaves
import Derived.RangeFuncRecord
import Derived.RangeFuncKeeps
import Derived.OrdersIn
import Derived.Lib.AppendZerosOnto
import Derived.Lib.Overlaps
import Derived.Test.YtbejcoeajlhmcaaProg
import Derived.Maps.RangeRun
import Derived.DeepKeys4
set_option linter.unusedVariables false
set_option linter.unusedSimpArgs false
set_option linter.unusedSectionVars false

namespace Go.SL
open Go.RowKit
section
variable {P : Program} {w0 : World} {n : Nat} {T : TT} {S : SS}
theorem setAt_cons (cs : List Value) (k : Nat) (v : Value) (vs : List Value) (h : k < cs.length) : setAt cs k (v :: vs) = setAt (cs.set k v) (k + 1) vs := by
 induction cs generalizing k with
 | nil => simp at h
 | cons c cs ih =>
  cases k with
  | zero => simp [setAt]
  | succ k => simp only [setAt, List.set_cons_succ]; rw [ih k (by simpa using h)]
theorem foldl_setAt (off : Nat) : ∀ (l : List Value) (k : Nat) (cells : Array Value), off + k + l.length <= cells.size ->
  ((l.zipIdx k).foldl (fun cs p => cs.setIfInBounds (off + p.2) p.1) cells).toList = setAt cells.toList (off + k) l
 | [], k, cells, _ => by simp [setAt_nil]
 | c :: l, k, cells, h => by
  simp only [List.zipIdx_cons, List.foldl_cons, List.length_cons] at h ⊢
  rw [foldl_setAt off l (k + 1) _ (by simp; omega)]
  rw [setAt_cons _ _ _ _ (by simp; omega)]
  simp [Nat.add_assoc]
def fillP (T : TT) : List Value -> List (Nat × Nat × PV) -> Option (List Value)
 | cs, [] => some cs
 | cs, (off, size, x) :: r => match x.val T with
  | some v => if v.cells.size = size /\ off + size <= cs.length then fillP T (setAt cs off v.cells.toList) r else none
  | none => none
theorem fill_spec {a : Act} (hs : Sat n T a) {place : Nat -> Option (Nat × Nat)} : ∀ {qs : List (Nat × Operand)} {ps : List (Nat × Nat × PV)} {cells : Array Value} {cs : List Value},
  partsAt place qs = some ps -> fillP T cells.toList ps = some cs -> Instr.fill place cells (qs.map fun (i, x) => (i, a.eval x)) = some cs.toArray
 | [], ps, cells, cs, h1, h2 => by
  simp [partsAt] at h1
  subst h1
  simp [fillP] at h2
  subst h2
  simp [Instr.fill]
 | (i, x) :: qs, ps, cells, cs, h1, h2 => by
  simp only [partsAt, List.mapM_cons, Option.bind_eq_bind, Option.pure_def] at h1
  cases hp : place i with
  | none => simp [hp] at h1
  | some p =>
   obtain ⟨off, size⟩ := p
   simp only [hp, Option.map_some, Option.bind_some] at h1
   change (partsAt place qs).bind _ = _ at h1
   cases hq : partsAt place qs with
   | none => rw [hq] at h1; simp at h1
   | some ps' =>
    rw [hq] at h1
    simp only [Option.bind_some, Option.some.injEq] at h1
    subst h1
    simp only [fillP] at h2
    split at h2
    ·rename_i v hv
     split at h2
     ·rename_i hcond
      obtain ⟨hsz, hle⟩ := hcond
      have hev := hs.eval hv
      simp only [List.map_cons, Instr.fill, hp, hev]
      have hc : ¬ (v.cells.size ≠ size || decide (off + v.cells.size > cells.size)) = true := by
       simp at hle ⊢
       omega
      rw [if_neg hc]
      have hfold : (v.cells.zipIdx.foldl (fun cs x => cs.setIfInBounds (off + x.2) x.1) cells).toList = setAt cells.toList off v.cells.toList := by
       rw [<- Array.foldl_toList, Array.toList_zipIdx]
       have := foldl_setAt off v.cells.toList 0 cells (by simp at hle ⊢; omega)
       simpa using this
      have := fill_spec hs (place := place) (qs := qs) (ps := ps') (cells := v.cells.zipIdx.foldl (fun cs x => cs.setIfInBounds (off + x.2) x.1) cells) (cs := cs) hq (by rw [hfold]; exact h2)
      exact this
     simp at h2
    simp at h2
theorem Yields.build {zero : List Value} {parts : List (Nat × Nat × PV)} {cs : List Value} (h : fillP T zero parts = some cs) : Yields P w0 n (.build zero parts) T S (.agg cs.toArray) := by
 intro o a w hco hs hr
 obtain ⟨t, qs, fs, i, z, ps, ho, hu, hi, hz, rfl, hps, hpa⟩ := cOp_spec P hco
 have hfill := fill_spec hs (place := fun j => ps[j]?) (cells := z.cells) hpa h
 simp only [execOp, ho]
 have hb : P.built t (qs.map fun (i, x) => (i, a.eval x)).toList = some cs.toArray := by
  unfold Program.built
  simp only [hi, hu, hz]
  unfold placesOf at hps
  rw [hps]
  simp only [Array.toList_map]
  have e : (fun x : Nat => ps.toArray[x]?) = fun j => ps[j]? := by funext j; simp
  rw [e]
  exact hfill
 have := run_build (P := P) w t _ cs.toArray hb
 simp only [Sem.run_bind, this, Result.andThen_ok]
 rfl
theorem OW.bsl {E : TypeId} {len : Nat} {zero : List Value} {parts : List (Nat × Nat × PV)} {cs : List Value} (h : fillP T zero parts = some cs) :
  OW P w0 n (.bsl E zero len parts) T S (fun v S' => ∃ r, v = .slice (some ⟨r, 0, none⟩) len len /\ S' = [(r, .cells cs E cs.length)] :: S) := by
 intro op a w Q hco hs hr
 obtain ⟨t, qs, i, z, ho, hu, hi, hz, hle, hne, rfl, hpa⟩ := cOp_spec P hco
 have hfill := fill_spec hs (place := fun j => some (j * i.size, i.size)) (cells := (Array.range (len * i.size)).map (z.cells[· % z.cells.size]!)) hpa h
 have hrun : (execOp a.eval op).run P w = .ok (.value (.slice (some ⟨w.heap.size, 0, none⟩) len len)) (w.alloc (.cells cs.toArray E)) := by
  simp only [execOp, ho, Instr.buildSlice]
  have hle' : ¬ (16777216 < len * i.size) := by omega
  simp only [Array.toList_map]
  have hsz : (sizeOf E).run P w = .ok i.size w := by simp [sizeOf, typeInfo, program, hi, Sem.run]
  have hzv : (zeroValue E).run P w = .ok z w := by simp [zeroValue, typeInfo, program, hi, hz, Sem.run]
  simp only [Array.toList_map] at hfill ⊢
  simp only [Sem.run_bind, run_underlying hu, Result.andThen_ok, hsz]
  simp [hle', hne, hzv]
  rw [hfill]
  simp [newRow, newObj, Sem.run]
 unfold Oper.wp
 rw [hrun]
 refine ⟨_, _, rfl, ?_, w.heap.size, rfl, rfl⟩
 have := hr.alloc cs.toArray E
 simpa using this
theorem Yields.fld {off : Nat} {x : PV} {cs : Array Value} {v : Value} (hx : x.val T = some (.agg cs)) (hc : cs[off]? = some v) : Yields P w0 n (.fld off x) T S v := by
 intro o a w hco hs hr
 obtain ⟨s, y, j, fs, f, ho, rfl, hu, hf, rfl, hagg⟩ := cOp_spec P hco
 obtain ⟨d, hd, hrow⟩ := aggOf_none hagg
 simp only [execOp, ho, hs.eval hx, Instr.field]
 simp [run_underlying hu, hf, asAgg, part, run_isAgg hd, hrow, hc]
def skey (es : List (ByteArray × Value)) : List (Value × Value) := es.map fun p => (.string p.1, p.2)
def mget (es : List (ByteArray × Value)) (s : ByteArray) : Option Value := (es.find? fun p => s == p.1).map (·.2)
def mputAt : List (ByteArray × Value) -> ByteArray -> Value -> List (ByteArray × Value)
 | [], s, v => [(s, v)]
 | p :: r, s, v => if s == p.1 then (s, v) :: r else p :: mputAt r s v
theorem findNow_string {s : ByteArray} : ∀ (en : List MapEntry) (es : List (ByteArray × Value)) (i : Nat), en.map (fun e => (e.key, e.val)) = skey es ->
  ∃ r, Instr.findNow .string (.string s) en i = some r /\ r.map (·.2) = mget es s
 | [], es, i, h => by
  cases es with
  | nil => exact ⟨none, rfl, rfl⟩
  | cons p es => simp [skey] at h
 | e :: en, es, i, h => by
  cases es with
  | nil => simp [skey] at h
  | cons p es =>
   simp only [skey, List.map_cons, List.cons.injEq, Prod.mk.injEq] at h
   obtain ⟨⟨h1, h2⟩, h3⟩ := h
   simp only [Instr.findNow, h1, Instr.sameNow]
   by_cases hb : (s == p.1) = true
   ·refine ⟨some (i, e.val), by simp [hb], by simp [mget, List.find?_cons, hb, h2]⟩
   have hb' : (s == p.1) = false := by simpa using hb
   obtain ⟨r, hr1, hr2⟩ := findNow_string (s := s) en es (i + 1) h3
   exact ⟨r, by simp [hb', hr1], by rw [hr2]; simp [mget, List.find?_cons, hb']⟩
theorem run_checkKey_string {kt : TypeId} (h : P.underlying kt = some .string) (b : Bool) (m : Nat) (s : ByteArray) (w : World) : (Instr.checkKey b (m + 1) kt (.string s)).run P w = .ok () w := by
 simp [Instr.checkKey, run_underlying h]
theorem Rep.mapAt {w : World} {k b : Nat} {es : List (Value × Value)} (h : Rep w0 S w) (hk : S[k]? = some [(b, .map es)]) :
  w0.heap.size <= b /\ ∃ en clk, w.heap[b]? = some (.map en clk) /\ en.toList.map (fun e => (e.key, e.val)) = es :=
 h.own (b, .map es) (List.mem_flatten.2 ⟨_, List.mem_of_getElem? hk, by simp⟩)
theorem Yields.lenM {x : PV} {b k : Nat} {es : List (Value × Value)} (hx : x.val T = some (.map (some b))) (hk : S[k]? = some [(b, .map es)]) : Yields P w0 n (.lenM x) T S (.int .i64 es.length) := by
 intro o a w hco hs hr
 obtain ⟨t, kt, vt, c, cl, ho, hca, hat, har, rfl, hu⟩ := cOp_spec P hco
 obtain ⟨_, en, clk, hw, he⟩ := hr.mapAt hk
 have hlen : en.size = es.length := by rw [<- he]; simp
 simp [execOp, ho, resolve, hca, invoke, builtin, Builtin.len_, hat, har, hs.eval hx, run_underlying hu, goInt, getObj, Sem.run, hw, hlen]
theorem Yields.lookS {zero : Value} {ok : Bool} {x y : PV} {b k : Nat} {es : List (ByteArray × Value)} {s : ByteArray} (hx : x.val T = some (.map (some b))) (hy : y.val T = some (.string s)) (hk : S[k]? = some [(b, .map (skey es))]) :
  Yields P w0 n (.lookS zero ok x y) T S (if ok then .tuple #[(mget es s).getD zero, .bool (mget es s).isSome] else (mget es s).getD zero) := by
 intro o a w hco hs hr
 obtain ⟨t, c, d, kt, et, i, ho, rfl, rfl, hu, hkt, hi, hz⟩ := cOp_spec P hco
 obtain ⟨_, en, clk, hw, he⟩ := hr.mapAt hk
 obtain ⟨r, hr1, hr2⟩ := findNow_string (s := s) en.toList es 0 he
 simp only [execOp, ho, hs.eval hx, hs.eval hy, Instr.lookup]
 have hck := fun bb => run_checkKey_string (P := P) hkt bb 9999 s w
 simp only [Sem.run_bind, run_underlying hu, Result.andThen_ok]
 have hg : (getObj b).run P w = .ok (.map en clk) w := by simp [getObj, Sem.run, hw]
 simp only [Sem.run_bind, hg, Result.andThen_ok]
 simp only [Sem.run_pure, Result.andThen_ok, hck, Instr.findKey, Sem.run_bind, run_underlying hkt, hr1]
 cases r with
 | none =>
  simp at hr2
  simp [zeroValue, typeInfo, program, hi, hz, Sem.run, <- hr2]
 | some p =>
  obtain ⟨j, v⟩ := p
  simp at hr2
  simp [<- hr2]
theorem OW.mkM : OW P w0 n .mkM T S (fun v S' => ∃ r, v = .map (some r) /\ S' = [(r, .map [])] :: S) := by
 intro op a w Q hco hs hr
 obtain ⟨t, ho⟩ := cOp_spec P hco
 have hrun : (execOp a.eval op).run P w = .ok (.value (.map (some w.heap.size))) (w.alloc (.map #[] 0)) := by
  simp [execOp, ho, Instr.makeMap, newObj, Sem.run]
 unfold Oper.wp
 rw [hrun]
 refine ⟨_, _, rfl, ?_, w.heap.size, rfl, rfl⟩
 refine hr.push (below_alloc hr _) (fun i hi => alloc_heap_lt w _ i hi) (by simp) ?_
 intro p hp
 simp only [List.mem_singleton] at hp
 subst hp
 exact ⟨⟨#[], 0, alloc_heap_new w _, by simp⟩, Nat.le_refl _⟩
theorem findNow_put {s : ByteArray} : ∀ (en : List MapEntry) (es : List (ByteArray × Value)) (i : Nat), en.map (fun e => (e.key, e.val)) = skey es ->
  (Instr.findNow .string (.string s) en i = some none /\ mget es s = none /\ ∀ v, mputAt es s v = es ++ [(s, v)]) ∨
  (∃ j u e, Instr.findNow .string (.string s) en i = some (some (i + j, u)) /\ en[j]? = some e /\ e.key = .string s /\ ∀ v, skey (mputAt es s v) = (skey es).set j (.string s, v))
 | [], es, i, h => by
  cases es with
  | nil => exact .inl ⟨rfl, rfl, fun v => rfl⟩
  | cons p es => simp [skey] at h
 | e :: en, es, i, h => by
  cases es with
  | nil => simp [skey] at h
  | cons p es =>
   simp only [skey, List.map_cons, List.cons.injEq, Prod.mk.injEq] at h
   obtain ⟨⟨h1, h2⟩, h3⟩ := h
   simp only [Instr.findNow, h1, Instr.sameNow]
   by_cases hb : (s == p.1) = true
   ·right
    have hsp : s = p.1 := (Go.MapKept.bytes_beq s p.1).1 hb
    refine ⟨0, e.val, e, by simp [hb], by simp, by rw [h1, hsp], fun v => by simp [mputAt, hb, skey]⟩
   have hb' : (s == p.1) = false := by simpa using hb
   rcases findNow_put (s := s) en es (i + 1) h3 with ⟨h4, h5, h6⟩ | ⟨j, u, e', h4, h5, h6, h7⟩
   ·exact .inl ⟨by simp [hb', h4], by simp only [mget] at h5 ⊢; simp [List.find?_cons, hb'] at h5 ⊢; exact h5, fun v => by simp [mputAt, hb', h6]⟩
   refine .inr ⟨j + 1, u, e', by simp [hb', h4]; omega, by simpa using h5, h6, fun v => ?_⟩
   have := h7 v
   simp only [skey] at this ⊢
   simp [mputAt, hb', this]
theorem OW.updSU {x y z : PV} {b k : Nat} {es : List (ByteArray × Value)} {s : ByteArray} {v : Value} (hx : x.val T = some (.map (some b))) (hy : y.val T = some (.string s)) (hz : z.val T = some v) (hk : S[k]? = some [(b, .map (skey es))]) :
  OW P w0 n (.updS x y z) T S (fun v' S' => v' = undef /\ S' = S.set k [(b, .map (skey (mputAt es s v)))]) := by
 intro op a w Q hco hs hr
 obtain ⟨t, c, d, u, kt, et, ho, rfl, rfl, rfl, hu, hkt⟩ := cOp_spec P hco
 obtain ⟨hge, en, clk, hw, he⟩ := hr.mapAt hk
 have hlt : b < w.heap.size := (Array.getElem?_eq_some_iff.1 hw).1
 have hck := run_checkKey_string (P := P) hkt false 9999 s w
 have hg : (getObj b).run P w = .ok (.map en clk) w := by simp [getObj, Sem.run, hw]
 have hput : ∀ o : Obj, (∀ c e f, o ≠ .cells c e f) -> (setObj b o).run P w = .ok () { w with heap := w.heap.setIfInBounds b o } := by
  intro o _
  simp [setObj, Sem.run, hw]
 have fin : ∀ (en' : Array MapEntry) (clk' : Nat), (execOp a.eval op).run P w = .ok .skip { w with heap := w.heap.setIfInBounds b (.map en' clk') } -> en'.toList.map (fun e => (e.key, e.val)) = skey (mputAt es s v) ->
   op.wp P a w (fun a' w' => ∃ v_1 S', a' = a.put op.dst v_1 /\ Rep w0 S' w' /\ v_1 = undef /\ S' = S.set k [(b, .map (skey (mputAt es s v)))]) Q := by
  intro en' clk' hrun hen
  unfold Oper.wp
  rw [hrun]
  refine ⟨undef, _, rfl, ?_, rfl, rfl⟩
  refine hr.replace hk ⟨rfl, rfl, rfl, by simp, fun i hi => ?_⟩ (fun i hi hne => ?_) (by simp) ?_
  ·have : b ≠ i := by omega
   simp [Array.getElem?_setIfInBounds_ne this]
  ·have : b ≠ i := by simp at hne; omega
   simp [Array.getElem?_setIfInBounds_ne this]
  intro p hp
  simp only [List.mem_singleton] at hp
  subst hp
  exact ⟨hge, ⟨en', clk', by simp [hlt], hen⟩, .inl (by simp)⟩
 rcases findNow_put (s := s) en.toList es 0 he with ⟨h4, h5, h6⟩ | ⟨j, u', e', h4, h5, h6, h7⟩
 ·refine fin (en.push { key := .string s, val := v, born := clk }) (clk + 1) ?_ ?_
  ·simp only [execOp, ho, hs.eval hx, hs.eval hy, hs.eval hz, Instr.mapUpdate]
   simp [run_underlying hu, hg, hck, Instr.findKey, run_underlying hkt, h4, hput]
  simp [he, h6, skey]
 simp only [Nat.zero_add] at h4
 have hstay : (Instr.keyThatStays (.string s) (.string s)).run P w = .ok (.string s) w := by
  have hss : (s == s) = true := (Go.MapKept.bytes_beq s s).2 rfl
  simp [Instr.keyThatStays, Instr.sameBits, hss]
 have hkey : ((en[j]?).map (·.key)).getD (.string s) = .string s := by
  have : en[j]? = some e' := by simpa using h5
  simp [this, h6]
 refine fin (en.modify j fun e => { e with key := .string s, val := v }) clk ?_ ?_
 ·simp only [execOp, ho, hs.eval hx, hs.eval hy, hs.eval hz, Instr.mapUpdate]
  simp [run_underlying hu, hg, hck, Instr.findKey, run_underlying hkt, h4, hkey, hstay, hput]
 rw [h7 v, <- he]
 apply List.ext_getElem?
 intro i
 by_cases e : j = i
 ·subst e
  have hlt' : j < en.size := by have := (List.getElem?_eq_some_iff.1 h5).1; simpa using this
  simp [Array.getElem?_modify, hlt']
 simp [Array.getElem?_modify, e, List.getElem?_set_ne e]
theorem OW.updS {x y z : PV} {b k : Nat} {es : List (ByteArray × Value)} {s : ByteArray} {v : Value} (hx : x.val T = some (.map (some b))) (hy : y.val T = some (.string s)) (hz : z.val T = some v) (hk : S[k]? = some [(b, .map (skey es))]) :
  OW P w0 n (.updS x y z) T S (fun _ S' => S' = S.set k [(b, .map (skey (mputAt es s v)))]) := by
 exact (OW.updSU hx hy hz hk).mono fun _ _ h => h.2
def eqCell : CK -> Value -> Value -> Option Bool
 | .int k, .int j a, .int j' b => if j = k /\ j' = k then some (a == b) else none
 | .str, .string a, .string b => some (a.toList == b.toList)
 | .bool, .bool a, .bool b => some (a == b)
 | _, _, _ => none
theorem run_eqCell {c : CK} {t : TypeId} {x y : Value} {r : Bool} (hc : ckOf P t = some c) (h : eqCell c x y = some r) (d : Nat) (w : World) : (Op.equalIn (d + 1) t x y).run P w = .ok r w := by
 unfold ckOf at hc
 split at hc
 ·rename_i k hu
  obtain rfl := Option.some.inj hc
  unfold eqCell at h
  split at h <;> simp_all
  obtain ⟨⟨rfl, rfl⟩, rfl⟩ := h
  simp [Op.equalIn, run_underlying hu]
 ·rename_i hu
  obtain rfl := Option.some.inj hc
  unfold eqCell at h
  split at h <;> simp_all
  subst h
  exact run_equalIn_string w d t _ _ hu
 ·rename_i hu
  obtain rfl := Option.some.inj hc
  unfold eqCell at h
  split at h <;> simp_all
  subst h
  simp [Op.equalIn, run_underlying hu]
 simp at hc
theorem ckOf_agg {t : TypeId} {c : CK} (h : ckOf P t = some c) : ∃ d, P.underlying t = some d /\ rowD d = false := by
 unfold ckOf at h
 split at h
 all_goals (first | (simp at h; done) | exact ⟨_, by assumption, rfl⟩)
theorem OW.al {E : TypeId} {zero : List Value} : OW P w0 n (.al E zero) T S (fun v S' => ∃ r, v = .pointer (some ⟨r, 0, none⟩) /\ S' = [(r, .cells zero E zero.length)] :: S) := by
 intro op a w Q hco hs hr
 obtain ⟨i, z, ho, hi, hz, rfl⟩ := cOp_spec P hco
 have hrun : (execOp a.eval op).run P w = .ok (.value (.pointer (some ⟨w.heap.size, 0, none⟩))) (w.alloc (.cells z.cells E)) := by
  simp [execOp, ho, Instr.alloc, zeroValue, typeInfo, program, hi, hz, Sem.run, newVar, newRow, newObj]
 unfold Oper.wp
 rw [hrun]
 exact ⟨_, _, rfl, by simpa using hr.alloc z.cells E, w.heap.size, rfl, rfl⟩
theorem OW.bx {E : TypeId} {x : PV} {v : Value} (hx : x.val T = some v) : OW P w0 n (.bx E x) T S (fun u S' => ∃ r, u = .pointer (some ⟨r, 0, none⟩) /\ S' = [(r, .cells v.cells.toList E v.cells.toList.length)] :: S) := by
 intro op a w Q hco hs hr
 obtain ⟨c, ho, rfl⟩ := cOp_spec P hco
 have hrun : (execOp a.eval op).run P w = .ok (.value (.pointer (some ⟨w.heap.size, 0, none⟩))) (w.alloc (.cells v.cells E)) := by
  simp [execOp, ho, hs.eval hx, Instr.box, Sem.run, newVar, newRow, newObj]
 unfold Oper.wp
 rw [hrun]
 exact ⟨_, _, rfl, by simpa using hr.alloc v.cells E, w.heap.size, rfl, rfl⟩
end
section
variable {P : Program} {w0 : World} {n : Nat} {T : TT} {S : SS}
def Rd (w0 : World) (S : SS) (A : Option Addr) (cs : List Value) : Prop := ∀ j v, cs[j]? = some v -> ∃ a, A = some a /\ Cell w0 S (a.add j) v
theorem Rd.mono {S S' : SS} {A : Option Addr} {cs : List Value} (h : Rd w0 S A cs) (hs : ∀ p ∈ S.flatten, p ∈ S'.flatten) : Rd w0 S' A cs :=
 fun j v hj => let ⟨a, e, hc⟩ := h j v hj; ⟨a, e, hc.mono hs⟩
theorem Rd.cons {S : SS} {s : Seg} {A : Option Addr} {cs : List Value} (h : Rd w0 S A cs) : Rd w0 (s :: S) A cs := h.mono (fun p hp => by simp [hp])
theorem Rd.nil {S : SS} {A : Option Addr} : Rd w0 S A [] := fun j v h => by simp at h
theorem Rd.some {S : SS} {A : Option Addr} {cs : List Value} (h : Rd w0 S A cs) (h0 : cs ≠ []) : ∃ a, A = Option.some a := by
 cases cs with
 | nil => exact absurd rfl h0
 | cons c cs => obtain ⟨a, e, _⟩ := h 0 c rfl; exact ⟨a, e⟩
theorem Rd.at {S : SS} {a : Addr} {cs : List Value} (h : Rd w0 S (Option.some a) cs) {j : Nat} {v : Value} (hj : cs[j]? = Option.some v) : Cell w0 S (a.add j) v := by
 obtain ⟨b, e, hc⟩ := h j v hj
 obtain rfl := Option.some.inj e
 exact hc
theorem Rd.own {S : SS} {r E tot : Nat} {xs : List Value} (h : (r, AO.cells xs E tot) ∈ S.flatten) : Rd w0 S (Option.some ⟨r, 0, none⟩) xs := by
 intro j v hj
 refine ⟨_, rfl, .inr (.inl ⟨xs, E, tot, ?_, ?_, ?_⟩)⟩
 ·simpa [Addr.add_lit] using h
 ·simp [Addr.add_lit]
 simpa [Addr.add_lit] using hj
theorem SlV.rd {S : SS} {k E sz m : Nat} {v : Value} {xs : List Value} {seg : Seg} (hv : SlV E sz v m xs seg) (hk : S[k]? = some seg) : ∃ A cap, v = .slice A m cap /\ Rd w0 S A xs /\ xs.length = m * sz := by
 obtain ⟨hl, ⟨rfl, rfl, rfl⟩ | ⟨r, cap, rfl, rfl, h1, h2⟩⟩ := hv
 ·have : xs = [] := List.eq_nil_of_length_eq_zero (by simpa using hl)
  subst this
  exact ⟨none, 0, rfl, Rd.nil, hl⟩
 have hm : (r, AO.cells xs E (cap * sz)) ∈ S.flatten := List.mem_flatten.2 ⟨[(r, AO.cells xs E (cap * sz))], List.mem_of_getElem? hk, List.mem_singleton.2 rfl⟩
 exact ⟨_, cap, rfl, Rd.own hm, hl⟩
theorem OL.call {f : FuncId} {args : List PV} {vs : List Value} {post : Value -> SS -> Prop} {d : Option Nat} {g : Option (Nat × Bool)} {r : List PI} {K : TT -> SS -> Prop} (hg : gOk T g) (hv : valsP T args = some vs) (h : FC P w0 f vs S post)
  (hk : ∀ v S', post v S' -> OL P w0 n r (put d v T) S' K) : OL P w0 n (⟨d, g, .call f args⟩ :: r) T S K := OL.cons hg (OW.call hv h) hk
theorem PW.seqOps {l : List PI} {y : PC} {Q : Exit -> TT -> SS -> Prop} (h : OL P w0 n l T S (fun T' S' => PW P w0 n y T' S' Q)) : PW P w0 n (.seq (.ops l) y) T S Q :=
 PW.seq fun K hK => PW.ops (fun ops is a w Q' hc hs hr hk => h ops is a w Q' hc hs hr fun a' w' T' S' h1 h2 h3 => hk a' w' T' S' h1 h2 (hK T' S' h3))
def QK (P : Program) (w0 : World) (n : Nat) (S : SS) (l : List PI) (T : TT) (K : TT -> Prop) : Prop := ∃ T', QL P w0 n S l T T' /\ K T'
theorem QK.nil {K : TT -> Prop} (h : K T) : QK P w0 n S [] T K := ⟨T, .nil, h⟩
theorem QK.cons {po : PO} {d : Option Nat} {g : Option (Nat × Bool)} {v : Value} {r : List PI} {K : TT -> Prop} (hg : gOk T g) (h : OW P w0 n po T S (fun v' S' => v' = v /\ S' = S)) (k : QK P w0 n S r (put d v T) K) : QK P w0 n S (⟨d, g, po⟩ :: r) T K :=
 let ⟨T', h1, h2⟩ := k; ⟨T', .step hg h h1, h2⟩
theorem QK.det {po : PO} {d : Option Nat} {g : Option (Nat × Bool)} {v : Value} {r : List PI} {K : TT -> Prop} (hg : gOk T g) (h : Yields P w0 n po T S v) (k : QK P w0 n S r (put d v T) K) : QK P w0 n S (⟨d, g, po⟩ :: r) T K := QK.cons hg (OW.of_yields h) k
theorem QK.dp {po : PO} {d : Option Nat} {v : Value} {r : List PI} {K : TT -> Prop} (h : evalP po T = some v) (k : QK P w0 n S r (put d v T) K) : QK P w0 n S (⟨d, none, po⟩ :: r) T K := QK.det trivial (.pure h) k
theorem _root_.Go.SL.OL.dp {po : PO} {d : Option Nat} {v : Value} {r : List PI} {K : TT -> SS -> Prop} (h : evalP po T = some v) (k : OL P w0 n r (put d v T) S K) : OL P w0 n (⟨d, none, po⟩ :: r) T S K := OL.det trivial (.pure h) k
theorem QK.call {f : FuncId} {args : List PV} {vs : List Value} {v : Value} {d : Option Nat} {g : Option (Nat × Bool)} {r : List PI} {K : TT -> Prop} (hg : gOk T g) (hv : valsP T args = some vs) (h : FC P w0 f vs S (fun v' S' => v' = v /\ S' = S)) (k : QK P w0 n S r (put d v T) K) : QK P w0 n S (⟨d, g, .call f args⟩ :: r) T K :=
 QK.cons hg (OW.call hv h) k
theorem QK.off {po : PO} {d : Option Nat} {s : Nat} {b : Bool} {u : Value} {r : List PI} {K : TT -> Prop} (hl : look T s = some u) (hc : (boolOf u == some b) = false) (k : QK P w0 n S r (put d undef T) K) : QK P w0 n S (⟨d, some (s, b), po⟩ :: r) T K :=
 let ⟨T', h1, h2⟩ := k; ⟨T', .off hl hc h1, h2⟩
theorem PW.quietK {b : List Nat} {k : Nat} {l : List PI} {Q : Exit -> TT -> SS -> Prop} (hm : P.follows .mixedOrders = true) (h : QK P w0 n S (l.take k) T (fun T' => OL P w0 n (l.drop k) T' S (Q .normal))) : PW P w0 n (.quietR b k l) T S Q :=
 let ⟨_, h1, h2⟩ := h; PW.quiet hm h1 h2
theorem Yields.to {po : PO} {v v' : Value} (h : Yields P w0 n po T S v) (e : v = v') : Yields P w0 n po T S v' := e ▸ h
theorem OL.bool {po : PO} {d : Nat} {g : Option (Nat × Bool)} {r : List PI} {K : TT -> SS -> Prop} {b : Bool} (hg : gOk T g) (h : Yields P w0 n po T S (.bool b)) (ht : b = true -> OL P w0 n r ((d, .bool true) :: T) S K) (hf : b = false -> OL P w0 n r ((d, .bool false) :: T) S K) : OL P w0 n (⟨some d, g, po⟩ :: r) T S K := by
 cases b
 ·exact OL.det hg h (hf rfl)
 exact OL.det hg h (ht rfl)
theorem QK.bool {po : PO} {d : Nat} {g : Option (Nat × Bool)} {r : List PI} {K : TT -> Prop} {b : Bool} (hg : gOk T g) (h : Yields P w0 n po T S (.bool b)) (ht : b = true -> QK P w0 n S r ((d, .bool true) :: T) K) (hf : b = false -> QK P w0 n S r ((d, .bool false) :: T) K) : QK P w0 n S (⟨some d, g, po⟩ :: r) T K := by
 cases b
 ·exact QK.det hg h (hf rfl)
 exact QK.det hg h (ht rfl)
theorem PW.ite {v : PV} {x y : PC} {Q : Exit -> TT -> SS -> Prop} {b : Bool} (hv : v.val T = some (.bool b)) (h : PW P w0 n (if b then x else y) T S Q) : PW P w0 n (.cond v x y) T S Q :=
 PW.cond hv (fun e => by subst e; exact h) (fun e => by subst e; exact h)
theorem addr_add_add (a : Addr) (m k : Nat) : (a.add m).add k = a.add (m + k) := by
 unfold Addr.add
 by_cases hm : m = 0
 ·subst hm; simp
 by_cases hk : k = 0
 ·subst hk; simp
 simp [hm, hk, Nat.add_assoc]
theorem Yields.ixN {sz : Nat} {x i : PV} {a : Addr} {len cap j : Nat} {k : IntKind} {z : Int} (hx : x.val T = some (.slice (some a) len cap)) (hi : i.val T = some (.int k z)) (hz : z = (j : Int)) (h : j < len) :
  Yields P w0 n (.ixS sz x i) T S (.pointer (some (a.add (j * sz)))) := by
 subst hz
 exact Yields.ixS hx hi (by omega) (by omega)
theorem Yields.ixN1 {x i : PV} {a : Addr} {len cap j : Nat} {k : IntKind} {z : Int} (hx : x.val T = some (.slice (some a) len cap)) (hi : i.val T = some (.int k z)) (hz : z = (j : Int)) (h : j < len) :
  Yields P w0 n (.ixS 1 x i) T S (.pointer (some (a.add j))) := by
 have := Yields.ixN (P := P) (w0 := w0) (n := n) (S := S) (sz := 1) hx hi hz h
 simpa using this
theorem OL.drop1 {l : List PI} {s : Seg} {K : TT -> SS -> Prop} (h : OL P w0 n l T S K) : OL P w0 n l T (s :: S) K :=
 fun ops is a w Q hc hs hr hq => h ops is a w Q hc hs (hr.sub (fun p hp => by simp [hp]) (by
  have := hr.nodup
  simp only [List.flatten_cons, List.map_append, List.nodup_append] at this
  exact this.2.1)) hq
theorem look_put_del {d1 d2 : Nat} {u v' : Value} {T : TT} (i : Nat) (v : Value) (h : look ((d2, v') :: SL.del (some d1) T) i = some v) : look ((d2, v') :: (d1, u) :: T) i = some v := by
 by_cases e : d2 = i
 ·subst e
  rw [look_put_same] at h ⊢
  exact h
 rw [look_cons_ne _ _ e] at h ⊢
 obtain ⟨h1, h2⟩ := look_del h
 rw [look_cons_ne _ _ h1]
 exact h2
theorem OL.app1 {t E sz bytes m k d1 d2 : Nat} {z v base : Value} {s x : PV} {zero : List Value} {xs : List Value} {seg : Seg} {r : List PI} {K : TT -> SS -> Prop}
  (hx : x.val T = some v) (hz : zero.length = sz) (hv1 : v.cells.size = sz) (hs : s.val T = some base) (hne : s.val ((d1, .bool true) :: T) = some base) (hk : S[k]? = some seg) (hv : SlV E sz base m xs seg) (h1 : v.cells.toList.all (·.oneCell') = true)
  (hb : (m + 1) * bytes <= 140737488355328) (h63 : m + 1 <= maxLen)
  (hK : ∀ v' seg', SlV E sz v' (m + 1) (xs ++ v.cells.toList) seg' -> OL P w0 n r ((d2, v') :: SL.del (some d1) T) (S.set k seg') K) :
  OL P w0 n (⟨some d1, none, .bsl E zero 1 [(0, sz, x)]⟩ :: ⟨some d2, none, .app t E sz bytes z s (.t d1)⟩ :: r) T S K := by
 have hfill : fillP T zero [(0, sz, x)] = some v.cells.toList := by
  simp only [fillP, hx]
  have hl : v.cells.toList.length = zero.length := by simp [hv1, hz]
  rw [if_pos ⟨hv1, by omega⟩]
  rw [setAt_eq zero 0 v.cells.toList (by omega)]
  simp [hl]
 refine OL.cons trivial (OW.bsl hfill) ?_
 rintro _ _ ⟨b, rfl, rfl⟩
 have hsv : s.val (put (some d1) (.slice (some ⟨b, 0, none⟩) 1 1) T) = some base := by
  cases s with
  | v y => simpa [PV.val] using hs
  | t i =>
   simp only [PV.val, put] at hne hs ⊢
   by_cases e : d1 = i
   ·subst e
    rw [look_put_same] at hne ⊢
    cases m with
    | zero =>
     obtain ⟨_, ⟨rfl, _⟩ | ⟨_, _, rfl, _⟩⟩ := hv <;> simp at hne
    | succ m => obtain ⟨_, ⟨rfl, _⟩ | ⟨_, _, rfl, _⟩⟩ := hv <;> simp at hne
   rw [look_cons_ne _ _ e]; exact hs
 refine OL.cons trivial (OW.app (k := k + 1) (a := ⟨b, 0, none⟩) (q := 1) (c := 1) (news := v.cells.toList) hsv (by simpa using hk) hv (by simp [PV.val, put, look_put_same]) (by simp [hv1]) (fun j u hj => (Rd.own (E := E) (tot := v.cells.toList.length) (by simp)).at hj) h1 hb h63) ?_
 rintro v' _ ⟨seg', rfl, hsl⟩
 rw [List.set_cons_succ]
 refine OL.drop1 ?_
 refine fun ops is a w Q hc hs hr hq => hK v' seg' hsl ops is a w Q hc (hs.keep fun i u hu => ?_) hr hq
 exact look_put_del i u hu
theorem thenK_n {K : TT -> SS -> Prop} {Q : Exit -> TT -> SS -> Prop} : thenK K Q .normal T S = K T S := rfl
structure Sub (S' S : SS) : Prop where
 mem : ∀ p ∈ S'.flatten, p ∈ S.flatten
 nodup : (S.flatten.map Prod.fst).Nodup -> (S'.flatten.map Prod.fst).Nodup
theorem Sub.refl (S : SS) : Sub S S := ⟨fun _ h => h, fun h => h⟩
theorem Sub.trans {A B C : SS} (h : Sub A B) (k : Sub B C) : Sub A C := ⟨fun p hp => k.mem p (h.mem p hp), fun hn => h.nodup (k.nodup hn)⟩
theorem Sub.drop {s : Seg} {S' S : SS} (h : Sub S' S) : Sub S' (s :: S) := ⟨fun p hp => by simp [h.mem p hp], fun hn => h.nodup (by
 simp only [List.flatten_cons, List.map_append, List.nodup_append] at hn
 exact hn.2.1)⟩
theorem Sub.sel (is : List Nat) (m : Nat) (hi : (decide is.Nodup && is.all (· < m)) = true) (S : SS) : Sub (SL.sel is m S) S := by
 simp only [Bool.and_eq_true, decide_eq_true_eq, List.all_eq_true] at hi
 exact ⟨fun p hp => sel_mem hp, fun hn => sel_nodup hn hi.1 hi.2⟩
theorem Sub.cons {s : Seg} {S' S : SS} (h : Sub S' S) : Sub (s :: S') (s :: S) := ⟨fun p hp => by
  simp only [List.flatten_cons, List.mem_append] at hp ⊢
  exact hp.imp id (h.mem p), fun hn => by
  simp only [List.flatten_cons, List.map_append, List.nodup_append] at hn ⊢
  exact ⟨hn.1, h.nodup hn.2.1, fun a ha b hb => hn.2.2 a ha b (by
   obtain ⟨p, hp, rfl⟩ := List.mem_map.1 hb
   exact List.mem_map.2 ⟨p, h.mem p hp, rfl⟩)⟩⟩
theorem Rep.subS {w : World} {S' : SS} (h : Rep w0 S w) (hs : Sub S' S) : Rep w0 S' w := h.sub hs.mem (hs.nodup h.nodup)
theorem FC.ofD {k : FuncId} {pc : PC} {rs : List Nat} {args : List Value} {post : Value -> SS -> Prop} (hk : Known P k pc n rs) (hn : args.length <= n)
  (h : PW P w0 n pc (argT 0 args) S (fun e T' S' => (e = .normal ∨ e = .ret) /\ ∃ v, resV T' rs = some v /\ ∃ S'', Sub S'' S' /\ post v S'')) : FC P w0 k args S post := by
 intro w hw
 refine (FC.of hk hn h w hw).mono ?_
 rintro e w' ⟨v, S', rfl, hr, S'', hs, hp⟩
 exact ⟨v, S'', rfl, hr.subS hs, hp⟩
theorem PW.subS {pc : PC} {S' : SS} {Q : Exit -> TT -> SS -> Prop} (hs : Sub S' S) (h : PW P w0 n pc T S' Q) : PW P w0 n pc T S Q := PW.sub hs.mem hs.nodup h
theorem OL.subS {l : List PI} {S' : SS} {K : TT -> SS -> Prop} (hs : Sub S' S) (h : OL P w0 n l T S' K) : OL P w0 n l T S K :=
 fun ops is a w Q hc hsat hr hq => h ops is a w Q hc hsat (hr.subS hs) hq
theorem FC.subS {k : FuncId} {args : List Value} {S' : SS} {post : Value -> SS -> Prop} (hs : Sub S' S) (h : FC P w0 k args S' post) : FC P w0 k args S post := fun w hw => h w (hw.subS hs)
theorem Sub.join {a b : Seg} {S : SS} : Sub ((a ++ b) :: S) (a :: b :: S) := ⟨fun p hp => by simpa using hp, fun hn => by simpa using hn⟩
def LoopEnd (I : Nat -> TT -> SS -> Prop) (m : Nat) (T' : TT) (S' : SS) : Prop := ∃ T'' S'', Within T'' T' /\ Sub S'' S' /\ ∃ k, k < m /\ I k T'' S''
theorem LoopEnd.mk {I : Nat -> TT -> SS -> Prop} {m : Nat} {T' T'' : TT} {S' : SS} (h : Within T'' T') (k : ∃ k, k < m /\ I k T'' S') : LoopEnd I m T' S' := ⟨T'', S', h, Sub.refl _, k⟩
theorem LoopEnd.mkS {I : Nat -> TT -> SS -> Prop} {m : Nat} {T' T'' : TT} {S' S'' : SS} (hs : Sub S'' S') (h : Within T'' T') (k : ∃ k, k < m /\ I k T'' S'') : LoopEnd I m T' S' := ⟨T'', S'', h, hs, k⟩
theorem PW.keepS {pc : PC} {T' : TT} {Q : Exit -> TT -> SS -> Prop} (hk : ∀ i v, look T' i = some v -> look T i = some v) (h : PW P w0 n pc T' S Q) : PW P w0 n pc T S Q :=
 fun c hc a w hs hr => h c hc a w (hs.keep hk) hr
theorem PW.loopK {x : PC} {Q : Exit -> TT -> SS -> Prop} (I : Nat -> TT -> SS -> Prop) {m : Nat} (h0 : I m T S)
  (round : ∀ m T S, I m T S -> PW P w0 n x T S (thenK (LoopEnd I m) Q)) : PW P w0 n (.loop x) T S Q := by
 refine PW.loop (fun m T S => ∃ T' S', (∀ i v, look T' i = some v -> look T i = some v) /\ Sub S' S /\ I m T' S') (m := m) ⟨T, S, fun _ _ h => h, Sub.refl _, h0⟩ ?_
 rintro m T S ⟨T', S', hw, hsub, hI⟩
 refine PW.subS hsub (PW.keepS hw (PW.mono (round m T' S' hI) ?_))
 intro e T S h
 cases e with
 | normal =>
  obtain ⟨T'', S'', h1, h2, k, h3, h4⟩ := h
  exact ⟨k, h3, T'', S'', h1.spec, h2, h4⟩
 | _ => exact h
variable {ez : PI -> FZ} {Ss : SS -> Prop} {fr : Bool} {K : TT -> SS -> Prop}
theorem GL.det {po : PO} {d : Option Nat} {g : Option (Nat × Bool)} {v : Value} {r : List (Nat × PI)} (hg : gOk T g) (h : ∀ S, Ss S -> Yields P w0 n po T S v) (k : GL P w0 n ez Ss fr K r (put d v T) S) : GL P w0 n ez Ss fr K ((0, ⟨d, g, po⟩) :: r) T S := .inr ⟨hg, .inl ⟨rfl, v, h, k⟩⟩
theorem GL.dp {po : PO} {d : Option Nat} {v : Value} {r : List (Nat × PI)} (h : evalP po T = some v) (k : GL P w0 n ez Ss fr K r (put d v T) S) : GL P w0 n ez Ss fr K ((0, ⟨d, none, po⟩) :: r) T S := GL.det trivial (fun _ _ => .pure h) k
theorem GL.lo {po : PO} {d : Option Nat} {g : Option (Nat × Bool)} {r : List (Nat × PI)} (hg : gOk T g) (h : OW P w0 n po T S (fun v S' => Ss S' /\ GL P w0 n ez Ss false K r (put d v T) S')) : GL P w0 n ez Ss false K ((2, ⟨d, g, po⟩) :: r) T S :=
 .inr ⟨hg, .inr (.inr (.inl ⟨rfl, fun F hF => by rw [hF rfl]; exact h.mono fun v S' ⟨h1, h2⟩ => ⟨S', List.Perm.refl _, h1, h2⟩⟩))⟩
theorem GL.loF {po : PO} {d : Option Nat} {g : Option (Nat × Bool)} {r : List (Nat × PI)} (hg : gOk T g) (h : ∀ F, OW P w0 n po T (F ++ S) (fun v S' => ∃ S1, (F ++ S1).Perm S' /\ Ss S1 /\ GL P w0 n ez Ss true K r (put d v T) S1)) : GL P w0 n ez Ss true K ((2, ⟨d, g, po⟩) :: r) T S :=
 .inr ⟨hg, .inr (.inr (.inl ⟨rfl, fun F _ => h F⟩))⟩
theorem GL.fresh {E : TypeId} {z : List Value} {d : Option Nat} {g : Option (Nat × Bool)} {r : List (Nat × PI)} (hg : gOk T g) (k : ∀ q, GL P w0 n ez Ss true K r (put d (.pointer (some ⟨q, 0, none⟩)) T) ([(q, .cells z E z.length)] :: S)) (he : ez ⟨d, g, .al E z⟩ = (E, z, fun r => .pointer (some ⟨r, 0, none⟩)) := by rfl) : GL P w0 n ez Ss true K ((3, ⟨d, g, .al E z⟩) :: r) T S :=
 .inr ⟨hg, .inr (.inr (.inr ⟨rfl, rfl, fun S' => by simp only; rw [he]; exact OW.al, by simp only; rw [he]; exact k⟩))⟩
end
section
variable {P : Program} {w0 : World} {n : Nat} {T : TT} {S : SS}
theorem add_own (r j : Nat) : (⟨r, 0, none⟩ : Addr).add j = ⟨r, j, none⟩ := by rw [Addr.add_lit]; simp
theorem Yields.ixO {sz : Nat} {x i : PV} {r len cap j : Nat} {k : IntKind} {z : Int} (hx : x.val T = some (.slice (some ⟨r, 0, none⟩) len cap)) (hi : i.val T = some (.int k z)) (hz : z = (j : Int)) (h : j < len) :
  Yields P w0 n (.ixS sz x i) T S (.pointer (some ⟨r, j * sz, none⟩)) := by
 have := Yields.ixN (P := P) (w0 := w0) (n := n) (S := S) (sz := sz) hx hi hz h
 rwa [add_own] at this
theorem Yields.ixO1 {x i : PV} {r len cap j : Nat} {k : IntKind} {z : Int} (hx : x.val T = some (.slice (some ⟨r, 0, none⟩) len cap)) (hi : i.val T = some (.int k z)) (hz : z = (j : Int)) (h : j < len) :
  Yields P w0 n (.ixS 1 x i) T S (.pointer (some ⟨r, j, none⟩)) := by
 have := Yields.ixN1 (P := P) (w0 := w0) (n := n) (S := S) hx hi hz h
 rwa [add_own] at this
theorem made1 (z : Value) (hz : z.cells = #[z]) (m : Nat) : (madeCells z.cells (m * 1)).toList = List.replicate m z := by rw [hz, Nat.mul_one, toList_madeCells_one]
theorem setAt_get (c : List Value) (k : Nat) (v : Value) (h : k < c.length) (p : Nat) : (setAt c k [v])[p]? = if p = k then some v else c[p]? := by
 induction c generalizing k p with
 | nil => simp at h
 | cons x c ih =>
  cases k with
  | zero => cases p <;> simp [setAt, setAt_nil]
  | succ k =>
   simp only [setAt]
   cases p with
   | zero => simp
   | succ p => simp [ih k (by simpa using h) p]
theorem own_at {r E tot : Nat} {c : List Value} (h : (r, AO.cells c E tot) ∈ S.flatten) {j : Nat} {v : Value} (hj : c[j]? = some v) : Cell w0 S ⟨r, j, none⟩ v := by
 have := (Rd.own (w0 := w0) h).at hj
 rwa [add_own] at this
theorem cutV0 (A : Option Addr) (cap sz h : Nat) : cutV A cap sz 0 h = .slice A h cap := by
 unfold cutV
 have : A.map (fun a => a.add (0 * sz)) = A := by cases A <;> simp [Addr.add]
 rw [this]; simp
theorem Rd.pre {A : Option Addr} {cs cs' : List Value} (h : Rd w0 S A cs) (hp : cs' <+: cs) : Rd w0 S A cs' := by
 obtain ⟨r, rfl⟩ := hp
 intro j v hj
 have hlt := (List.getElem?_eq_some_iff.1 hj).1
 exact h j v (by rw [List.getElem?_append_left hlt]; exact hj)
theorem Sub.nilL {S' S : SS} (h : Sub S' S) : Sub ([] :: S') S := ⟨fun p hp => h.mem p (by simpa using hp), fun hn => by simpa using h.nodup hn⟩
theorem inBlk_n {k : Nat} {Q : Exit -> TT -> SS -> Prop} : inBlk k Q .normal T S = Q .normal T S := rfl
end
end Go.SL

namespace Go.SL
open Go.ChangeShapes Go.WideShapes Go.ChangeAt Go.RowKit
section
variable {H : Type} {enc : TypeId × Value -> H} {P : Program} {W : World}
theorem trodAll_below (hl : laidOutB P = true) {W' : World} (hb : Below W.heap.size W W') : ∀ {ts : List TypeId} {vs : List Value} {ds : List (DataW H)} {ps : List MemPlace}, ts.all (fun t => P.readableRec t && decide (t < P.types.size)) = true ->
  DataW.TrodAll enc P W 0 (fun _ => true) true ts vs ds ps -> DataW.TrodAll enc P W' 0 (fun b => decide (b < W.heap.size)) true ts vs ds ps
 | [], [], [], ps, _, h => h
 | t :: ts, v :: vs, d :: ds, ps, hr, h => by
  obtain ⟨p, q, h1, h2, rfl⟩ := h
  simp only [List.all_cons, Bool.and_eq_true, decide_eq_true_eq] at hr
  obtain ⟨m, hm⟩ := h1
  exact ⟨p, q, Below.trod hl hr.1.1 hr.1.2 ⟨m, hm⟩ hb (DataW.trod_lt m _ _ _ hm), trodAll_below hl hb hr.2 h2, rfl⟩
theorem FC.below {k : FuncId} {args : List Value} {v : Value} (h : FC P W k args [] (fun u _ => u = v)) : Calls P k args.toArray W fun e w' => e = .returned v /\ Below W.heap.size W w' :=
 (h W ⟨Below.refl _ _, by simp, by simp, .inr (Nat.le_refl _)⟩).mono fun e w' ⟨u, S', he, hr, hu⟩ => ⟨by rw [he, hu], hr.below⟩
end
end Go.SL

namespace Go.SL
open Go.RowKit
section
variable {P : Program} {w0 : World} {n : Nat} {T : TT} {S : SS}
theorem Yields.nilc {x : PV} {a : Addr} (hx : x.val T = some (.pointer (some a))) : Yields P w0 n (.nilc x) T S (.pointer (some a)) := by
 intro o ac w hco hs hr
 obtain ⟨y, ho, rfl⟩ := cOp_spec P hco
 simp [execOp, ho, hs.eval hx]
theorem ptrB_spec {t : TypeId} (h : ptrB P t = true) : ∃ e, P.underlying t = some (.pointer e) := by
 unfold ptrB at h
 split at h
 ·exact ⟨_, by assumption⟩
 simp at h
theorem Yields.eqPn {neg : Bool} {x y : PV} {A : Option Addr} (hx : x.val T = some (.pointer A)) (hy : y.val T = some (.pointer none)) : Yields P w0 n (.eqP neg x y) T S (.bool (if neg then A.isSome else A.isNone)) := by
 intro o ac w hco hs hr
 obtain ⟨t, a, b, u, ho, rfl, rfl, hp⟩ := cOp_spec P hco
 obtain ⟨e, he⟩ := ptrB_spec hp
 have heq : (Op.equalIn 10000 t (.pointer A) (.pointer none)).run P w = .ok A.isNone w := by
  unfold Op.equalIn
  cases A <;> simp [run_underlying he]
 cases neg
 ·simp [execOp, ho, hs.eval hx, hs.eval hy, eqGuard, binOp, Op.equal, Op.maxDepth, heq]
 simp [execOp, ho, hs.eval hx, hs.eval hy, eqGuard, binOp, Op.equal, Op.maxDepth, heq]
def bytesC (l : List UInt8) : List Value := l.map fun b => .int .u8 (b.toNat : Int)
theorem bytesC_length (l : List UInt8) : (bytesC l).length = l.length := by simp [bytesC]
theorem bytesC_all (l : List UInt8) : (bytesC l).all (·.oneCell') = true := by
 rw [List.all_eq_true]
 intro u hu
 obtain ⟨b, _, rfl⟩ := List.mem_map.1 hu
 rfl
theorem Yields.slA {len : Nat} {x : PV} {a : Addr} (hx : x.val T = some (.pointer (some a))) : Yields P w0 n (.slA len x) T S (.slice (some a) len len) := by
 intro o ac w hco hs hr
 obtain ⟨t, y, e, ie, ho, rfl, hu, hi⟩ := cOp_spec P hco
 have hb := run_bounds (P := P) false len len none none 0 len (.inr ⟨rfl, rfl⟩) (.inr ⟨rfl, rfl⟩) (Nat.zero_le _) (Nat.le_refl _) w
 have hsz : (sizeOf e).run P w = .ok ie.size w := by simp [sizeOf, typeInfo, program, hi, Sem.run]
 simp only [execOp, ho, hs.eval hx, Instr.sliceAt, Option.map_none]
 simp [run_underlying hu, Instr.sureAddr, hb, hsz]
 cases len <;> simp [Addr.add]
theorem Yields.mkF {f : FuncId} {caps : List PV} {vs : List Value} (hv : valsP T caps = some vs) : Yields P w0 n (.mkF f caps) T S (.func (.func f) #[] vs.toArray) := by
 intro o ac w hco hs hr
 obtain ⟨fi, cs, ho, hfi, rfl⟩ := cOp_spec P hco
 have hfi' : fi = #[] := by apply Array.toList_inj.1; simpa using hfi
 subst hfi'
 have hargs : cs.map ac.eval = vs.toArray := by
  have := valsP_spec hs hv
  rw [<- this, <- Array.toArray_toList (xs := cs.map ac.eval), Array.toList_map]
 simp [execOp, ho, Instr.makeFunc, hargs]
theorem OW.callv {f : PV} {g : FuncId} {args : List PV} {fi ca : List Value} {vs : List Value} {post : Value -> SS -> Prop} (hf : f.val T = some (.func (.func g) fi.toArray ca.toArray)) (hok : fnOk P g = true) (hv : valsP T args = some vs)
  (h : FC P w0 g (fi ++ vs ++ ca) S post) : OW P w0 n (.callv f args) T S post := by
 intro op ac w Q hco hs hr
 obtain ⟨cl, y, ho, hca, rfl, rfl⟩ := cOp_spec P hco
 have hargs : cl.args.map ac.eval = vs.toArray := by
  have := valsP_spec hs hv
  rw [<- this, <- Array.toArray_toList (xs := cl.args.map ac.eval), Array.toList_map]
 have hrun : (execOp ac.eval op).run P w = .ok (.enter g (fi ++ vs ++ ca).toArray) w := by
  unfold fnOk at hok
  split at hok
  ·rename_i fn hfn
   simp only [Bool.and_eq_true, bne_iff_ne, ne_eq] at hok
   have hb : ¬ fn.body = none := by intro hh; simp [hh] at hok
   simp only [execOp, ho, resolve, hca, hs.eval hf, Deferred.ofValue]
   simp [invoke, callFunc, program, Sem.run, hfn, hok.1, hb, hargs]
  simp at hok
 unfold Oper.wp
 rw [hrun]
 refine (h w hr).mono ?_
 rintro e w' ⟨v, S', rfl, hr', hp⟩
 exact ⟨v, S', rfl, hr', hp⟩
theorem OW.bsl0 {E : TypeId} : OW P w0 n (.bsl0 E) T S (fun v S' => ∃ r, v = .slice (some ⟨r, 0, none⟩) 0 0 /\ S' = [(r, .cells [] E 0)] :: S) := by
 intro op a w Q hco hs hr
 obtain ⟨t, l, qs, i, ho, rfl, hq, hu, hi⟩ := cOp_spec P hco
 have hq' : qs = #[] := by apply Array.toList_inj.1; simpa using hq
 subst hq'
 have hrun : (execOp a.eval op).run P w = .ok (.value (.slice (some ⟨w.heap.size, 0, none⟩) 0 0)) (w.alloc (.cells #[] E)) := by
  have hsz : (sizeOf E).run P w = .ok i.size w := by simp [sizeOf, typeInfo, program, hi, Sem.run]
  simp [execOp, ho, Instr.buildSlice, run_underlying hu, hsz, Instr.fill, newRow, newObj, Sem.run]
  rw [show Array.range 0 = #[] from by simp [Array.range], Array.map_empty]
 unfold Oper.wp
 rw [hrun]
 exact ⟨_, _, rfl, by simpa using hr.alloc #[] E, w.heap.size, rfl, rfl⟩
def KnownC (P : Program) (k : FuncId) (pc : PC) (n s : Nat) (m : Option Nat) : Prop :=
 ∃ fn c t, P.funcs[k]? = some fn /\ fn.body = some c /\ cC P fn.ntmps c = some pc /\ fn.ntmps = n /\ fn.results = #[.cell s t] /\ aggOf P t = some m
def ReadsAs (w0 : World) (S : SS) (m : Option Nat) (a : Addr) (v : Value) : Prop := match m with
 | none => Cell w0 S a v
 | some m => ∃ cs : List Value, v = .agg cs.toArray /\ cs.length = m /\ ∀ j u, cs[j]? = some u -> Cell w0 S (a.add j) u
theorem FC.ofC {k : FuncId} {pc : PC} {s : Nat} {m : Option Nat} {args : List Value} {post : Value -> SS -> Prop} (hk : KnownC P k pc n s m) (hn : args.length <= n)
  (h : PW P w0 n pc (argT 0 args) S (fun e T' S' => (e = .normal ∨ e = .ret) /\ ∃ a v, look T' s = some (.pointer (some a)) /\ ReadsAs w0 S' m a v /\ ∃ S'', Sub S'' S' /\ post v S'')) : FC P w0 k args S post := by
 obtain ⟨fn, c, t, hf, hb, hc, rfl, hres, hm⟩ := hk
 intro w hw
 refine calls_of_wp hf hb (wp_mono (h c hc _ w (argT_sat hn) hw) ?_)
 rintro e a' w' ⟨T', S', hs', hr', he, a, v, hl, hv, S'', hsub, hp⟩
 have ht := hs'.get s _ hl
 have hload : (loadVar t a).run P w' = .ok v w' := by
  cases m with
  | none =>
   obtain ⟨d, hu, hd⟩ := aggOf_none hm
   have := hr'.cell hv
   simp [loadVar, run_isAgg hu, hd, load, Sem.run, this]
  | some m =>
   obtain ⟨cs, rfl, hcl, hcs⟩ := hv
   obtain ⟨d, i, hu, hd, hi, hsz⟩ := aggOf_some hm
   have hload := run_loadCells_list (P := P) w' a cs (fun j v hj => hr'.cell (hcs j v hj))
   rw [hcl] at hload
   simp [loadVar, run_isAgg hu, hd, sizeOf, typeInfo, program, hi, hsz, hload, Sem.run]
 have hrun : (results fn a'.tmps).run P w' = .ok v w' := by
  simp [results, hres, ht, asAddr, hload]
 rcases he with rfl | rfl
 ·exact ⟨hs'.defers, v, hrun, v, S'', rfl, hr'.subS hsub, hp⟩
 exact ⟨hs'.defers, v, hrun, v, S'', rfl, hr'.subS hsub, hp⟩
end
section
variable {P : Program} {w0 : World} {n : Nat} {T : TT} {S : SS}
theorem Yields.binRaw {op : BinOp} {x y : PV} {u v r : Value} (hx : x.val T = some u) (hy : y.val T = some v) (hg : ∀ t a b w, (eqGuard op t a b u v).run P w = .ok () w) (h : ∀ t w, (binOp op t u v).run P w = .ok r w) : Yields P w0 n (.bin op x y) T S r := by
 intro o ac w hco hs hr
 obtain ⟨t, c, d, z, ho, rfl, rfl, hp⟩ := cOp_spec P hco
 simp only [execOp, ho, hs.eval hx, hs.eval hy]
 simp [hg, h]
theorem Yields.quo {x y : PV} {k : IntKind} {a b : Int} (hx : x.val T = some (.int k a)) (hy : y.val T = some (.int k b)) (hb : b ≠ 0) : Yields P w0 n (.bin .quo x y) T S (.int k (k.wrap (a.tdiv b))) :=
 Yields.binRaw hx hy (fun t a b w => by simp [eqGuard]) (fun t w => by simp [binOp, Op.intDiv, hb])
end
end Go.SL







namespace Go.SL
open Go.RowKit
section
variable {P : Program} {w0 : World} {n : Nat} {T : TT} {S : SS}
theorem constNil2 {y : Operand} (h : constNil y = 2) : y = .const (.slice none 0 0) := by
 unfold constNil at h
 split at h
 ·cases h
 ·rfl
 cases h
theorem Yields.mkI {t : TypeId} {x : PV} {v : Value} (hx : x.val T = some v) : Yields P w0 n (.more (.mkI t x)) T S (.iface t v) := by
 intro o a w hco hs hr
 obtain ⟨y, d, ho, rfl, hu, hd⟩ := cOp_spec P hco
 have : (Instr.makeInterface t v).run P w = .ok (.iface t v) w := by
  unfold Instr.makeInterface
  simp only [Sem.run_bind, run_underlying hu, Result.andThen_ok]
  cases d <;> (first | rfl | exact absurd rfl (hd _))
 simp [execOp, ho, hs.eval hx, this]
theorem Yields.slNil {neg : Bool} {x : PV} {A : Option Addr} {l c : Nat} (hx : x.val T = some (.slice A l c)) : Yields P w0 n (.more (.slNil neg x)) T S (.bool (if neg then A.isSome else A.isNone)) := by
 intro o a w hco hs hr
 obtain ⟨t, y, z, u, e, ho, rfl, hz, hu⟩ := cOp_spec P hco
 obtain rfl := constNil2 hz
 have he : a.eval (.const (.slice none 0 0)) = .slice none 0 0 := rfl
 have heq0 : ∀ d, (Op.equalIn (d + 1) t (.slice A l c) (.slice none 0 0)).run P w = .ok A.isNone w := by
  intro d
  cases A <;> simp [Op.equalIn, run_underlying hu]
 have heq : (Op.equal t (.slice A l c) (.slice none 0 0)).run P w = .ok A.isNone w := heq0 9999
 cases neg
 ·simp only [execOp, ho, Bool.false_eq_true, if_false, hs.eval hx, he]
  simp [eqGuard, binOp, heq]
 simp only [execOp, ho, if_true, hs.eval hx, he]
 simp [eqGuard, binOp, heq]
theorem Yields.bldA {zero : List Value} {parts : List (Nat × Nat × PV)} {cs : List Value} (h : fillP T zero parts = some cs) : Yields P w0 n (.more (.bldA zero parts)) T S (.agg cs.toArray) := by
 intro o a w hco hs hr
 obtain ⟨t, qs, m, e, i, ie, z, ho, hu, hi, hie, hz, rfl, hpa⟩ := cOp_spec P hco
 have hfill := fill_spec hs (place := fun j => some (j * ie.size, ie.size)) (cells := z.cells) hpa h
 simp only [execOp, ho]
 have hb : P.built t (qs.map fun (i, x) => (i, a.eval x)).toList = some cs.toArray := by
  unfold Program.built
  simp only [hi, hu, hz, hie]
  simp only [Array.toList_map]
  exact hfill
 have := run_build (P := P) w t _ cs.toArray hb
 simp only [Sem.run_bind, this, Result.andThen_ok]
 rfl
theorem OW.cvS {x : PV} {b o l c k E tot : Nat} {cs : List Value} (hx : x.val T = some (.slice (some ⟨b, o, none⟩) l c)) (hk : S[k]? = some [(b, .cells cs E tot)]) :
  OW P w0 n (.more (.cvS x)) T S (fun v S' => v = .slice (some ⟨b, o, none⟩) l c /\ S' = S.set k [(b, .ro cs)]) := by
 intro op a w Q hco hs hr
 obtain ⟨s, t, y, e, ho, rfl, rfl, hu, he⟩ := cOp_spec P hco
 obtain ⟨hge, C, hC, htot, hpre⟩ := hr.own (b, .cells cs E tot) (List.mem_flatten.2 ⟨_, List.mem_of_getElem? hk, by simp⟩)
 simp only at hge hC
 have hlt : b < w.heap.size := (Array.getElem?_eq_some_iff.1 hC).1
 have hrun : (execOp a.eval op).run P w = .ok (.value (.slice (some ⟨b, o, none⟩) l c)) (w.freeze ⟨b, C.size, none⟩ 1) := by
  simp only [execOp, ho, hs.eval hx, convert]
  have hsh : w.shape? b = some (E, C.size) := by simp [World.shape?, hC]
  simp [run_underlying hu, run_underlying he, markStringish, shape, freeze, Sem.run, hsh]
 unfold Oper.wp
 rw [hrun]
 refine ⟨_, _, rfl, ?_, rfl, rfl⟩
 have hheap : ∀ i, i ≠ b -> (w.freeze ⟨b, C.size, none⟩ 1).heap[i]? = w.heap[i]? := by
  intro i hi
  simp [World.freeze, Array.getElem?_modify]
  intro e
  exact absurd e.symm hi
 refine hr.replace hk ⟨rfl, rfl, rfl, by simp [World.freeze], fun i hi => hheap i (by omega)⟩ (fun i _ hne => hheap i (by simpa using hne)) (by simp) ?_
 intro p hp
 simp only [List.mem_singleton] at hp
 subst hp
 refine ⟨hge, ?_, .inl (by simp)⟩
 refine ⟨C, E, (C.size, C.size + 1), ?_, hpre⟩
 simp [World.freeze, Array.getElem?_modify, hC]
theorem OW.rngS {x : PV} {s : ByteArray} (hx : x.val T = some (.string s)) : OW P w0 n (.more (.rngS x)) T S (fun v S' => ∃ r, v = .pointer (some ⟨r, 0, none⟩) /\ S' = [(r, .obj (.stringIter s 0))] :: S) := by
 intro op a w Q hco hs hr
 obtain ⟨t, y, ho, rfl, hu⟩ := cOp_spec P hco
 have hrun : (execOp a.eval op).run P w = .ok (.value (.pointer (some ⟨w.heap.size, 0, none⟩))) (w.alloc (.stringIter s 0)) := by
  simp [execOp, ho, hs.eval hx, Instr.range, run_underlying hu, newObj, Sem.run]
 unfold Oper.wp
 rw [hrun]
 refine ⟨_, _, rfl, ?_, w.heap.size, rfl, rfl⟩
 refine hr.push (below_alloc hr _) (fun i hi => alloc_heap_lt w _ i hi) (by simp) ?_
 intro p hp
 simp only [List.mem_singleton] at hp
 subst hp
 exact ⟨alloc_heap_new w _, Nat.le_refl _⟩
theorem iter_at {w : World} {k b : Nat} {o : Obj} (h : Rep w0 S w) (hk : S[k]? = some [(b, .obj o)]) : w0.heap.size <= b /\ w.heap[b]? = some o :=
 h.own (b, .obj o) (List.mem_flatten.2 ⟨_, List.mem_of_getElem? hk, by simp⟩)
theorem OW.nxtS_end {x : PV} {s : ByteArray} {b k p : Nat} (hx : x.val T = some (.pointer (some ⟨b, 0, none⟩))) (hk : S[k]? = some [(b, .obj (.stringIter s p))]) (hp : ¬ p < s.size) :
  Yields P w0 n (.more (.nxtS x)) T S (.tuple #[.bool false]) := by
 intro op a w hco hs hr
 obtain ⟨y, ho, rfl⟩ := cOp_spec P hco
 obtain ⟨_, hw⟩ := iter_at hr hk
 simp [execOp, ho, hs.eval hx, Instr.next, getObj, Sem.run, hw, hp]
theorem OW.nxtS {x : PV} {s : ByteArray} {b k p : Nat} (hx : x.val T = some (.pointer (some ⟨b, 0, none⟩))) (hk : S[k]? = some [(b, .obj (.stringIter s p))]) (hp : p < s.size) :
  OW P w0 n (.more (.nxtS x)) T S (fun v S' => v = .tuple #[.bool true, .int .i64 (p : Int), .int .i32 ((Utf8.decode s p).1 : Int)] /\ S' = S.set k [(b, .obj (.stringIter s (p + (Utf8.decode s p).2)))]) := by
 intro op a w Q hco hs hr
 obtain ⟨y, ho, rfl⟩ := cOp_spec P hco
 obtain ⟨hge, hw⟩ := iter_at hr hk
 have hlt : b < w.heap.size := (Array.getElem?_eq_some_iff.1 hw).1
 have hrun : (execOp a.eval op).run P w = .ok (.value (.tuple #[.bool true, .int .i64 (p : Int), .int .i32 ((Utf8.decode s p).1 : Int)])) { w with heap := w.heap.setIfInBounds b (.stringIter s (p + (Utf8.decode s p).2)) } := by
  simp [execOp, ho, hs.eval hx, Instr.next, getObj, setObj, Sem.run, hw, hp, goInt]
 unfold Oper.wp
 rw [hrun]
 refine ⟨_, _, rfl, ?_, rfl, rfl⟩
 refine hr.replace hk ⟨rfl, rfl, rfl, by simp, fun i hi => ?_⟩ (fun i hi hne => ?_) (by simp) ?_
 ·have : b ≠ i := by omega
  simp [Array.getElem?_setIfInBounds_ne this]
 ·have : b ≠ i := by simp at hne; omega
  simp [Array.getElem?_setIfInBounds_ne this]
 intro q hq
 simp only [List.mem_singleton] at hq
 subst hq
 refine ⟨hge, ?_, .inl (by simp)⟩
 show ({ w with heap := w.heap.setIfInBounds b (.stringIter s (p + (Utf8.decode s p).2)) } : World).heap[b]? = some _
 simp [hlt]
end
def eqL : List CK -> List Value -> List Value -> Option Bool
 | [], [], [] => some true
 | c :: cs, x :: xs, y :: ys => match eqCell c x y, eqL cs xs ys with | some p, some q => some (p && q) | _, _ => none
 | _, _, _ => none
theorem eqL_cons {c : CK} {cs : List CK} {xs ys : List Value} {r : Bool} (h : eqL (c :: cs) xs ys = some r) : ∃ x xs' y ys' p q, xs = x :: xs' /\ ys = y :: ys' /\ eqCell c x y = some p /\ eqL cs xs' ys' = some q /\ r = (p && q) := by
 cases xs with
 | nil => simp [eqL] at h
 | cons x xs' =>
  cases ys with
  | nil => simp [eqL] at h
  | cons y ys' =>
   simp only [eqL] at h
   split at h
   ·rename_i p q h1 h2
    exact ⟨x, xs', y, ys', p, q, rfl, rfl, h1, h2, (Option.some.inj h).symm⟩
   cases h
theorem eqL_append {s t : List CK} : ∀ {xs ys : List Value} {r : Bool}, eqL (s ++ t) xs ys = some r -> ∃ p q, eqL s (xs.take s.length) (ys.take s.length) = some p /\ eqL t (xs.drop s.length) (ys.drop s.length) = some q /\ r = (p && q) := by
 induction s with
 | nil => intro xs ys r h; exact ⟨true, r, by simp [eqL], by simpa using h, by simp⟩
 | cons c s ih =>
  intro xs ys r h
  obtain ⟨x, xs', y, ys', p, q, rfl, rfl, h1, h2, rfl⟩ := eqL_cons (cs := s ++ t) h
  obtain ⟨p', q', h3, h4, rfl⟩ := ih h2
  exact ⟨p && p', q', by simp [eqL, h1, h3], by simpa using h4, by rw [Bool.and_assoc]⟩
theorem eqL_len {s : List CK} : ∀ {xs ys : List Value} {r : Bool}, eqL s xs ys = some r -> xs.length = s.length /\ ys.length = s.length := by
 induction s with
 | nil => intro xs ys r h; cases xs <;> cases ys <;> simp [eqL] at h ⊢
 | cons c s ih =>
  intro xs ys r h
  obtain ⟨x, xs', y, ys', p, q, rfl, rfl, h1, h2, rfl⟩ := eqL_cons h
  have := ih h2
  simp [this]
section
variable {P : Program} {w0 : World} {n : Nat} {T : TT} {S : SS} {w : World}
def AggEq (P : Program) (w : World) (d : Nat) : Prop := ∀ (t : TypeId) (sh : List CK), deepQ P d t = some sh -> ckOf P t = none -> (∃ dd, P.underlying t = some dd /\ rowD dd = true) /\
 ∀ (D : Nat), d <= D -> ∀ (xs ys : Array Value) (r : Bool), eqL sh xs.toList ys.toList = some r -> (Op.equalIn D t (.agg xs) (.agg ys)).run P w = .ok r w
theorem part_eq {d : Nat} (ih : AggEq P w d) {t : TypeId} {sh : List CK} (hd : deepQ P d t = some sh) (hc : P.cellsOf t = sh.length) {D : Nat} (hD : d <= D) (h1 : 0 < d) {xs ys : Array Value} {off : Nat} {r : Bool}
  (h : eqL sh ((xs.toList.drop off).take sh.length) ((ys.toList.drop off).take sh.length) = some r) : ∃ a b, (part t xs off).run P w = .ok a w /\ (part t ys off).run P w = .ok b w /\ (Op.equalIn D t a b).run P w = .ok r w := by
 cases hk : ckOf P t with
 | some c =>
  obtain ⟨d', rfl⟩ : ∃ d', d = d' + 1 := ⟨d - 1, by omega⟩
  simp only [deepQ, hk, Option.some.injEq] at hd
  subst hd
  obtain ⟨x, xs', y, ys', p, q, hx, hy, h2, h3, rfl⟩ := eqL_cons h
  have hq : q = true := by
   have := eqL_len h3
   obtain ⟨l1, l2⟩ := this
   have e1 : xs' = [] := List.eq_nil_of_length_eq_zero (by simpa using l1)
   have e2 : ys' = [] := List.eq_nil_of_length_eq_zero (by simpa using l2)
   subst e1; subst e2
   simpa [eqL] using h3.symm
  have get : ∀ (zs : Array Value) z zs', (zs.toList.drop off).take 1 = z :: zs' -> zs[off]? = some z := by
   intro zs z zs' hz
   have : ((zs.toList.drop off).take 1)[0]? = some z := by rw [hz]; rfl
   simpa using this
  obtain ⟨dd, hu, hrow⟩ := ckOf_agg hk
  obtain ⟨D', rfl⟩ : ∃ D', D = D' + 1 := ⟨D - 1, by omega⟩
  refine ⟨x, y, ?_, ?_, ?_⟩
  ·simp [part, run_isAgg hu, hrow, get xs x xs' hx]
  ·simp [part, run_isAgg hu, hrow, get ys y ys' hy]
  rw [hq, Bool.and_true]
  exact run_eqCell hk h2 D' w
 | none =>
  obtain ⟨⟨dd, hu, hrow⟩, hrun⟩ := ih t sh hd hk
  obtain ⟨i, hi⟩ := info_of_underlying hu
  have hsz := run_sizeOf w hi
  have hpart : ∀ zs : Array Value, (part t zs off).run P w = .ok (.agg (zs.extract off (off + sh.length))) w := by
   intro zs
   simp only [part, Sem.run_bind, run_isAgg hu, hrow, Result.andThen_ok, if_true, hsz, hc]
   rfl
  refine ⟨_, _, hpart xs, hpart ys, hrun D hD _ _ r ?_⟩
  simpa [List.extract] using h
theorem eqFields_deep {d : Nat} (ih : AggEq P w d) (h1 : 0 < d) {D : Nat} (hD : d <= D) {xs ys : Array Value} : ∀ (fs : List Field) (off : Nat) (sh : List CK) (r : Bool), structQ P (deepQ P d) off fs = some sh -> eqL sh (xs.toList.drop off) (ys.toList.drop off) = some r -> (Op.eqFields D xs ys fs).run P w = .ok r w
 | [], off, sh, r, hs, he => by
  simp only [structQ, Option.some.injEq] at hs
  subst hs
  have := eqL_len he
  obtain ⟨l1, l2⟩ := this
  have e1 : xs.toList.drop off = [] := List.eq_nil_of_length_eq_zero l1
  have e2 : ys.toList.drop off = [] := List.eq_nil_of_length_eq_zero l2
  rw [e1, e2] at he
  simp only [eqL, Option.some.injEq] at he
  subst he
  simp [Op.eqFields]
 | f :: fs, off, sh, r, hs, he => by
  simp only [structQ] at hs
  split at hs
  ·rename_i s hf
   split at hs
   ·rename_i hc
    obtain ⟨ho, hcells, hname⟩ := hc
    simp only [Option.map_eq_some_iff] at hs
    obtain ⟨sh', hs', rfl⟩ := hs
    obtain ⟨p, q, h2, h3, rfl⟩ := eqL_append he
    rw [List.drop_drop, List.drop_drop] at h3
    obtain ⟨a, b, g1, g2, g3⟩ := part_eq ih hf hcells hD h1 h2
    subst ho
    simp only [Op.eqFields, hname, ne_eq, not_false_eq_true, if_true, Sem.run_bind, g1, g2, g3, Result.andThen_ok]
    cases p
    ·simp
    simp only [Bool.not_true, Bool.false_eq_true, if_false, Bool.true_and]
    exact eqFields_deep ih h1 hD fs _ sh' q hs' h3
   cases hs
  cases hs
theorem eqItems_deep {d : Nat} (ih : AggEq P w d) (h1 : 0 < d) {D : Nat} (hD : d <= D) {xs ys : Array Value} {e : TypeId} {s : List CK} (hd : deepQ P d e = some s) (hc : P.cellsOf e = s.length) : ∀ (m i : Nat) (r : Bool), eqL (List.replicate m s).flatten (xs.toList.drop (i * s.length)) (ys.toList.drop (i * s.length)) = some r ->
  (Op.eqItems D e (P.cellsOf e) xs ys (List.range' i m)).run P w = .ok r w
 | 0, i, r, he => by
  obtain ⟨l1, l2⟩ := eqL_len he
  have e1 : xs.toList.drop (i * s.length) = [] := List.eq_nil_of_length_eq_zero (by simpa using l1)
  have e2 : ys.toList.drop (i * s.length) = [] := List.eq_nil_of_length_eq_zero (by simpa using l2)
  rw [e1, e2] at he
  have : r = true := by simpa [eqL] using he.symm
  subst this
  simp [Op.eqItems]
 | m + 1, i, r, he => by
  rw [List.replicate_succ, List.flatten_cons] at he
  obtain ⟨p, q, h2, h3, rfl⟩ := eqL_append he
  rw [List.drop_drop, List.drop_drop] at h3
  obtain ⟨a, b, g1, g2, g3⟩ := part_eq ih hd hc hD h1 h2
  rw [<- hc] at g1 g2
  rw [List.range'_succ]
  simp only [Op.eqItems, Sem.run_bind, g1, g2, g3, Result.andThen_ok]
  cases p
  ·simp
  simp only [Bool.not_true, Bool.false_eq_true, if_false, Bool.true_and]
  refine eqItems_deep ih h1 hD hd hc m (i + 1) q ?_
  rw [show (i + 1) * s.length = i * s.length + s.length by rw [Nat.add_mul, Nat.one_mul]]
  exact h3
theorem agg_eq (P : Program) (w : World) : ∀ d, AggEq P w d
 | 0 => fun t sh h => by simp [deepQ] at h
 | d + 1 => by
  intro t sh h hk
  have ih := agg_eq P w d
  simp only [deepQ, hk] at h
  split at h
  ·rename_i fs hu
   split at h
   ·rename_i hst
    refine ⟨⟨_, hu, rfl⟩, fun D hD xs ys r he => ?_⟩
    obtain ⟨D', rfl⟩ : ∃ D', D = D' + 1 := ⟨D - 1, by omega⟩
    have hfs : P.fieldsOf t = fs := by simp [Program.fieldsOf, hu]
    rw [run_equalIn_struct w D' t xs ys (by rw [hfs]; exact hu) hst, hfs]
    by_cases h0 : 0 < d
    ·exact eqFields_deep ih h0 (by omega) _ 0 sh r h (by simpa using he)
    obtain rfl : d = 0 := by omega
    cases hl : fs.toList with
    | nil =>
     rw [hl] at h
     simp only [structQ, Option.some.injEq] at h
     subst h
     obtain ⟨l1, l2⟩ := eqL_len he
     have e1 : xs.toList = [] := List.eq_nil_of_length_eq_zero l1
     have e2 : ys.toList = [] := List.eq_nil_of_length_eq_zero l2
     rw [e1, e2] at he
     simp only [eqL, Option.some.injEq] at he
     subst he
     simp [Op.eqFields]
    | cons f fs => rw [hl] at h; simp [structQ, deepQ] at h
   cases h
  ·rename_i m e hu
   split at h
   ·rename_i s hs
    split at h
    ·rename_i hc
     obtain rfl := Option.some.inj h
     refine ⟨⟨_, hu, rfl⟩, fun D hD xs ys r he => ?_⟩
     obtain ⟨D', rfl⟩ : ∃ D', D = D' + 1 := ⟨D - 1, by omega⟩
     obtain ⟨i, hi⟩ : ∃ i, P.info? e = some i := by
      cases hq : P.info? e with
      | some i => exact ⟨i, rfl⟩
      | none =>
       exfalso
       by_cases h0 : 0 < d
       ·obtain ⟨d', rfl⟩ : ∃ d', d = d' + 1 := ⟨d - 1, by omega⟩
        have hun : P.underlying e = none := by
         cases hx : P.underlying e with
         | none => rfl
         | some x => obtain ⟨i, hi⟩ := info_of_underlying hx; rw [hq] at hi; cases hi
        simp [deepQ, ckOf, hun] at hs
       obtain rfl : d = 0 := by omega
       simp [deepQ] at hs
     rw [run_equalIn_array w D' xs ys hu hi, List.range_eq_range']
     have h0 : 0 < d := Nat.pos_of_ne_zero fun e => by subst e; simp [deepQ] at hs
     exact eqItems_deep ih h0 (by omega) hs hc m 0 r (by simpa using he)
    cases h
   cases h
  cases h
theorem Yields.eqD {neg : Bool} {t : TypeId} {sh : List CK} {x y : PV} {xs ys : Array Value} {r : Bool} (hx : x.val T = some (.agg xs)) (hy : y.val T = some (.agg ys)) (h : eqL sh xs.toList ys.toList = some r) :
  Yields P w0 n (.more (.eqD neg t sh x y)) T S (.bool (if neg then !r else r)) := by
 intro o a w hco hs hr
 obtain ⟨c, d, u, ho, rfl, rfl, hfl, hg, dd, hu, hdd⟩ := cOp_spec P hco
 have hk : ckOf P t = none := by
  unfold ckOf
  rw [hu]
  cases dd <;> simp_all
 have heq : (Op.equalIn 10000 t (.agg xs) (.agg ys)).run P w = .ok r w := (agg_eq P w 8 t sh hfl hk).2 10000 (by omega) xs ys r h
 simp only [execOp, ho, hs.eval hx, hs.eval hy]
 cases neg
 ·simp only [Bool.false_eq_true, if_false, Sem.run_bind, run_eqGuard_agg w .eql t c d xs ys hg, Result.andThen_ok, run_eql_struct, heq]
  simp
 simp only [if_true, Sem.run_bind, run_eqGuard_agg w .neq t c d xs ys hg, Result.andThen_ok]
 have : (binOp .neq t (.agg xs) (.agg ys)).run P w = .ok (.bool !r) w := by
  show (do Pure.pure (Value.bool (!(<- Op.equal t (.agg xs) (.agg ys)))) : Sem Value).run P w = _
  have h2 : (Op.equal t (.agg xs) (.agg ys)).run P w = .ok r w := heq
  simp [h2]
 simp [this]
end
end Go.SL



namespace Go.SL
open Go.RowKit
section
variable {P : Program} {w0 : World} {n : Nat} {T : TT} {S : SS}
theorem Rep.allocObj {w : World} (h : Rep w0 S w) (o : Obj) : Rep w0 ([(w.heap.size, .obj o)] :: S) (w.alloc o) := by
 refine h.push (below_alloc h _) (fun i hi => alloc_heap_lt w _ i hi) (by simp) ?_
 intro p hp
 simp only [List.mem_singleton] at hp
 subst hp
 exact ⟨World.alloc_heap_new w o, Nat.le_refl _⟩
end
end Go.SL



namespace Go.SL
open Go.RowKit
section
variable {P : Program} {w0 : World} {n : Nat} {T : TT} {S : SS}
theorem Yields.cap {x : PV} {A : Option Addr} {l c : Nat} (hx : x.val T = some (.slice A l c)) : Yields P w0 n (.more (.other (.cap x))) T S (.int .i64 (c : Int)) := by
 intro o a w hco hs hr
 obtain ⟨cl, t, y, e, ho, hca, hat, har, rfl, hu⟩ := cOp_spec P hco
 simp only [execOp, ho, resolve, hca, invoke, builtin, hat, har]
 simp [Builtin.cap_, hs.eval hx, run_underlying hu, goInt]
theorem OW.xf {f : FuncId} {args : List PV} {vs : List Value} {v : Value} (hv : valsP T args = some vs) (h : ∀ w, Rep w0 S w -> (callFunc f vs.toArray).run P w = .ok (.value v) w) :
  OW P w0 n (.more (.other (.xf f args))) T S (fun u S' => u = v /\ S' = S) := by
 intro o a w Q hco hs hr
 obtain ⟨c, ho, hca, rfl⟩ := cOp_spec P hco
 have hargs : c.args.map a.eval = vs.toArray := by
  apply Array.toList_inj.1
  simpa using valsP_spec hs hv
 unfold Oper.wp
 have hrun : (execOp a.eval o).run P w = .ok (.value v) w := by
  simp only [execOp, ho]
  simp [resolve, hca, Act.eval, Deferred.ofValue, invoke, hargs, h w hr]
 rw [hrun]
 exact ⟨v, S, rfl, hr, rfl, rfl⟩
def KnownCT (P : Program) (k : FuncId) (pc : PC) (n s u : Nat) (m : Option Nat) : Prop :=
 ∃ fn c t, P.funcs[k]? = some fn /\ fn.body = some c /\ cC P fn.ntmps c = some pc /\ fn.ntmps = n /\ fn.results = #[.cell s t, .tmp u] /\ aggOf P t = some m
theorem FC.ofCT {k : FuncId} {pc : PC} {s u : Nat} {m : Option Nat} {args : List Value} {post : Value -> SS -> Prop} (hk : KnownCT P k pc n s u m) (hn : args.length <= n)
  (h : PW P w0 n pc (argT 0 args) S (fun e T' S' => (e = .normal ∨ e = .ret) /\ ∃ a v x, look T' s = some (.pointer (some a)) /\ ReadsAs w0 S' m a v /\ look T' u = some x /\ ∃ S'', Sub S'' S' /\ post (.tuple #[v, x]) S'')) : FC P w0 k args S post := by
 obtain ⟨fn, c, t, hf, hb, hc, rfl, hres, hm⟩ := hk
 intro w hw
 refine calls_of_wp hf hb (wp_mono (h c hc _ w (argT_sat hn) hw) ?_)
 rintro e a' w' ⟨T', S', hs', hr', he, a, v, x, hl, hv, hx, S'', hsub, hp⟩
 have ht := hs'.get s _ hl
 have htx := hs'.get u _ hx
 have hload : (loadVar t a).run P w' = .ok v w' := by
  cases m with
  | none =>
   obtain ⟨d, hu, hd⟩ := aggOf_none hm
   have := hr'.cell hv
   simp [loadVar, run_isAgg hu, hd, load, Sem.run, this]
  | some m =>
   obtain ⟨cs, rfl, hcl, hcs⟩ := hv
   obtain ⟨d, i, hu, hd, hi, hsz⟩ := aggOf_some hm
   have hload := run_loadCells_list (P := P) w' a cs (fun j v hj => hr'.cell (hcs j v hj))
   rw [hcl] at hload
   simp [loadVar, run_isAgg hu, hd, sizeOf, typeInfo, program, hi, hsz, hload, Sem.run]
 have hrun : (results fn a'.tmps).run P w' = .ok (.tuple #[v, x]) w' := by
  simp [results, hres, ht, htx, asAddr, hload]
 rcases he with rfl | rfl
 ·exact ⟨hs'.defers, _, hrun, _, S'', rfl, hr'.subS hsub, hp⟩
 exact ⟨hs'.defers, _, hrun, _, S'', rfl, hr'.subS hsub, hp⟩
end
end Go.SL





abbrev Go.SL.zo (d : Nat) (x : Go.SL.PO) : Go.SL.PI := ⟨some d, none, x⟩
abbrev Go.SL.zm (d a : Nat) : Go.SL.PI := ⟨some d, none, .mov (.t a)⟩
abbrev Go.SL.zg (d g : Nat) (b : Bool) (x : Go.SL.PO) : Go.SL.PI := ⟨some d, some (g, b), x⟩
abbrev Go.SL.zz : Go.Value := .int .u8 0
abbrev Go.SL.yy : Go.SL.CK := .int .u8
abbrev Go.SL.zC0 : List Go.Value := [.int .i64 0, Go.SL.zz, Go.SL.zz, Go.SL.zz, Go.SL.zz, Go.SL.zz, Go.SL.zz, Go.SL.zz, Go.SL.zz, Go.SL.zz, Go.SL.zz, Go.SL.zz, Go.SL.zz, Go.SL.zz, Go.SL.zz, Go.SL.zz, Go.SL.zz, Go.SL.zz, Go.SL.zz, Go.SL.zz, Go.SL.zz, Go.SL.zz, Go.SL.zz, Go.SL.zz, Go.SL.zz, Go.SL.zz, Go.SL.zz, Go.SL.zz, Go.SL.zz, Go.SL.zz, Go.SL.zz, Go.SL.zz, Go.SL.zz, .int .i64 0, .string ⟨#[]⟩, .int .i64 0, .int .u64 0, Go.SL.zz, Go.SL.zz, Go.SL.zz, Go.SL.zz, Go.SL.zz, Go.SL.zz, Go.SL.zz, Go.SL.zz, Go.SL.zz, Go.SL.zz, Go.SL.zz, Go.SL.zz, Go.SL.zz, Go.SL.zz, Go.SL.zz, Go.SL.zz, Go.SL.zz, Go.SL.zz, Go.SL.zz, Go.SL.zz, Go.SL.zz, Go.SL.zz, Go.SL.zz, Go.SL.zz, Go.SL.zz, Go.SL.zz, Go.SL.zz, Go.SL.zz, Go.SL.zz, Go.SL.zz, Go.SL.zz, Go.SL.zz, .int .i64 0, Go.SL.zz, Go.SL.zz, Go.SL.zz, Go.SL.zz, Go.SL.zz, Go.SL.zz, Go.SL.zz, Go.SL.zz, Go.SL.zz, Go.SL.zz, Go.SL.zz, Go.SL.zz, Go.SL.zz, Go.SL.zz, Go.SL.zz, Go.SL.zz, Go.SL.zz, Go.SL.zz, Go.SL.zz, Go.SL.zz, Go.SL.zz, Go.SL.zz, Go.SL.zz, Go.SL.zz, Go.SL.zz, Go.SL.zz, Go.SL.zz, Go.SL.zz, Go.SL.zz, Go.SL.zz, Go.SL.zz, Go.SL.zz, .int .i64 0, .slice none 0 0, .slice none 0 0]
abbrev Go.SL.zC1 : List Go.Value := [Go.SL.zz, Go.SL.zz, Go.SL.zz, Go.SL.zz, Go.SL.zz, Go.SL.zz, Go.SL.zz, Go.SL.zz, Go.SL.zz, Go.SL.zz, Go.SL.zz, Go.SL.zz, Go.SL.zz, Go.SL.zz, Go.SL.zz, Go.SL.zz, Go.SL.zz, Go.SL.zz, Go.SL.zz, Go.SL.zz, Go.SL.zz, Go.SL.zz, Go.SL.zz, Go.SL.zz, Go.SL.zz, Go.SL.zz, Go.SL.zz, Go.SL.zz, Go.SL.zz, Go.SL.zz, Go.SL.zz, Go.SL.zz, .int .i64 0, .int .i64 0, Go.SL.zz, Go.SL.zz, Go.SL.zz, Go.SL.zz, Go.SL.zz, Go.SL.zz, Go.SL.zz, Go.SL.zz, Go.SL.zz, Go.SL.zz, Go.SL.zz, Go.SL.zz, Go.SL.zz, Go.SL.zz, Go.SL.zz, Go.SL.zz, Go.SL.zz, Go.SL.zz, Go.SL.zz, Go.SL.zz, Go.SL.zz, Go.SL.zz, Go.SL.zz, Go.SL.zz, Go.SL.zz, Go.SL.zz, Go.SL.zz, Go.SL.zz, Go.SL.zz, Go.SL.zz, Go.SL.zz, Go.SL.zz, .int .i64 0, Go.SL.zz, Go.SL.zz, Go.SL.zz, Go.SL.zz, Go.SL.zz, Go.SL.zz, Go.SL.zz, Go.SL.zz, Go.SL.zz, Go.SL.zz, Go.SL.zz, Go.SL.zz, Go.SL.zz, Go.SL.zz, Go.SL.zz, Go.SL.zz, Go.SL.zz, Go.SL.zz, Go.SL.zz, Go.SL.zz, Go.SL.zz, Go.SL.zz, Go.SL.zz, Go.SL.zz, Go.SL.zz, Go.SL.zz, Go.SL.zz, Go.SL.zz, Go.SL.zz, Go.SL.zz, Go.SL.zz, Go.SL.zz, .int .i64 0, .slice none 0 0, .slice none 0 0]
abbrev Go.SL.zC2 : List Go.Value := [Go.SL.zz, Go.SL.zz, Go.SL.zz, Go.SL.zz, Go.SL.zz, Go.SL.zz, Go.SL.zz, Go.SL.zz, Go.SL.zz, Go.SL.zz, Go.SL.zz, Go.SL.zz, Go.SL.zz, Go.SL.zz, Go.SL.zz, Go.SL.zz, Go.SL.zz, Go.SL.zz, Go.SL.zz, Go.SL.zz, Go.SL.zz, Go.SL.zz, Go.SL.zz, Go.SL.zz, Go.SL.zz, Go.SL.zz, Go.SL.zz, Go.SL.zz, Go.SL.zz, Go.SL.zz, Go.SL.zz, Go.SL.zz, .int .i64 0, .string ⟨#[]⟩, .bool false]
abbrev Go.SL.zC3 : List Go.Value := [Go.SL.zz, Go.SL.zz, Go.SL.zz, Go.SL.zz, Go.SL.zz, Go.SL.zz, Go.SL.zz, Go.SL.zz, Go.SL.zz, Go.SL.zz, Go.SL.zz, Go.SL.zz, Go.SL.zz, Go.SL.zz, Go.SL.zz, Go.SL.zz, Go.SL.zz, Go.SL.zz, Go.SL.zz, Go.SL.zz, Go.SL.zz, Go.SL.zz, Go.SL.zz, Go.SL.zz, Go.SL.zz, Go.SL.zz, Go.SL.zz, Go.SL.zz, Go.SL.zz, Go.SL.zz, Go.SL.zz, Go.SL.zz, .int .i64 0]
abbrev Go.SL.zC4 : List Go.SL.CK := [Go.SL.yy, Go.SL.yy, Go.SL.yy, Go.SL.yy, Go.SL.yy, Go.SL.yy, Go.SL.yy, Go.SL.yy, Go.SL.yy, Go.SL.yy, Go.SL.yy, Go.SL.yy, Go.SL.yy, Go.SL.yy, Go.SL.yy, Go.SL.yy, Go.SL.yy, Go.SL.yy, Go.SL.yy, Go.SL.yy, Go.SL.yy, Go.SL.yy, Go.SL.yy, Go.SL.yy, Go.SL.yy, Go.SL.yy, Go.SL.yy, Go.SL.yy, Go.SL.yy, Go.SL.yy, Go.SL.yy, Go.SL.yy, .int .i64]
abbrev Go.SL.zC5 : List Go.Value := [Go.SL.zz, Go.SL.zz, Go.SL.zz, Go.SL.zz, Go.SL.zz, Go.SL.zz, Go.SL.zz, Go.SL.zz, Go.SL.zz, Go.SL.zz, Go.SL.zz, Go.SL.zz, Go.SL.zz, Go.SL.zz, Go.SL.zz, Go.SL.zz, Go.SL.zz, Go.SL.zz, Go.SL.zz, Go.SL.zz, Go.SL.zz, Go.SL.zz, Go.SL.zz, Go.SL.zz, Go.SL.zz, Go.SL.zz, Go.SL.zz, Go.SL.zz, Go.SL.zz, Go.SL.zz, Go.SL.zz, .int .u8 0]
abbrev Go.SL.zC6 : List Go.Value := [.string ⟨#[]⟩, .int .i64 0, .int .i64 0, .slice none 0 0]
abbrev Go.SL.zC7 : List Go.Value := [.slice none 0 0, .bool false, .slice none 0 0]
abbrev Go.SL.zC8 : List Go.Value := [.int .i64 0, .int .i64 0, .slice none 0 0]
abbrev Go.SL.zC9 : List Go.Value := [.int .i64 0, .int .i64 0, .int .i64 0]
abbrev Go.SL.zC10 : List Go.Value := [.string ⟨#[]⟩]
abbrev Go.SL.zi : Go.SL.PV := .v (.int .i64 0)
abbrev Go.SL.zj : Go.SL.PV := .v (.int .i64 1)
abbrev Go.SL.zf : Go.SL.PV := .v (.bool false)
abbrev Go.SL.zt : Go.SL.PV := .v (.bool true)
namespace Go.Proofs
open Go.SL
set_option maxRecDepth 100000
theorem Try.mixed : Try.prog.follows .mixedOrders = true := by kernel_rfl
def Try.pc11 : PC :=
 (.seq (.ops [zo 0 (.mov zf)])
 (.seq (.ops [zo 9 (.bsl 9 [.string ⟨#[]⟩, .string ⟨#[]⟩] 2 [(0, 1, (.v (.string ⟨#[97]⟩))), (1, 1, (.v (.string ⟨#[99]⟩)))]), zo 10 (.call 43 [(.t 9)]), zo 11 (.bsl 9 zC10 1 [(0, 1, (.v (.string ⟨#[120]⟩)))]), zo 12 (.call 43 [(.t 11)]), zo 1 (.al 89 zC0), zo 2 (.al 89 zC0), ⟨none, none, .st 105 (.t 1) (.t 10)⟩, ⟨none, none, .st 105 (.t 2) (.t 12)⟩])
 (.seq (.ops [zo 14 (.build zC3 []), zo 15 (.call 45 []), zo 16 (.bsl 9 [.string ⟨#[]⟩, .string ⟨#[]⟩] 2 [(0, 1, (.v (.string ⟨#[97]⟩))), (1, 1, (.v (.string ⟨#[61, 61, 61, 61, 61, 61, 61]⟩)))]), zo 17 (.call 44 [(.t 14), (.t 15), (.t 16)]), zm 13 17, zo 18 (.ext 0 (.t 13)), zo 19 (.ext 1 (.t 13)), zm 3 18, zm 4 19])
 (.seq (.quietR [0, 0, 0, 7, 15, 31, 31, 63] 8 [zo 21 (.build zC3 []), zo 22 (.call 45 []), zo 23 (.mkS 33 9 1 16 (.string ⟨#[]⟩) (.v (.int .i64 257)) (.v (.int .i64 257))), zo 24 (.call 44 [(.t 21), (.t 22), (.t 23)]), zm 20 24, zo 25 (.ext 0 (.t 20)), zo 26 (.ext 1 (.t 20)), zm 5 25, zm 6 26])
 (.seq (.ops [zo 28 (.build zC3 []), zo 29 (.bsl 9 zC10 1 [(0, 1, (.v (.string ⟨#[120]⟩)))]), zo 30 (.call 44 [(.t 28), (.v (.pointer none)), (.t 29)]), zm 27 30, zo 31 (.ext 0 (.t 27)), zo 32 (.ext 1 (.t 27)), zm 7 31, zm 8 32])
 (.seq (.quietR [0, 1, 3, 7, 3, 31, 63, 127, 255, 511, 255, 2047, 4095, 8191, 16383, 32767, 65535, 131071, 262143, 524287, 1048575, 2097151, 4194303, 8388607, 1048575] 25 [zo 33 (.call 46 []), zm 34 33, zg 35 34 true (.fa 37 (.t 1)), zg 36 34 true (.ldA 33 (.t 35)), zg 37 34 true (.call 47 [zj]), zg 38 34 true (.more (.eqD false 32 zC4 (.t 36) (.t 37))), zo 39 (.pick (.t 34) (.t 38) zf), zm 40 39, zg 41 40 true (.fa 70 (.t 1)), zg 42 40 true (.ldA 33 (.t 41)), zg 43 40 true (.call 47 [(.v (.int .i64 3))]), zg 44 40 true (.more (.eqD false 32 zC4 (.t 42) (.t 43))), zo 45 (.pick (.t 40) (.t 44) zf), zm 46 45, zg 47 46 true (.fa 103 (.t 1)), zg 48 46 true (.ld (.t 47)), zg 49 46 true (.lenS (.t 48)), zg 50 46 true (.bin .eql (.t 49) zj), zo 51 (.pick (.t 46) (.t 50) zf), zm 52 51, zg 53 52 true (.fa 103 (.t 1)), zg 54 52 true (.ld (.t 53)), zg 55 52 true (.ixS 33 (.t 54) zi), zg 56 52 true (.ldA 33 (.t 55)), zg 57 52 true (.call 47 [(.v (.int .i64 2))]), zg 58 52 true (.more (.eqD false 32 zC4 (.t 56) (.t 57))), zo 59 (.pick (.t 52) (.t 58) zf), zm 60 59, zg 61 60 true (.fa 104 (.t 1)), zg 62 60 true (.ld (.t 61)), zg 63 60 true (.lenS (.t 62)), zg 64 60 true (.bin .eql (.t 63) zi), zo 65 (.pick (.t 60) (.t 64) zf), zm 66 65, zg 67 66 true (.fa 37 (.t 2)), zg 68 66 true (.fa 32 (.t 67)), zg 69 66 true (.ld (.t 68)), zg 70 66 true (.bin .eql (.t 69) (.v (.int .i64 (-1)))), zo 71 (.pick (.t 66) (.t 70) zf), zm 72 71, zg 73 72 true (.fa 70 (.t 2)), zg 74 72 true (.fa 32 (.t 73)), zg 75 72 true (.ld (.t 74)), zg 76 72 true (.bin .eql (.t 75) (.v (.int .i64 (-2)))), zo 77 (.pick (.t 72) (.t 76) zf), zm 78 77, zg 79 78 true (.fa 103 (.t 2)), zg 80 78 true (.ld (.t 79)), zg 81 78 true (.lenS (.t 80)), zg 82 78 true (.bin .eql (.t 81) (.v (.int .i64 3))), zo 83 (.pick (.t 78) (.t 82) zf), zm 84 83, zg 85 84 true (.fa 104 (.t 2)), zg 86 84 true (.ld (.t 85)), zg 87 84 true (.lenS (.t 86)), zg 88 84 true (.bin .eql (.t 87) zj), zo 89 (.pick (.t 84) (.t 88) zf), zm 90 89, zg 91 90 true (.mov (.t 4)), zg 92 90 true (.bin .eql (.t 91) (.v (.int .i64 4))), zo 93 (.pick (.t 90) (.t 92) zf), zm 94 93, zg 95 94 true (.mov (.t 6)), zg 96 94 true (.bin .eql (.t 95) (.v (.int .i64 3))), zo 97 (.pick (.t 94) (.t 96) zf), zm 98 97, zg 99 98 true (.mov (.t 8)), zg 100 98 true (.bin .eql (.t 99) zi), zo 101 (.pick (.t 98) (.t 100) zf), zm 102 101, zg 103 102 true (.mov (.t 7)), zg 104 102 true (.lenS (.t 103)), zg 105 102 true (.bin .eql (.t 104) zj), zo 106 (.pick (.t 102) (.t 105) zf), zm 0 106])
 .ret))))))
theorem Try.known11 : Known Try.prog 11 Try.pc11 107 [0] := ⟨Try.f11, _, Try.func11, rfl, by kernel_rfl, rfl, rfl⟩
def Try.pc46 : PC :=
 (.seq (.ops [zo 0 (.mov zf)])
 (.seq (.ops [zo 4 (.bsl 9 [.string ⟨#[]⟩, .string ⟨#[]⟩, .string ⟨#[]⟩, .string ⟨#[]⟩] 4 [(0, 1, (.v (.string ⟨#[97]⟩))), (1, 1, (.v (.string ⟨#[120]⟩))), (2, 1, (.v (.string ⟨#[98]⟩))), (3, 1, (.v (.string ⟨#[99]⟩)))]), zo 5 (.call 43 [(.t 4)]), zo 1 (.al 89 zC0), ⟨none, none, .st 105 (.t 1) (.t 5)⟩])
 (.seq (.ops [zo 7 (.build zC3 []), zo 8 (.call 45 []), zo 9 (.bsl 9 [.string ⟨#[]⟩, .string ⟨#[]⟩, .string ⟨#[]⟩] 3 [(0, 1, (.v (.string ⟨#[97]⟩))), (1, 1, (.v (.string ⟨#[98]⟩))), (2, 1, (.v (.string ⟨#[99]⟩)))]), zo 10 (.call 44 [(.t 7), (.t 8), (.t 9)]), zm 6 10, zo 11 (.ext 0 (.t 6)), zo 12 (.ext 1 (.t 6)), zm 2 11, zm 3 12])
 (.seq (.quietR [0, 1, 3, 7, 15, 31, 15, 127, 255, 511, 1023, 2047, 1023] 13 [zo 13 (.fa 0 (.t 1)), zo 14 (.ld (.t 13)), zo 15 (.bin .eql (.t 14) (.v (.int .i64 5))), zm 16 15, zg 17 16 true (.fa 37 (.t 1)), zg 18 16 true (.ldA 33 (.t 17)), zg 19 16 true (.call 47 [zj]), zg 20 16 true (.more (.eqD false 32 zC4 (.t 18) (.t 19))), zo 21 (.pick (.t 16) (.t 20) zf), zm 22 21, zg 23 22 true (.fa 70 (.t 1)), zg 24 22 true (.ldA 33 (.t 23)), zg 25 22 true (.call 47 [(.v (.int .i64 2))]), zg 26 22 true (.more (.eqD false 32 zC4 (.t 24) (.t 25))), zo 27 (.pick (.t 22) (.t 26) zf), zm 28 27, zg 29 28 true (.fa 104 (.t 1)), zg 30 28 true (.ld (.t 29)), zg 31 28 true (.lenS (.t 30)), zg 32 28 true (.bin .eql (.t 31) zj), zo 33 (.pick (.t 28) (.t 32) zf), zm 34 33, zg 35 34 true (.fa 104 (.t 1)), zg 36 34 true (.ld (.t 35)), zg 37 34 true (.ixS 1 (.t 36) zi), zg 38 34 true (.ld (.t 37)), zg 39 34 true (.bin .eql (.t 38) (.v (.string ⟨#[120]⟩))), zo 40 (.pick (.t 34) (.t 39) zf), zm 41 40, zg 42 41 true (.fa 103 (.t 1)), zg 43 41 true (.ld (.t 42)), zg 44 41 true (.lenS (.t 43)), zg 45 41 true (.bin .eql (.t 44) zi), zo 46 (.pick (.t 41) (.t 45) zf), zm 47 46, zg 48 47 true (.mov (.t 3)), zg 49 47 true (.bin .eql (.t 48) zi), zo 50 (.pick (.t 47) (.t 49) zf), zm 51 50, zg 52 51 true (.mov (.t 2)), zg 53 51 true (.lenS (.t 52)), zg 54 51 true (.bin .eql (.t 53) zi), zo 55 (.pick (.t 51) (.t 54) zf), zm 0 55])
 .ret))))
theorem Try.known46 : Known Try.prog 46 Try.pc46 56 [0] := ⟨Try.f46, _, Try.func46, rfl, by kernel_rfl, rfl, rfl⟩
def Try.pc44 : PC :=
 (.seq (.ops [zo 3 (.bx 32 (.t 0)), zo 6 (.mov (.v (.slice none 0 0))), zo 7 (.mov zi)])
 (.seq (.ops [zm 20 1, zo 21 (.call 33 [(.t 20)]), zo 22 (.build [.slice none 0 0, .slice none 0 0, .slice none 0 0] [(0, 1, (.t 21))]), zo 23 (.bx 138 (.t 22)), zm 8 23])
 (.seq (.ops [zm 24 8, zm 25 8, zo 26 (.nilc (.t 25)), zo 27 (.fa 0 (.t 26)), zo 28 (.ld (.t 27)), zo 29 (.lenS (.t 28)), zo 30 (.mkS 136 4 1 1 (.bool false) (.t 29) (.t 29)), zo 31 (.nilc (.t 24)), zo 32 (.fa 2 (.t 31)), ⟨none, none, .st 1 (.t 32) (.t 30)⟩])
 (.seq (.seq (.ops [zm 33 8, zo 34 (.nilc (.t 33)), zo 35 (.fa 0 (.t 34)), zo 36 (.ld (.t 35)), zo 37 (.lenS (.t 36)), zo 38 (.mov zi)])
 (.block 0 (.loop (.seq (.ops [zo 39 (.bin .lss (.t 38) (.t 37))])
 (.seq (.cond (.t 39) .skip (.exit 0))
 (.seq (.block 1 (.seq (.ops [zo 40 (.ixS 3 (.t 36) (.t 38)), zo 41 (.ldA 3 (.t 40)), zo 10 (.al 73 zC7), ⟨none, none, .st 3 (.t 10) (.t 41)⟩])
 (.quietR [0, 0, 2, 6, 14, 0, 32, 96, 224] 9 [zm 42 8, zm 43 8, zo 44 (.nilc (.t 43)), zo 45 (.fa 1 (.t 44)), zo 46 (.ld (.t 45)), zo 47 (.ldA 3 (.t 10)), zo 48 (.bsl 73 zC7 1 [(0, 3, (.t 47))]), zo 49 (.call 36 [(.t 48)]), zo 50 (.bsl 33 [.slice none 0 0] 1 [(0, 1, (.t 49))]), zo 51 (.app 135 33 1 24 (.slice none 0 0) (.t 46) (.t 50)), zo 52 (.nilc (.t 42)), zo 53 (.fa 1 (.t 52)), ⟨none, none, .st 1 (.t 53) (.t 51)⟩])))
 (.ops [zo 54 (.bin .add (.t 38) zj), zm 38 54])))))))
 (.seq (.ops [zm 55 8, zm 56 2, zo 57 (.call 80 [(.t 55), (.t 56)]), zm 11 57])
 (.seq (.seq (.ops [zm 58 11, zo 59 (.call 81 [(.t 58)]), zm 12 59])
 (.seq (.ops [zm 60 12, zo 61 (.bin .neq (.t 60) zi)])
 (.cond (.t 61) (.seq (.ops [zm 62 12, zo 6 (.mov (.v (.slice none 0 0))), zm 7 62])
 .ret) .skip)))
 (.seq (.ops [zo 13 (.mov (.v (.slice none 0 0)))])
 (.seq (.seq (.ops [zm 63 11, zo 64 (.lenS (.t 63)), zo 65 (.mov zi)])
 (.block 2 (.loop (.seq (.ops [zo 66 (.bin .lss (.t 65) (.t 64))])
 (.seq (.cond (.t 66) .skip (.exit 2))
 (.seq (.block 3 (.seq (.ops [zo 67 (.ixS 3 (.t 63) (.t 65)), zo 68 (.ldA 3 (.t 67)), zo 15 (.al 144 zC8), ⟨none, none, .st 3 (.t 15) (.t 68)⟩])
 (.seq (.ops [zm 70 8, zo 71 (.ldA 3 (.t 15)), zo 72 (.call 82 [(.t 70), (.t 71)]), zm 69 72, zo 73 (.ext 0 (.t 69)), zo 74 (.ext 1 (.t 69)), zm 16 73, zm 17 74])
 (.seq (.seq (.ops [zm 75 17, zo 76 (.bin .neq (.t 75) zi)])
 (.cond (.t 76) (.seq (.ops [zm 77 17, zo 6 (.mov (.v (.slice none 0 0))), zm 7 77])
 .ret) .skip))
 (.ops [zm 78 13, zm 79 16, zo 80 (.app 142 147 3 40 (.agg #[.int .i64 0, .int .i64 0, .slice none 0 0]) (.t 78) (.t 79)), zm 13 80])))))
 (.ops [zo 81 (.bin .add (.t 65) zj), zm 65 81])))))))
 (.seq (.seq (.ops [zm 82 13, zo 83 (.lenS (.t 82)), zo 84 (.mov zi)])
 (.block 4 (.loop (.seq (.ops [zo 85 (.bin .lss (.t 84) (.t 83))])
 (.seq (.cond (.t 85) .skip (.exit 4))
 (.seq (.block 5 (.seq (.ops [zo 86 (.ixS 3 (.t 82) (.t 84)), zo 87 (.ldA 3 (.t 86)), zo 19 (.al 147 zC8), ⟨none, none, .st 3 (.t 19) (.t 87)⟩])
 (.ops [zm 88 6, zm 89 8, zo 90 (.ldA 33 (.t 3)), zo 91 (.ldA 3 (.t 19)), zo 92 (.call 83 [(.t 89), (.t 90), (.t 91)]), zo 93 (.bsl 89 zC0 1 [(0, 105, (.t 92))]), zo 94 (.app 91 89 105 208 (.agg #[.int .i64 0, zz, zz, zz, zz, zz, zz, zz, zz, zz, zz, zz, zz, zz, zz, zz, zz, zz, zz, zz, zz, zz, zz, zz, zz, zz, zz, zz, zz, zz, zz, zz, zz, .int .i64 0, .string ⟨#[]⟩, .int .i64 0, .int .u64 0, zz, zz, zz, zz, zz, zz, zz, zz, zz, zz, zz, zz, zz, zz, zz, zz, zz, zz, zz, zz, zz, zz, zz, zz, zz, zz, zz, zz, zz, zz, zz, zz, .int .i64 0, zz, zz, zz, zz, zz, zz, zz, zz, zz, zz, zz, zz, zz, zz, zz, zz, zz, zz, zz, zz, zz, zz, zz, zz, zz, zz, zz, zz, zz, zz, zz, zz, .int .i64 0, .slice none 0 0, .slice none 0 0]) (.t 88) (.t 93)), zm 6 94])))
 (.ops [zo 95 (.bin .add (.t 84) zj), zm 84 95])))))))
 (.seq (.ops [zm 96 6, zm 6 96, zo 7 (.mov zi)])
 .ret))))))))))
theorem Try.known44 : Known Try.prog 44 Try.pc44 97 [6, 7] := ⟨Try.f44, _, Try.func44, rfl, by kernel_rfl, rfl, rfl⟩
def Try.pc36 : PC :=
 (.seq (.ops [zo 2 (.mov (.v (.slice none 0 0)))])
 (.seq (.ops [zo 3 (.mov (.v (.slice none 0 0)))])
 (.seq (.seq (.ops [zm 8 0, zo 9 (.lenS (.t 8)), zo 10 (.mov zi)])
 (.block 0 (.loop (.seq (.ops [zo 11 (.bin .lss (.t 10) (.t 9))])
 (.seq (.cond (.t 11) .skip (.exit 0))
 (.seq (.block 1 (.seq (.ops [zo 12 (.ixS 3 (.t 8) (.t 10)), zo 13 (.ldA 3 (.t 12)), zo 5 (.al 73 zC7), ⟨none, none, .st 3 (.t 5) (.t 13)⟩])
 (.seq (.seq (.ops [zo 14 (.fa 1 (.t 5)), zo 15 (.ld (.t 14))])
 (.cond (.t 15) (.ops [zm 16 3, zo 17 (.bsl 9 zC10 1 [(0, 1, (.v (.string ⟨#[62, 62, 62, 62, 62, 62, 62]⟩)))]), zo 18 (.app 33 9 1 16 (.string ⟨#[]⟩) (.t 16) (.t 17)), zm 3 18]) .skip))
 (.seq (.seq (.ops [zo 19 (.fa 0 (.t 5)), zo 20 (.ld (.t 19)), zo 21 (.lenS (.t 20)), zo 22 (.mov zi)])
 (.block 2 (.loop (.seq (.ops [zo 23 (.bin .lss (.t 22) (.t 21))])
 (.seq (.cond (.t 23) .skip (.exit 2))
 (.seq (.block 3 (.seq (.ops [zm 24 22, zo 25 (.ixS 35 (.t 20) (.t 22)), zo 26 (.ldA 35 (.t 25)), zo 7 (.al 43 zC2), zm 6 24, ⟨none, none, .st 35 (.t 7) (.t 26)⟩])
 (.seq (.seq (.ops [zo 27 (.fa 1 (.t 5)), zo 28 (.ld (.t 27)), zm 29 28, zg 30 29 true (.fa 2 (.t 5)), zg 31 29 true (.ld (.t 30)), zg 32 29 true (.mov (.t 6)), zg 33 29 true (.call 76 [(.t 31), (.t 32)]), zo 34 (.pick (.t 29) (.t 33) zf)])
 (.cond (.t 34) (.ops [zm 35 3, zo 36 (.bsl 9 zC10 1 [(0, 1, (.v (.string ⟨#[61, 61, 61, 61, 61, 61, 61]⟩)))]), zo 37 (.app 33 9 1 16 (.string ⟨#[]⟩) (.t 35) (.t 36)), zm 3 37]) .skip))
 (.ops [zm 38 3, zo 39 (.fa 33 (.t 7)), zo 40 (.ld (.t 39)), zo 41 (.bsl 9 zC10 1 [(0, 1, (.t 40))]), zo 42 (.app 33 9 1 16 (.string ⟨#[]⟩) (.t 38) (.t 41)), zm 3 42]))))
 (.ops [zo 43 (.bin .add (.t 22) zj), zm 22 43])))))))
 (.seq (.ops [zo 44 (.fa 1 (.t 5)), zo 45 (.ld (.t 44))])
 (.cond (.t 45) (.ops [zm 46 3, zo 47 (.bsl 9 zC10 1 [(0, 1, (.v (.string ⟨#[60, 60, 60, 60, 60, 60, 60]⟩)))]), zo 48 (.app 33 9 1 16 (.string ⟨#[]⟩) (.t 46) (.t 47)), zm 3 48]) .skip))))))
 (.ops [zo 49 (.bin .add (.t 10) zj), zm 10 49])))))))
 (.seq (.ops [zm 50 3, zm 2 50])
 .ret))))
theorem Try.known36 : Known Try.prog 36 Try.pc36 51 [2] := ⟨Try.f36, _, Try.func36, rfl, by kernel_rfl, rfl, rfl⟩
def Try.pc33 : PC :=
 (.seq (.ops [zo 2 (.mov (.v (.slice none 0 0)))])
 (.scope (.seq (.ops [zm 10 0, zo 11 (.call 17 [(.t 10)]), zo 12 (.call 69 [(.t 11), (.v (.func (.func 70) #[] #[]))]), zm 3 12])
 (.seq (.ops [zo 4 (.mov (.v (.slice none 0 0)))])
 (.seq (.ops [zo 5 (.mov (.v (.slice none 0 0)))])
 (.seq .label
 (.seq (.seq (.ops [zm 13 3, zo 14 (.lenS (.t 13)), zo 15 (.mov zi)])
 (.block 0 (.loop (.seq (.ops [zo 16 (.bin .lss (.t 15) (.t 14))])
 (.seq (.cond (.t 16) .skip (.exit 0))
 (.seq (.block 1 (.seq (.ops [zo 17 (.ixS 35 (.t 13) (.t 15)), zo 18 (.ldA 35 (.t 17)), zo 7 (.al 43 zC2), ⟨none, none, .st 35 (.t 7) (.t 18)⟩])
 (.seq (.seq (.ops [zm 19 3, zo 20 (.lenS (.t 19)), zo 21 (.mov zi)])
 (.block 2 (.loop (.seq (.ops [zo 22 (.bin .lss (.t 21) (.t 20))])
 (.seq (.cond (.t 22) .skip (.exit 2))
 (.seq (.block 3 (.seq (.ops [zo 23 (.ixS 35 (.t 19) (.t 21)), zo 24 (.ldA 35 (.t 23)), zo 9 (.al 43 zC2), ⟨none, none, .st 35 (.t 9) (.t 24)⟩])
 (.seq (.ops [zo 25 (.fa 0 (.t 7)), zo 26 (.ldA 33 (.t 25)), zo 27 (.fa 0 (.t 9)), zo 28 (.ldA 33 (.t 27)), zo 29 (.more (.eqD true 32 zC4 (.t 26) (.t 28))), zm 30 29, zg 31 30 true (.mov (.t 0)), zg 32 30 true (.ldA 35 (.t 7)), zg 33 30 true (.ldA 35 (.t 9)), zg 34 30 true (.call 71 [(.t 31), (.t 32), (.t 33)]), zg 35 30 true (.not (.t 34)), zo 36 (.pick (.t 30) (.t 35) zf)])
 (.cond (.t 36) (.seq (.ops [zm 37 5, zo 38 (.ldA 35 (.t 7)), zo 39 (.bsl 43 zC2 1 [(0, 35, (.t 38))]), zo 40 (.app 39 43 35 64 (.agg #[zz, zz, zz, zz, zz, zz, zz, zz, zz, zz, zz, zz, zz, zz, zz, zz, zz, zz, zz, zz, zz, zz, zz, zz, zz, zz, zz, zz, zz, zz, zz, zz, .int .i64 0, .string ⟨#[]⟩, .bool false]) (.t 37) (.t 39)), zm 5 40])
 (.exit 1)) .skip))))
 (.ops [zo 41 (.bin .add (.t 21) zj), zm 21 41])))))))
 (.seq (.seq (.ops [zm 42 5, zo 43 (.lenS (.t 42)), zo 44 (.bin .gtr (.t 43) zi)])
 (.cond (.t 44) (.seq (.ops [zm 45 4, zm 46 0, zm 47 5, zo 48 (.call 72 [(.t 46), (.t 47)]), zo 49 (.bsl 73 zC7 1 [(0, 3, (.t 48))]), zo 50 (.app 64 73 3 56 (.agg #[.slice none 0 0, .bool false, .slice none 0 0]) (.t 45) (.t 49)), zm 4 50])
 (.ops [zo 5 (.mov (.v (.slice none 0 0)))])) .skip))
 (.ops [zm 51 4, zo 52 (.ldA 35 (.t 7)), zo 53 (.bsl 43 zC2 1 [(0, 35, (.t 52))]), zo 54 (.build zC7 [(0, 1, (.t 53))]), zo 55 (.bsl 73 zC7 1 [(0, 3, (.t 54))]), zo 56 (.app 64 73 3 56 (.agg #[.slice none 0 0, .bool false, .slice none 0 0]) (.t 51) (.t 55)), zm 4 56])))))
 (.ops [zo 57 (.bin .add (.t 15) zj), zm 15 57])))))))
 (.seq (.seq (.ops [zm 58 5, zo 59 (.lenS (.t 58)), zo 60 (.bin .gtr (.t 59) zi)])
 (.cond (.t 60) (.ops [zm 61 4, zm 62 0, zm 63 5, zo 64 (.call 72 [(.t 62), (.t 63)]), zo 65 (.bsl 73 zC7 1 [(0, 3, (.t 64))]), zo 66 (.app 64 73 3 56 (.agg #[.slice none 0 0, .bool false, .slice none 0 0]) (.t 61) (.t 65)), zm 4 66]) .skip))
 (.seq (.ops [zm 67 4, zm 2 67])
 .ret)))))))))
theorem Try.known33 : Known Try.prog 33 Try.pc33 68 [2] := ⟨Try.f33, _, Try.func33, rfl, by kernel_rfl, rfl, rfl⟩
def Try.pc118 : PC :=
 (.seq (.ops [zo 2 (.mov zf)])
 (.seq (.ops [zm 3 0, zo 4 (.bin .eql (.t 3) (.v (.string ⟨#[62, 62, 62, 62, 62, 62, 62]⟩))), zm 5 4, zg 6 5 false (.mov (.t 0)), zg 7 5 false (.bin .eql (.t 6) (.v (.string ⟨#[61, 61, 61, 61, 61, 61, 61]⟩))), zo 8 (.pick (.t 5) zt (.t 7)), zm 9 8, zg 10 9 false (.mov (.t 0)), zg 11 9 false (.bin .eql (.t 10) (.v (.string ⟨#[60, 60, 60, 60, 60, 60, 60]⟩))), zo 12 (.pick (.t 9) zt (.t 11)), zm 2 12])
 .ret))
theorem Try.known118 : Known Try.prog 118 Try.pc118 13 [2] := ⟨Try.f118, _, Try.func118, rfl, by kernel_rfl, rfl, rfl⟩
def Try.pc103 : PC :=
 (.seq (.ops [zo 2 (.mov zf)])
 (.seq (.ops [zm 3 0, zo 4 (.call 117 [(.t 3)]), zm 5 4, zg 6 5 true (.mov (.t 0)), zg 7 5 true (.call 118 [(.t 6)]), zg 8 5 true (.not (.t 7)), zo 9 (.pick (.t 5) (.t 8) zf), zm 2 9])
 .ret))
theorem Try.known103 : Known Try.prog 103 Try.pc103 10 [2] := ⟨Try.f103, _, Try.func103, rfl, by kernel_rfl, rfl, rfl⟩
def Try.pc43 : PC :=
 (.seq (.ops [zo 2 (.al 89 zC0)])
 (.seq (.ops [zo 6 (.build zC3 []), zo 7 (.call 45 []), zm 8 0, zo 9 (.call 44 [(.t 6), (.t 7), (.t 8)]), zm 5 9, zo 10 (.ext 0 (.t 5)), zo 11 (.ext 1 (.t 5)), zm 3 10, zm 4 11])
 (.seq (.seq (.ops [zm 12 4, zo 13 (.bin .neq (.t 12) zi), zm 14 13, zg 15 14 false (.mov (.t 3)), zg 16 14 false (.lenS (.t 15)), zg 17 14 false (.bin .neq (.t 16) zj), zo 18 (.pick (.t 14) zt (.t 17))])
 (.cond (.t 18) (.seq (.ops [zo 19 (.build zC0 []), ⟨none, none, .st 105 (.t 2) (.t 19)⟩])
 .ret) .skip))
 (.seq (.ops [zm 20 3, zo 21 (.ixS 105 (.t 20) zi), zo 22 (.ldA 105 (.t 21)), ⟨none, none, .st 105 (.t 2) (.t 22)⟩])
 .ret))))
theorem Try.known43 : KnownC Try.prog 43 Try.pc43 23 2 (some 105) := ⟨Try.f43, _, _, Try.func43, rfl, by kernel_rfl, rfl, rfl, by kernel_rfl⟩
def Try.pc45 : PC :=
 (.seq (.ops [zo 0 (.mov (.v (.pointer none)))])
 (.seq (.ops [zo 2 (.call 14 []), zm 1 2])
 (.seq (.ops [zm 3 1, zo 4 (.more (.bldA zC5 [(0, 1, (.v (.int .u8 1)))])), zo 5 (.build zC3 [(32, 1, (.v (.int .i64 (-1))))]), zo 6 (.build zC3 [(32, 1, (.v (.int .i64 (-2))))]), zo 7 (.bsl 9 [.string ⟨#[]⟩, .string ⟨#[]⟩, .string ⟨#[]⟩] 3 [(0, 1, (.v (.string ⟨#[97]⟩))), (1, 1, (.v (.string ⟨#[98]⟩))), (2, 1, (.v (.string ⟨#[99]⟩)))]), zo 8 (.build zC1 [(0, 32, (.t 4)), (33, 1, zj), (34, 33, (.t 5)), (67, 33, (.t 6)), (100, 1, (.t 7))]), zo 9 (.call 16 [(.t 3), (.t 8)])])
 (.seq (.ops [zm 10 1, zm 0 10])
 .ret))))
theorem Try.known45 : Known Try.prog 45 Try.pc45 11 [0] := ⟨Try.f45, _, Try.func45, rfl, by kernel_rfl, rfl, rfl⟩
def Try.pc47 : PC :=
 (.seq (.ops [zo 2 (.al 32 zC3)])
 (.seq (.ops [zo 3 (.more (.bldA zC5 [(0, 1, (.v (.int .u8 1)))])), zm 4 0, zo 5 (.build zC3 [(0, 32, (.t 3)), (32, 1, (.t 4))]), ⟨none, none, .st 33 (.t 2) (.t 5)⟩])
 .ret))
theorem Try.known47 : KnownC Try.prog 47 Try.pc47 6 2 (some 33) := ⟨Try.f47, _, _, Try.func47, rfl, by kernel_rfl, rfl, rfl, by kernel_rfl⟩
def Try.pc14 : PC :=
 (.seq (.ops [zo 0 (.mov (.v (.pointer none)))])
 (.seq (.ops [zo 1 (.mkM), zo 2 (.mkM), zo 3 (.build [.bool false, .map none, .map none, .slice none 0 0] [(0, 1, zt), (1, 1, (.t 1)), (2, 1, (.t 2))]), zo 4 (.bx 57 (.t 3)), zm 0 4])
 .ret))
theorem Try.known14 : Known Try.prog 14 Try.pc14 5 [0] := ⟨Try.f14, _, Try.func14, rfl, by kernel_rfl, rfl, rfl⟩
def Try.pc16 : PC :=
 (.seq (.ops [zo 2 (.bx 25 (.t 0)), zo 3 (.bx 36 (.t 1)), zo 4 (.mov zi)])
 (.seq (.block 0 (.seq (.ops [zo 8 (.ld (.t 2)), zo 9 (.call 48 [(.t 8)]), zo 10 (.not (.t 9)), zm 7 10])
 (.cond (.t 7) (.seq (.ops [zo 4 (.mov zj)])
 .ret) (.seq (.ops [zo 12 (.ld (.t 2)), zo 13 (.ldA 102 (.t 3)), zo 14 (.call 52 [(.t 12), (.t 13)]), zm 11 14])
 (.cond (.t 11) (.seq (.ops [zo 4 (.mov (.v (.int .i64 6)))])
 .ret) (.seq (.ops [zo 16 (.ldA 102 (.t 3)), zo 17 (.call 53 [(.t 16)]), zo 18 (.not (.t 17)), zm 15 18])
 (.cond (.t 15) (.seq (.ops [zo 4 (.mov (.v (.int .i64 4)))])
 .ret) (.seq (.ops [zo 20 (.ld (.t 2)), zo 21 (.fa 34 (.t 3)), zo 22 (.ldA 33 (.t 21)), zo 23 (.call 29 [(.t 20), (.t 22)]), zo 24 (.not (.t 23)), zm 25 24, zg 26 25 false (.ld (.t 2)), zg 27 25 false (.fa 67 (.t 3)), zg 28 25 false (.ldA 33 (.t 27)), zg 29 25 false (.call 29 [(.t 26), (.t 28)]), zg 30 25 false (.not (.t 29)), zo 31 (.pick (.t 25) zt (.t 30)), zm 32 31, zg 33 32 false (.fa 101 (.t 3)), zg 34 32 false (.ld (.t 33)), zg 35 32 false (.mkF 55 [(.t 2)]), zg 36 32 false (.call 54 [(.t 34), (.t 35)]), zo 37 (.pick (.t 32) zt (.t 36)), zm 19 37])
 (.cond (.t 19) (.seq (.ops [zo 4 (.mov (.v (.int .i64 10)))])
 .ret) (.seq (.ops [zo 39 (.ld (.t 2)), zo 40 (.fa 34 (.t 3)), zo 41 (.ldA 33 (.t 40)), zo 42 (.fa 67 (.t 3)), zo 43 (.ldA 33 (.t 42)), zo 44 (.call 18 [(.t 39), (.t 41), (.t 43)]), zo 45 (.not (.t 44)), zm 38 45])
 (.cond (.t 38) (.seq (.ops [zo 4 (.mov (.v (.int .i64 4)))])
 .ret) .skip)))))))))))
 (.seq (.quietR [0, 1, 3, 0, 8, 31, 31] 7 [zo 46 (.fa 100 (.t 3)), zo 47 (.ld (.t 46)), zo 48 (.call 57 [(.t 47)]), zo 49 (.fa 101 (.t 3)), zo 50 (.ld (.t 49)), zo 51 (.call 51 [(.t 50)]), zo 52 (.fa 100 (.t 3)), ⟨none, none, .st 1 (.t 52) (.t 48)⟩, zo 53 (.fa 101 (.t 3)), ⟨none, none, .st 1 (.t 53) (.t 51)⟩])
 (.seq (.quietR [] 10 [zo 54 (.ld (.t 2)), zo 55 (.nilc (.t 54)), zo 56 (.fa 1 (.t 55)), zo 57 (.ld (.t 56)), zo 58 (.fa 0 (.t 3)), zo 59 (.ldA 32 (.t 58)), zo 60 (.fa 32 (.t 3)), zo 61 (.ld (.t 60)), zo 62 (.build zC3 [(0, 32, (.t 59)), (32, 1, (.t 61))]), zo 63 (.ldA 102 (.t 3)), ⟨none, none, .more (.other (.gen (.mapUpdate 54 (.tmp 57) (.tmp 62) (.tmp 63))))⟩])
 (.seq (.seq (.ops [zo 64 (.fa 100 (.t 3)), zo 65 (.ld (.t 64)), zo 66 (.lenS (.t 65)), zo 67 (.mov zi)])
 (.block 1 (.loop (.seq (.ops [zo 68 (.bin .lss (.t 67) (.t 66))])
 (.seq (.cond (.t 68) .skip (.exit 1))
 (.seq (.block 2 (.seq (.ops [zm 69 67, zo 70 (.ixS 1 (.t 65) (.t 67)), zo 71 (.ld (.t 70)), zm 5 69, zm 6 71])
 (.quietR [0, 1, 3, 7, 0, 0, 48, 0, 128] 9 [zo 72 (.ld (.t 2)), zo 73 (.nilc (.t 72)), zo 74 (.fa 2 (.t 73)), zo 75 (.ld (.t 74)), zo 76 (.ldA 102 (.t 3)), zm 77 5, zo 78 (.call 58 [(.t 76), (.t 77)]), zm 79 6, zo 80 (.build zC6 [(0, 1, (.t 79))]), ⟨none, none, .more (.other (.gen (.mapUpdate 55 (.tmp 75) (.tmp 78) (.tmp 80))))⟩])))
 (.ops [zo 81 (.bin .add (.t 67) zj), zm 67 81])))))))
 (.seq (.ops [zo 82 (.ld (.t 2)), zo 83 (.ldA 102 (.t 3)), zo 84 (.call 59 [(.t 82), (.t 83), zt])])
 (.seq (.ops [zo 85 (.ld (.t 2)), zo 86 (.ldA 102 (.t 3)), zo 87 (.call 60 [(.t 85), (.t 86), zj])])
 (.seq (.ops [zo 4 (.mov zi)])
 .ret))))))))
theorem Try.known16 : Known Try.prog 16 Try.pc16 88 [4] := ⟨Try.f16, _, Try.func16, rfl, by kernel_rfl, rfl, rfl⟩
def Try.pc80 : PC :=
 (.seq (.ops [zo 4 (.mov (.v (.slice none 0 0)))])
 (.seq (.ops [zo 7 (.build zC8 []), zo 5 (.al 144 zC8), ⟨none, none, .st 3 (.t 5) (.t 7)⟩])
 (.seq (.block 0 (.loop (.seq (.seq (.ops [zm 8 1, zo 9 (.lenS (.t 8)), zo 10 (.bin .gtr (.t 9) zi)])
 (.cond (.t 10) .skip (.exit 0)))
 (.block 1 (.seq (.ops [zm 11 0, zo 12 (.fa 0 (.t 5)), zo 13 (.ld (.t 12)), zm 14 1, zo 15 (.call 100 [(.t 11), (.t 13), (.t 14)]), zm 6 15])
 (.seq (.seq (.ops [zm 16 6, zo 17 (.bin .lss (.t 16) zi)])
 (.cond (.t 17) (.seq (.quietR [0, 1, 0, 4, 12, 28] 6 [zo 18 (.fa 2 (.t 5)), zo 19 (.ld (.t 18)), zm 20 1, zo 21 (.ixS 1 (.t 20) zi), zo 22 (.ld (.t 21)), zo 23 (.bsl 9 zC10 1 [(0, 1, (.t 22))]), zo 24 (.app 33 9 1 16 (.string ⟨#[]⟩) (.t 19) (.t 23)), zo 25 (.fa 2 (.t 5)), ⟨none, none, .st 1 (.t 25) (.t 24)⟩])
 (.seq (.ops [zm 26 1, zo 27 (.slS 1 (.t 26) (some zj) none), zm 1 27])
 (.exit 1))) .skip))
 (.seq (.ops [zm 28 6, zo 29 (.fa 1 (.t 5)), ⟨none, none, .st 1 (.t 29) (.t 28)⟩])
 (.seq (.ops [zm 30 4, zo 31 (.ldA 3 (.t 5)), zo 32 (.bsl 144 zC8 1 [(0, 3, (.t 31))]), zo 33 (.app 139 144 3 40 (.agg #[.int .i64 0, .int .i64 0, .slice none 0 0]) (.t 30) (.t 32)), zm 4 33])
 (.seq (.ops [zm 34 0, zo 35 (.nilc (.t 34)), zo 36 (.fa 2 (.t 35)), zo 37 (.ld (.t 36)), zm 38 6, zo 39 (.ixS 1 (.t 37) (.t 38)), ⟨none, none, .st 1 (.t 39) zt⟩])
 (.seq (.ops [zm 40 1, zm 41 0, zo 42 (.nilc (.t 41)), zo 43 (.fa 1 (.t 42)), zo 44 (.ld (.t 43)), zm 45 6, zo 46 (.ixS 1 (.t 44) (.t 45)), zo 47 (.ld (.t 46)), zo 48 (.lenS (.t 47)), zo 49 (.slS 1 (.t 40) (some (.t 48)) none), zm 1 49])
 (.ops [zm 50 6, zo 51 (.bin .add (.t 50) zj), zo 52 (.build zC8 [(0, 1, (.t 51))]), ⟨none, none, .st 3 (.t 5) (.t 52)⟩])))))))))))
 (.seq (.ops [zm 53 0, zo 54 (.nilc (.t 53)), zo 55 (.fa 0 (.t 54)), zo 56 (.ld (.t 55)), zo 57 (.lenS (.t 56)), zo 58 (.fa 1 (.t 5)), ⟨none, none, .st 1 (.t 58) (.t 57)⟩])
 (.seq (.ops [zm 59 4, zo 60 (.ldA 3 (.t 5)), zo 61 (.bsl 144 zC8 1 [(0, 3, (.t 60))]), zo 62 (.app 139 144 3 40 (.agg #[.int .i64 0, .int .i64 0, .slice none 0 0]) (.t 59) (.t 61)), zm 4 62])
 .ret)))))
theorem Try.known80 : Known Try.prog 80 Try.pc80 63 [4] := ⟨Try.f80, _, Try.func80, rfl, by kernel_rfl, rfl, rfl⟩
def Try.pc81 : PC :=
 (.seq (.ops [zo 2 (.mov zi)])
 (.seq (.ops [zo 3 (.mov zi), zo 4 (.mov zi)])
 (.seq (.seq (.ops [zm 7 0, zo 8 (.lenS (.t 7)), zo 9 (.mov zi)])
 (.block 0 (.loop (.seq (.ops [zo 10 (.bin .lss (.t 9) (.t 8))])
 (.seq (.cond (.t 10) .skip (.exit 0))
 (.seq (.block 1 (.seq (.ops [zo 11 (.ixS 3 (.t 7) (.t 9)), zo 12 (.ldA 3 (.t 11)), zo 6 (.al 144 zC8), ⟨none, none, .st 3 (.t 6) (.t 12)⟩])
 (.seq (.ops [zm 13 3, zo 14 (.fa 2 (.t 6)), zo 15 (.ld (.t 14)), zo 16 (.lenS (.t 15)), zo 17 (.bin .add (.t 13) (.t 16)), zm 3 17])
 (.seq (.ops [zo 18 (.fa 2 (.t 6)), zo 19 (.ld (.t 18)), zo 20 (.call 101 [(.t 19), (.v (.func (.func 102) #[] #[]))])])
 (.cond (.t 20) (.ops [zo 4 (.mov (.v (.int .i64 4)))]) .skip)))))
 (.ops [zo 21 (.bin .add (.t 9) zj), zm 9 21])))))))
 (.seq (.seq (.ops [zm 22 3, zo 23 (.bin .gtr (.t 22) (.v (.int .i64 256)))])
 (.cond (.t 23) (.seq (.ops [zo 2 (.mov (.v (.int .i64 3)))])
 .ret) .skip))
 (.seq (.ops [zm 24 4, zm 2 24])
 .ret)))))
theorem Try.known81 : Known Try.prog 81 Try.pc81 25 [2] := ⟨Try.f81, _, Try.func81, rfl, by kernel_rfl, rfl, rfl⟩
def Try.pc82 : PC :=
 (.seq (.ops [zo 3 (.bx 144 (.t 1)), zo 4 (.al 142 [.slice none 0 0]), zo 5 (.mov zi)])
 (.seq (.quietR [0, 0, 3, 0, 8, 31, 63, 127, 127, 255] 10 [zm 15 0, zo 16 (.ldA 3 (.t 3)), zo 17 (.call 105 [(.t 15), (.t 16)]), zo 18 (.fa 2 (.t 3)), zo 19 (.ld (.t 18)), zo 20 (.call 104 [(.t 17), (.t 19)]), zm 14 20, zo 21 (.ext 0 (.t 14)), zo 22 (.ext 1 (.t 14)), zm 6 21, zm 5 22])
 (.seq (.seq (.ops [zm 23 5, zo 24 (.bin .neq (.t 23) zi)])
 (.cond (.t 24) (.seq (.ops [zm 25 5, ⟨none, none, .st 1 (.t 4) (.v (.slice none 0 0))⟩, zm 5 25])
 .ret) .skip))
 (.seq (.ops [zo 26 (.fa 0 (.t 3)), zo 27 (.ld (.t 26)), zo 7 (.al 3 [.int .i64 0]), ⟨none, none, .st 1 (.t 7) (.t 27)⟩])
 (.seq (.ops [zo 8 (.al 4 [.bool false]), ⟨none, none, .st 1 (.t 8) zf⟩])
 (.seq (.ops [zo 28 (.mkF 106 [(.t 8), (.t 4), (.t 7)]), zm 9 28])
 (.seq (.seq (.ops [zm 29 6, zo 30 (.lenS (.t 29)), zo 31 (.mov zi)])
 (.block 0 (.loop (.seq (.ops [zo 32 (.bin .lss (.t 31) (.t 30))])
 (.seq (.cond (.t 32) .skip (.exit 0))
 (.seq (.block 1 (.seq (.ops [zo 33 (.ixS 3 (.t 29) (.t 31)), zo 34 (.ldA 3 (.t 33)), zo 11 (.al 176 zC9), ⟨none, none, .st 3 (.t 11) (.t 34)⟩])
 (.seq (.ops [zo 35 (.fa 0 (.t 11)), zo 36 (.ld (.t 35))])
 (.block 2 (.seq (.ops [zo 38 (.bin .eql (.t 36) zi), zm 37 38])
 (.cond (.t 37) (.seq (.quietR [] 5 [zm 39 0, zo 40 (.nilc (.t 39)), zo 41 (.fa 2 (.t 40)), zo 42 (.ld (.t 41)), zo 43 (.ld (.t 7)), zo 44 (.ixS 1 (.t 42) (.t 43)), ⟨none, none, .st 1 (.t 44) zt⟩])
 (.seq (.ops [zo 45 (.ld (.t 7)), zo 46 (.bin .add (.t 45) zj), ⟨none, none, .st 1 (.t 7) (.t 46)⟩])
 (.ops [⟨none, none, .st 1 (.t 8) zf⟩]))) (.seq (.ops [zo 48 (.bin .eql (.t 36) zj), zm 47 48])
 (.cond (.t 47) (.seq (.ops [zm 49 9, zo 50 (.callv (.t 49) []), zm 12 50])
 (.seq (.ops [zo 51 (.ld (.t 7)), zo 52 (.bin .add (.t 51) zj), ⟨none, none, .st 1 (.t 7) (.t 52)⟩])
 (.ops [zm 53 12, zo 54 (.ld (.t 7)), zo 55 (.nilc (.t 53)), zo 56 (.fa 1 (.t 55)), ⟨none, none, .st 1 (.t 56) (.t 54)⟩]))) (.seq (.ops [zo 58 (.bin .eql (.t 36) (.v (.int .i64 2))), zm 57 58])
 (.cond (.t 57) (.seq (.ops [zm 59 9, zo 60 (.callv (.t 59) []), zm 13 60])
 (.quietR [0, 0, 2, 6, 14, 0, 32, 0, 128, 480, 992, 2016] 12 [zm 61 13, zm 62 13, zo 63 (.nilc (.t 62)), zo 64 (.fa 2 (.t 63)), zo 65 (.ld (.t 64)), zo 66 (.fa 2 (.t 3)), zo 67 (.ld (.t 66)), zo 68 (.fa 2 (.t 11)), zo 69 (.ld (.t 68)), zo 70 (.ixS 1 (.t 67) (.t 69)), zo 71 (.ld (.t 70)), zo 72 (.bsl 9 zC10 1 [(0, 1, (.t 71))]), zo 73 (.app 33 9 1 16 (.string ⟨#[]⟩) (.t 65) (.t 72)), zo 74 (.nilc (.t 61)), zo 75 (.fa 2 (.t 74)), ⟨none, none, .st 1 (.t 75) (.t 73)⟩])) .skip))))))))))
 (.ops [zo 76 (.bin .add (.t 31) zj), zm 31 76])))))))
 (.seq (.ops [zo 77 (.ld (.t 4)), ⟨none, none, .st 1 (.t 4) (.t 77)⟩, zo 5 (.mov zi)])
 .ret))))))))
theorem Try.known82 : KnownCT Try.prog 82 Try.pc82 78 4 5 none := ⟨Try.f82, _, _, Try.func82, rfl, by kernel_rfl, rfl, rfl, by kernel_rfl⟩
def Try.pc83 : PC :=
 (.seq (.ops [zo 4 (.bx 32 (.t 1)), zo 5 (.bx 147 (.t 2)), zo 6 (.al 89 zC0)])
 (.seq (.ops [zo 13 (.ldA 33 (.t 4)), zo 14 (.build zC3 [(32, 1, (.v (.int .i64 (-1))))]), zo 15 (.build zC3 [(32, 1, (.v (.int .i64 (-2))))]), zo 16 (.fa 2 (.t 5)), zo 17 (.ld (.t 16)), zo 18 (.build zC0 [(0, 1, (.v (.int .i64 5))), (1, 33, (.t 13)), (37, 33, (.t 14)), (70, 33, (.t 15)), (104, 1, (.t 17))]), zo 7 (.al 89 zC0), ⟨none, none, .st 105 (.t 7) (.t 18)⟩])
 (.seq (.seq (.ops [zm 19 0, zo 20 (.nilc (.t 19)), zo 21 (.fa 0 (.t 20)), zo 22 (.ld (.t 21)), zo 23 (.lenS (.t 22)), zo 24 (.mov zi)])
 (.block 0 (.loop (.seq (.ops [zo 25 (.bin .lss (.t 24) (.t 23))])
 (.seq (.cond (.t 25) .skip (.exit 0))
 (.seq (.block 1 (.seq (.ops [zm 26 24, zm 8 26])
 (.seq (.seq (.ops [zm 27 8, zo 28 (.fa 0 (.t 5)), zo 29 (.ld (.t 28)), zo 30 (.bin .lss (.t 27) (.t 29)), zm 31 30, zg 32 31 true (.mov (.t 0)), zg 33 31 true (.mov (.t 8)), zg 34 31 true (.call 107 [(.t 32), (.t 33)]), zo 35 (.pick (.t 31) (.t 34) zf)])
 (.cond (.t 35) (.ops [zm 36 0, zo 37 (.nilc (.t 36)), zo 38 (.fa 0 (.t 37)), zo 39 (.ld (.t 38)), zm 40 8, zo 41 (.ixS 3 (.t 39) (.t 40)), zo 42 (.fa 0 (.t 41)), zo 43 (.ld (.t 42)), zo 44 (.ixS 35 (.t 43) zi), zo 45 (.fa 0 (.t 44)), zo 46 (.ldA 33 (.t 45)), zo 47 (.fa 37 (.t 7)), ⟨none, none, .st 33 (.t 47) (.t 46)⟩]) .skip))
 (.seq (.ops [zm 48 8, zo 49 (.fa 1 (.t 5)), zo 50 (.ld (.t 49)), zo 51 (.bin .geq (.t 48) (.t 50)), zm 52 51, zg 53 52 true (.mov (.t 0)), zg 54 52 true (.mov (.t 8)), zg 55 52 true (.call 107 [(.t 53), (.t 54)]), zo 56 (.pick (.t 52) (.t 55) zf)])
 (.cond (.t 56) (.seq (.ops [zm 57 0, zo 58 (.nilc (.t 57)), zo 59 (.fa 0 (.t 58)), zo 60 (.ld (.t 59)), zm 61 8, zo 62 (.ixS 3 (.t 60) (.t 61)), zo 63 (.fa 0 (.t 62)), zo 64 (.ld (.t 63)), zo 65 (.ixS 35 (.t 64) zi), zo 66 (.fa 0 (.t 65)), zo 67 (.ldA 33 (.t 66)), zo 68 (.fa 70 (.t 7)), ⟨none, none, .st 33 (.t 68) (.t 67)⟩])
 (.exit 0)) .skip)))))
 (.ops [zo 69 (.bin .add (.t 24) zj), zm 24 69])))))))
 (.seq (.seq (.quietR [] 11 [zm 70 0, zo 71 (.nilc (.t 70)), zo 72 (.fa 0 (.t 71)), zo 73 (.ld (.t 72)), zo 74 (.fa 0 (.t 5)), zo 75 (.ld (.t 74)), zo 76 (.fa 1 (.t 5)), zo 77 (.ld (.t 76)), zo 78 (.slS 3 (.t 73) (some (.t 75)) (some (.t 77))), zo 79 (.lenS (.t 78)), zo 80 (.mov zi)])
 (.block 2 (.loop (.seq (.ops [zo 81 (.bin .lss (.t 80) (.t 79))])
 (.seq (.cond (.t 81) .skip (.exit 2))
 (.seq (.block 3 (.seq (.ops [zo 82 (.ixS 3 (.t 78) (.t 80)), zo 83 (.ldA 3 (.t 82)), zo 10 (.al 73 zC7), ⟨none, none, .st 3 (.t 10) (.t 83)⟩])
 (.seq (.ops [zo 84 (.fa 0 (.t 10)), zo 85 (.ld (.t 84)), zo 86 (.lenS (.t 85)), zo 87 (.mov zi)])
 (.block 4 (.loop (.seq (.ops [zo 88 (.bin .lss (.t 87) (.t 86))])
 (.seq (.cond (.t 88) .skip (.exit 4))
 (.seq (.block 5 (.seq (.ops [zo 89 (.ixS 35 (.t 85) (.t 87)), zo 90 (.ldA 35 (.t 89)), zo 12 (.al 43 zC2), ⟨none, none, .st 35 (.t 12) (.t 90)⟩])
 (.ops [zo 91 (.fa 103 (.t 7)), zo 92 (.ld (.t 91)), zo 93 (.fa 0 (.t 12)), zo 94 (.ldA 33 (.t 93)), zo 95 (.bsl 32 zC3 1 [(0, 33, (.t 94))]), zo 96 (.app 34 32 33 40 (.agg #[zz, zz, zz, zz, zz, zz, zz, zz, zz, zz, zz, zz, zz, zz, zz, zz, zz, zz, zz, zz, zz, zz, zz, zz, zz, zz, zz, zz, zz, zz, zz, zz, .int .i64 0]) (.t 92) (.t 95)), zo 97 (.fa 103 (.t 7)), ⟨none, none, .st 1 (.t 97) (.t 96)⟩])))
 (.ops [zo 98 (.bin .add (.t 87) zj), zm 87 98])))))))))
 (.ops [zo 99 (.bin .add (.t 80) zj), zm 80 99])))))))
 (.seq (.ops [zo 100 (.fa 103 (.t 7)), zo 101 (.ld (.t 100)), zo 102 (.call 108 [(.t 101), (.v (.func (.func 109) #[] #[]))])])
 (.seq (.ops [zo 103 (.ldA 105 (.t 7)), ⟨none, none, .st 105 (.t 6) (.t 103)⟩])
 .ret))))))
theorem Try.known83 : KnownC Try.prog 83 Try.pc83 104 6 (some 105) := ⟨Try.f83, _, _, Try.func83, rfl, by kernel_rfl, rfl, rfl, by kernel_rfl⟩
def Try.pc76 : PC :=
 (.seq (.ops [zo 4 (.mov zf)])
 (.seq (.ops [zm 5 0, zm 6 1, zo 7 (.call 98 [(.t 5), (.t 6)]), zo 8 (.bin .geq (.t 7) zi), zm 4 8])
 .ret))
theorem Try.known76 : Known Try.prog 76 Try.pc76 9 [4] := ⟨Try.f76, _, Try.func76, rfl, by kernel_rfl, rfl, rfl⟩
def Try.pc69 : PC :=
 (.seq (.ops [zo 4 (.mov (.v (.slice none 0 0)))])
 (.seq (.ops [zm 8 0, zm 9 1, zo 10 (.call 96 [(.t 8), (.t 9)]), zm 5 10])
 (.seq (.seq (.ops [zm 11 5, zo 12 (.bin .eql (.t 11) (.v (.int .i64 (-1))))])
 (.cond (.t 12) (.seq (.ops [zm 13 0, zm 4 13])
 .ret) .skip))
 (.seq (.seq (.ops [zm 14 5, zo 15 (.bin .add (.t 14) zj), zm 6 15])
 (.block 0 (.loop (.seq (.seq (.ops [zm 16 6, zm 17 0, zo 18 (.lenS (.t 17)), zo 19 (.bin .lss (.t 16) (.t 18))])
 (.cond (.t 19) .skip (.exit 0)))
 (.seq (.block 1 (.seq (.ops [zm 22 0, zm 23 6, zo 24 (.ixS 35 (.t 22) (.t 23)), zo 25 (.ldA 35 (.t 24)), zo 7 (.al 43 zC2), ⟨none, none, .st 35 (.t 7) (.t 25)⟩])
 (.seq (.ops [zm 26 1, zo 27 (.ldA 35 (.t 7)), zo 28 (.callv (.t 26) [(.t 27)]), zo 29 (.not (.t 28))])
 (.cond (.t 29) (.seq (.ops [zm 30 0, zm 31 5, zo 32 (.ldA 35 (.t 7)), zo 33 (.ixS 35 (.t 30) (.t 31)), ⟨none, none, .st 35 (.t 33) (.t 32)⟩])
 (.ops [zm 34 5, zo 35 (.bin .add (.t 34) zj), zm 5 35])) .skip))))
 (.ops [zm 20 6, zo 21 (.bin .add (.t 20) zj), zm 6 21]))))))
 (.seq (.ops [zm 36 0, zm 37 5, zo 38 (.slS 35 (.t 36) (some (.t 37)) none), ⟨none, none, .more (.clr 43 35 (.agg #[zz, zz, zz, zz, zz, zz, zz, zz, zz, zz, zz, zz, zz, zz, zz, zz, zz, zz, zz, zz, zz, zz, zz, zz, zz, zz, zz, zz, zz, zz, zz, zz, .int .i64 0, .string ⟨#[]⟩, .bool false]) (.t 38))⟩])
 (.seq (.ops [zm 39 0, zm 40 5, zo 41 (.slS 35 (.t 39) none (some (.t 40))), zm 4 41])
 .ret))))))
theorem Try.known69 : Known Try.prog 69 Try.pc69 42 [4] := ⟨Try.f69, _, Try.func69, rfl, by kernel_rfl, rfl, rfl⟩
def Try.pc17 : PC :=
 (.seq (.ops [zo 2 (.mov (.v (.slice none 0 0)))])
 (.seq (.seq (.ops [zm 11 0, zo 12 (.call 48 [(.t 11)]), zo 13 (.not (.t 12))])
 (.cond (.t 13) (.seq (.ops [zo 2 (.mov (.v (.slice none 0 0)))])
 .ret) .skip))
 (.seq (.ops [zm 14 0, zo 15 (.call 61 [(.t 14)]), zm 3 15])
 (.seq (.ops [zo 16 (.bsl0 32), zo 17 (.bx 110 (.t 16)), zm 4 17])
 (.seq (.seq (.ops [zm 18 0, zo 19 (.nilc (.t 18)), zo 20 (.fa 2 (.t 19)), zo 21 (.ld (.t 20)), zo 22 (.more (.other (.gen (.range 55 (.tmp 21)))))])
 (.block 0 (.loop (.seq (.ops [zo 23 (.more (.other (.gen (.next (.tmp 22) false)))), zo 24 (.ext 0 (.t 23))])
 (.seq (.cond (.t 24) .skip (.exit 0))
 (.block 1 (.seq (.ops [zo 25 (.more (.other (.gen (.entry (.tmp 22))))), zo 26 (.ext 0 (.t 25)), zo 5 (.al 32 zC3), ⟨none, none, .st 33 (.t 5) (.t 26)⟩])
 (.seq (.ops [zm 27 3, zo 28 (.ldA 33 (.t 5)), zo 29 (.more (.other (.gen (.lookup 107 (.tmp 27) (.tmp 28) false)))), zo 30 (.bin .eql (.t 29) zi)])
 (.cond (.t 30) (.ops [zm 31 4, zo 32 (.more (.mkI 109 (.t 31))), zo 33 (.ldA 33 (.t 5)), zo 34 (.more (.mkI 32 (.t 33))), zo 35 (.call 62 [(.t 32), (.t 34)])]) .skip)))))))))
 (.seq (.block 2 (.loop (.seq (.seq (.ops [zm 36 4, zo 37 (.nilc (.t 36)), zo 38 (.ld (.t 37)), zo 39 (.call 63 [(.t 38)]), zo 40 (.bin .gtr (.t 39) zi)])
 (.cond (.t 40) .skip (.exit 2)))
 (.block 3 (.seq (.ops [zm 42 4, zo 43 (.more (.mkI 109 (.t 42))), zo 44 (.call 64 [(.t 43)]), zo 45 (.more (.other (.gen (.typeAssert (.tmp 44) 20 32 true)))), zm 41 45, zo 46 (.ext 0 (.t 41)), zo 47 (.ext 1 (.t 41)), zo 6 (.al 32 zC3), ⟨none, none, .st 33 (.t 6) (.t 46)⟩, zm 7 47])
 (.seq (.seq (.ops [zm 48 7, zo 49 (.not (.t 48))])
 (.cond (.t 49) (.exit 3) .skip))
 (.seq (.quietR [0, 1, 3, 7, 0, 31, 0] 7 [zm 50 0, zo 51 (.nilc (.t 50)), zo 52 (.fa 2 (.t 51)), zo 53 (.ld (.t 52)), zo 54 (.ldA 33 (.t 6)), zo 55 (.more (.other (.gen (.lookup 55 (.tmp 53) (.tmp 54) false)))), zo 8 (.al 100 zC6), ⟨none, none, .st 4 (.t 8) (.t 55)⟩])
 (.seq (.ops [zm 56 2, zo 57 (.ldA 33 (.t 6)), zo 58 (.fa 0 (.t 8)), zo 59 (.ld (.t 58)), zo 60 (.fa 1 (.t 8)), zo 61 (.ld (.t 60)), zo 62 (.bin .eql (.t 61) zi), zo 63 (.build zC2 [(0, 33, (.t 57)), (33, 1, (.t 59)), (34, 1, (.t 62))]), zo 64 (.bsl 43 zC2 1 [(0, 35, (.t 63))]), zo 65 (.app 39 43 35 64 (.agg #[zz, zz, zz, zz, zz, zz, zz, zz, zz, zz, zz, zz, zz, zz, zz, zz, zz, zz, zz, zz, zz, zz, zz, zz, zz, zz, zz, zz, zz, zz, zz, zz, .int .i64 0, .string ⟨#[]⟩, .bool false]) (.t 56) (.t 64)), zm 2 65])
 (.seq (.ops [zo 66 (.fa 3 (.t 8)), zo 67 (.ld (.t 66)), zo 68 (.lenS (.t 67)), zo 69 (.mov zi)])
 (.block 4 (.loop (.seq (.ops [zo 70 (.bin .lss (.t 69) (.t 68))])
 (.seq (.cond (.t 70) .skip (.exit 4))
 (.seq (.block 5 (.seq (.ops [zo 71 (.ixS 33 (.t 67) (.t 69)), zo 72 (.ldA 33 (.t 71)), zo 10 (.al 32 zC3), ⟨none, none, .st 33 (.t 10) (.t 72)⟩])
 (.seq (.quietR [0, 0, 3, 7, 3, 19] 6 [zm 73 3, zo 74 (.ldA 33 (.t 10)), zo 75 (.more (.other (.gen (.lookup 107 (.tmp 73) (.tmp 74) false)))), zo 76 (.bin .sub (.t 75) zj), zo 77 (.more (.other (.gen (.mapEntry 107 (.tmp 73) (.tmp 74))))), zo 78 (.ext 1 (.t 77)), ⟨none, none, .more (.other (.gen (.entryStore 107 (.tmp 73) (.tmp 78) (.tmp 76))))⟩])
 (.seq (.quietR [0, 0, 3, 7, 15, 15] 6 [zo 79 (.ldA 33 (.t 10)), zo 80 (.call 65 []), zo 81 (.more (.eqD true 32 zC4 (.t 79) (.t 80))), zm 82 81, zg 83 82 true (.mov (.t 3)), zg 84 82 true (.ldA 33 (.t 10)), zg 85 82 true (.more (.other (.gen (.lookup 107 (.tmp 83) (.tmp 84) false)))), zg 86 82 true (.bin .eql (.t 85) zi), zo 87 (.pick (.t 82) (.t 86) zf)])
 (.cond (.t 87) (.ops [zm 88 4, zo 89 (.more (.mkI 109 (.t 88))), zo 90 (.ldA 33 (.t 10)), zo 91 (.more (.mkI 32 (.t 90))), zo 92 (.call 62 [(.t 89), (.t 91)])]) .skip)))))
 (.ops [zo 93 (.bin .add (.t 69) zj), zm 69 93])))))))))))))))
 (.seq (.ops [zm 94 2, zm 2 94])
 .ret)))))))
theorem Try.known17 : Known Try.prog 17 Try.pc17 95 [2] := ⟨Try.f17, _, Try.func17, rfl, by kernel_rfl, rfl, rfl⟩
def Try.pc70 : PC :=
 (.seq (.ops [zo 1 (.bx 43 (.t 0)), zo 2 (.mov zf)])
 (.seq (.ops [zo 3 (.fa 34 (.t 1)), zo 4 (.ld (.t 3)), zo 5 (.not (.t 4)), zm 2 5])
 .ret))
theorem Try.known70 : Known Try.prog 70 Try.pc70 6 [2] := ⟨Try.f70, _, Try.func70, rfl, by kernel_rfl, rfl, rfl⟩
def Try.pc71 : PC :=
 (.seq (.ops [zo 4 (.bx 43 (.t 1)), zo 5 (.bx 43 (.t 2)), zo 6 (.mov zf)])
 (.seq (.ops [zm 7 0, zo 8 (.fa 0 (.t 4)), zo 9 (.ldA 33 (.t 8)), zo 10 (.fa 0 (.t 5)), zo 11 (.ldA 33 (.t 10)), zo 12 (.call 18 [(.t 7), (.t 9), (.t 11)]), zm 13 12, zg 14 13 false (.mov (.t 0)), zg 15 13 false (.fa 0 (.t 5)), zg 16 13 false (.ldA 33 (.t 15)), zg 17 13 false (.fa 0 (.t 4)), zg 18 13 false (.ldA 33 (.t 17)), zg 19 13 false (.call 18 [(.t 14), (.t 16), (.t 18)]), zo 20 (.pick (.t 13) zt (.t 19)), zm 6 20])
 .ret))
theorem Try.known71 : Known Try.prog 71 Try.pc71 21 [6] := ⟨Try.f71, _, Try.func71, rfl, by kernel_rfl, rfl, rfl⟩
def Try.pc72 : PC :=
 (.seq (.ops [zo 4 (.al 73 zC7)])
 (.seq (.ops [zm 7 1, zo 8 (.build zC7 [(0, 1, (.t 7)), (1, 1, zt)]), zo 5 (.al 73 zC7), ⟨none, none, .st 3 (.t 5) (.t 8)⟩])
 (.seq (.seq (.ops [zo 6 (.mov zj)])
 (.block 0 (.loop (.seq (.seq (.ops [zm 9 6, zm 10 1, zo 11 (.lenS (.t 10)), zo 12 (.bin .lss (.t 9) (.t 11))])
 (.cond (.t 12) .skip (.exit 0)))
 (.seq (.block 1 (.seq (.quietR [] 10 [zm 15 0, zm 16 1, zm 17 6, zo 18 (.bin .sub (.t 17) zj), zo 19 (.ixS 35 (.t 16) (.t 18)), zo 20 (.ldA 35 (.t 19)), zm 21 1, zm 22 6, zo 23 (.ixS 35 (.t 21) (.t 22)), zo 24 (.ldA 35 (.t 23)), zo 25 (.call 71 [(.t 15), (.t 20), (.t 24)]), zo 26 (.not (.t 25))])
 (.cond (.t 26) (.ops [zo 27 (.fa 2 (.t 5)), zo 28 (.ld (.t 27)), zm 29 6, zo 30 (.bsl 3 [.int .i64 0] 1 [(0, 1, (.t 29))]), zo 31 (.app 71 3 1 8 (.int .i64 0) (.t 28) (.t 30)), zo 32 (.fa 2 (.t 5)), ⟨none, none, .st 1 (.t 32) (.t 31)⟩]) .skip)))
 (.ops [zm 13 6, zo 14 (.bin .add (.t 13) zj), zm 6 14]))))))
 (.seq (.ops [zo 33 (.ldA 3 (.t 5)), ⟨none, none, .st 3 (.t 4) (.t 33)⟩])
 .ret))))
theorem Try.known72 : KnownC Try.prog 72 Try.pc72 34 4 (some 3) := ⟨Try.f72, _, _, Try.func72, rfl, by kernel_rfl, rfl, rfl, by kernel_rfl⟩
def Try.pc78 : PC :=
 (.seq (.ops [zo 4 (.mov zf)])
 (.seq (.ops [zm 5 0, zm 6 1, zo 7 (.call 99 [(.t 5), (.t 6)]), zo 8 (.bin .geq (.t 7) zi), zm 4 8])
 .ret))
theorem Try.known78 : Known Try.prog 78 Try.pc78 9 [4] := ⟨Try.f78, _, Try.func78, rfl, by kernel_rfl, rfl, rfl⟩
def Try.pc117 : PC :=
 (.seq (.ops [zo 2 (.mov zf)])
 (.seq (.seq (.ops [zm 5 0, zo 6 (.more (.rngS (.t 5)))])
 (.block 0 (.loop (.seq (.ops [zo 7 (.more (.nxtS (.t 6))), zo 8 (.ext 0 (.t 7))])
 (.seq (.cond (.t 8) .skip (.exit 0))
 (.block 1 (.seq (.ops [zo 9 (.ext 2 (.t 7)), zm 4 9])
 (.seq (.ops [zm 10 4, zo 11 (.bin .neq (.t 10) (.v (.int .i32 9))), zm 12 11, zg 13 12 true (.mov (.t 4)), zg 14 12 true (.bin .lss (.t 13) (.v (.int .i32 32))), zg 15 12 true (.mov (.t 14)), zg 16 15 false (.mov (.t 4)), zg 17 15 false (.bin .gtr (.t 16) (.v (.int .i32 126))), zg 18 12 true (.pick (.t 15) zt (.t 17)), zo 19 (.pick (.t 12) (.t 18) zf)])
 (.cond (.t 19) (.seq (.ops [zo 2 (.mov zf)])
 .ret) .skip)))))))))
 (.seq (.ops [zm 20 0, zo 21 (.lenStr (.t 20)), zo 22 (.bin .leq (.t 21) (.v (.int .i64 80))), zm 2 22])
 .ret)))
theorem Try.known117 : Known Try.prog 117 Try.pc117 23 [2] := ⟨Try.f117, _, Try.func117, rfl, by kernel_rfl, rfl, rfl⟩
def Try.pc48 : PC :=
 (.seq (.ops [zo 2 (.mov zf)])
 (.seq (.ops [zm 3 0, zo 4 (.eqP true (.t 3) (.v (.pointer none))), zm 5 4, zg 6 5 true (.mov (.t 0)), zg 7 5 true (.nilc (.t 6)), zg 8 5 true (.fa 0 (.t 7)), zg 9 5 true (.ld (.t 8)), zo 10 (.pick (.t 5) (.t 9) zf), zm 2 10])
 .ret))
theorem Try.known48 : Known Try.prog 48 Try.pc48 11 [2] := ⟨Try.f48, _, Try.func48, rfl, by kernel_rfl, rfl, rfl⟩
def Try.pc52 : PC :=
 (.seq (.ops [zo 3 (.bx 36 (.t 1)), zo 4 (.mov zf)])
 (.seq (.seq (.quietR [0, 1, 3, 7, 0, 16, 0, 64, 240, 511, 1023, 2047, 2047, 0, 12287] 15 [zm 9 0, zo 10 (.nilc (.t 9)), zo 11 (.fa 1 (.t 10)), zo 12 (.ld (.t 11)), zo 13 (.fa 0 (.t 3)), zo 14 (.ldA 32 (.t 13)), zo 15 (.fa 32 (.t 3)), zo 16 (.ld (.t 15)), zo 17 (.build zC3 [(0, 32, (.t 14)), (32, 1, (.t 16))]), zo 18 (.more (.other (.gen (.lookup 54 (.tmp 12) (.tmp 17) true)))), zm 8 18, zo 19 (.ext 0 (.t 8)), zo 20 (.ext 1 (.t 8)), zo 5 (.al 36 zC1), ⟨none, none, .st 102 (.t 5) (.t 19)⟩, zm 6 20])
 (.seq (.ops [zm 21 6])
 (.cond (.t 21) (.seq (.ops [zo 4 (.mov zt)])
 .ret) .skip)))
 (.seq (.seq (.ops [zo 22 (.fa 100 (.t 3)), zo 23 (.ld (.t 22)), zo 24 (.lenS (.t 23)), zo 25 (.mov zi)])
 (.block 0 (.loop (.seq (.ops [zo 26 (.bin .lss (.t 25) (.t 24))])
 (.seq (.cond (.t 26) .skip (.exit 0))
 (.seq (.block 1 (.seq (.ops [zm 27 25, zm 7 27])
 (.seq (.ops [zm 28 0, zo 29 (.ldA 102 (.t 3)), zm 30 7, zo 31 (.call 58 [(.t 29), (.t 30)]), zo 32 (.call 56 [(.t 28), (.t 31)])])
 (.cond (.t 32) (.seq (.ops [zo 4 (.mov zt)])
 .ret) .skip))))
 (.ops [zo 33 (.bin .add (.t 25) zj), zm 25 33])))))))
 (.seq (.ops [zo 4 (.mov zf)])
 .ret))))
theorem Try.known52 : Known Try.prog 52 Try.pc52 34 [4] := ⟨Try.f52, _, Try.func52, rfl, by kernel_rfl, rfl, rfl⟩
def Try.pc53 : PC :=
 (.seq (.ops [zo 1 (.bx 36 (.t 0)), zo 2 (.mov zf)])
 (.seq (.seq (.ops [zo 5 (.fa 101 (.t 1)), zo 6 (.ld (.t 5)), zo 7 (.lenS (.t 6)), zo 8 (.mov zi)])
 (.block 0 (.loop (.seq (.ops [zo 9 (.bin .lss (.t 8) (.t 7))])
 (.seq (.cond (.t 9) .skip (.exit 0))
 (.seq (.block 1 (.seq (.ops [zm 10 8, zo 11 (.ixS 33 (.t 6) (.t 8)), zo 12 (.ldA 33 (.t 11)), zo 4 (.al 32 zC3), zm 3 10, ⟨none, none, .st 33 (.t 4) (.t 12)⟩])
 (.seq (.quietR [0, 0, 3, 7, 15, 15, 63, 127, 255, 511, 1023, 511, 4095, 511] 14 [zo 13 (.ldA 33 (.t 4)), zo 14 (.call 66 []), zo 15 (.more (.eqD false 32 zC4 (.t 13) (.t 14))), zm 16 15, zg 17 16 false (.ldA 33 (.t 4)), zg 18 16 false (.call 65 []), zg 19 16 false (.more (.eqD false 32 zC4 (.t 17) (.t 18))), zo 20 (.pick (.t 16) zt (.t 19)), zm 21 20, zg 22 21 false (.fa 101 (.t 1)), zg 23 21 false (.ld (.t 22)), zg 24 21 false (.mov (.t 3)), zg 25 21 false (.slS 33 (.t 23) none (some (.t 24))), zg 26 21 false (.ldA 33 (.t 4)), zg 27 21 false (.call 85 [(.t 25), (.t 26)]), zo 28 (.pick (.t 21) zt (.t 27))])
 (.cond (.t 28) (.seq (.ops [zo 2 (.mov zf)])
 .ret) .skip))))
 (.ops [zo 29 (.bin .add (.t 8) zj), zm 8 29])))))))
 (.seq (.quietR [0, 1, 3, 7, 15, 31, 15, 127, 255, 511, 1023, 2047, 1023] 13 [zo 30 (.fa 33 (.t 1)), zo 31 (.ld (.t 30)), zo 32 (.bin .geq (.t 31) zi), zm 33 32, zg 34 33 true (.fa 34 (.t 1)), zg 35 33 true (.ldA 33 (.t 34)), zg 36 33 true (.call 65 []), zg 37 33 true (.more (.eqD true 32 zC4 (.t 35) (.t 36))), zo 38 (.pick (.t 33) (.t 37) zf), zm 39 38, zg 40 39 true (.fa 67 (.t 1)), zg 41 39 true (.ldA 33 (.t 40)), zg 42 39 true (.call 66 []), zg 43 39 true (.more (.eqD true 32 zC4 (.t 41) (.t 42))), zo 44 (.pick (.t 39) (.t 43) zf), zm 2 44])
 .ret)))
theorem Try.known53 : Known Try.prog 53 Try.pc53 45 [2] := ⟨Try.f53, _, Try.func53, rfl, by kernel_rfl, rfl, rfl⟩
def Try.pc29 : PC :=
 (.seq (.ops [zo 3 (.bx 32 (.t 1)), zo 4 (.mov zf)])
 (.seq (.quietR [0, 1, 3, 7, 7, 31, 63, 127, 127, 511, 1023, 2047, 4095, 4095] 14 [zm 5 0, zo 6 (.call 48 [(.t 5)]), zm 7 6, zg 8 7 true (.ldA 33 (.t 3)), zg 9 7 true (.call 66 []), zg 10 7 true (.more (.eqD false 32 zC4 (.t 8) (.t 9))), zg 11 7 true (.mov (.t 10)), zg 12 11 false (.ldA 33 (.t 3)), zg 13 11 false (.call 65 []), zg 14 11 false (.more (.eqD false 32 zC4 (.t 12) (.t 13))), zg 15 7 true (.pick (.t 11) zt (.t 14)), zg 16 7 true (.mov (.t 15)), zg 17 16 false (.mov (.t 0)), zg 18 16 false (.ldA 33 (.t 3)), zg 19 16 false (.call 56 [(.t 17), (.t 18)]), zg 20 7 true (.pick (.t 16) zt (.t 19)), zo 21 (.pick (.t 7) (.t 20) zf), zm 4 21])
 .ret))
theorem Try.known29 : Known Try.prog 29 Try.pc29 22 [4] := ⟨Try.f29, _, Try.func29, rfl, by kernel_rfl, rfl, rfl⟩
def Try.pc54 : PC :=
 (.seq (.ops [zo 4 (.mov zf)])
 (.seq (.ops [zm 5 0, zm 6 1, zo 7 (.call 86 [(.t 5), (.t 6)]), zo 8 (.bin .geq (.t 7) zi), zm 4 8])
 .ret))
theorem Try.known54 : Known Try.prog 54 Try.pc54 9 [4] := ⟨Try.f54, _, Try.func54, rfl, by kernel_rfl, rfl, rfl⟩
def Try.pc55 : PC :=
 (.seq (.ops [zo 2 (.bx 32 (.t 0)), zo 3 (.mov zf)])
 (.seq (.ops [zo 4 (.ld (.t 1)), zo 5 (.ldA 33 (.t 2)), zo 6 (.call 56 [(.t 4), (.t 5)]), zo 7 (.not (.t 6)), zm 3 7])
 .ret))
theorem Try.known55 : Known Try.prog 55 Try.pc55 8 [3] := ⟨Try.f55, _, Try.func55, rfl, by kernel_rfl, rfl, rfl⟩
def Try.pc56 : PC :=
 (.seq (.ops [zo 3 (.bx 32 (.t 1)), zo 4 (.mov zf)])
 (.seq (.quietR [0, 1, 3, 7, 0, 31, 63, 127, 127, 0, 767] 11 [zm 8 0, zo 9 (.nilc (.t 8)), zo 10 (.fa 2 (.t 9)), zo 11 (.ld (.t 10)), zo 12 (.ldA 33 (.t 3)), zo 13 (.more (.other (.gen (.lookup 55 (.tmp 11) (.tmp 12) true)))), zm 7 13, zo 14 (.ext 0 (.t 7)), zo 15 (.ext 1 (.t 7)), zo 5 (.al 100 zC6), ⟨none, none, .st 4 (.t 5) (.t 14)⟩, zm 6 15])
 (.seq (.ops [zm 16 6, zm 4 16])
 .ret)))
theorem Try.known56 : Known Try.prog 56 Try.pc56 17 [4] := ⟨Try.f56, _, Try.func56, rfl, by kernel_rfl, rfl, rfl⟩
def Try.pc18 : PC :=
 (.seq (.ops [zo 4 (.bx 32 (.t 1)), zo 5 (.bx 32 (.t 2)), zo 6 (.mov zf)])
 (.seq (.block 0 (.seq (.quietR [0, 0, 3, 7, 15, 31, 31, 127, 255, 511, 1023, 2047, 2047, 8191, 16383, 32767, 65535, 65535, 262143, 524287, 1048575, 2097151, 2097151] 23 [zm 15 0, zo 16 (.ldA 33 (.t 4)), zo 17 (.call 29 [(.t 15), (.t 16)]), zo 18 (.not (.t 17)), zm 19 18, zg 20 19 false (.mov (.t 0)), zg 21 19 false (.ldA 33 (.t 5)), zg 22 19 false (.call 29 [(.t 20), (.t 21)]), zg 23 19 false (.not (.t 22)), zo 24 (.pick (.t 19) zt (.t 23)), zm 25 24, zg 26 25 false (.ldA 33 (.t 4)), zg 27 25 false (.ldA 33 (.t 5)), zg 28 25 false (.more (.eqD false 32 zC4 (.t 26) (.t 27))), zo 29 (.pick (.t 25) zt (.t 28)), zm 30 29, zg 31 30 false (.ldA 33 (.t 4)), zg 32 30 false (.call 65 []), zg 33 30 false (.more (.eqD false 32 zC4 (.t 31) (.t 32))), zo 34 (.pick (.t 30) zt (.t 33)), zm 35 34, zg 36 35 false (.ldA 33 (.t 5)), zg 37 35 false (.call 66 []), zg 38 35 false (.more (.eqD false 32 zC4 (.t 36) (.t 37))), zo 39 (.pick (.t 35) zt (.t 38)), zm 14 39])
 (.cond (.t 14) (.seq (.ops [zo 6 (.mov zf)])
 .ret) (.seq (.quietR [0, 0, 3, 7, 15, 15] 6 [zo 41 (.ldA 33 (.t 4)), zo 42 (.call 66 []), zo 43 (.more (.eqD false 32 zC4 (.t 41) (.t 42))), zm 44 43, zg 45 44 false (.ldA 33 (.t 5)), zg 46 44 false (.call 65 []), zg 47 44 false (.more (.eqD false 32 zC4 (.t 45) (.t 46))), zo 48 (.pick (.t 44) zt (.t 47)), zm 40 48])
 (.cond (.t 40) (.seq (.ops [zo 6 (.mov zt)])
 .ret) .skip)))))
 (.seq (.ops [zo 49 (.mkM), zo 50 (.ldA 33 (.t 4)), zo 51 (.build [] []), ⟨none, none, .more (.other (.gen (.insert 117 (.tmp 49) (.tmp 50) (.tmp 51))))⟩, zm 52 49, zm 7 52])
 (.seq (.ops [zo 53 (.ldA 33 (.t 4)), zo 54 (.bsl 32 zC3 1 [(0, 33, (.t 53))]), zm 8 54])
 (.seq (.block 1 (.loop (.seq (.seq (.ops [zm 55 8, zo 56 (.lenS (.t 55)), zo 57 (.bin .gtr (.t 56) zi)])
 (.cond (.t 57) .skip (.exit 1)))
 (.block 2 (.seq (.ops [zm 58 8, zm 59 8, zo 60 (.lenS (.t 59)), zo 61 (.bin .sub (.t 60) zj), zo 62 (.ixS 33 (.t 58) (.t 61)), zo 63 (.ldA 33 (.t 62)), zo 9 (.al 32 zC3), ⟨none, none, .st 33 (.t 9) (.t 63)⟩])
 (.seq (.ops [zm 64 8, zm 65 8, zo 66 (.lenS (.t 65)), zo 67 (.bin .sub (.t 66) zj), zo 68 (.slS 33 (.t 64) none (some (.t 67))), zm 8 68])
 (.seq (.ops [zm 69 0, zo 70 (.ldA 33 (.t 9)), zo 71 (.call 67 [(.t 69), (.t 70)]), zo 72 (.lenS (.t 71)), zo 73 (.mov zi)])
 (.block 3 (.loop (.seq (.ops [zo 74 (.bin .lss (.t 73) (.t 72))])
 (.seq (.cond (.t 74) .skip (.exit 3))
 (.seq (.block 4 (.seq (.ops [zo 75 (.ixS 33 (.t 71) (.t 73)), zo 76 (.ldA 33 (.t 75)), zo 11 (.al 32 zC3), ⟨none, none, .st 33 (.t 11) (.t 76)⟩])
 (.seq (.seq (.ops [zo 77 (.ldA 33 (.t 11)), zo 78 (.ldA 33 (.t 5)), zo 79 (.more (.eqD false 32 zC4 (.t 77) (.t 78)))])
 (.cond (.t 79) (.seq (.ops [zo 6 (.mov zt)])
 .ret) .skip))
 (.seq (.ops [zm 81 7, zo 82 (.ldA 33 (.t 11)), zo 83 (.more (.other (.gen (.lookup 117 (.tmp 81) (.tmp 82) true)))), zm 80 83, zo 84 (.ext 0 (.t 80)), zo 85 (.ext 1 (.t 80)), zo 12 (.al 116 []), ⟨none, none, .st 0 (.t 12) (.t 84)⟩, zm 13 85])
 (.seq (.ops [zm 86 13, zo 87 (.not (.t 86))])
 (.cond (.t 87) (.seq (.ops [zm 88 7, zo 89 (.ldA 33 (.t 11)), zo 90 (.build [] []), ⟨none, none, .more (.other (.gen (.mapUpdate 117 (.tmp 88) (.tmp 89) (.tmp 90))))⟩])
 (.ops [zm 91 8, zo 92 (.ldA 33 (.t 11)), zo 93 (.bsl 32 zC3 1 [(0, 33, (.t 92))]), zo 94 (.app 34 32 33 40 (.agg #[zz, zz, zz, zz, zz, zz, zz, zz, zz, zz, zz, zz, zz, zz, zz, zz, zz, zz, zz, zz, zz, zz, zz, zz, zz, zz, zz, zz, zz, zz, zz, zz, .int .i64 0]) (.t 91) (.t 93)), zm 8 94])) .skip))))))
 (.ops [zo 95 (.bin .add (.t 73) zj), zm 73 95])))))))))))))
 (.seq (.ops [zo 6 (.mov zf)])
 .ret))))))
theorem Try.known18 : Known Try.prog 18 Try.pc18 96 [6] := ⟨Try.f18, _, Try.func18, rfl, by kernel_rfl, rfl, rfl⟩
def Try.pc57 : PC :=
 (.seq (.ops [zo 2 (.mov (.v (.slice none 0 0)))])
 (.seq (.seq (.ops [zm 3 0, zo 4 (.more (.slNil false (.t 3)))])
 (.cond (.t 4) (.seq (.ops [zo 2 (.mov (.v (.slice none 0 0)))])
 .ret) .skip))
 (.seq (.ops [zo 5 (.bsl0 9), zm 6 0, zo 7 (.app 33 9 1 16 (.string ⟨#[]⟩) (.t 5) (.t 6)), zm 2 7])
 .ret)))
theorem Try.known57 : Known Try.prog 57 Try.pc57 8 [2] := ⟨Try.f57, _, Try.func57, rfl, by kernel_rfl, rfl, rfl⟩
def Try.pc51 : PC :=
 (.seq (.ops [zo 2 (.mov (.v (.slice none 0 0)))])
 (.seq (.seq (.ops [zm 3 0, zo 4 (.more (.slNil false (.t 3)))])
 (.cond (.t 4) (.seq (.ops [zo 2 (.mov (.v (.slice none 0 0)))])
 .ret) .skip))
 (.seq (.ops [zo 5 (.bsl0 32), zm 6 0, zo 7 (.app 34 32 33 40 (.agg #[zz, zz, zz, zz, zz, zz, zz, zz, zz, zz, zz, zz, zz, zz, zz, zz, zz, zz, zz, zz, zz, zz, zz, zz, zz, zz, zz, zz, zz, zz, zz, zz, .int .i64 0]) (.t 5) (.t 6)), zm 2 7])
 .ret)))
theorem Try.known51 : Known Try.prog 51 Try.pc51 8 [2] := ⟨Try.f51, _, Try.func51, rfl, by kernel_rfl, rfl, rfl⟩
def Try.pc58 : PC :=
 (.seq (.ops [zo 2 (.bx 36 (.t 0)), zo 4 (.al 32 zC3)])
 (.seq (.ops [zo 5 (.fa 0 (.t 2)), zo 6 (.ldA 32 (.t 5)), zo 7 (.fa 33 (.t 2)), zo 8 (.ld (.t 7)), zm 9 1, zo 10 (.bin .add (.t 8) (.t 9)), zo 11 (.build zC3 [(0, 32, (.t 6)), (32, 1, (.t 10))]), ⟨none, none, .st 33 (.t 4) (.t 11)⟩])
 .ret))
theorem Try.known58 : KnownC Try.prog 58 Try.pc58 12 4 (some 33) := ⟨Try.f58, _, _, Try.func58, rfl, by kernel_rfl, rfl, rfl, by kernel_rfl⟩
def Try.pc59 : PC :=
 (.seq (.ops [zo 4 (.bx 36 (.t 1))])
 (.seq (.seq (.ops [zo 9 (.fa 100 (.t 4)), zo 10 (.ld (.t 9)), zo 11 (.lenS (.t 10)), zo 12 (.bin .eql (.t 11) zi)])
 (.cond (.t 12) .ret .skip))
 (.seq (.ops [zo 13 (.fa 34 (.t 4)), zo 14 (.ldA 33 (.t 13)), zo 15 (.bsl 32 zC3 1 [(0, 33, (.t 14))]), zm 6 15])
 (.seq (.seq (.ops [zo 16 (.fa 100 (.t 4)), zo 17 (.ld (.t 16)), zo 18 (.lenS (.t 17)), zo 19 (.mov zi)])
 (.block 0 (.loop (.seq (.ops [zo 20 (.bin .lss (.t 19) (.t 18))])
 (.seq (.cond (.t 20) .skip (.exit 0))
 (.seq (.block 1 (.seq (.ops [zm 21 19, zm 7 21])
 (.ops [zm 22 6, zo 23 (.ldA 102 (.t 4)), zm 24 7, zo 25 (.call 58 [(.t 23), (.t 24)]), zo 26 (.bsl 32 zC3 1 [(0, 33, (.t 25))]), zo 27 (.app 34 32 33 40 (.agg #[zz, zz, zz, zz, zz, zz, zz, zz, zz, zz, zz, zz, zz, zz, zz, zz, zz, zz, zz, zz, zz, zz, zz, zz, zz, zz, zz, zz, zz, zz, zz, zz, .int .i64 0]) (.t 22) (.t 26)), zm 6 27])))
 (.ops [zo 28 (.bin .add (.t 19) zj), zm 19 28])))))))
 (.seq (.ops [zm 29 6, zo 30 (.fa 67 (.t 4)), zo 31 (.ldA 33 (.t 30)), zo 32 (.bsl 32 zC3 1 [(0, 33, (.t 31))]), zo 33 (.app 34 32 33 40 (.agg #[zz, zz, zz, zz, zz, zz, zz, zz, zz, zz, zz, zz, zz, zz, zz, zz, zz, zz, zz, zz, zz, zz, zz, zz, zz, zz, zz, zz, zz, zz, zz, zz, .int .i64 0]) (.t 29) (.t 32)), zm 6 33])
 (.seq (.ops [zo 8 (.mov zj)])
 (.block 2 (.loop (.seq (.seq (.ops [zm 34 8, zm 35 6, zo 36 (.lenS (.t 35)), zo 37 (.bin .lss (.t 34) (.t 36))])
 (.cond (.t 37) .skip (.exit 2)))
 (.seq (.block 3 (.quietR [] 11 [zm 40 0, zm 41 6, zm 42 8, zo 43 (.bin .sub (.t 42) zj), zo 44 (.ixS 33 (.t 41) (.t 43)), zo 45 (.ldA 33 (.t 44)), zm 46 6, zm 47 8, zo 48 (.ixS 33 (.t 46) (.t 47)), zo 49 (.ldA 33 (.t 48)), zm 50 2, zo 51 (.call 87 [(.t 40), (.t 45), (.t 49), (.t 50)])]))
 (.ops [zm 38 8, zo 39 (.bin .add (.t 38) zj), zm 8 39])))))))))))
theorem Try.known59 : Known Try.prog 59 Try.pc59 52 [] := ⟨Try.f59, _, Try.func59, rfl, by kernel_rfl, rfl, rfl⟩
def Try.pc60 : PC :=
 (.seq (.ops [zo 4 (.bx 36 (.t 1))])
 (.seq (.seq (.ops [zo 13 (.fa 34 (.t 4)), zo 14 (.ldA 33 (.t 13)), zo 15 (.fa 67 (.t 4)), zo 16 (.ldA 33 (.t 15)), zo 17 (.bsl 32 [zz, zz, zz, zz, zz, zz, zz, zz, zz, zz, zz, zz, zz, zz, zz, zz, zz, zz, zz, zz, zz, zz, zz, zz, zz, zz, zz, zz, zz, zz, zz, zz, .int .i64 0, zz, zz, zz, zz, zz, zz, zz, zz, zz, zz, zz, zz, zz, zz, zz, zz, zz, zz, zz, zz, zz, zz, zz, zz, zz, zz, zz, zz, zz, zz, zz, zz, .int .i64 0] 2 [(0, 33, (.t 14)), (33, 33, (.t 16))]), zo 18 (.fa 101 (.t 4)), zo 19 (.ld (.t 18)), zo 20 (.app 34 32 33 40 (.agg #[zz, zz, zz, zz, zz, zz, zz, zz, zz, zz, zz, zz, zz, zz, zz, zz, zz, zz, zz, zz, zz, zz, zz, zz, zz, zz, zz, zz, zz, zz, zz, zz, .int .i64 0]) (.t 17) (.t 19)), zo 21 (.lenS (.t 20)), zo 22 (.mov zi)])
 (.block 0 (.loop (.seq (.ops [zo 23 (.bin .lss (.t 22) (.t 21))])
 (.seq (.cond (.t 23) .skip (.exit 0))
 (.seq (.block 1 (.seq (.ops [zo 24 (.ixS 33 (.t 20) (.t 22)), zo 25 (.ldA 33 (.t 24)), zo 7 (.al 32 zC3), ⟨none, none, .st 33 (.t 7) (.t 25)⟩])
 (.seq (.quietR [0, 1, 3, 7, 0, 31, 63, 127, 127, 0, 767] 11 [zm 27 0, zo 28 (.nilc (.t 27)), zo 29 (.fa 2 (.t 28)), zo 30 (.ld (.t 29)), zo 31 (.ldA 33 (.t 7)), zo 32 (.more (.other (.gen (.lookup 55 (.tmp 30) (.tmp 31) true)))), zm 26 32, zo 33 (.ext 0 (.t 26)), zo 34 (.ext 1 (.t 26)), zo 8 (.al 100 zC6), ⟨none, none, .st 4 (.t 8) (.t 33)⟩, zm 9 34])
 (.seq (.ops [zm 35 9])
 (.cond (.t 35) (.seq (.ops [zo 36 (.fa 2 (.t 8)), zo 37 (.ld (.t 36)), zm 38 2, zo 39 (.bin .add (.t 37) (.t 38)), zo 40 (.fa 2 (.t 8)), ⟨none, none, .st 1 (.t 40) (.t 39)⟩])
 (.quietR [] 6 [zm 41 0, zo 42 (.nilc (.t 41)), zo 43 (.fa 2 (.t 42)), zo 44 (.ld (.t 43)), zo 45 (.ldA 33 (.t 7)), zo 46 (.ldA 4 (.t 8)), ⟨none, none, .more (.other (.gen (.mapUpdate 55 (.tmp 44) (.tmp 45) (.tmp 46))))⟩])) .skip)))))
 (.ops [zo 47 (.bin .add (.t 22) zj), zm 22 47])))))))
 (.seq (.ops [zo 48 (.fa 101 (.t 4)), zo 49 (.ld (.t 48)), zo 50 (.lenS (.t 49)), zo 51 (.mov zi)])
 (.block 2 (.loop (.seq (.ops [zo 52 (.bin .lss (.t 51) (.t 50))])
 (.seq (.cond (.t 52) .skip (.exit 2))
 (.seq (.block 3 (.seq (.ops [zo 53 (.ixS 33 (.t 49) (.t 51)), zo 54 (.ldA 33 (.t 53)), zo 11 (.al 32 zC3), ⟨none, none, .st 33 (.t 11) (.t 54)⟩])
 (.seq (.quietR [0, 1, 3, 7, 0, 31, 0] 7 [zm 55 0, zo 56 (.nilc (.t 55)), zo 57 (.fa 2 (.t 56)), zo 58 (.ld (.t 57)), zo 59 (.ldA 33 (.t 11)), zo 60 (.more (.other (.gen (.lookup 55 (.tmp 58) (.tmp 59) false)))), zo 12 (.al 100 zC6), ⟨none, none, .st 4 (.t 12) (.t 60)⟩])
 (.seq (.ops [zo 61 (.fa 1 (.t 12)), zo 62 (.ld (.t 61)), zm 63 2, zo 64 (.bin .add (.t 62) (.t 63)), zo 65 (.fa 1 (.t 12)), ⟨none, none, .st 1 (.t 65) (.t 64)⟩])
 (.quietR [] 6 [zm 66 0, zo 67 (.nilc (.t 66)), zo 68 (.fa 2 (.t 67)), zo 69 (.ld (.t 68)), zo 70 (.ldA 33 (.t 11)), zo 71 (.ldA 4 (.t 12)), ⟨none, none, .more (.other (.gen (.mapUpdate 55 (.tmp 69) (.tmp 70) (.tmp 71))))⟩])))))
 (.ops [zo 72 (.bin .add (.t 51) zj), zm 51 72])))))))))
theorem Try.known60 : Known Try.prog 60 Try.pc60 73 [] := ⟨Try.f60, _, Try.func60, rfl, by kernel_rfl, rfl, rfl⟩
def Try.pc100 : PC :=
 (.seq (.ops [zo 6 (.mov zi)])
 (.seq (.seq (.ops [zm 8 1, zm 7 8])
 (.block 0 (.loop (.seq (.seq (.ops [zm 9 7, zm 10 0, zo 11 (.nilc (.t 10)), zo 12 (.fa 0 (.t 11)), zo 13 (.ld (.t 12)), zo 14 (.lenS (.t 13)), zo 15 (.bin .lss (.t 9) (.t 14))])
 (.cond (.t 15) .skip (.exit 0)))
 (.seq (.block 1 (.seq (.ops [zm 18 0, zo 19 (.nilc (.t 18)), zo 20 (.fa 0 (.t 19)), zo 21 (.ld (.t 20)), zm 22 7, zo 23 (.ixS 3 (.t 21) (.t 22)), zo 24 (.fa 1 (.t 23)), zo 25 (.ld (.t 24)), zm 26 25, zg 27 26 true (.mov (.t 2)), zg 28 26 true (.mov (.t 0)), zg 29 26 true (.nilc (.t 28)), zg 30 26 true (.fa 1 (.t 29)), zg 31 26 true (.ld (.t 30)), zg 32 26 true (.mov (.t 7)), zg 33 26 true (.ixS 1 (.t 31) (.t 32)), zg 34 26 true (.ld (.t 33)), zg 35 26 true (.call 115 [(.t 27), (.t 34)]), zo 36 (.pick (.t 26) (.t 35) zf)])
 (.cond (.t 36) (.seq (.ops [zm 37 7, zm 6 37])
 .ret) .skip)))
 (.ops [zm 16 7, zo 17 (.bin .add (.t 16) zj), zm 7 17]))))))
 (.seq (.ops [zo 6 (.mov (.v (.int .i64 (-1))))])
 .ret)))
theorem Try.known100 : Known Try.prog 100 Try.pc100 38 [6] := ⟨Try.f100, _, Try.func100, rfl, by kernel_rfl, rfl, rfl⟩
def Try.pc101 : PC :=
 (.seq (.ops [zo 4 (.mov zf)])
 (.seq (.ops [zm 5 0, zm 6 1, zo 7 (.call 116 [(.t 5), (.t 6)]), zo 8 (.bin .geq (.t 7) zi), zm 4 8])
 .ret))
theorem Try.known101 : Known Try.prog 101 Try.pc101 9 [4] := ⟨Try.f101, _, Try.func101, rfl, by kernel_rfl, rfl, rfl⟩
def Try.pc102 : PC :=
 (.seq (.ops [zo 2 (.mov zf)])
 (.seq (.ops [zm 3 0, zo 4 (.call 103 [(.t 3)]), zo 5 (.not (.t 4)), zm 2 5])
 .ret))
theorem Try.known102 : Known Try.prog 102 Try.pc102 6 [2] := ⟨Try.f102, _, Try.func102, rfl, by kernel_rfl, rfl, rfl⟩
def Try.pc104 : PC :=
 (.seq (.ops [zo 4 (.mov (.v (.slice none 0 0))), zo 5 (.mov zi)])
 (.seq (.seq (.ops [zm 13 0, zo 14 (.lenS (.t 13)), zo 15 (.bin .gtr (.t 14) (.v (.int .i64 1024))), zm 16 15, zg 17 16 false (.mov (.t 1)), zg 18 16 false (.lenS (.t 17)), zg 19 16 false (.bin .gtr (.t 18) (.v (.int .i64 1024))), zo 20 (.pick (.t 16) zt (.t 19))])
 (.cond (.t 20) (.seq (.ops [zo 4 (.mov (.v (.slice none 0 0))), zo 5 (.mov (.v (.int .i64 3)))])
 .ret) .skip))
 (.seq (.ops [zo 21 (.mkM), zm 6 21])
 (.seq (.ops [zm 22 6, zm 23 0, zo 24 (.call 119 [(.t 22), (.t 23)]), zm 25 6, zm 26 1, zo 27 (.call 119 [(.t 25), (.t 26)]), zm 7 24, zm 8 27])
 (.seq (.ops [zm 28 7, zm 29 8, zo 30 (.call 120 [(.t 28), (.t 29)]), zm 9 30])
 (.seq (.ops [zo 10 (.mov (.v (.slice none 0 0)))])
 (.seq (.seq (.ops [zo 11 (.mov zi), zo 12 (.mov zi)])
 (.block 0 (.loop (.seq (.seq (.ops [zm 31 11, zm 32 7, zo 33 (.lenS (.t 32)), zo 34 (.bin .lss (.t 31) (.t 33)), zm 35 34, zg 36 35 false (.mov (.t 12)), zg 37 35 false (.mov (.t 8)), zg 38 35 false (.lenS (.t 37)), zg 39 35 false (.bin .lss (.t 36) (.t 38)), zo 40 (.pick (.t 35) zt (.t 39))])
 (.cond (.t 40) .skip (.exit 0)))
 (.block 1 (.block 2 (.seq (.quietR [] 19 [zm 49 11, zm 50 7, zo 51 (.lenS (.t 50)), zo 52 (.bin .lss (.t 49) (.t 51)), zm 53 52, zg 54 53 true (.mov (.t 12)), zg 55 53 true (.mov (.t 8)), zg 56 53 true (.lenS (.t 55)), zg 57 53 true (.bin .lss (.t 54) (.t 56)), zo 58 (.pick (.t 53) (.t 57) zf), zm 59 58, zg 60 59 true (.mov (.t 7)), zg 61 59 true (.mov (.t 11)), zg 62 59 true (.ixS 1 (.t 60) (.t 61)), zg 63 59 true (.ld (.t 62)), zg 64 59 true (.mov (.t 8)), zg 65 59 true (.mov (.t 12)), zg 66 59 true (.ixS 1 (.t 64) (.t 65)), zg 67 59 true (.ld (.t 66)), zg 68 59 true (.bin .eql (.t 63) (.t 67)), zo 69 (.pick (.t 59) (.t 68) zf), zm 48 69])
 (.cond (.t 48) (.seq (.ops [zm 70 10, zm 71 11, zm 72 12, zo 73 (.build zC9 [(0, 1, zi), (1, 1, (.t 71)), (2, 1, (.t 72))]), zo 74 (.bsl 176 zC9 1 [(0, 3, (.t 73))]), zo 75 (.app 169 176 3 24 (.agg #[.int .i64 0, .int .i64 0, .int .i64 0]) (.t 70) (.t 74)), zm 10 75])
 (.seq (.ops [zm 76 11, zo 77 (.bin .add (.t 76) zj), zm 11 77])
 (.ops [zm 78 12, zo 79 (.bin .add (.t 78) zj), zm 12 79]))) (.seq (.quietR [] 26 [zm 81 11, zm 82 7, zo 83 (.lenS (.t 82)), zo 84 (.bin .lss (.t 81) (.t 83)), zm 85 84, zg 86 85 true (.mov (.t 12)), zg 87 85 true (.mov (.t 8)), zg 88 85 true (.lenS (.t 87)), zg 89 85 true (.bin .eql (.t 86) (.t 88)), zg 90 85 true (.mov (.t 89)), zg 91 90 false (.mov (.t 9)), zg 92 90 false (.mov (.t 11)), zg 93 90 false (.bin .add (.t 92) zj), zg 94 90 false (.ixS 1 (.t 91) (.t 93)), zg 95 90 false (.ld (.t 94)), zg 96 90 false (.mov (.t 12)), zg 97 90 false (.ixS 1 (.t 95) (.t 96)), zg 98 90 false (.ld (.t 97)), zg 99 90 false (.mov (.t 9)), zg 100 90 false (.mov (.t 11)), zg 101 90 false (.ixS 1 (.t 99) (.t 100)), zg 102 90 false (.ld (.t 101)), zg 103 90 false (.mov (.t 12)), zg 104 90 false (.bin .add (.t 103) zj), zg 105 90 false (.ixS 1 (.t 102) (.t 104)), zg 106 90 false (.ld (.t 105)), zg 107 90 false (.bin .geq (.t 98) (.t 106)), zg 108 85 true (.pick (.t 90) zt (.t 107)), zo 109 (.pick (.t 85) (.t 108) zf), zm 80 109])
 (.cond (.t 80) (.seq (.ops [zm 110 10, zm 111 11, zo 112 (.build zC9 [(0, 1, zj), (1, 1, (.t 111))]), zo 113 (.bsl 176 zC9 1 [(0, 3, (.t 112))]), zo 114 (.app 169 176 3 24 (.agg #[.int .i64 0, .int .i64 0, .int .i64 0]) (.t 110) (.t 113)), zm 10 114])
 (.ops [zm 115 11, zo 116 (.bin .add (.t 115) zj), zm 11 116])) (.seq (.ops [zm 41 10, zm 42 12, zo 43 (.build zC9 [(0, 1, (.v (.int .i64 2))), (2, 1, (.t 42))]), zo 44 (.bsl 176 zC9 1 [(0, 3, (.t 43))]), zo 45 (.app 169 176 3 24 (.agg #[.int .i64 0, .int .i64 0, .int .i64 0]) (.t 41) (.t 44)), zm 10 45])
 (.ops [zm 46 12, zo 47 (.bin .add (.t 46) zj), zm 12 47]))))))))))))
 (.seq (.ops [zm 117 10, zm 4 117, zo 5 (.mov zi)])
 .ret))))))))
theorem Try.known104 : Known Try.prog 104 Try.pc104 118 [4, 5] := ⟨Try.f104, _, Try.func104, rfl, by kernel_rfl, rfl, rfl⟩
def Try.pc105 : PC :=
 (.seq (.ops [zo 3 (.bx 144 (.t 1)), zo 4 (.mov (.v (.slice none 0 0)))])
 (.seq (.seq (.quietR [] 11 [zm 7 0, zo 8 (.nilc (.t 7)), zo 9 (.fa 0 (.t 8)), zo 10 (.ld (.t 9)), zo 11 (.fa 0 (.t 3)), zo 12 (.ld (.t 11)), zo 13 (.fa 1 (.t 3)), zo 14 (.ld (.t 13)), zo 15 (.slS 3 (.t 10) (some (.t 12)) (some (.t 14))), zo 16 (.lenS (.t 15)), zo 17 (.mov zi)])
 (.block 0 (.loop (.seq (.ops [zo 18 (.bin .lss (.t 17) (.t 16))])
 (.seq (.cond (.t 18) .skip (.exit 0))
 (.seq (.block 1 (.seq (.ops [zo 19 (.ixS 3 (.t 15) (.t 17)), zo 20 (.ldA 3 (.t 19)), zo 6 (.al 73 zC7), ⟨none, none, .st 3 (.t 6) (.t 20)⟩])
 (.seq (.ops [zo 21 (.fa 1 (.t 6)), zo 22 (.ld (.t 21))])
 (.cond (.t 22) (.ops [zm 23 4, zo 24 (.bsl 9 zC10 1 [(0, 1, (.v (.string ⟨#[10]⟩)))]), zo 25 (.app 33 9 1 16 (.string ⟨#[]⟩) (.t 23) (.t 24)), zm 4 25]) (.ops [zm 26 4, zo 27 (.fa 0 (.t 6)), zo 28 (.ld (.t 27)), zo 29 (.ixS 35 (.t 28) zi), zo 30 (.fa 33 (.t 29)), zo 31 (.ld (.t 30)), zo 32 (.bsl 9 zC10 1 [(0, 1, (.t 31))]), zo 33 (.app 33 9 1 16 (.string ⟨#[]⟩) (.t 26) (.t 32)), zm 4 33])))))
 (.ops [zo 34 (.bin .add (.t 17) zj), zm 17 34])))))))
 (.seq (.ops [zm 35 4, zm 4 35])
 .ret)))
theorem Try.known105 : Known Try.prog 105 Try.pc105 36 [4] := ⟨Try.f105, _, Try.func105, rfl, by kernel_rfl, rfl, rfl⟩
def Try.pc106 : PC :=
 (.seq (.ops [zo 3 (.mov (.v (.pointer none)))])
 (.seq (.seq (.ops [zo 4 (.ld (.t 0)), zo 5 (.not (.t 4))])
 (.cond (.t 5) (.seq (.ops [zo 6 (.ld (.t 1)), zo 7 (.ld (.t 2)), zo 8 (.ld (.t 2)), zo 9 (.build zC8 [(0, 1, (.t 7)), (1, 1, (.t 8))]), zo 10 (.bsl 147 zC8 1 [(0, 3, (.t 9))]), zo 11 (.app 142 147 3 40 (.agg #[.int .i64 0, .int .i64 0, .slice none 0 0]) (.t 6) (.t 10)), ⟨none, none, .st 1 (.t 1) (.t 11)⟩])
 (.ops [⟨none, none, .st 1 (.t 0) zt⟩])) .skip))
 (.seq (.ops [zo 12 (.ld (.t 1)), zo 13 (.ld (.t 1)), zo 14 (.lenS (.t 13)), zo 15 (.bin .sub (.t 14) zj), zo 16 (.ixS 3 (.t 12) (.t 15)), zm 3 16])
 .ret)))
theorem Try.known106 : Known Try.prog 106 Try.pc106 17 [3] := ⟨Try.f106, _, Try.func106, rfl, by kernel_rfl, rfl, rfl⟩
def Try.pc107 : PC :=
 (.seq (.ops [zo 4 (.mov zf)])
 (.seq (.ops [zm 5 0, zo 6 (.nilc (.t 5)), zo 7 (.fa 2 (.t 6)), zo 8 (.ld (.t 7)), zm 9 1, zo 10 (.ixS 1 (.t 8) (.t 9)), zo 11 (.ld (.t 10)), zm 12 11, zg 13 12 true (.mov (.t 0)), zg 14 12 true (.nilc (.t 13)), zg 15 12 true (.fa 0 (.t 14)), zg 16 12 true (.ld (.t 15)), zg 17 12 true (.mov (.t 1)), zg 18 12 true (.ixS 3 (.t 16) (.t 17)), zg 19 12 true (.fa 1 (.t 18)), zg 20 12 true (.ld (.t 19)), zg 21 12 true (.not (.t 20)), zo 22 (.pick (.t 12) (.t 21) zf), zm 4 22])
 .ret))
theorem Try.known107 : Known Try.prog 107 Try.pc107 23 [4] := ⟨Try.f107, _, Try.func107, rfl, by kernel_rfl, rfl, rfl⟩
def Try.pc109 : PC :=
 (.seq (.ops [zo 2 (.bx 32 (.t 0)), zo 3 (.bx 32 (.t 1)), zo 4 (.mov zi)])
 (.seq (.quietR [0, 1, 0, 4, 15, 0, 32, 0, 128] 9 [zo 5 (.fa 0 (.t 2)), zo 6 (.slA 32 (.t 5)), zo 7 (.fa 0 (.t 3)), zo 8 (.slA 32 (.t 7)), zo 9 (.call 124 [(.t 6), (.t 8)]), zo 10 (.fa 32 (.t 2)), zo 11 (.ld (.t 10)), zo 12 (.fa 32 (.t 3)), zo 13 (.ld (.t 12)), zo 14 (.call 125 [(.t 11), (.t 13)]), zo 15 (.bsl 3 [.int .i64 0, .int .i64 0] 2 [(0, 1, (.t 9)), (1, 1, (.t 14))]), zo 16 (.call 123 [(.t 15)]), zm 4 16])
 .ret))
theorem Try.known109 : Known Try.prog 109 Try.pc109 17 [4] := ⟨Try.f109, _, Try.func109, rfl, by kernel_rfl, rfl, rfl⟩
def Try.pc98 : PC :=
 (.seq (.ops [zo 4 (.mov zi)])
 (.seq (.seq (.ops [zm 6 0, zo 7 (.lenS (.t 6)), zo 8 (.mov zi)])
 (.block 0 (.loop (.seq (.ops [zo 9 (.bin .lss (.t 8) (.t 7))])
 (.seq (.cond (.t 9) .skip (.exit 0))
 (.seq (.block 1 (.seq (.ops [zm 10 8, zm 5 10])
 (.seq (.ops [zm 11 1, zm 12 0, zm 13 5, zo 14 (.ixS 1 (.t 12) (.t 13)), zo 15 (.ld (.t 14)), zo 16 (.bin .eql (.t 11) (.t 15))])
 (.cond (.t 16) (.seq (.ops [zm 17 5, zm 4 17])
 .ret) .skip))))
 (.ops [zo 18 (.bin .add (.t 8) zj), zm 8 18])))))))
 (.seq (.ops [zo 4 (.mov (.v (.int .i64 (-1))))])
 .ret)))
theorem Try.known98 : Known Try.prog 98 Try.pc98 19 [4] := ⟨Try.f98, _, Try.func98, rfl, by kernel_rfl, rfl, rfl⟩
def Try.pc96 : PC :=
 (.seq (.ops [zo 4 (.mov zi)])
 (.seq (.seq (.ops [zm 6 0, zo 7 (.lenS (.t 6)), zo 8 (.mov zi)])
 (.block 0 (.loop (.seq (.ops [zo 9 (.bin .lss (.t 8) (.t 7))])
 (.seq (.cond (.t 9) .skip (.exit 0))
 (.seq (.block 1 (.seq (.ops [zm 10 8, zm 5 10])
 (.seq (.ops [zm 11 1, zm 12 0, zm 13 5, zo 14 (.ixS 35 (.t 12) (.t 13)), zo 15 (.ldA 35 (.t 14)), zo 16 (.callv (.t 11) [(.t 15)])])
 (.cond (.t 16) (.seq (.ops [zm 17 5, zm 4 17])
 .ret) .skip))))
 (.ops [zo 18 (.bin .add (.t 8) zj), zm 8 18])))))))
 (.seq (.ops [zo 4 (.mov (.v (.int .i64 (-1))))])
 .ret)))
theorem Try.known96 : Known Try.prog 96 Try.pc96 19 [4] := ⟨Try.f96, _, Try.func96, rfl, by kernel_rfl, rfl, rfl⟩
def Try.pc61 : PC :=
 (.seq (.ops [zo 2 (.mov (.v (.map none)))])
 (.seq (.ops [zm 9 0, zo 10 (.nilc (.t 9)), zo 11 (.fa 2 (.t 10)), zo 12 (.ld (.t 11)), zo 13 (.lenM (.t 12)), zo 14 (.more (.other (.gen (.makeMap 107 (some (.tmp 13)))))), zm 3 14])
 (.seq (.seq (.ops [zm 15 0, zo 16 (.nilc (.t 15)), zo 17 (.fa 2 (.t 16)), zo 18 (.ld (.t 17)), zo 19 (.more (.other (.gen (.range 55 (.tmp 18)))))])
 (.block 0 (.loop (.seq (.ops [zo 20 (.more (.other (.gen (.next (.tmp 19) false)))), zo 21 (.ext 0 (.t 20))])
 (.seq (.cond (.t 21) .skip (.exit 0))
 (.block 1 (.seq (.ops [zo 22 (.more (.other (.gen (.entry (.tmp 19))))), zo 23 (.ext 0 (.t 22)), zo 4 (.al 32 zC3), ⟨none, none, .st 33 (.t 4) (.t 23)⟩])
 (.quietR [0, 0, 3, 7, 3, 19] 6 [zm 24 3, zo 25 (.ldA 33 (.t 4)), zo 26 (.more (.other (.gen (.lookup 107 (.tmp 24) (.tmp 25) false)))), zo 27 (.bin .add (.t 26) zi), zo 28 (.more (.other (.gen (.mapEntry 107 (.tmp 24) (.tmp 25))))), zo 29 (.ext 1 (.t 28)), ⟨none, none, .more (.other (.gen (.entryStore 107 (.tmp 24) (.tmp 29) (.tmp 27))))⟩]))))))))
 (.seq (.seq (.ops [zm 30 0, zo 31 (.nilc (.t 30)), zo 32 (.fa 2 (.t 31)), zo 33 (.ld (.t 32)), zo 34 (.more (.other (.gen (.range 55 (.tmp 33)))))])
 (.block 2 (.loop (.seq (.ops [zo 35 (.more (.other (.gen (.next (.tmp 34) false)))), zo 36 (.ext 0 (.t 35))])
 (.seq (.cond (.t 36) .skip (.exit 2))
 (.block 3 (.seq (.ops [zo 37 (.more (.other (.gen (.entry (.tmp 34))))), zo 38 (.ext 1 (.t 37)), zo 6 (.al 100 zC6), ⟨none, none, .st 4 (.t 6) (.t 38)⟩])
 (.seq (.ops [zo 39 (.fa 3 (.t 6)), zo 40 (.ld (.t 39)), zo 41 (.lenS (.t 40)), zo 42 (.mov zi)])
 (.block 4 (.loop (.seq (.ops [zo 43 (.bin .lss (.t 42) (.t 41))])
 (.seq (.cond (.t 43) .skip (.exit 4))
 (.seq (.block 5 (.seq (.ops [zo 44 (.ixS 33 (.t 40) (.t 42)), zo 45 (.ldA 33 (.t 44)), zo 8 (.al 32 zC3), ⟨none, none, .st 33 (.t 8) (.t 45)⟩])
 (.quietR [0, 0, 3, 7, 3, 19] 6 [zm 46 3, zo 47 (.ldA 33 (.t 8)), zo 48 (.more (.other (.gen (.lookup 107 (.tmp 46) (.tmp 47) false)))), zo 49 (.bin .add (.t 48) zj), zo 50 (.more (.other (.gen (.mapEntry 107 (.tmp 46) (.tmp 47))))), zo 51 (.ext 1 (.t 50)), ⟨none, none, .more (.other (.gen (.entryStore 107 (.tmp 46) (.tmp 51) (.tmp 49))))⟩])))
 (.ops [zo 52 (.bin .add (.t 42) zj), zm 42 52]))))))))))))))
 (.seq (.ops [zm 53 3, zm 2 53])
 .ret)))))
theorem Try.known61 : Known Try.prog 61 Try.pc61 54 [2] := ⟨Try.f61, _, Try.func61, rfl, by kernel_rfl, rfl, rfl⟩
def Try.pc62 : PC :=
 (.seq (.ops [zm 4 0, zm 5 1, zo 6 (.more (.other (.gen (.call { callee := (.invoke (.tmp 4) "Push"), args := #[(.tmp 5)], argTypes := #[20] }))))])
 (.ops [zm 7 0, zm 8 0, zo 9 (.more (.other (.gen (.call { callee := (.invoke (.tmp 8) "Len"), args := #[], argTypes := #[] })))), zo 10 (.bin .sub (.t 9) zj), zo 11 (.call 88 [(.t 7), (.t 10)])]))
theorem Try.known62 : Known Try.prog 62 Try.pc62 12 [] := ⟨Try.f62, _, Try.func62, rfl, by kernel_rfl, rfl, rfl⟩
def Try.pc63 : PC :=
 (.seq (.ops [zo 2 (.mov zi)])
 (.seq (.ops [zm 3 0, zo 4 (.lenS (.t 3)), zm 2 4])
 .ret))
theorem Try.known63 : Known Try.prog 63 Try.pc63 5 [2] := ⟨Try.f63, _, Try.func63, rfl, by kernel_rfl, rfl, rfl⟩
def Try.pc64 : PC :=
 (.seq (.ops [zo 2 (.mov (.v .nilIface))])
 (.seq (.ops [zm 4 0, zo 5 (.more (.other (.gen (.call { callee := (.invoke (.tmp 4) "Len"), args := #[], argTypes := #[] })))), zo 6 (.bin .sub (.t 5) zj), zm 3 6])
 (.seq (.ops [zm 7 0, zm 8 3, zo 9 (.more (.other (.gen (.call { callee := (.invoke (.tmp 7) "Swap"), args := #[(.const (.int .i64 0)), (.tmp 8)], argTypes := #[3, 3] }))))])
 (.seq (.ops [zm 10 0, zm 11 3, zo 12 (.call 89 [(.t 10), zi, (.t 11)])])
 (.seq (.ops [zm 13 0, zo 14 (.more (.other (.gen (.call { callee := (.invoke (.tmp 13) "Pop"), args := #[], argTypes := #[] })))), zm 2 14])
 .ret)))))
theorem Try.known64 : Known Try.prog 64 Try.pc64 15 [2] := ⟨Try.f64, _, Try.func64, rfl, by kernel_rfl, rfl, rfl⟩
def Try.pc65 : PC :=
 (.seq (.ops [zo 0 (.al 32 zC3)])
 (.seq (.ops [zo 1 (.build zC3 [(32, 1, (.v (.int .i64 (-2))))]), ⟨none, none, .st 33 (.t 0) (.t 1)⟩])
 .ret))
theorem Try.known65 : KnownC Try.prog 65 Try.pc65 2 0 (some 33) := ⟨Try.f65, _, _, Try.func65, rfl, by kernel_rfl, rfl, rfl, by kernel_rfl⟩
def Try.pc66 : PC :=
 (.seq (.ops [zo 0 (.al 32 zC3)])
 (.seq (.ops [zo 1 (.build zC3 [(32, 1, (.v (.int .i64 (-1))))]), ⟨none, none, .st 33 (.t 0) (.t 1)⟩])
 .ret))
theorem Try.known66 : KnownC Try.prog 66 Try.pc66 2 0 (some 33) := ⟨Try.f66, _, _, Try.func66, rfl, by kernel_rfl, rfl, rfl, by kernel_rfl⟩
def Try.pc85 : PC :=
 (.seq (.ops [zo 3 (.bx 32 (.t 1)), zo 4 (.mov zf)])
 (.seq (.ops [zm 5 0, zo 6 (.ldA 33 (.t 3)), zo 7 (.call 110 [(.t 5), (.t 6)]), zo 8 (.bin .geq (.t 7) zi), zm 4 8])
 .ret))
theorem Try.known85 : Known Try.prog 85 Try.pc85 9 [4] := ⟨Try.f85, _, Try.func85, rfl, by kernel_rfl, rfl, rfl⟩
def Try.pc86 : PC :=
 (.seq (.ops [zo 4 (.mov zi)])
 (.seq (.seq (.ops [zm 6 0, zo 7 (.lenS (.t 6)), zo 8 (.mov zi)])
 (.block 0 (.loop (.seq (.ops [zo 9 (.bin .lss (.t 8) (.t 7))])
 (.seq (.cond (.t 9) .skip (.exit 0))
 (.seq (.block 1 (.seq (.ops [zm 10 8, zm 5 10])
 (.seq (.ops [zm 11 1, zm 12 0, zm 13 5, zo 14 (.ixS 33 (.t 12) (.t 13)), zo 15 (.ldA 33 (.t 14)), zo 16 (.callv (.t 11) [(.t 15)])])
 (.cond (.t 16) (.seq (.ops [zm 17 5, zm 4 17])
 .ret) .skip))))
 (.ops [zo 18 (.bin .add (.t 8) zj), zm 8 18])))))))
 (.seq (.ops [zo 4 (.mov (.v (.int .i64 (-1))))])
 .ret)))
theorem Try.known86 : Known Try.prog 86 Try.pc86 19 [4] := ⟨Try.f86, _, Try.func86, rfl, by kernel_rfl, rfl, rfl⟩
def Try.pc67 : PC :=
 (.seq (.ops [zo 3 (.bx 32 (.t 1)), zo 4 (.mov (.v (.slice none 0 0)))])
 (.seq (.seq (.quietR [0, 0] 2 [zo 5 (.ldA 33 (.t 3)), zo 6 (.call 66 []), zo 7 (.more (.eqD false 32 zC4 (.t 5) (.t 6)))])
 (.cond (.t 7) (.seq (.ops [zm 8 0, zo 9 (.nilc (.t 8)), zo 10 (.fa 3 (.t 9)), zo 11 (.ld (.t 10)), zm 4 11])
 .ret) .skip))
 (.seq (.quietR [] 5 [zm 12 0, zo 13 (.nilc (.t 12)), zo 14 (.fa 2 (.t 13)), zo 15 (.ld (.t 14)), zo 16 (.ldA 33 (.t 3)), zo 17 (.more (.other (.gen (.lookup 55 (.tmp 15) (.tmp 16) false)))), zo 18 (.fld 3 (.t 17)), zm 4 18])
 .ret)))
theorem Try.known67 : Known Try.prog 67 Try.pc67 19 [4] := ⟨Try.f67, _, Try.func67, rfl, by kernel_rfl, rfl, rfl⟩
def Try.pc87 : PC :=
 (.seq (.ops [zo 5 (.bx 32 (.t 1)), zo 6 (.bx 32 (.t 2))])
 (.seq (.ops [zm 11 0, zo 12 (.ldA 33 (.t 5)), zo 13 (.call 67 [(.t 11), (.t 12)]), zo 14 (.call 51 [(.t 13)]), zm 8 14])
 (.seq (.seq (.ops [zm 15 3])
 (.cond (.t 15) (.ops [zm 16 8, zo 17 (.ldA 33 (.t 6)), zo 18 (.bsl 32 zC3 1 [(0, 33, (.t 17))]), zo 19 (.app 34 32 33 40 (.agg #[zz, zz, zz, zz, zz, zz, zz, zz, zz, zz, zz, zz, zz, zz, zz, zz, zz, zz, zz, zz, zz, zz, zz, zz, zz, zz, zz, zz, zz, zz, zz, zz, .int .i64 0]) (.t 16) (.t 18)), zm 8 19]) (.seq (.ops [zm 20 8, zo 21 (.ldA 33 (.t 6)), zo 22 (.call 110 [(.t 20), (.t 21)]), zm 9 22])
 (.seq (.ops [zm 23 9, zo 24 (.bin .geq (.t 23) zi)])
 (.cond (.t 24) (.ops [zm 25 8, zm 26 9, zm 27 9, zo 28 (.bin .add (.t 27) zj), zo 29 (.call 111 [(.t 25), (.t 26), (.t 28)]), zm 8 29]) .skip)))))
 (.seq (.seq (.quietR [0, 0] 2 [zo 30 (.ldA 33 (.t 5)), zo 31 (.call 66 []), zo 32 (.more (.eqD false 32 zC4 (.t 30) (.t 31)))])
 (.cond (.t 32) (.seq (.ops [zm 33 0, zm 34 8, zo 35 (.nilc (.t 33)), zo 36 (.fa 3 (.t 35)), ⟨none, none, .st 1 (.t 36) (.t 34)⟩])
 .ret) .skip))
 (.seq (.quietR [0, 1, 3, 7, 0, 31, 0] 7 [zm 37 0, zo 38 (.nilc (.t 37)), zo 39 (.fa 2 (.t 38)), zo 40 (.ld (.t 39)), zo 41 (.ldA 33 (.t 5)), zo 42 (.more (.other (.gen (.lookup 55 (.tmp 40) (.tmp 41) false)))), zo 10 (.al 100 zC6), ⟨none, none, .st 4 (.t 10) (.t 42)⟩])
 (.seq (.ops [zm 43 8, zo 44 (.fa 3 (.t 10)), ⟨none, none, .st 1 (.t 44) (.t 43)⟩])
 (.quietR [] 6 [zm 45 0, zo 46 (.nilc (.t 45)), zo 47 (.fa 2 (.t 46)), zo 48 (.ld (.t 47)), zo 49 (.ldA 33 (.t 5)), zo 50 (.ldA 4 (.t 10)), ⟨none, none, .more (.other (.gen (.mapUpdate 55 (.tmp 48) (.tmp 49) (.tmp 50))))⟩])))))))
theorem Try.known87 : Known Try.prog 87 Try.pc87 51 [] := ⟨Try.f87, _, Try.func87, rfl, by kernel_rfl, rfl, rfl⟩
def Try.pc115 : PC :=
 (.seq (.ops [zo 4 (.mov zf)])
 (.seq (.ops [zm 5 0, zo 6 (.lenS (.t 5)), zm 7 1, zo 8 (.lenS (.t 7)), zo 9 (.bin .geq (.t 6) (.t 8)), zm 10 9, zg 11 10 true (.mov (.t 0)), zg 12 10 true (.mov (.t 1)), zg 13 10 true (.lenS (.t 12)), zg 14 10 true (.slS 1 (.t 11) none (some (.t 13))), zg 15 10 true (.mov (.t 1)), zg 16 10 true (.call 126 [(.t 14), (.t 15)]), zo 17 (.pick (.t 10) (.t 16) zf), zm 4 17])
 .ret))
theorem Try.known115 : Known Try.prog 115 Try.pc115 18 [4] := ⟨Try.f115, _, Try.func115, rfl, by kernel_rfl, rfl, rfl⟩
def Try.pc116 : PC :=
 (.seq (.ops [zo 4 (.mov zi)])
 (.seq (.seq (.ops [zm 6 0, zo 7 (.lenS (.t 6)), zo 8 (.mov zi)])
 (.block 0 (.loop (.seq (.ops [zo 9 (.bin .lss (.t 8) (.t 7))])
 (.seq (.cond (.t 9) .skip (.exit 0))
 (.seq (.block 1 (.seq (.ops [zm 10 8, zm 5 10])
 (.seq (.ops [zm 11 1, zm 12 0, zm 13 5, zo 14 (.ixS 1 (.t 12) (.t 13)), zo 15 (.ld (.t 14)), zo 16 (.callv (.t 11) [(.t 15)])])
 (.cond (.t 16) (.seq (.ops [zm 17 5, zm 4 17])
 .ret) .skip))))
 (.ops [zo 18 (.bin .add (.t 8) zj), zm 8 18])))))))
 (.seq (.ops [zo 4 (.mov (.v (.int .i64 (-1))))])
 .ret)))
theorem Try.known116 : Known Try.prog 116 Try.pc116 19 [4] := ⟨Try.f116, _, Try.func116, rfl, by kernel_rfl, rfl, rfl⟩
def Try.pc119 : PC :=
 (.seq (.ops [zo 4 (.mov (.v (.slice none 0 0)))])
 (.seq (.ops [zm 10 1, zo 11 (.lenS (.t 10)), zo 12 (.mkS 71 3 1 8 (.int .i64 0) zi (.t 11)), zm 5 12])
 (.seq (.seq (.ops [zm 13 1, zo 14 (.lenS (.t 13)), zo 15 (.mov zi)])
 (.block 0 (.loop (.seq (.ops [zo 16 (.bin .lss (.t 15) (.t 14))])
 (.seq (.cond (.t 16) .skip (.exit 0))
 (.seq (.block 1 (.seq (.ops [zo 17 (.ixS 1 (.t 13) (.t 15)), zo 18 (.ld (.t 17)), zm 7 18])
 (.seq (.ops [zm 20 0, zm 21 7, zo 22 (.lookS (.int .i64 0) true (.t 20) (.t 21)), zm 19 22, zo 23 (.ext 0 (.t 19)), zo 24 (.ext 1 (.t 19)), zm 8 23, zm 9 24])
 (.seq (.seq (.ops [zm 25 9, zo 26 (.not (.t 25))])
 (.cond (.t 26) (.seq (.ops [zm 27 0, zo 28 (.lenM (.t 27)), zm 8 28])
 (.ops [zm 29 0, zm 30 7, zm 31 8, ⟨none, none, .updS (.t 29) (.t 30) (.t 31)⟩])) .skip))
 (.ops [zm 32 5, zm 33 8, zo 34 (.bsl 3 [.int .i64 0] 1 [(0, 1, (.t 33))]), zo 35 (.app 71 3 1 8 (.int .i64 0) (.t 32) (.t 34)), zm 5 35])))))
 (.ops [zo 36 (.bin .add (.t 15) zj), zm 15 36])))))))
 (.seq (.ops [zm 37 5, zm 4 37])
 .ret))))
theorem Try.known119 : Known Try.prog 119 Try.pc119 38 [4] := ⟨Try.f119, _, Try.func119, rfl, by kernel_rfl, rfl, rfl⟩
def Try.pc120 : PC :=
 (.seq (.ops [zo 4 (.mov (.v (.slice none 0 0)))])
 (.seq (.ops [zm 9 0, zo 10 (.lenS (.t 9)), zo 11 (.bin .add (.t 10) zj), zo 12 (.mkS 187 71 1 24 (.slice none 0 0) (.t 11) (.t 11)), zm 5 12])
 (.seq (.ops [zm 13 5, zm 14 0, zo 15 (.lenS (.t 14)), zm 16 1, zo 17 (.lenS (.t 16)), zo 18 (.bin .add (.t 17) zj), zo 19 (.mkS 71 3 1 8 (.int .i64 0) (.t 18) (.t 18)), zo 20 (.ixS 1 (.t 13) (.t 15)), ⟨none, none, .st 1 (.t 20) (.t 19)⟩])
 (.seq (.seq (.ops [zm 21 0, zo 22 (.lenS (.t 21)), zo 23 (.bin .sub (.t 22) zj), zm 6 23])
 (.block 0 (.loop (.seq (.seq (.ops [zm 24 6, zo 25 (.bin .geq (.t 24) zi)])
 (.cond (.t 25) .skip (.exit 0)))
 (.seq (.block 1 (.seq (.ops [zm 28 1, zo 29 (.lenS (.t 28)), zo 30 (.bin .add (.t 29) zj), zo 31 (.mkS 71 3 1 8 (.int .i64 0) (.t 30) (.t 30)), zm 7 31])
 (.seq (.seq (.ops [zm 32 1, zo 33 (.lenS (.t 32)), zo 34 (.bin .sub (.t 33) zj), zm 8 34])
 (.block 2 (.loop (.seq (.seq (.ops [zm 35 8, zo 36 (.bin .geq (.t 35) zi)])
 (.cond (.t 36) .skip (.exit 2)))
 (.seq (.block 3 (.seq (.quietR [] 15 [zm 39 7, zm 40 8, zm 41 5, zm 42 6, zo 43 (.bin .add (.t 42) zj), zo 44 (.ixS 1 (.t 41) (.t 43)), zo 45 (.ld (.t 44)), zm 46 8, zo 47 (.ixS 1 (.t 45) (.t 46)), zo 48 (.ld (.t 47)), zm 49 7, zm 50 8, zo 51 (.bin .add (.t 50) zj), zo 52 (.ixS 1 (.t 49) (.t 51)), zo 53 (.ld (.t 52)), zo 54 (.mnx true [(.t 48), (.t 53)]), zo 55 (.ixS 1 (.t 39) (.t 40)), ⟨none, none, .st 1 (.t 55) (.t 54)⟩])
 (.seq (.quietR [] 8 [zm 56 0, zm 57 6, zo 58 (.ixS 1 (.t 56) (.t 57)), zo 59 (.ld (.t 58)), zm 60 1, zm 61 8, zo 62 (.ixS 1 (.t 60) (.t 61)), zo 63 (.ld (.t 62)), zo 64 (.bin .eql (.t 59) (.t 63))])
 (.cond (.t 64) (.ops [zm 65 7, zm 66 8, zm 67 5, zm 68 6, zo 69 (.bin .add (.t 68) zj), zo 70 (.ixS 1 (.t 67) (.t 69)), zo 71 (.ld (.t 70)), zm 72 8, zo 73 (.bin .add (.t 72) zj), zo 74 (.ixS 1 (.t 71) (.t 73)), zo 75 (.ld (.t 74)), zo 76 (.bin .add (.t 75) zj), zo 77 (.ixS 1 (.t 65) (.t 66)), ⟨none, none, .st 1 (.t 77) (.t 76)⟩]) .skip))))
 (.ops [zm 37 8, zo 38 (.bin .sub (.t 37) zj), zm 8 38]))))))
 (.ops [zm 78 5, zm 79 6, zm 80 7, zo 81 (.ixS 1 (.t 78) (.t 79)), ⟨none, none, .st 1 (.t 81) (.t 80)⟩]))))
 (.ops [zm 26 6, zo 27 (.bin .sub (.t 26) zj), zm 6 27]))))))
 (.seq (.ops [zm 82 5, zm 4 82])
 .ret)))))
theorem Try.known120 : Known Try.prog 120 Try.pc120 83 [4] := ⟨Try.f120, _, Try.func120, rfl, by kernel_rfl, rfl, rfl⟩
def Try.pc123 : PC :=
 (.seq (.ops [zo 2 (.mov zi)])
 (.seq (.ops [zo 3 (.mov zi)])
 (.seq (.seq (.ops [zm 6 0, zo 7 (.lenS (.t 6)), zo 8 (.mov zi)])
 (.block 0 (.loop (.seq (.ops [zo 9 (.bin .lss (.t 8) (.t 7))])
 (.seq (.cond (.t 9) .skip (.exit 0))
 (.seq (.block 1 (.seq (.ops [zo 10 (.ixS 1 (.t 6) (.t 8)), zo 11 (.ld (.t 10)), zm 5 11])
 (.seq (.ops [zm 12 5, zm 13 3, zo 14 (.bin .neq (.t 12) (.t 13))])
 (.cond (.t 14) (.seq (.ops [zm 15 5, zm 2 15])
 .ret) .skip))))
 (.ops [zo 16 (.bin .add (.t 8) zj), zm 8 16])))))))
 (.seq (.ops [zm 17 3, zm 2 17])
 .ret))))
theorem Try.known123 : Known Try.prog 123 Try.pc123 18 [2] := ⟨Try.f123, _, Try.func123, rfl, by kernel_rfl, rfl, rfl⟩
def Try.pc124 : PC :=
 (.seq (.ops [zo 4 (.mov zi)])
 (.seq (.ops [zm 5 0, zm 6 1, zo 7 (.more (.other (.xf 137 [(.t 5), (.t 6)]))), zm 4 7])
 .ret))
theorem Try.known124 : Known Try.prog 124 Try.pc124 8 [4] := ⟨Try.f124, _, Try.func124, rfl, by kernel_rfl, rfl, rfl⟩
def Try.pc125 : PC :=
 (.seq (.ops [zo 4 (.mov zi)])
 (.seq (.ops [zm 7 0, zo 8 (.call 138 [(.t 7)]), zm 5 8])
 (.seq (.ops [zm 9 1, zo 10 (.call 138 [(.t 9)]), zm 6 10])
 (.seq (.seq (.ops [zm 11 5])
 (.cond (.t 11) (.seq (.seq (.ops [zm 12 6])
 (.cond (.t 12) (.seq (.ops [zo 4 (.mov zi)])
 .ret) .skip))
 (.seq (.ops [zo 4 (.mov (.v (.int .i64 (-1))))])
 .ret)) .skip))
 (.seq (.seq (.ops [zm 13 6])
 (.cond (.t 13) (.seq (.ops [zo 4 (.mov zj)])
 .ret) .skip))
 (.seq (.seq (.ops [zm 14 0, zm 15 1, zo 16 (.bin .lss (.t 14) (.t 15))])
 (.cond (.t 16) (.seq (.ops [zo 4 (.mov (.v (.int .i64 (-1))))])
 .ret) .skip))
 (.seq (.seq (.ops [zm 17 0, zm 18 1, zo 19 (.bin .gtr (.t 17) (.t 18))])
 (.cond (.t 19) (.seq (.ops [zo 4 (.mov zj)])
 .ret) .skip))
 (.seq (.ops [zo 4 (.mov zi)])
 .ret))))))))
theorem Try.known125 : Known Try.prog 125 Try.pc125 20 [4] := ⟨Try.f125, _, Try.func125, rfl, by kernel_rfl, rfl, rfl⟩
def Try.pc88 : PC :=
 (.block 0 (.loop (.block 1 (.seq (.ops [zm 5 1, zo 6 (.bin .sub (.t 5) zj), zo 7 (.bin .quo (.t 6) (.v (.int .i64 2))), zm 4 7])
 (.seq (.seq (.ops [zm 8 4, zm 9 1, zo 10 (.bin .eql (.t 8) (.t 9)), zm 11 10, zg 12 11 false (.mov (.t 0)), zg 13 11 false (.mov (.t 1)), zg 14 11 false (.mov (.t 4)), zg 15 11 false (.more (.other (.gen (.call { callee := (.invoke (.tmp 12) "Less"), args := #[(.tmp 13), (.tmp 14)], argTypes := #[3, 3] })))), zg 16 11 false (.not (.t 15)), zo 17 (.pick (.t 11) zt (.t 16))])
 (.cond (.t 17) (.exit 0) .skip))
 (.seq (.ops [zm 18 0, zm 19 4, zm 20 1, zo 21 (.more (.other (.gen (.call { callee := (.invoke (.tmp 18) "Swap"), args := #[(.tmp 19), (.tmp 20)], argTypes := #[3, 3] }))))])
 (.ops [zm 22 4, zm 1 22])))))))
theorem Try.known88 : Known Try.prog 88 Try.pc88 23 [] := ⟨Try.f88, _, Try.func88, rfl, by kernel_rfl, rfl, rfl⟩
def Try.pc89 : PC :=
 (.seq (.ops [zo 6 (.mov zf)])
 (.seq (.ops [zm 11 1, zm 7 11])
 (.seq (.block 0 (.loop (.block 1 (.seq (.ops [zm 12 7, zo 13 (.bin .mul (.v (.int .i64 2)) (.t 12)), zo 14 (.bin .add (.t 13) zj), zm 8 14])
 (.seq (.seq (.ops [zm 15 8, zm 16 2, zo 17 (.bin .geq (.t 15) (.t 16)), zm 18 17, zg 19 18 false (.mov (.t 8)), zg 20 18 false (.bin .lss (.t 19) zi), zo 21 (.pick (.t 18) zt (.t 20))])
 (.cond (.t 21) (.exit 0) .skip))
 (.seq (.ops [zm 22 8, zm 9 22])
 (.seq (.seq (.ops [zm 23 8, zo 24 (.bin .add (.t 23) zj), zm 10 24])
 (.seq (.ops [zm 25 10, zm 26 2, zo 27 (.bin .lss (.t 25) (.t 26)), zm 28 27, zg 29 28 true (.mov (.t 0)), zg 30 28 true (.mov (.t 10)), zg 31 28 true (.mov (.t 8)), zg 32 28 true (.more (.other (.gen (.call { callee := (.invoke (.tmp 29) "Less"), args := #[(.tmp 30), (.tmp 31)], argTypes := #[3, 3] })))), zo 33 (.pick (.t 28) (.t 32) zf)])
 (.cond (.t 33) (.ops [zm 34 10, zm 9 34]) .skip)))
 (.seq (.seq (.ops [zm 35 0, zm 36 9, zm 37 7, zo 38 (.more (.other (.gen (.call { callee := (.invoke (.tmp 35) "Less"), args := #[(.tmp 36), (.tmp 37)], argTypes := #[3, 3] })))), zo 39 (.not (.t 38))])
 (.cond (.t 39) (.exit 0) .skip))
 (.seq (.ops [zm 40 0, zm 41 7, zm 42 9, zo 43 (.more (.other (.gen (.call { callee := (.invoke (.tmp 40) "Swap"), args := #[(.tmp 41), (.tmp 42)], argTypes := #[3, 3] }))))])
 (.ops [zm 44 9, zm 7 44]))))))))))
 (.seq (.ops [zm 45 7, zm 46 1, zo 47 (.bin .gtr (.t 45) (.t 46)), zm 6 47])
 .ret))))
theorem Try.known89 : Known Try.prog 89 Try.pc89 48 [6] := ⟨Try.f89, _, Try.func89, rfl, by kernel_rfl, rfl, rfl⟩
def Try.pc110 : PC :=
 (.seq (.ops [zo 3 (.bx 32 (.t 1)), zo 4 (.mov zi)])
 (.seq (.seq (.ops [zm 6 0, zo 7 (.lenS (.t 6)), zo 8 (.mov zi)])
 (.block 0 (.loop (.seq (.ops [zo 9 (.bin .lss (.t 8) (.t 7))])
 (.seq (.cond (.t 9) .skip (.exit 0))
 (.seq (.block 1 (.seq (.ops [zm 10 8, zm 5 10])
 (.seq (.quietR [] 5 [zo 11 (.ldA 33 (.t 3)), zm 12 0, zm 13 5, zo 14 (.ixS 33 (.t 12) (.t 13)), zo 15 (.ldA 33 (.t 14)), zo 16 (.more (.eqD false 32 zC4 (.t 11) (.t 15)))])
 (.cond (.t 16) (.seq (.ops [zm 17 5, zm 4 17])
 .ret) .skip))))
 (.ops [zo 18 (.bin .add (.t 8) zj), zm 8 18])))))))
 (.seq (.ops [zo 4 (.mov (.v (.int .i64 (-1))))])
 .ret)))
theorem Try.known110 : Known Try.prog 110 Try.pc110 19 [4] := ⟨Try.f110, _, Try.func110, rfl, by kernel_rfl, rfl, rfl⟩
def Try.pc111 : PC :=
 (.seq (.ops [zo 6 (.mov (.v (.slice none 0 0)))])
 (.seq (.ops [zm 8 0, zm 9 1, zm 10 2, zm 11 0, zo 12 (.lenS (.t 11)), zo 13 (.more (.other (.gen (.slice 34 (.tmp 8) (some (.tmp 9)) (some (.tmp 10)) (some (.tmp 12))))))])
 (.seq (.seq (.ops [zm 14 1, zm 15 2, zo 16 (.bin .eql (.t 14) (.t 15))])
 (.cond (.t 16) (.seq (.ops [zm 17 0, zm 6 17])
 .ret) .skip))
 (.seq (.ops [zm 18 0, zo 19 (.lenS (.t 18)), zm 7 19])
 (.seq (.quietR [] 6 [zm 20 0, zm 21 1, zo 22 (.slS 33 (.t 20) none (some (.t 21))), zm 23 0, zm 24 2, zo 25 (.slS 33 (.t 23) (some (.t 24)) none), zo 26 (.app 34 32 33 40 (.agg #[zz, zz, zz, zz, zz, zz, zz, zz, zz, zz, zz, zz, zz, zz, zz, zz, zz, zz, zz, zz, zz, zz, zz, zz, zz, zz, zz, zz, zz, zz, zz, zz, .int .i64 0]) (.t 22) (.t 25)), zm 0 26])
 (.seq (.ops [zm 27 0, zm 28 0, zo 29 (.lenS (.t 28)), zm 30 7, zo 31 (.slS 33 (.t 27) (some (.t 29)) (some (.t 30))), ⟨none, none, .more (.clr 32 33 (.agg #[zz, zz, zz, zz, zz, zz, zz, zz, zz, zz, zz, zz, zz, zz, zz, zz, zz, zz, zz, zz, zz, zz, zz, zz, zz, zz, zz, zz, zz, zz, zz, zz, .int .i64 0]) (.t 31))⟩])
 (.seq (.ops [zm 32 0, zm 6 32])
 .ret)))))))
theorem Try.known111 : Known Try.prog 111 Try.pc111 33 [6] := ⟨Try.f111, _, Try.func111, rfl, by kernel_rfl, rfl, rfl⟩
def Try.pc126 : PC :=
 (.seq (.ops [zo 4 (.mov zf)])
 (.seq (.seq (.ops [zm 6 0, zo 7 (.lenS (.t 6)), zm 8 1, zo 9 (.lenS (.t 8)), zo 10 (.bin .neq (.t 7) (.t 9))])
 (.cond (.t 10) (.seq (.ops [zo 4 (.mov zf)])
 .ret) .skip))
 (.seq (.seq (.ops [zm 11 0, zo 12 (.lenS (.t 11)), zo 13 (.mov zi)])
 (.block 0 (.loop (.seq (.ops [zo 14 (.bin .lss (.t 13) (.t 12))])
 (.seq (.cond (.t 14) .skip (.exit 0))
 (.seq (.block 1 (.seq (.ops [zm 15 13, zm 5 15])
 (.seq (.quietR [] 8 [zm 16 0, zm 17 5, zo 18 (.ixS 1 (.t 16) (.t 17)), zo 19 (.ld (.t 18)), zm 20 1, zm 21 5, zo 22 (.ixS 1 (.t 20) (.t 21)), zo 23 (.ld (.t 22)), zo 24 (.bin .neq (.t 19) (.t 23))])
 (.cond (.t 24) (.seq (.ops [zo 4 (.mov zf)])
 .ret) .skip))))
 (.ops [zo 25 (.bin .add (.t 13) zj), zm 13 25])))))))
 (.seq (.ops [zo 4 (.mov zt)])
 .ret))))
theorem Try.known126 : Known Try.prog 126 Try.pc126 26 [4] := ⟨Try.f126, _, Try.func126, rfl, by kernel_rfl, rfl, rfl⟩
def Try.pc138 : PC :=
 (.seq (.ops [zo 2 (.mov zf)])
 (.seq (.ops [zm 3 0, zm 4 0, zo 5 (.bin .neq (.t 3) (.t 4)), zm 2 5])
 .ret))
theorem Try.known138 : Known Try.prog 138 Try.pc138 6 [2] := ⟨Try.f138, _, Try.func138, rfl, by kernel_rfl, rfl, rfl⟩
def Try.pc161 : PC :=
 (.seq (.ops [zo 6 (.mov zf)])
 (.seq (.quietR [] 8 [zm 7 0, zm 8 1, zo 9 (.ixS 33 (.t 7) (.t 8)), zo 10 (.ldA 33 (.t 9)), zm 11 0, zm 12 2, zo 13 (.ixS 33 (.t 11) (.t 12)), zo 14 (.ldA 33 (.t 13)), zo 15 (.call 109 [(.t 10), (.t 14)]), zo 16 (.bin .lss (.t 15) zi), zm 6 16])
 .ret))
theorem Try.known161 : Known Try.prog 161 Try.pc161 17 [6] := ⟨Try.f161, _, Try.func161, rfl, by kernel_rfl, rfl, rfl⟩
def Try.pc162 : PC :=
 (.seq (.ops [zo 2 (.mov (.v .nilIface))])
 (.seq (.ops [zm 5 0, zo 6 (.nilc (.t 5)), zo 7 (.ld (.t 6)), zo 8 (.lenS (.t 7)), zo 9 (.bin .sub (.t 8) zj), zm 3 9])
 (.seq (.ops [zm 10 0, zo 11 (.nilc (.t 10)), zo 12 (.ld (.t 11)), zm 13 3, zo 14 (.ixS 33 (.t 12) (.t 13)), zo 15 (.ldA 33 (.t 14)), zo 4 (.al 32 zC3), ⟨none, none, .st 33 (.t 4) (.t 15)⟩])
 (.seq (.ops [zm 16 0, zm 17 0, zo 18 (.nilc (.t 17)), zo 19 (.ld (.t 18)), zm 20 3, zo 21 (.slS 33 (.t 19) none (some (.t 20))), zo 22 (.nilc (.t 16)), ⟨none, none, .st 1 (.t 22) (.t 21)⟩])
 (.seq (.ops [zo 23 (.ldA 33 (.t 4)), zo 24 (.more (.mkI 32 (.t 23))), zm 2 24])
 .ret)))))
theorem Try.known162 : Known Try.prog 162 Try.pc162 25 [2] := ⟨Try.f162, _, Try.func162, rfl, by kernel_rfl, rfl, rfl⟩
def Try.pc163 : PC :=
 (.seq (.ops [zm 7 1, zo 8 (.more (.other (.gen (.typeAssert (.tmp 7) 20 32 true)))), zm 6 8, zo 9 (.ext 0 (.t 6)), zo 10 (.ext 1 (.t 6)), zo 4 (.al 32 zC3), ⟨none, none, .st 33 (.t 4) (.t 9)⟩, zm 5 10])
 (.seq (.ops [zm 11 5])
 (.cond (.t 11) (.quietR [0, 0, 2, 6, 0, 16] 6 [zm 12 0, zm 13 0, zo 14 (.nilc (.t 13)), zo 15 (.ld (.t 14)), zo 16 (.ldA 33 (.t 4)), zo 17 (.bsl 32 zC3 1 [(0, 33, (.t 16))]), zo 18 (.app 110 32 33 40 (.agg #[zz, zz, zz, zz, zz, zz, zz, zz, zz, zz, zz, zz, zz, zz, zz, zz, zz, zz, zz, zz, zz, zz, zz, zz, zz, zz, zz, zz, zz, zz, zz, zz, .int .i64 0]) (.t 15) (.t 17)), zo 19 (.nilc (.t 12)), ⟨none, none, .st 1 (.t 19) (.t 18)⟩]) .skip)))
theorem Try.known163 : Known Try.prog 163 Try.pc163 20 [] := ⟨Try.f163, _, Try.func163, rfl, by kernel_rfl, rfl, rfl⟩
def Try.pc164 : PC :=
 (.quietR [] 12 [zm 6 0, zm 7 1, zm 8 0, zm 9 2, zm 10 0, zm 11 2, zo 12 (.ixS 33 (.t 10) (.t 11)), zo 13 (.ldA 33 (.t 12)), zm 14 0, zm 15 1, zo 16 (.ixS 33 (.t 14) (.t 15)), zo 17 (.ldA 33 (.t 16)), zo 18 (.ixS 33 (.t 6) (.t 7)), ⟨none, none, .st 33 (.t 18) (.t 13)⟩, zo 19 (.ixS 33 (.t 8) (.t 9)), ⟨none, none, .st 33 (.t 19) (.t 17)⟩])
theorem Try.known164 : Known Try.prog 164 Try.pc164 20 [] := ⟨Try.f164, _, Try.func164, rfl, by kernel_rfl, rfl, rfl⟩
end Go.Proofs

namespace Go.SL
open Go.RowKit Go.ChangeShapes
theorem map_eraseIdx {γ δ : Type} (h : γ -> δ) : ∀ (l : List γ) (i : Nat), (l.eraseIdx i).map h = (l.map h).eraseIdx i
 | [], i => by simp
 | a :: l, 0 => by simp
 | a :: l, i + 1 => by simp [map_eraseIdx h l i]
section plain
variable {α β γ : Type} [DecidableEq α]
def mgt (l : List (α × β)) (a : α) : Option β := (l.find? fun p => decide (a = p.1)).map (·.2)
def mpt : List (α × β) -> α -> β -> List (α × β)
 | [], a, b => [(a, b)]
 | p :: r, a, b => if a = p.1 then (a, b) :: r else p :: mpt r a b
def mdl (l : List (α × β)) (a : α) : List (α × β) := l.filter fun p => !decide (a = p.1)
def mks (l : List (α × β)) : List α := l.map (·.1)
theorem mgt_cons (p : α × β) (l : List (α × β)) (a : α) : mgt (p :: l) a = if a = p.1 then some p.2 else mgt l a := by
 unfold mgt
 rw [List.find?_cons]
 by_cases h : a = p.1
 ·simp [h]
 simp [h]
theorem mgt_nil (a : α) : mgt ([] : List (α × β)) a = none := rfl
theorem mgt_mpt (l : List (α × β)) (a c : α) (b : β) : mgt (mpt l a b) c = if c = a then some b else mgt l c := by
 induction l with
 | nil => simp only [mpt, mgt_cons, mgt_nil]
 | cons p l ih =>
  simp only [mpt]
  split
  ·rename_i h
   simp only [mgt_cons]
   subst h
   split <;> rfl
  rename_i h
  simp only [mgt_cons, ih]
  by_cases h1 : c = p.1
  ·subst h1
   rw [if_pos rfl, if_neg (fun e => h e.symm)]
   simp
  simp [h1]
theorem mgt_none {l : List (α × β)} {a : α} : mgt l a = none ↔ a ∉ mks l := by
 induction l with
 | nil => simp [mgt_nil, mks]
 | cons p l ih =>
  rw [mgt_cons]
  unfold mks at ih ⊢
  by_cases h : a = p.1
  ·simp [h]
  simp [h, ih]
theorem mgt_mem {l : List (α × β)} (hn : (mks l).Nodup) {a : α} {b : β} : mgt l a = some b ↔ (a, b) ∈ l := by
 induction l with
 | nil => simp [mgt_nil]
 | cons p l ih =>
  obtain ⟨c, d⟩ := p
  unfold mks at hn ih
  simp only [List.map_cons, List.nodup_cons] at hn
  rw [mgt_cons]
  simp only [List.mem_cons, Prod.mk.injEq]
  by_cases h : a = c
  ·subst h
   rw [if_pos rfl]
   constructor
   ·intro e; exact .inl ⟨rfl, (Option.some.inj e).symm⟩
   rintro (⟨_, e⟩ | e)
   ·rw [e]
   exact absurd (List.mem_map.2 ⟨_, e, rfl⟩) hn.1
  rw [if_neg h, ih hn.2]
  simp [h]
theorem mgt_some_mem {l : List (α × β)} {a : α} {b : β} (h : mgt l a = some b) : (a, b) ∈ l := by
 unfold mgt at h
 obtain ⟨p, hp, rfl⟩ := Option.map_eq_some_iff.1 h
 have h1 := List.find?_some hp
 have h2 := List.mem_of_find?_eq_some hp
 simp only [decide_eq_true_eq] at h1
 rw [h1]; exact h2
theorem mks_mpt (l : List (α × β)) (a : α) (b : β) : mks (mpt l a b) = if a ∈ mks l then mks l else mks l ++ [a] := by
 induction l with
 | nil => simp [mpt, mks]
 | cons p l ih =>
  simp only [mpt]
  unfold mks at ih ⊢
  by_cases h : a = p.1
  ·simp [h]
  simp only [h, if_false, List.map_cons, ih, List.mem_cons, false_or]
  split <;> simp
theorem mpt_nodup {l : List (α × β)} (h : (mks l).Nodup) (a : α) (b : β) : (mks (mpt l a b)).Nodup := by
 rw [mks_mpt]
 split
 ·exact h
 rename_i hn
 rw [List.nodup_append]
 exact ⟨h, by simp, by simp; rintro c hc rfl; exact hn hc⟩
theorem mdl_nodup {l : List (α × β)} (h : (mks l).Nodup) (a : α) : (mks (mdl l a)).Nodup := by
 unfold mks mdl at *
 exact h.sublist (List.filter_sublist.map _)
theorem mks_mdl (l : List (α × β)) (a : α) : mks (mdl l a) = (mks l).filter fun c => !decide (a = c) := by
 unfold mks mdl
 rw [List.filter_map]
 rfl
theorem mpt_new {l : List (α × β)} {a : α} (h : ∀ b, (a, b) ∉ l) (b : β) : mpt l a b = l ++ [(a, b)] := by
 induction l with
 | nil => rfl
 | cons p l ih =>
  simp only [mpt]
  rw [if_neg (fun e => h p.2 (by rw [e]; simp)), ih (fun b hb => h b (by simp [hb]))]
  rfl
theorem mpt_set {l : List (α × β)} (hn : (mks l).Nodup) {a : α} {c : β} {j : Nat} (h : l[j]? = some (a, c)) (b : β) : mpt l a b = l.set j (a, b) := by
 induction l generalizing j with
 | nil => simp at h
 | cons p l ih =>
  unfold mks at hn ih
  simp only [List.map_cons, List.nodup_cons] at hn
  cases j with
  | zero => simp at h; simp [mpt, h]
  | succ j =>
   simp at h
   have hne : a ≠ p.1 := fun e => hn.1 (by rw [<- e]; exact List.mem_map.2 ⟨_, List.mem_of_getElem? h, rfl⟩)
   simp only [mpt, if_neg hne, List.set_cons_succ, ih hn.2 h]
theorem mdl_new {l : List (α × β)} {a : α} (h : ∀ b, (a, b) ∉ l) : mdl l a = l := by
 unfold mdl
 rw [List.filter_eq_self]
 intro p hp
 simp only [Bool.not_eq_true', decide_eq_false_iff_not]
 intro e
 exact h p.2 (by rw [e]; exact hp)
end plain
section
variable {P : Program} {w0 : World} {n : Nat} {T : TT} {S : SS}
variable {α β : Type} [DecidableEq α] {f : α -> Value} {g : β -> Value} {kt et t : TypeId} {ok : α -> Prop}
def gmL (f : α -> Value) (g : β -> Value) (l : List (α × β)) : List (Value × Value) := l.map fun p => (f p.1, g p.2)
structure Keys (P : Program) (kt : TypeId) (f : α -> Value) (ok : α -> Prop) : Prop where
 law : WideMaps.KeyLaw P kt
 key : ∀ a, ok a -> ∃ l, keyOf P kt (f a) = some l
 inj : ∀ a b, f a = f b -> a = b
theorem mem_at {S : SS} {j b : Nat} {o : AO} (hk : S[j]? = some [(b, o)]) : (b, o) ∈ S.flatten := List.mem_flatten.2 ⟨_, List.mem_of_getElem? hk, List.mem_singleton.2 rfl⟩
theorem Rep.gmAt {w : World} {b : Nat} {es : List (Value × Value)} (h : Rep w0 S w) (hm : (b, AO.gm es) ∈ S.flatten) :
  w0.heap.size <= b /\ ∃ en clk, w.heap[b]? = some (.map en clk) /\ en.toList.map (fun e => (e.key, e.val)) = es /\ (en.toList.map (·.born)).Nodup /\ (∀ e ∈ en.toList, e.born < clk) /\ (en.toList.map (·.key)).Nodup := h.own _ hm
theorem gmL_nodup {en : Array MapEntry} {l : List (α × β)} (he : en.toList.map (fun e => (e.key, e.val)) = gmL f g l) (hn : (en.toList.map (·.key)).Nodup) : (mks l).Nodup := by
 have : en.toList.map (·.key) = (mks l).map f := by
  have := congrArg (List.map Prod.fst) he
  unfold gmL at this
  unfold mks
  simpa [Function.comp_def] using this
 rw [this] at hn
 unfold List.Nodup at hn ⊢
 rw [List.pairwise_map] at hn
 exact hn.imp fun h e => h (by rw [e])
theorem gmL_get {en : Array MapEntry} {l : List (α × β)} (he : en.toList.map (fun e => (e.key, e.val)) = gmL f g l) {j : Nat} {e : MapEntry} (h : en.toList[j]? = some e) : ∃ a b, l[j]? = some (a, b) /\ e.key = f a /\ e.val = g b := by
 have h1 : (en.toList.map (fun e => (e.key, e.val)))[j]? = some (e.key, e.val) := by simp [h]
 rw [he] at h1
 unfold gmL at h1
 rw [List.getElem?_map, Option.map_eq_some_iff] at h1
 obtain ⟨p, h1, h2⟩ := h1
 exact ⟨p.1, p.2, h1, (congrArg Prod.fst h2).symm, (congrArg Prod.snd h2).symm⟩
theorem Keys.find (K : Keys P kt f ok) {en : Array MapEntry} {l : List (α × β)} (hl : ∀ p ∈ l, ok p.1) (he : en.toList.map (fun e => (e.key, e.val)) = gmL f g l) (a : α) (ha : ok a) (w : World) :
  ((Instr.findKey kt (f a) en.toList).run P w = .ok none w /\ ∀ b, (a, b) ∉ l) ∨
  ∃ j e b, (Instr.findKey kt (f a) en.toList).run P w = .ok (some (j, e.val)) w /\ en.toList[j]? = some e /\ e.key = f a /\ e.val = g b /\ l[j]? = some (a, b) := by
 obtain ⟨lx, hx⟩ := K.key a ha
 have hall : ∀ e ∈ en.toList, ∃ l, keyOf P kt e.key = some l := by
  intro e hm
  obtain ⟨j, hj⟩ := List.getElem?_of_mem hm
  obtain ⟨a', _, hq, hk, _⟩ := gmL_get he hj
  rw [hk]
  exact K.key a' (hl _ (List.mem_of_getElem? hq))
 rcases K.law.find w hx en.toList hall with ⟨h1, h2⟩ | ⟨j, e, h1, h2, h3⟩
 ·refine .inl ⟨h1, fun b hb => ?_⟩
  have : (f a, g b) ∈ en.toList.map (fun e => (e.key, e.val)) := by rw [he]; exact List.mem_map.2 ⟨(a, b), hb, rfl⟩
  obtain ⟨e, hm, hk⟩ := List.mem_map.1 this
  exact h2 e hm (congrArg Prod.fst hk)
 obtain ⟨a', b, h4, h5, h6⟩ := gmL_get he h2
 obtain rfl := K.inj a' a (by rw [<- h5, h3])
 exact .inr ⟨j, e, b, h1, h2, h3, h6, h4⟩
theorem Yields.lenG {x : PV} {b : Nat} {l : List (α × β)} (hx : x.val T = some (.map (some b))) (hk : (b, AO.gm (gmL f g l)) ∈ S.flatten) : Yields P w0 n (.lenM x) T S (.int .i64 l.length) := by
 intro o a w hco hs hr
 obtain ⟨t, kt, vt, c, cl, ho, hca, hat, har, rfl, hu⟩ := cOp_spec P hco
 obtain ⟨_, en, clk, hw, he, _⟩ := hr.gmAt hk
 have hlen : en.size = l.length := by have := congrArg List.length he; simpa [gmL] using this
 simp [execOp, ho, resolve, hca, invoke, builtin, Builtin.len_, hat, har, hs.eval hx, run_underlying hu, goInt, getObj, Sem.run, hw, hlen]
theorem Yields.lookG {m k : Operand} {okc : Bool} {i : TypeInfo} {b : Nat} {l : List (α × β)} {a : α} {z : β} (hu : P.underlying t = some (.map kt et)) (hi : P.info? et = some i) (hz : i.zero = some (g z)) (K : Keys P kt f ok) (hl : ∀ p ∈ l, ok p.1) (ha : ok a)
  (hm : (cV m).val T = some (.map (some b))) (hx : (cV k).val T = some (f a)) (hk : (b, AO.gm (gmL f g l)) ∈ S.flatten) :
  Yields P w0 n (.more (.other (.gen (.lookup t m k okc)))) T S (if okc then .tuple #[g ((mgt l a).getD z), .bool (mgt l a).isSome] else g ((mgt l a).getD z)) := by
 intro o ac w hco hs hr
 have ho : o.op = .lookup t m k okc := cOp_spec P hco
 obtain ⟨_, en, clk, hw, he, hb, hlt, hn⟩ := hr.gmAt hk
 obtain ⟨lx, hlx⟩ := K.key a ha
 have hck := fun bb => K.law.check w bb hlx
 have hg : (getObj b).run P w = .ok (.map en clk) w := by simp [getObj, Sem.run, hw]
 simp only [execOp, ho, hs.eval hm, hs.eval hx, Instr.lookup]
 simp only [Sem.run_bind, run_underlying hu, Result.andThen_ok, hg, Sem.run_pure, hck]
 rcases K.find hl he a ha w with ⟨h1, h2⟩ | ⟨j, e, b', h1, h2, h3, h4, h5⟩
 ·have hget : mgt l a = none := mgt_none.2 fun h => by
   unfold mks at h
   obtain ⟨p, hp, rfl⟩ := List.mem_map.1 h
   exact h2 p.2 hp
  simp only [h1, Result.andThen_ok, hget]
  cases okc <;> simp [zeroValue, typeInfo, program, hi, hz, Sem.run]
 have hget : mgt l a = some b' := (mgt_mem (gmL_nodup he hn)).2 (List.mem_of_getElem? h5)
 simp only [h1, Result.andThen_ok, hget, h4]
 cases okc <;> simp
theorem OW.mkG : OW P w0 n .mkM T S (fun v S' => ∃ r, v = .map (some r) /\ S' = [(r, .gm [])] :: S) := by
 intro op a w Q hco hs hr
 obtain ⟨t, ho⟩ := cOp_spec P hco
 have hrun : (execOp a.eval op).run P w = .ok (.value (.map (some w.heap.size))) (w.alloc (.map #[] 0)) := by
  simp [execOp, ho, Instr.makeMap, newObj, Sem.run]
 unfold Oper.wp
 rw [hrun]
 refine ⟨_, _, rfl, ?_, w.heap.size, rfl, rfl⟩
 refine hr.push (below_alloc hr _) (fun i hi => alloc_heap_lt w _ i hi) (by simp) ?_
 intro p hp
 simp only [List.mem_singleton] at hp
 subst hp
 exact ⟨⟨#[], 0, alloc_heap_new w _, by simp⟩, Nat.le_refl _⟩
theorem OW.mkGr {x : Operand} {j : Int} {q : IntKind} (hu : P.underlying t = some (.map kt et)) (hx : (cV x).val T = some (.int q j)) : OW P w0 n (.more (.other (.gen (.makeMap t (some x))))) T S (fun v S' => ∃ r, v = .map (some r) /\ S' = [(r, .gm [])] :: S) := by
 intro op a w Q hco hs hr
 have ho : op.op = .makeMap t (some x) := cOp_spec P hco
 have hrun : (execOp a.eval op).run P w = .ok (.value (.map (some w.heap.size))) (w.alloc (.map #[] 0)) := by
  simp [execOp, ho, Instr.makeMap, newObj, Sem.run, hs.eval hx, run_underlying hu, asInt, asIntOf]
 unfold Oper.wp
 rw [hrun]
 refine ⟨_, _, rfl, ?_, w.heap.size, rfl, rfl⟩
 refine hr.push (below_alloc hr _) (fun i hi => alloc_heap_lt w _ i hi) (by simp) ?_
 intro p hp
 simp only [List.mem_singleton] at hp
 subst hp
 exact ⟨⟨#[], 0, alloc_heap_new w _, by simp⟩, Nat.le_refl _⟩
theorem run_setMap {w : World} {b : Nat} {en : Array MapEntry} {clk : Nat} (hw : w.heap[b]? = some (.map en clk)) (o : Obj) : (setObj b o).run P w = .ok () { w with heap := w.heap.setIfInBounds b o } := by
 simp [setObj, Sem.run, hw]
theorem Rep.setAt {w : World} {k b : Nat} {o : AO} {ob : Obj} {o' : AO} (h : Rep w0 S w) (hk : S[k]? = some [(b, o)]) (ho : Owns { w with heap := w.heap.setIfInBounds b ob } b o') : Rep w0 (S.set k [(b, o')]) { w with heap := w.heap.setIfInBounds b ob } := by
 obtain ⟨hge, how⟩ := h.own (b, o) (mem_at hk)
 simp only at hge
 refine h.replace hk ⟨rfl, rfl, rfl, by simp, fun i hi => ?_⟩ (fun i hi hne => ?_) (by simp) ?_
 ·have : b ≠ i := by omega
  simp [Array.getElem?_setIfInBounds_ne this]
 ·have : b ≠ i := by simp at hne; omega
  simp [Array.getElem?_setIfInBounds_ne this]
 intro p hp
 simp only [List.mem_singleton] at hp
 subst hp
 exact ⟨hge, ho, .inl (by simp)⟩
theorem keys_set {l : List MapEntry} {j : Nat} {e : MapEntry} (h : l[j]? = some e) (e' : MapEntry) (hk : e'.key = e.key) : (l.set j e').map (·.key) = l.map (·.key) := by
 apply List.ext_getElem?
 intro i
 by_cases he : j = i
 ·subst he
  have hlt := (List.getElem?_eq_some_iff.1 h).1
  rw [List.getElem?_map, List.getElem?_map, List.getElem?_set_self hlt, h]; simp [hk]
 simp [List.getElem?_set_ne he]
theorem borns_set {l : List MapEntry} {j : Nat} {e : MapEntry} (h : l[j]? = some e) (e' : MapEntry) (hk : e'.born = e.born) : (l.set j e').map (·.born) = l.map (·.born) := by
 apply List.ext_getElem?
 intro i
 by_cases he : j = i
 ·subst he
  have hlt := (List.getElem?_eq_some_iff.1 h).1
  rw [List.getElem?_map, List.getElem?_map, List.getElem?_set_self hlt, h]; simp [hk]
 simp [List.getElem?_set_ne he]
theorem run_updG {w : World} {b : Nat} {l : List (α × β)} {a : α} {v : β} (hu : P.underlying t = some (.map kt et)) (K : Keys P kt f ok) (hl : ∀ p ∈ l, ok p.1) (ha : ok a) {en : Array MapEntry} {clk : Nat} (hw : w.heap[b]? = some (.map en clk)) (he : en.toList.map (fun e => (e.key, e.val)) = gmL f g l)
  (hb : (en.toList.map (·.born)).Nodup) (hlt : ∀ e ∈ en.toList, e.born < clk) (hn : (en.toList.map (·.key)).Nodup) :
  ∃ en' clk', (Instr.mapUpdate t (.map (some b)) (f a) (g v)).run P w = .ok () { w with heap := w.heap.setIfInBounds b (.map en' clk') } /\ en'.toList.map (fun e => (e.key, e.val)) = gmL f g (mpt l a v) /\
   (en'.toList.map (·.born)).Nodup /\ (∀ e ∈ en'.toList, e.born < clk') /\ (en'.toList.map (·.key)).Nodup := by
 obtain ⟨lx, hlx⟩ := K.key a ha
 have hck := K.law.check w false hlx
 have hst := K.law.stays w hlx
 have hg : (getObj b).run P w = .ok (.map en clk) w := by simp [getObj, Sem.run, hw]
 rcases K.find hl he a ha w with ⟨h1, h2⟩ | ⟨j, e, b', h1, h2, h3, h4, h5⟩
 ·refine ⟨en.push { key := f a, val := g v, born := clk }, clk + 1, ?_, ?_, ?_, ?_, ?_⟩
  ·unfold Instr.mapUpdate
   simp [run_underlying hu, hg, hck, h1, run_setMap hw]
  ·rw [mpt_new h2]; simp [he, gmL]
  ·simp only [Array.toList_push, List.map_append, List.map_cons, List.map_nil]
   rw [List.nodup_append]
   refine ⟨hb, by simp, ?_⟩
   simp only [List.mem_map, List.mem_singleton]
   rintro x ⟨e, he', rfl⟩ y rfl hxy
   have := hlt e he'
   omega
  ·simp only [Array.toList_push, List.mem_append, List.mem_singleton]
   rintro e (h | rfl)
   ·have := hlt e h; omega
   exact Nat.lt_succ_self _
  simp only [Array.toList_push, List.map_append, List.map_cons, List.map_nil]
  rw [List.nodup_append]
  refine ⟨hn, by simp, ?_⟩
  simp only [List.mem_map, List.mem_singleton]
  rintro x ⟨e, he', rfl⟩ y rfl hxy
  obtain ⟨i, hi⟩ := List.getElem?_of_mem he'
  obtain ⟨a', b', q1, q2, q3⟩ := gmL_get he hi
  obtain rfl := K.inj a' a (by rw [<- q2, hxy])
  exact h2 b' (List.mem_of_getElem? q1)
 have hlj : j < en.toList.length := (List.getElem?_eq_some_iff.1 h2).1
 have hmod : (en.modify j fun e => { e with key := f a, val := g v }).toList = en.toList.set j { e with key := f a, val := g v } := by
  apply List.ext_getElem?
  intro i
  by_cases hi : j = i
  ·subst hi
   have hlj' : j < en.size := by simpa using hlj
   have h2' : en[j] = e := by have := h2; simp [hlj'] at this; exact this
   simp [Array.getElem?_modify, List.getElem?_set_self hlj, hlj', h2']
  simp [Array.getElem?_modify, hi, List.getElem?_set_ne hi]
 refine ⟨en.modify j fun e => { e with key := f a, val := g v }, clk, ?_, ?_, ?_, ?_, ?_⟩
 ·have hkey : ((en[j]?).map (·.key)).getD (f a) = f a := by
   have : en[j]? = some e := by simpa using h2
   simp [this, h3]
  unfold Instr.mapUpdate
  simp [run_underlying hu, hg, hck, h1, hkey, hst, run_setMap hw]
 ·rw [hmod, mpt_set (gmL_nodup he hn) h5, List.map_set, he]
  unfold gmL
  rw [List.map_set]
 ·rw [hmod, borns_set h2 _ (by rfl)]; exact hb
 ·rw [hmod]
  intro x hx
  rcases List.mem_or_eq_of_mem_set hx with h | rfl
  ·exact hlt x h
  exact hlt e (List.mem_of_getElem? h2)
 rw [hmod, keys_set h2 _ (by simpa using h3.symm)]; exact hn
theorem OW.updG {m k x : Operand} {b j : Nat} {l : List (α × β)} {a : α} {v : β} (hu : P.underlying t = some (.map kt et)) (K : Keys P kt f ok) (hl : ∀ p ∈ l, ok p.1) (ha : ok a) (hm : (cV m).val T = some (.map (some b))) (hx : (cV k).val T = some (f a)) (hv : (cV x).val T = some (g v))
  (hk : S[j]? = some [(b, AO.gm (gmL f g l))]) : OW P w0 n (.more (.other (.gen (.mapUpdate t m k x)))) T S (fun _ S' => S' = S.set j [(b, .gm (gmL f g (mpt l a v)))]) := by
 intro op ac w Q hco hs hr
 have ho : op.op = .mapUpdate t m k x := cOp_spec P hco
 obtain ⟨hge, en, clk, hw, he, hb, hlt, hn⟩ := hr.gmAt (mem_at hk)
 obtain ⟨en', clk', hrun, h1, h2, h3, h4⟩ := run_updG (a := a) (v := v) hu K hl ha hw he hb hlt hn
 unfold Oper.wp
 have hrun2 : (execOp ac.eval op).run P w = .ok .skip { w with heap := w.heap.setIfInBounds b (.map en' clk') } := by
  simp [execOp, ho, hs.eval hm, hs.eval hx, hs.eval hv, hrun]
 rw [hrun2]
 refine ⟨undef, _, rfl, ?_, rfl⟩
 have hlb : b < w.heap.size := (Array.getElem?_eq_some_iff.1 hw).1
 exact hr.setAt hk ⟨en', clk', by simp [hlb], h1, h2, h3, h4⟩
theorem OW.insG {m k x : Operand} {b j : Nat} {l : List (α × β)} {a : α} {v : β} (hu : P.underlying t = some (.map kt et)) (K : Keys P kt f ok) (hl : ∀ p ∈ l, ok p.1) (ha : ok a) (hm : (cV m).val T = some (.map (some b))) (hx : (cV k).val T = some (f a)) (hv : (cV x).val T = some (g v))
  (hk : S[j]? = some [(b, AO.gm (gmL f g l))]) : OW P w0 n (.more (.other (.gen (.insert t m k x)))) T S (fun _ S' => S' = S.set j [(b, .gm (gmL f g (mpt l a v)))]) := by
 intro op ac w Q hco hs hr
 have ho : op.op = .insert t m k x := cOp_spec P hco
 obtain ⟨hge, en, clk, hw, he, hb, hlt, hn⟩ := hr.gmAt (mem_at hk)
 obtain ⟨en', clk', hrun, h1, h2, h3, h4⟩ := run_updG (a := a) (v := v) hu K hl ha hw he hb hlt hn
 unfold Oper.wp
 have hrun2 : (execOp ac.eval op).run P w = .ok .skip { w with heap := w.heap.setIfInBounds b (.map en' clk') } := by
  simp [execOp, ho, hs.eval hm, hs.eval hx, hs.eval hv, hrun]
 rw [hrun2]
 refine ⟨undef, _, rfl, ?_, rfl⟩
 have hlb : b < w.heap.size := (Array.getElem?_eq_some_iff.1 hw).1
 exact hr.setAt hk ⟨en', clk', by simp [hlb], h1, h2, h3, h4⟩
def It (f : α -> Value) (g : β -> Value) (en : Array MapEntry) (seen : Array Nat) (l done rest : List (α × β)) : Prop :=
 (done ++ rest).Perm l /\ ∃ D R : List MapEntry, seen.toList = D.map (·.born) /\ (D ++ R).Perm en.toList /\ D.map (fun e => (e.key, e.val)) = gmL f g done /\ R.map (fun e => (e.key, e.val)) = gmL f g rest
structure Opened (f : α -> Value) (g : β -> Value) (en : Array MapEntry) (clk : Nat) (l : List (α × β)) : Prop where
 es : en.toList.map (fun e => (e.key, e.val)) = gmL f g l
 born : (en.toList.map (·.born)).Nodup
 lt : ∀ e ∈ en.toList, e.born < clk
 keys : (en.toList.map (·.key)).Nodup
theorem OW.rngG {m : Operand} {b j : Nat} {l : List (α × β)} (hu : P.underlying t = some (.map kt et)) (hm : (cV m).val T = some (.map (some b))) (hk : S[j]? = some [(b, AO.gm (gmL f g l))]) :
  OW P w0 n (.more (.other (.gen (.range t m)))) T S (fun v S' => ∃ r en clk, v = .pointer (some ⟨r, 0, none⟩) /\ Opened f g en clk l /\ It f g en #[] l [] l /\ S' = [(r, .obj (.mapIter (some b) clk #[] clk))] :: S.set j [(b, .obj (.map en clk))]) := by
 intro op ac w Q hco hs hr
 have ho : op.op = .range t m := cOp_spec P hco
 obtain ⟨hge, en, clk, hw, he, hb, hlt, hn⟩ := hr.gmAt (mem_at hk)
 have hg : (getObj b).run P w = .ok (.map en clk) w := by simp [getObj, Sem.run, hw]
 unfold Oper.wp
 have hrun : (execOp ac.eval op).run P w = .ok (.value (.pointer (some ⟨w.heap.size, 0, none⟩))) (w.alloc (.mapIter (some b) clk #[] clk)) := by
  simp [execOp, ho, hs.eval hm, Instr.range, run_underlying hu, hg, newObj, Sem.run]
 rw [hrun]
 have hr2 : Rep w0 (S.set j [(b, .obj (.map en clk))]) w := hr.replace hk (Below.refl _ _) (fun _ _ _ => rfl) (by simp) (by
  intro p hp
  simp only [List.mem_singleton] at hp
  subst hp
  exact ⟨hge, hw, .inl (by simp)⟩)
 refine ⟨_, _, rfl, hr2.allocObj _, w.heap.size, en, clk, rfl, ⟨he, hb, hlt, hn⟩, ⟨by simp, [], en.toList, by simp, by simp, by simp [gmL], he⟩, rfl⟩
theorem perm_take {γ : Type} {D R L : List γ} {i : Nat} {x : γ} (h : R[i]? = some x) (hp : (D ++ R).Perm L) : ((D ++ [x]) ++ R.eraseIdx i).Perm L := by
 refine List.Perm.trans ?_ hp
 rw [List.append_assoc]
 refine List.Perm.append_left D ?_
 have hlt := (List.getElem?_eq_some_iff.1 h).1
 have hx : R[i] = x := by rw [List.getElem?_eq_getElem hlt] at h; exact Option.some.inj h
 have : R = R.take i ++ x :: R.drop (i + 1) := by rw [<- hx]; simp
 have e : R.eraseIdx i = R.take i ++ R.drop (i + 1) := List.eraseIdx_eq_take_drop_succ ..
 rw [e]
 calc [x] ++ (R.take i ++ R.drop (i + 1)) = x :: (R.take i ++ R.drop (i + 1)) := rfl
  List.Perm _ (R.take i ++ x :: R.drop (i + 1)) := (List.perm_middle).symm
  List.Perm _ R := by rw [<- this]
theorem OW.nxtG {it : Operand} {b r j clk : Nat} {en : Array MapEntry} {seen : Array Nat} {l done rest : List (α × β)} (ht : (cV it).val T = some (.pointer (some ⟨r, 0, none⟩))) (hk : S[j]? = some [(r, AO.obj (.mapIter (some b) clk seen clk))])
  (hm : (b, AO.obj (.map en clk)) ∈ S.flatten) (ho : Opened f g en clk l) (hi : It f g en seen l done rest) :
  OW P w0 n (.more (.other (.gen (.next it false)))) T S (fun v S' => (rest = [] /\ v = .tuple #[.bool false] /\ S' = S) ∨
   ∃ (i : Nat) (p : α × β) (q : Nat), rest[i]? = some p /\ v = .tuple #[.bool true, f p.1, g p.2] /\ It f g en (seen.push q) l (done ++ [p]) (rest.eraseIdx i) /\ S' = S.set j [(r, .obj (.mapIter (some b) clk (seen.push q) clk))]) := by
 intro op ac w Q hco hs hr
 have hop : op.op = .next it false := cOp_spec P hco
 obtain ⟨hge, hw⟩ := hr.own _ hm
 obtain ⟨hge2, hw2⟩ := hr.own (r, AO.obj (.mapIter (some b) clk seen clk)) (mem_at hk)
 simp only [Owns] at hw hw2
 obtain ⟨hperm, D, R, hseen, hDR, hD, hR⟩ := hi
 have hbn : ((D ++ R).map (·.born)).Nodup := (hDR.map _).nodup_iff.2 ho.born
 have hleft : ∀ e, e ∈ (leftOf en seen).toList ↔ e ∈ R := by
  intro e
  unfold leftOf
  simp only [Array.toList_filter, List.mem_filter, Bool.not_eq_true', Array.contains_eq_mem, decide_eq_false_iff_not, <- Array.mem_toList_iff, hseen]
  constructor
  ·rintro ⟨h1, h2⟩
   rcases List.mem_append.1 (hDR.mem_iff.2 h1) with h | h
   ·exact absurd (List.mem_map.2 ⟨e, h, rfl⟩) h2
   exact h
  intro h
  refine ⟨hDR.mem_iff.1 (by simp [h]), fun h2 => ?_⟩
  obtain ⟨e', h3, h4⟩ := List.mem_map.1 h2
  rw [List.map_append, List.nodup_append] at hbn
  exact hbn.2.2 _ (List.mem_map.2 ⟨e', h3, rfl⟩) _ (List.mem_map.2 ⟨e, h, rfl⟩) h4
 have hnx := run_next_at (P := P) w op.type r b clk clk seen en clk hw2 hw ho.lt (Nat.le_refl _)
 unfold Oper.wp
 rcases hnx with ⟨h0, hrun⟩ | ⟨e, he, w1, hw1, hrun⟩
 ·have hrun2 : (execOp ac.eval op).run P w = .ok (.value (.tuple #[.bool false])) w := by
   simp [execOp, hop, hs.eval ht, hrun]
  rw [hrun2]
  refine ⟨_, _, rfl, hr, .inl ⟨?_, rfl, rfl⟩⟩
  have hR0 : R = [] := by
   cases hRR : R with
   | nil => rfl
   | cons x R' =>
    exfalso
    have := (hleft x).2 (by rw [hRR]; simp)
    have h2 : (leftOf en seen) = #[] := Array.eq_empty_of_size_eq_zero h0
    rw [h2] at this
    simp at this
  rw [hR0] at hR
  cases rest with
  | nil => rfl
  | cons x r' => simp [gmL] at hR
 have heR := (hleft e).1 he
 obtain ⟨i, hRi⟩ := List.getElem?_of_mem heR
 have h1 : (R.map (fun e => (e.key, e.val)))[i]? = some (e.key, e.val) := by simp [hRi]
 rw [hR] at h1
 unfold gmL at h1
 rw [List.getElem?_map, Option.map_eq_some_iff] at h1
 obtain ⟨p, hp, hkv⟩ := h1
 have hke : e.key = f p.1 := (congrArg Prod.fst hkv).symm
 have hve : e.val = g p.2 := (congrArg Prod.snd hkv).symm
 have hrun2 : (execOp ac.eval op).run P w = .ok (.value (.tuple #[.bool true, f p.1, g p.2])) (ChangeMaps.setBlock w1 r (.mapIter (some b) clk (seen.push e.born) clk)) := by
  simp [execOp, hop, hs.eval ht, hrun, hke, hve]
 rw [hrun2]
 have hr1 : Rep w0 S w1 := by
  rcases hw1 with rfl | rfl
  ·exact hr
  exact hr.same ⟨rfl, rfl, rfl, Nat.le_refl _, fun _ _ => rfl⟩ (fun _ _ => rfl)
 have hlr : r < w1.heap.size := hr1.lt (p := (r, AO.obj (.mapIter (some b) clk seen clk))) (mem_at hk)
 refine ⟨_, _, rfl, hr1.setAt (ob := .mapIter (some b) clk (seen.push e.born) clk) (o' := .obj (.mapIter (some b) clk (seen.push e.born) clk)) hk (by simp [Owns, hlr]), .inr ⟨i, p, e.born, hp, rfl, ?_, rfl⟩⟩
 refine ⟨perm_take hp hperm, D ++ [e], R.eraseIdx i, by simp [hseen], perm_take hRi hDR, ?_, ?_⟩
 ·rw [List.map_append, hD]; simp [gmL, hke, hve]
 rw [map_eraseIdx, hR]; unfold gmL; rw [map_eraseIdx]
theorem Yields.entG {it : Operand} {b r clk q : Nat} {en : Array MapEntry} {seen : Array Nat} {l done rest : List (α × β)} {p : α × β} (ht : (cV it).val T = some (.pointer (some ⟨r, 0, none⟩))) (hk : (r, AO.obj (.mapIter (some b) clk (seen.push q) clk)) ∈ S.flatten)
  (hm : (b, AO.obj (.map en clk)) ∈ S.flatten) (ho : Opened f g en clk l) (hi : It f g en (seen.push q) l (done ++ [p]) rest) :
  Yields P w0 n (.more (.other (.gen (.entry it)))) T S (.tuple #[f p.1, g p.2]) := by
 intro o ac w hco hs hr
 have hop : o.op = .entry it := cOp_spec P hco
 obtain ⟨hge, hw⟩ := hr.own _ hm
 obtain ⟨hge2, hw2⟩ := hr.own _ hk
 simp only [Owns] at hw hw2
 obtain ⟨hperm, D, R, hseen, hDR, hD, hR⟩ := hi
 have hDne : D ≠ [] := by rintro rfl; simp [gmL] at hD
 obtain ⟨D', e, rfl⟩ : ∃ D' e, D = D' ++ [e] := ⟨D.dropLast, D.getLast hDne, (List.dropLast_concat_getLast hDne).symm⟩
 have hDl := hD
 rw [gmL, List.map_append, List.map_append] at hDl
 have hlast := (List.append_inj' hDl rfl).2
 simp only [List.map_cons, List.map_nil, List.cons.injEq, Prod.mk.injEq, and_true] at hlast
 have hq : q = e.born := by
  have := hseen
  simp only [Array.toList_push, List.map_append, List.map_cons, List.map_nil] at this
  have h2 := (List.append_inj' this rfl).2
  simpa using h2
 subst hq
 have hem : e ∈ en.toList := hDR.mem_iff.1 (by simp)
 have := run_entry_at (P := P) w r b clk seen en clk e hw2 hw hem ho.born
 simp [execOp, hop, hs.eval ht, this, hlast.1, hlast.2]
theorem It.perm {en : Array MapEntry} {seen : Array Nat} {l done rest : List (α × β)} (h : It f g en seen l done rest) : (done ++ rest).Perm l := h.1
theorem Rep.tell {w : World} {k b : Nat} {o o' : AO} (h : Rep w0 S w) (hk : S[k]? = some [(b, o)]) (ho : ∀ w, Owns w b o -> Owns w b o') : Rep w0 (S.set k [(b, o')]) w := by
 obtain ⟨hge, how⟩ := h.own (b, o) (mem_at hk)
 refine h.replace hk (Below.refl _ _) (fun _ _ _ => rfl) (by simp) (by
  intro p hp
  simp only [List.mem_singleton] at hp
  subst hp
  exact ⟨hge, ho _ how, .inl (by simp)⟩)
theorem Opened.close {en : Array MapEntry} {clk : Nat} {l : List (α × β)} (h : Opened f g en clk l) (b : Nat) (w : World) (hw : Owns w b (.obj (.map en clk))) : Owns w b (.gm (gmL f g l)) := ⟨en, clk, hw, h.es, h.born, h.lt, h.keys⟩
theorem OL.tell {l : List PI} {k b : Nat} {o o' : AO} {K : TT -> SS -> Prop} (hk : S[k]? = some [(b, o)]) (ho : ∀ w, Owns w b o -> Owns w b o') (h : OL P w0 n l T (S.set k [(b, o')]) K) : OL P w0 n l T S K :=
 fun ops is a w Q hc hs hr hq => h ops is a w Q hc hs (hr.tell hk ho) hq
def entL (l : List (α × β)) (a : α) (z : β) : List (α × β) := mpt l a ((mgt l a).getD z)
theorem mpt_idem {l : List (α × β)} {a : α} {b : β} (h : mgt l a = some b) : mpt l a b = l := by
 induction l with
 | nil => simp [mgt_nil] at h
 | cons p l ih =>
  rw [mgt_cons] at h
  unfold mpt
  split
  ·rename_i e
   rw [if_pos e] at h
   rw [e, <- Option.some.inj h]
  rename_i e
  rw [if_neg e] at h
  rw [ih h]
theorem OW.entry {m k : Operand} {i : TypeInfo} {b j : Nat} {l : List (α × β)} {a : α} {z : β} (hu : P.underlying t = some (.map kt et)) (hi : P.info? et = some i) (hz : i.zero = some (g z)) (K : Keys P kt f ok) (hl : ∀ p ∈ l, ok p.1) (ha : ok a)
  (hm : (cV m).val T = some (.map (some b))) (hx : (cV k).val T = some (f a)) (hk : S[j]? = some [(b, AO.gm (gmL f g l))]) :
  OW P w0 n (.more (.other (.gen (.mapEntry t m k)))) T S (fun v S' => ∃ (en : Array MapEntry) (clk q : Nat) (e : MapEntry), v = .tuple #[g ((mgt l a).getD z), .int .i64 (q : Int)] /\ Opened f g en clk (entL l a z) /\ e ∈ en.toList /\ e.born = q /\ e.key = f a /\ S' = S.set j [(b, .obj (.map en clk))]) := by
 intro op ac w Q hco hs hr
 have ho : op.op = .mapEntry t m k := cOp_spec P hco
 obtain ⟨hge, en, clk, hw, he, hb, hlt, hn⟩ := hr.gmAt (mem_at hk)
 obtain ⟨lx, hlx⟩ := K.key a ha
 have hck := K.law.check w false hlx
 have hst := K.law.stays w hlx
 have hg : (getObj b).run P w = .ok (.map en clk) w := by simp [getObj, Sem.run, hw]
 have hlb : b < w.heap.size := (Array.getElem?_eq_some_iff.1 hw).1
 unfold Oper.wp
 rcases K.find hl he a ha w with ⟨h1, h2⟩ | ⟨i', e, b', h1, h2, h3, h4, h5⟩
 ·have hget : mgt l a = none := mgt_none.2 fun h => by
   unfold mks at h
   obtain ⟨p, hp, rfl⟩ := List.mem_map.1 h
   exact h2 p.2 hp
  have hrun : (execOp ac.eval op).run P w = .ok (.value (.tuple #[g z, .int .i64 (clk : Int)])) { w with heap := w.heap.setIfInBounds b (.map (en.push { key := f a, val := g z, born := clk }) (clk + 1)) } := by
   simp [execOp, ho, hs.eval hm, hs.eval hx, Instr.mapEntry, run_underlying hu, hg, hck, h1, run_setMap hw, zeroValue, typeInfo, program, Sem.run, hi, hz, goInt]
  rw [hrun]
  refine ⟨_, _, rfl, hr.setAt hk (o' := .obj (.map (en.push { key := f a, val := g z, born := clk }) (clk + 1))) (by simp [Owns, hlb]), _, clk + 1, clk, { key := f a, val := g z, born := clk }, by rw [hget]; rfl, ⟨?_, ?_, ?_, ?_⟩, by simp, rfl, rfl, rfl⟩
  ·unfold entL
   rw [hget, mpt_new h2]; simp [he, gmL]
  ·simp only [Array.toList_push, List.map_append, List.map_cons, List.map_nil]
   rw [List.nodup_append]
   refine ⟨hb, by simp, ?_⟩
   simp only [List.mem_map, List.mem_singleton]
   rintro x ⟨e, he', rfl⟩ y rfl hxy
   have := hlt e he'
   omega
  ·simp only [Array.toList_push, List.mem_append, List.mem_singleton]
   rintro e (h | rfl)
   ·have := hlt e h; omega
   exact Nat.lt_succ_self _
  simp only [Array.toList_push, List.map_append, List.map_cons, List.map_nil]
  rw [List.nodup_append]
  refine ⟨hn, by simp, ?_⟩
  simp only [List.mem_map, List.mem_singleton]
  rintro x ⟨e, he', rfl⟩ y rfl hxy
  obtain ⟨i, hi⟩ := List.getElem?_of_mem he'
  obtain ⟨a', b', q1, q2, q3⟩ := gmL_get he hi
  obtain rfl := K.inj a' a (by rw [<- q2, hxy])
  exact h2 b' (List.mem_of_getElem? q1)
 have hget : mgt l a = some b' := (mgt_mem (gmL_nodup he hn)).2 (List.mem_of_getElem? h5)
 have h2' : en[i']? = some e := by simpa using h2
 have hsame : en.modify i' (fun e => { e with key := f a }) = en := by
  apply Array.ext'
  apply List.ext_getElem?
  intro x
  rw [Array.getElem?_toList, Array.getElem?_toList, Array.getElem?_modify]
  split
  ·rename_i hx; subst hx
   rw [h2']
   simp only [Option.map_some]
   rw [<- h3]
  rfl
 have hrun : (execOp ac.eval op).run P w = .ok (.value (.tuple #[e.val, .int .i64 (e.born : Int)])) { w with heap := w.heap.setIfInBounds b (.map en clk) } := by
  simp [execOp, ho, hs.eval hm, hs.eval hx, Instr.mapEntry, run_underlying hu, hg, hck, h1, h2', h3, hst, hsame, run_setMap hw, goInt]
 rw [hrun]
 refine ⟨_, _, rfl, hr.setAt hk (o' := .obj (.map en clk)) (by simp [Owns, hlb]), en, clk, e.born, e, by rw [hget, h4]; rfl, ?_, List.mem_of_getElem? h2, rfl, h3, rfl⟩
 unfold entL
 rw [hget, Option.getD_some, mpt_idem hget]
 exact ⟨he, hb, hlt, hn⟩
theorem OW.store {m k x : Operand} {b j q clk : Nat} {en : Array MapEntry} {e : MapEntry} {l : List (α × β)} {a : α} {v : β} (hinj : ∀ a b, f a = f b -> a = b) (hm : (cV m).val T = some (.map (some b))) (hx : (cV k).val T = some (.int .i64 (q : Int))) (hv : (cV x).val T = some (g v))
  (ho : Opened f g en clk l) (hee : e ∈ en.toList) (heb : e.born = q) (hek : e.key = f a) (hk : S[j]? = some [(b, AO.obj (.map en clk))]) :
  OW P w0 n (.more (.other (.gen (.entryStore t m k x)))) T S (fun _ S' => S' = S.set j [(b, .gm (gmL f g (mpt l a v)))]) := by
 intro op ac w Q hco hs hr
 have hop : op.op = .entryStore t m k x := cOp_spec P hco
 obtain ⟨hge, hw⟩ := hr.own _ (mem_at hk)
 simp only [Owns] at hw
 have hg : (getObj b).run P w = .ok (.map en clk) w := by simp [getObj, Sem.run, hw]
 have hlb : b < w.heap.size := (Array.getElem?_eq_some_iff.1 hw).1
 obtain ⟨i, hi⟩ := List.getElem?_of_mem hee
 have hil := (List.getElem?_eq_some_iff.1 hi).1
 obtain ⟨a', b', q1, q2, q3⟩ := gmL_get ho.es hi
 obtain rfl := hinj a' a (by rw [<- q2, hek])
 have hfi : en.findIdx? (fun e => (e.born : Int) == (q : Int)) = some i := by
  rw [Array.findIdx?_eq_some_iff_getElem]
  obtain ⟨h1, h2⟩ := List.getElem?_eq_some_iff.1 hi
  have h2' : en[i]'(by simpa using h1) = e := by simpa using h2
  refine ⟨by simpa using h1, by rw [h2', heb]; simp, fun x hx => ?_⟩
  have hxl : x < en.toList.length := by omega
  have hne : (en.toList.map (·.born))[x]'(by simpa using hxl) ≠ (en.toList.map (·.born))[i]'(by simpa using h1) := fun e => by
   have := (List.getElem_inj ho.born).1 e
   omega
  have hxe : en[x] = en.toList[x] := by simp
  simp only [List.getElem_map, h2, heb] at hne
  simp only [beq_iff_eq, Bool.not_eq_true, beq_eq_false_iff_ne, ne_eq]
  rw [hxe]
  omega
 have hmod : (en.modify i fun e => { e with val := g v }).toList = en.toList.set i { e with val := g v } := by
  apply List.ext_getElem?
  intro x
  by_cases hx : i = x
  ·subst hx
   have hlj' : i < en.size := by simpa using hil
   have h2' : en[i] = e := by have := hi; simp [hlj'] at this; exact this
   simp [Array.getElem?_modify, List.getElem?_set_self hil, hlj', h2']
  simp [Array.getElem?_modify, hx, List.getElem?_set_ne hx]
 unfold Oper.wp
 have hrun : (execOp ac.eval op).run P w = .ok .skip { w with heap := w.heap.setIfInBounds b (.map (en.modify i fun e => { e with val := g v }) clk) } := by
  simp [execOp, hop, hs.eval hm, hs.eval hx, hs.eval hv, Instr.entryStore, hg, asInt, asIntOf, hfi, run_setMap hw]
 rw [hrun]
 refine ⟨undef, _, rfl, ?_, rfl⟩
 refine hr.setAt hk ⟨_, clk, by simp [hlb]; rfl, ?_, ?_, ?_, ?_⟩
 ·rw [hmod, mpt_set (gmL_nodup ho.es ho.keys) q1, List.map_set, ho.es]
  unfold gmL
  rw [List.map_set, <- q2]
 ·rw [hmod, borns_set hi _ (by rfl)]; exact ho.born
 ·rw [hmod]
  intro x hx
  rcases List.mem_or_eq_of_mem_set hx with h | rfl
  ·exact ho.lt x h
  exact ho.lt e hee
 rw [hmod, keys_set hi _ (by rfl)]; exact ho.keys
theorem Yields.lookO {m k : Operand} {okc : Bool} {i : TypeInfo} {b clk : Nat} {en : Array MapEntry} {l : List (α × β)} {a : α} {z : β} (hu : P.underlying t = some (.map kt et)) (hi : P.info? et = some i) (hz : i.zero = some (g z)) (K : Keys P kt f ok) (hl : ∀ p ∈ l, ok p.1) (ha : ok a)
  (hm : (cV m).val T = some (.map (some b))) (hx : (cV k).val T = some (f a)) (ho : Opened f g en clk l) (hk : (b, AO.obj (.map en clk)) ∈ S.flatten) :
  Yields P w0 n (.more (.other (.gen (.lookup t m k okc)))) T S (if okc then .tuple #[g ((mgt l a).getD z), .bool (mgt l a).isSome] else g ((mgt l a).getD z)) := by
 intro o ac w hco hs hr
 have hop : o.op = .lookup t m k okc := cOp_spec P hco
 obtain ⟨hge, hw⟩ := hr.own _ hk
 simp only [Owns] at hw
 obtain ⟨lx, hlx⟩ := K.key a ha
 have hck := fun bb => K.law.check w bb hlx
 have hg : (getObj b).run P w = .ok (.map en clk) w := by simp [getObj, Sem.run, hw]
 simp only [execOp, hop, hs.eval hm, hs.eval hx, Instr.lookup]
 simp only [Sem.run_bind, run_underlying hu, Result.andThen_ok, hg, Sem.run_pure, hck]
 rcases K.find hl ho.es a ha w with ⟨h1, h2⟩ | ⟨j, e, b', h1, h2, h3, h4, h5⟩
 ·have hget : mgt l a = none := mgt_none.2 fun h => by
   unfold mks at h
   obtain ⟨p, hp, rfl⟩ := List.mem_map.1 h
   exact h2 p.2 hp
  simp only [h1, Result.andThen_ok, hget]
  cases okc <;> simp [zeroValue, typeInfo, program, hi, hz, Sem.run]
 have hget : mgt l a = some b' := (mgt_mem (gmL_nodup ho.es ho.keys)).2 (List.mem_of_getElem? h5)
 simp only [h1, Result.andThen_ok, hget, h4]
 cases okc <;> simp
theorem Yields.tas {x : Operand} {u : TypeId} {d : TypeDesc} {ok : Bool} {v : Value} (hx : (cV x).val T = some (.iface t v)) (hu : P.underlying t = some d) (hd : ∀ ms, d ≠ .interface ms) :
  Yields P w0 n (.more (.other (.gen (.typeAssert x u t ok)))) T S (if ok then .tuple #[v, .bool true] else v) := by
 intro o ac w hco hs hr
 have hop : o.op = .typeAssert x u t ok := cOp_spec P hco
 have : (Instr.typeAssert (.iface t v) u t ok).run P w = .ok (if ok then .tuple #[v, .bool true] else v) w := by
  unfold Instr.typeAssert
  simp only [Sem.run_bind, run_underlying hu, Result.andThen_ok]
  cases d <;> (first | (cases ok <;> simp; done) | exact absurd rfl (hd _))
 simp [execOp, hop, hs.eval hx, this]
theorem OW.inv {recv : Operand} {name : String} {args : Array Operand} {ts : Array TypeId} {k : FuncId} {v rv : Value} {vs : List Value} {post : Value -> SS -> Prop} (hx : (cV recv).val T = some (.iface t v)) (hv : valsP T (args.toList.map cV) = some vs)
  (hm : ∀ w, Rep w0 S w -> (method (P.types.size + Made.depth) t v name).run P w = .ok (k, rv) w) (hok : fnOk P k = true) (h : FC P w0 k (rv :: vs) S post) :
  OW P w0 n (.more (.other (.gen (.call { callee := .invoke recv name, args := args, argTypes := ts })))) T S post := by
 intro op ac w Q hco hs hr
 have hop : op.op = .call { callee := .invoke recv name, args := args, argTypes := ts } := cOp_spec P hco
 have hargs : args.map ac.eval = vs.toArray := by
  have := valsP_spec hs hv
  rw [<- this, <- Array.toArray_toList (xs := args.map ac.eval), Array.toList_map]
 have hrun : (execOp ac.eval op).run P w = .ok (.enter k (rv :: vs).toArray) w := by
  unfold fnOk at hok
  split at hok
  ·rename_i fn hfn
   simp only [Bool.and_eq_true, bne_iff_ne, ne_eq] at hok
   have hb : ¬ fn.body = none := by intro hh; simp [hh] at hok
   have hex : (#[(Value.iface t v)] ++ vs.toArray).extract 1 (#[(Value.iface t v)] ++ vs.toArray).size = vs.toArray := by
    apply Array.toList_inj.1
    simp
   simp only [execOp, hop, resolve, hs.eval hx, hargs]
   simp only [Sem.run_bind, Sem.run_pure, Result.andThen_ok, invoke]
   have h0 : (#[(Value.iface t v)] ++ vs.toArray)[0]? = some (.iface t v) := by simp
   simp only [h0, hex, callMethod, Sem.run_bind, program, Sem.run, Result.andThen_ok, hm w hr]
   simp [callFunc, program, Sem.run, hfn, hok.1, hb]
  simp at hok
 unfold Oper.wp
 rw [hrun]
 refine (h w hr).mono ?_
 rintro e w' ⟨v, S', rfl, hr', hp⟩
 exact ⟨v, S', rfl, hr', hp⟩
end
end Go.SL
