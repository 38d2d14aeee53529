/- Walks. -/
import Derived.Test.YtbejcoeajlhmcaaGreatPart1
import Derived.MapKept
import Derived.Laws.StructEq
import Derived.WalkKit
import Derived.ProofKit
import Derived.OpenShut
import Derived.ShutString
import Derived.ChangeOld
import Derived.Below
import Derived.SizedLaws
import Derived.SliceStrings
import Derived.Carry
import Derived.Laws.IdiomStrings
import Derived.Laws.IdiomCopy
import Derived.Lib.AppendStr
import Derived.ChangeKeysEq
import Derived.RangeFuncLeaves
import Derived.RangeFuncRecord
import Derived.RangeFuncKeeps
import Derived.OrdersIn
import Derived.Lib.AppendZerosOnto
import Derived.Lib.Overlaps
set_option linter.unusedVariables false
set_option linter.unusedSimpArgs false
set_option linter.unusedSectionVars false

namespace Go.SL
open Go.RowKit
section
variable {P : Program} {w0 : World} {n : Nat} {T : TT} {S : SS}
theorem setAt_cons (cs : List Value) (k : Nat) (v : Value) (vs : List Value) (h : k < cs.length) : setAt cs k (v :: vs) = setAt (cs.set k v) (k + 1) vs := by
 induction cs generalizing k with
 | nil => simp at h
 | cons c cs ih =>
  cases k with
  | zero => simp [setAt]
  | succ k => simp only [setAt, List.set_cons_succ]; rw [ih k (by simpa using h)]
theorem foldl_setAt (off : Nat) : ∀ (l : List Value) (k : Nat) (cells : Array Value), off + k + l.length <= cells.size ->
  ((l.zipIdx k).foldl (fun cs p => cs.setIfInBounds (off + p.2) p.1) cells).toList = setAt cells.toList (off + k) l
 | [], k, cells, _ => by simp [setAt_nil]
 | c :: l, k, cells, h => by
  simp only [List.zipIdx_cons, List.foldl_cons, List.length_cons] at h ⊢
  rw [foldl_setAt off l (k + 1) _ (by simp; omega)]
  rw [setAt_cons _ _ _ _ (by simp; omega)]
  simp [Nat.add_assoc]
def fillP (T : TT) : List Value -> List (Nat × Nat × PV) -> Option (List Value)
 | cs, [] => some cs
 | cs, (off, size, x) :: r => match x.val T with
  | some v => if v.cells.size = size /\ off + size <= cs.length then fillP T (setAt cs off v.cells.toList) r else none
  | none => none
theorem fill_spec {a : Act} (hs : Sat n T a) {place : Nat -> Option (Nat × Nat)} : ∀ {qs : List (Nat × Operand)} {ps : List (Nat × Nat × PV)} {cells : Array Value} {cs : List Value},
  partsAt place qs = some ps -> fillP T cells.toList ps = some cs -> Instr.fill place cells (qs.map fun (i, x) => (i, a.eval x)) = some cs.toArray
 | [], ps, cells, cs, h1, h2 => by
  simp [partsAt] at h1
  subst h1
  simp [fillP] at h2
  subst h2
  simp [Instr.fill]
 | (i, x) :: qs, ps, cells, cs, h1, h2 => by
  simp only [partsAt, List.mapM_cons, Option.bind_eq_bind, Option.pure_def] at h1
  cases hp : place i with
  | none => simp [hp] at h1
  | some p =>
   obtain ⟨off, size⟩ := p
   simp only [hp, Option.map_some, Option.bind_some] at h1
   change (partsAt place qs).bind _ = _ at h1
   cases hq : partsAt place qs with
   | none => rw [hq] at h1; simp at h1
   | some ps' =>
    rw [hq] at h1
    simp only [Option.bind_some, Option.some.injEq] at h1
    subst h1
    simp only [fillP] at h2
    split at h2
    ·rename_i v hv
     split at h2
     ·rename_i hcond
      obtain ⟨hsz, hle⟩ := hcond
      have hev := hs.eval hv
      simp only [List.map_cons, Instr.fill, hp, hev]
      have hc : ¬ (v.cells.size ≠ size || decide (off + v.cells.size > cells.size)) = true := by
       simp at hle ⊢
       omega
      rw [if_neg hc]
      have hfold : (v.cells.zipIdx.foldl (fun cs x => cs.setIfInBounds (off + x.2) x.1) cells).toList = setAt cells.toList off v.cells.toList := by
       rw [<- Array.foldl_toList, Array.toList_zipIdx]
       have := foldl_setAt off v.cells.toList 0 cells (by simp at hle ⊢; omega)
       simpa using this
      have := fill_spec hs (place := place) (qs := qs) (ps := ps') (cells := v.cells.zipIdx.foldl (fun cs x => cs.setIfInBounds (off + x.2) x.1) cells) (cs := cs) hq (by rw [hfold]; exact h2)
      exact this
     simp at h2
    simp at h2
theorem Yields.build {zero : List Value} {parts : List (Nat × Nat × PV)} {cs : List Value} (h : fillP T zero parts = some cs) : Yields P w0 n (.build zero parts) T S (.agg cs.toArray) := by
 intro o a w hco hs hr
 obtain ⟨t, qs, fs, i, z, ps, ho, hu, hi, hz, rfl, hps, hpa⟩ := cOp_spec P hco
 have hfill := fill_spec hs (place := fun j => ps[j]?) (cells := z.cells) hpa h
 simp only [execOp, ho]
 have hb : P.built t (qs.map fun (i, x) => (i, a.eval x)).toList = some cs.toArray := by
  unfold Program.built
  simp only [hi, hu, hz]
  unfold placesOf at hps
  rw [hps]
  simp only [Array.toList_map]
  have e : (fun x : Nat => ps.toArray[x]?) = fun j => ps[j]? := by funext j; simp
  rw [e]
  exact hfill
 have := run_build (P := P) w t _ cs.toArray hb
 simp only [Sem.run_bind, this, Result.andThen_ok]
 rfl
theorem OW.bsl {E : TypeId} {len : Nat} {zero : List Value} {parts : List (Nat × Nat × PV)} {cs : List Value} (h : fillP T zero parts = some cs) :
  OW P w0 n (.bsl E zero len parts) T S (fun v S' => ∃ r, v = .slice (some ⟨r, 0, none⟩) len len /\ S' = [(r, .cells cs E cs.length)] :: S) := by
 intro op a w Q hco hs hr
 obtain ⟨t, qs, i, z, ho, hu, hi, hz, hle, hne, rfl, hpa⟩ := cOp_spec P hco
 have hfill := fill_spec hs (place := fun j => some (j * i.size, i.size)) (cells := (Array.range (len * i.size)).map (z.cells[· % z.cells.size]!)) hpa h
 have hrun : (execOp a.eval op).run P w = .ok (.value (.slice (some ⟨w.heap.size, 0, none⟩) len len)) (w.alloc (.cells cs.toArray E)) := by
  simp only [execOp, ho, Instr.buildSlice]
  have hle' : ¬ (16777216 < len * i.size) := by omega
  simp only [Array.toList_map]
  have hsz : (sizeOf E).run P w = .ok i.size w := by simp [sizeOf, typeInfo, program, hi, Sem.run]
  have hzv : (zeroValue E).run P w = .ok z w := by simp [zeroValue, typeInfo, program, hi, hz, Sem.run]
  simp only [Array.toList_map] at hfill ⊢
  simp only [Sem.run_bind, run_underlying hu, Result.andThen_ok, hsz]
  simp [hle', hne, hzv]
  rw [hfill]
  simp [newRow, newObj, Sem.run]
 unfold Oper.wp
 rw [hrun]
 refine ⟨_, _, rfl, ?_, w.heap.size, rfl, rfl⟩
 have := hr.alloc cs.toArray E
 simpa using this
theorem Yields.fld {off : Nat} {x : PV} {cs : Array Value} {v : Value} (hx : x.val T = some (.agg cs)) (hc : cs[off]? = some v) : Yields P w0 n (.fld off x) T S v := by
 intro o a w hco hs hr
 obtain ⟨s, y, j, fs, f, ho, rfl, hu, hf, rfl, hagg⟩ := cOp_spec P hco
 obtain ⟨d, hd, hrow⟩ := aggOf_none hagg
 simp only [execOp, ho, hs.eval hx, Instr.field]
 simp [run_underlying hu, hf, asAgg, part, run_isAgg hd, hrow, hc]
def skey (es : List (ByteArray × Value)) : List (Value × Value) := es.map fun p => (.string p.1, p.2)
def mget (es : List (ByteArray × Value)) (s : ByteArray) : Option Value := (es.find? fun p => s == p.1).map (·.2)
def mputAt : List (ByteArray × Value) -> ByteArray -> Value -> List (ByteArray × Value)
 | [], s, v => [(s, v)]
 | p :: r, s, v => if s == p.1 then (s, v) :: r else p :: mputAt r s v
theorem findNow_string {s : ByteArray} : ∀ (en : List MapEntry) (es : List (ByteArray × Value)) (i : Nat), en.map (fun e => (e.key, e.val)) = skey es ->
  ∃ r, Instr.findNow .string (.string s) en i = some r /\ r.map (·.2) = mget es s
 | [], es, i, h => by
  cases es with
  | nil => exact ⟨none, rfl, rfl⟩
  | cons p es => simp [skey] at h
 | e :: en, es, i, h => by
  cases es with
  | nil => simp [skey] at h
  | cons p es =>
   simp only [skey, List.map_cons, List.cons.injEq, Prod.mk.injEq] at h
   obtain ⟨⟨h1, h2⟩, h3⟩ := h
   simp only [Instr.findNow, h1, Instr.sameNow]
   by_cases hb : (s == p.1) = true
   ·refine ⟨some (i, e.val), by simp [hb], by simp [mget, List.find?_cons, hb, h2]⟩
   have hb' : (s == p.1) = false := by simpa using hb
   obtain ⟨r, hr1, hr2⟩ := findNow_string (s := s) en es (i + 1) h3
   exact ⟨r, by simp [hb', hr1], by rw [hr2]; simp [mget, List.find?_cons, hb']⟩
theorem run_checkKey_string {kt : TypeId} (h : P.underlying kt = some .string) (b : Bool) (m : Nat) (s : ByteArray) (w : World) : (Instr.checkKey b (m + 1) kt (.string s)).run P w = .ok () w := by
 simp [Instr.checkKey, run_underlying h]
theorem Rep.mapAt {w : World} {k b : Nat} {es : List (Value × Value)} (h : Rep w0 S w) (hk : S[k]? = some [(b, .map es)]) :
  w0.heap.size <= b /\ ∃ en clk, w.heap[b]? = some (.map en clk) /\ en.toList.map (fun e => (e.key, e.val)) = es :=
 h.own (b, .map es) (List.mem_flatten.2 ⟨_, List.mem_of_getElem? hk, by simp⟩)
theorem Yields.lenM {x : PV} {b k : Nat} {es : List (Value × Value)} (hx : x.val T = some (.map (some b))) (hk : S[k]? = some [(b, .map es)]) : Yields P w0 n (.lenM x) T S (.int .i64 es.length) := by
 intro o a w hco hs hr
 obtain ⟨t, kt, vt, c, cl, ho, hca, hat, har, rfl, hu⟩ := cOp_spec P hco
 obtain ⟨_, en, clk, hw, he⟩ := hr.mapAt hk
 have hlen : en.size = es.length := by rw [<- he]; simp
 simp [execOp, ho, resolve, hca, invoke, builtin, Builtin.len_, hat, har, hs.eval hx, run_underlying hu, goInt, getObj, Sem.run, hw, hlen]
theorem Yields.lookS {zero : Value} {ok : Bool} {x y : PV} {b k : Nat} {es : List (ByteArray × Value)} {s : ByteArray} (hx : x.val T = some (.map (some b))) (hy : y.val T = some (.string s)) (hk : S[k]? = some [(b, .map (skey es))]) :
  Yields P w0 n (.lookS zero ok x y) T S (if ok then .tuple #[(mget es s).getD zero, .bool (mget es s).isSome] else (mget es s).getD zero) := by
 intro o a w hco hs hr
 obtain ⟨t, c, d, kt, et, i, ho, rfl, rfl, hu, hkt, hi, hz⟩ := cOp_spec P hco
 obtain ⟨_, en, clk, hw, he⟩ := hr.mapAt hk
 obtain ⟨r, hr1, hr2⟩ := findNow_string (s := s) en.toList es 0 he
 simp only [execOp, ho, hs.eval hx, hs.eval hy, Instr.lookup]
 have hck := fun bb => run_checkKey_string (P := P) hkt bb 9999 s w
 simp only [Sem.run_bind, run_underlying hu, Result.andThen_ok]
 have hg : (getObj b).run P w = .ok (.map en clk) w := by simp [getObj, Sem.run, hw]
 simp only [Sem.run_bind, hg, Result.andThen_ok]
 simp only [Sem.run_pure, Result.andThen_ok, hck, Instr.findKey, Sem.run_bind, run_underlying hkt, hr1]
 cases r with
 | none =>
  simp at hr2
  simp [zeroValue, typeInfo, program, hi, hz, Sem.run, <- hr2]
 | some p =>
  obtain ⟨j, v⟩ := p
  simp at hr2
  simp [<- hr2]
theorem OW.mkM : OW P w0 n .mkM T S (fun v S' => ∃ r, v = .map (some r) /\ S' = [(r, .map [])] :: S) := by
 intro op a w Q hco hs hr
 obtain ⟨t, ho⟩ := cOp_spec P hco
 have hrun : (execOp a.eval op).run P w = .ok (.value (.map (some w.heap.size))) (w.alloc (.map #[] 0)) := by
  simp [execOp, ho, Instr.makeMap, newObj, Sem.run]
 unfold Oper.wp
 rw [hrun]
 refine ⟨_, _, rfl, ?_, w.heap.size, rfl, rfl⟩
 refine hr.push (below_alloc hr _) (fun i hi => alloc_heap_lt w _ i hi) (by simp) ?_
 intro p hp
 simp only [List.mem_singleton] at hp
 subst hp
 exact ⟨⟨#[], 0, alloc_heap_new w _, by simp⟩, Nat.le_refl _⟩
theorem findNow_put {s : ByteArray} : ∀ (en : List MapEntry) (es : List (ByteArray × Value)) (i : Nat), en.map (fun e => (e.key, e.val)) = skey es ->
  (Instr.findNow .string (.string s) en i = some none /\ mget es s = none /\ ∀ v, mputAt es s v = es ++ [(s, v)]) ∨
  (∃ j u e, Instr.findNow .string (.string s) en i = some (some (i + j, u)) /\ en[j]? = some e /\ e.key = .string s /\ ∀ v, skey (mputAt es s v) = (skey es).set j (.string s, v))
 | [], es, i, h => by
  cases es with
  | nil => exact .inl ⟨rfl, rfl, fun v => rfl⟩
  | cons p es => simp [skey] at h
 | e :: en, es, i, h => by
  cases es with
  | nil => simp [skey] at h
  | cons p es =>
   simp only [skey, List.map_cons, List.cons.injEq, Prod.mk.injEq] at h
   obtain ⟨⟨h1, h2⟩, h3⟩ := h
   simp only [Instr.findNow, h1, Instr.sameNow]
   by_cases hb : (s == p.1) = true
   ·right
    have hsp : s = p.1 := (Go.MapKept.bytes_beq s p.1).1 hb
    refine ⟨0, e.val, e, by simp [hb], by simp, by rw [h1, hsp], fun v => by simp [mputAt, hb, skey]⟩
   have hb' : (s == p.1) = false := by simpa using hb
   rcases findNow_put (s := s) en es (i + 1) h3 with ⟨h4, h5, h6⟩ | ⟨j, u, e', h4, h5, h6, h7⟩
   ·exact .inl ⟨by simp [hb', h4], by simp only [mget] at h5 ⊢; simp [List.find?_cons, hb'] at h5 ⊢; exact h5, fun v => by simp [mputAt, hb', h6]⟩
   refine .inr ⟨j + 1, u, e', by simp [hb', h4]; omega, by simpa using h5, h6, fun v => ?_⟩
   have := h7 v
   simp only [skey] at this ⊢
   simp [mputAt, hb', this]
theorem OW.updSU {x y z : PV} {b k : Nat} {es : List (ByteArray × Value)} {s : ByteArray} {v : Value} (hx : x.val T = some (.map (some b))) (hy : y.val T = some (.string s)) (hz : z.val T = some v) (hk : S[k]? = some [(b, .map (skey es))]) :
  OW P w0 n (.updS x y z) T S (fun v' S' => v' = undef /\ S' = S.set k [(b, .map (skey (mputAt es s v)))]) := by
 intro op a w Q hco hs hr
 obtain ⟨t, c, d, u, kt, et, ho, rfl, rfl, rfl, hu, hkt⟩ := cOp_spec P hco
 obtain ⟨hge, en, clk, hw, he⟩ := hr.mapAt hk
 have hlt : b < w.heap.size := (Array.getElem?_eq_some_iff.1 hw).1
 have hck := run_checkKey_string (P := P) hkt false 9999 s w
 have hg : (getObj b).run P w = .ok (.map en clk) w := by simp [getObj, Sem.run, hw]
 have hput : ∀ o : Obj, (∀ c e f, o ≠ .cells c e f) -> (setObj b o).run P w = .ok () { w with heap := w.heap.setIfInBounds b o } := by
  intro o _
  simp [setObj, Sem.run, hw]
 have fin : ∀ (en' : Array MapEntry) (clk' : Nat), (execOp a.eval op).run P w = .ok .skip { w with heap := w.heap.setIfInBounds b (.map en' clk') } -> en'.toList.map (fun e => (e.key, e.val)) = skey (mputAt es s v) ->
   op.wp P a w (fun a' w' => ∃ v_1 S', a' = a.put op.dst v_1 /\ Rep w0 S' w' /\ v_1 = undef /\ S' = S.set k [(b, .map (skey (mputAt es s v)))]) Q := by
  intro en' clk' hrun hen
  unfold Oper.wp
  rw [hrun]
  refine ⟨undef, _, rfl, ?_, rfl, rfl⟩
  refine hr.replace hk ⟨rfl, rfl, rfl, by simp, fun i hi => ?_⟩ (fun i hi hne => ?_) (by simp) ?_
  ·have : b ≠ i := by omega
   simp [Array.getElem?_setIfInBounds_ne this]
  ·have : b ≠ i := by simp at hne; omega
   simp [Array.getElem?_setIfInBounds_ne this]
  intro p hp
  simp only [List.mem_singleton] at hp
  subst hp
  exact ⟨hge, ⟨en', clk', by simp [hlt], hen⟩, .inl (by simp)⟩
 rcases findNow_put (s := s) en.toList es 0 he with ⟨h4, h5, h6⟩ | ⟨j, u', e', h4, h5, h6, h7⟩
 ·refine fin (en.push { key := .string s, val := v, born := clk }) (clk + 1) ?_ ?_
  ·simp only [execOp, ho, hs.eval hx, hs.eval hy, hs.eval hz, Instr.mapUpdate]
   simp [run_underlying hu, hg, hck, Instr.findKey, run_underlying hkt, h4, hput]
  simp [he, h6, skey]
 simp only [Nat.zero_add] at h4
 have hstay : (Instr.keyThatStays (.string s) (.string s)).run P w = .ok (.string s) w := by
  have hss : (s == s) = true := (Go.MapKept.bytes_beq s s).2 rfl
  simp [Instr.keyThatStays, Instr.sameBits, hss]
 have hkey : ((en[j]?).map (·.key)).getD (.string s) = .string s := by
  have : en[j]? = some e' := by simpa using h5
  simp [this, h6]
 refine fin (en.modify j fun e => { e with key := .string s, val := v }) clk ?_ ?_
 ·simp only [execOp, ho, hs.eval hx, hs.eval hy, hs.eval hz, Instr.mapUpdate]
  simp [run_underlying hu, hg, hck, Instr.findKey, run_underlying hkt, h4, hkey, hstay, hput]
 rw [h7 v, <- he]
 apply List.ext_getElem?
 intro i
 by_cases e : j = i
 ·subst e
  have hlt' : j < en.size := by have := (List.getElem?_eq_some_iff.1 h5).1; simpa using this
  simp [Array.getElem?_modify, hlt']
 simp [Array.getElem?_modify, e, List.getElem?_set_ne e]
theorem OW.updS {x y z : PV} {b k : Nat} {es : List (ByteArray × Value)} {s : ByteArray} {v : Value} (hx : x.val T = some (.map (some b))) (hy : y.val T = some (.string s)) (hz : z.val T = some v) (hk : S[k]? = some [(b, .map (skey es))]) :
  OW P w0 n (.updS x y z) T S (fun _ S' => S' = S.set k [(b, .map (skey (mputAt es s v)))]) := by
 exact (OW.updSU hx hy hz hk).mono fun _ _ h => h.2
def eqCell : CK -> Value -> Value -> Option Bool
 | .int k, .int j a, .int j' b => if j = k /\ j' = k then some (a == b) else none
 | .str, .string a, .string b => some (a.toList == b.toList)
 | .bool, .bool a, .bool b => some (a == b)
 | _, _, _ => none
theorem run_eqCell {c : CK} {t : TypeId} {x y : Value} {r : Bool} (hc : ckOf P t = some c) (h : eqCell c x y = some r) (d : Nat) (w : World) : (Op.equalIn (d + 1) t x y).run P w = .ok r w := by
 unfold ckOf at hc
 split at hc
 ·rename_i k hu
  obtain rfl := Option.some.inj hc
  unfold eqCell at h
  split at h <;> simp_all
  obtain ⟨⟨rfl, rfl⟩, rfl⟩ := h
  simp [Op.equalIn, run_underlying hu]
 ·rename_i hu
  obtain rfl := Option.some.inj hc
  unfold eqCell at h
  split at h <;> simp_all
  subst h
  exact run_equalIn_string w d t _ _ hu
 ·rename_i hu
  obtain rfl := Option.some.inj hc
  unfold eqCell at h
  split at h <;> simp_all
  subst h
  simp [Op.equalIn, run_underlying hu]
 simp at hc
theorem ckOf_agg {t : TypeId} {c : CK} (h : ckOf P t = some c) : ∃ d, P.underlying t = some d /\ rowD d = false := by
 unfold ckOf at h
 split at h
 all_goals (first | (simp at h; done) | exact ⟨_, by assumption, rfl⟩)
theorem OW.al {E : TypeId} {zero : List Value} : OW P w0 n (.al E zero) T S (fun v S' => ∃ r, v = .pointer (some ⟨r, 0, none⟩) /\ S' = [(r, .cells zero E zero.length)] :: S) := by
 intro op a w Q hco hs hr
 obtain ⟨i, z, ho, hi, hz, rfl⟩ := cOp_spec P hco
 have hrun : (execOp a.eval op).run P w = .ok (.value (.pointer (some ⟨w.heap.size, 0, none⟩))) (w.alloc (.cells z.cells E)) := by
  simp [execOp, ho, Instr.alloc, zeroValue, typeInfo, program, hi, hz, Sem.run, newVar, newRow, newObj]
 unfold Oper.wp
 rw [hrun]
 exact ⟨_, _, rfl, by simpa using hr.alloc z.cells E, w.heap.size, rfl, rfl⟩
theorem OW.bx {E : TypeId} {x : PV} {v : Value} (hx : x.val T = some v) : OW P w0 n (.bx E x) T S (fun u S' => ∃ r, u = .pointer (some ⟨r, 0, none⟩) /\ S' = [(r, .cells v.cells.toList E v.cells.toList.length)] :: S) := by
 intro op a w Q hco hs hr
 obtain ⟨c, ho, rfl⟩ := cOp_spec P hco
 have hrun : (execOp a.eval op).run P w = .ok (.value (.pointer (some ⟨w.heap.size, 0, none⟩))) (w.alloc (.cells v.cells E)) := by
  simp [execOp, ho, hs.eval hx, Instr.box, Sem.run, newVar, newRow, newObj]
 unfold Oper.wp
 rw [hrun]
 exact ⟨_, _, rfl, by simpa using hr.alloc v.cells E, w.heap.size, rfl, rfl⟩
end
section
variable {P : Program} {w0 : World} {n : Nat} {T : TT} {S : SS}
def Rd (w0 : World) (S : SS) (A : Option Addr) (cs : List Value) : Prop := ∀ j v, cs[j]? = some v -> ∃ a, A = some a /\ Cell w0 S (a.add j) v
theorem Rd.mono {S S' : SS} {A : Option Addr} {cs : List Value} (h : Rd w0 S A cs) (hs : ∀ p ∈ S.flatten, p ∈ S'.flatten) : Rd w0 S' A cs :=
 fun j v hj => let ⟨a, e, hc⟩ := h j v hj; ⟨a, e, hc.mono hs⟩
theorem Rd.any {S : SS} {A : Option Addr} {cs : List Value} (h : Rd w0 [] A cs) : Rd w0 S A cs := h.mono (by simp)
theorem Rd.cons {S : SS} {s : Seg} {A : Option Addr} {cs : List Value} (h : Rd w0 S A cs) : Rd w0 (s :: S) A cs := h.mono (fun p hp => by simp [hp])
theorem Rd.nil {S : SS} {A : Option Addr} : Rd w0 S A [] := fun j v h => by simp at h
theorem Rd.some {S : SS} {A : Option Addr} {cs : List Value} (h : Rd w0 S A cs) (h0 : cs ≠ []) : ∃ a, A = Option.some a := by
 cases cs with
 | nil => exact absurd rfl h0
 | cons c cs => obtain ⟨a, e, _⟩ := h 0 c rfl; exact ⟨a, e⟩
theorem Rd.at {S : SS} {a : Addr} {cs : List Value} (h : Rd w0 S (Option.some a) cs) {j : Nat} {v : Value} (hj : cs[j]? = Option.some v) : Cell w0 S (a.add j) v := by
 obtain ⟨b, e, hc⟩ := h j v hj
 obtain rfl := Option.some.inj e
 exact hc
theorem Rd.own {S : SS} {r E tot : Nat} {xs : List Value} (h : (r, AO.cells xs E tot) ∈ S.flatten) : Rd w0 S (Option.some ⟨r, 0, none⟩) xs := by
 intro j v hj
 refine ⟨_, rfl, .inr (.inl ⟨xs, E, tot, ?_, ?_, ?_⟩)⟩
 ·simpa [Addr.add_lit] using h
 ·simp [Addr.add_lit]
 simpa [Addr.add_lit] using hj
theorem SlV.rd {S : SS} {k E sz m : Nat} {v : Value} {xs : List Value} {seg : Seg} (hv : SlV E sz v m xs seg) (hk : S[k]? = some seg) : ∃ A cap, v = .slice A m cap /\ Rd w0 S A xs /\ xs.length = m * sz := by
 obtain ⟨hl, ⟨rfl, rfl, rfl⟩ | ⟨r, cap, rfl, rfl, h1, h2⟩⟩ := hv
 ·have : xs = [] := List.eq_nil_of_length_eq_zero (by simpa using hl)
  subst this
  exact ⟨none, 0, rfl, Rd.nil, hl⟩
 have hm : (r, AO.cells xs E (cap * sz)) ∈ S.flatten := List.mem_flatten.2 ⟨[(r, AO.cells xs E (cap * sz))], List.mem_of_getElem? hk, List.mem_singleton.2 rfl⟩
 exact ⟨_, cap, rfl, Rd.own hm, hl⟩
theorem OL.call {f : FuncId} {args : List PV} {vs : List Value} {post : Value -> SS -> Prop} {d : Option Nat} {g : Option (Nat × Bool)} {r : List PI} {K : TT -> SS -> Prop} (hg : gOk T g) (hv : valsP T args = some vs) (h : FC P w0 f vs S post)
  (hk : ∀ v S', post v S' -> OL P w0 n r (put d v T) S' K) : OL P w0 n (⟨d, g, .call f args⟩ :: r) T S K := OL.cons hg (OW.call hv h) hk
theorem PW.seqOps {l : List PI} {y : PC} {Q : Exit -> TT -> SS -> Prop} (h : OL P w0 n l T S (fun T' S' => PW P w0 n y T' S' Q)) : PW P w0 n (.seq (.ops l) y) T S Q :=
 PW.seq fun K hK => PW.ops (fun ops is a w Q' hc hs hr hk => h ops is a w Q' hc hs hr fun a' w' T' S' h1 h2 h3 => hk a' w' T' S' h1 h2 (hK T' S' h3))
def QK (P : Program) (w0 : World) (n : Nat) (S : SS) (l : List PI) (T : TT) (K : TT -> Prop) : Prop := ∃ T', QL P w0 n S l T T' /\ K T'
theorem QK.nil {K : TT -> Prop} (h : K T) : QK P w0 n S [] T K := ⟨T, .nil, h⟩
theorem QK.cons {po : PO} {d : Option Nat} {g : Option (Nat × Bool)} {v : Value} {r : List PI} {K : TT -> Prop} (hg : gOk T g) (h : OW P w0 n po T S (fun v' S' => v' = v /\ S' = S)) (k : QK P w0 n S r (put d v T) K) : QK P w0 n S (⟨d, g, po⟩ :: r) T K :=
 let ⟨T', h1, h2⟩ := k; ⟨T', .step hg h h1, h2⟩
theorem QK.det {po : PO} {d : Option Nat} {g : Option (Nat × Bool)} {v : Value} {r : List PI} {K : TT -> Prop} (hg : gOk T g) (h : Yields P w0 n po T S v) (k : QK P w0 n S r (put d v T) K) : QK P w0 n S (⟨d, g, po⟩ :: r) T K := QK.cons hg (OW.of_yields h) k
theorem QK.dp {po : PO} {d : Option Nat} {v : Value} {r : List PI} {K : TT -> Prop} (h : evalP po T = some v) (k : QK P w0 n S r (put d v T) K) : QK P w0 n S (⟨d, none, po⟩ :: r) T K := QK.det trivial (.pure h) k
theorem _root_.Go.SL.OL.dp {po : PO} {d : Option Nat} {v : Value} {r : List PI} {K : TT -> SS -> Prop} (h : evalP po T = some v) (k : OL P w0 n r (put d v T) S K) : OL P w0 n (⟨d, none, po⟩ :: r) T S K := OL.det trivial (.pure h) k
theorem QK.call {f : FuncId} {args : List PV} {vs : List Value} {v : Value} {d : Option Nat} {g : Option (Nat × Bool)} {r : List PI} {K : TT -> Prop} (hg : gOk T g) (hv : valsP T args = some vs) (h : FC P w0 f vs S (fun v' S' => v' = v /\ S' = S)) (k : QK P w0 n S r (put d v T) K) : QK P w0 n S (⟨d, g, .call f args⟩ :: r) T K :=
 QK.cons hg (OW.call hv h) k
theorem QK.off {po : PO} {d : Option Nat} {s : Nat} {b : Bool} {u : Value} {r : List PI} {K : TT -> Prop} (hl : look T s = some u) (hc : (boolOf u == some b) = false) (k : QK P w0 n S r (put d undef T) K) : QK P w0 n S (⟨d, some (s, b), po⟩ :: r) T K :=
 let ⟨T', h1, h2⟩ := k; ⟨T', .off hl hc h1, h2⟩
theorem PW.quietK {b : List Nat} {k : Nat} {l : List PI} {Q : Exit -> TT -> SS -> Prop} (hm : P.follows .mixedOrders = true) (h : QK P w0 n S (l.take k) T (fun T' => OL P w0 n (l.drop k) T' S (Q .normal))) : PW P w0 n (.quietR b k l) T S Q :=
 let ⟨_, h1, h2⟩ := h; PW.quiet hm h1 h2
theorem Yields.to {po : PO} {v v' : Value} (h : Yields P w0 n po T S v) (e : v = v') : Yields P w0 n po T S v' := e ▸ h
theorem OL.bool {po : PO} {d : Nat} {g : Option (Nat × Bool)} {r : List PI} {K : TT -> SS -> Prop} {b : Bool} (hg : gOk T g) (h : Yields P w0 n po T S (.bool b)) (ht : b = true -> OL P w0 n r ((d, .bool true) :: T) S K) (hf : b = false -> OL P w0 n r ((d, .bool false) :: T) S K) : OL P w0 n (⟨some d, g, po⟩ :: r) T S K := by
 cases b
 ·exact OL.det hg h (hf rfl)
 exact OL.det hg h (ht rfl)
theorem QK.bool {po : PO} {d : Nat} {g : Option (Nat × Bool)} {r : List PI} {K : TT -> Prop} {b : Bool} (hg : gOk T g) (h : Yields P w0 n po T S (.bool b)) (ht : b = true -> QK P w0 n S r ((d, .bool true) :: T) K) (hf : b = false -> QK P w0 n S r ((d, .bool false) :: T) K) : QK P w0 n S (⟨some d, g, po⟩ :: r) T K := by
 cases b
 ·exact QK.det hg h (hf rfl)
 exact QK.det hg h (ht rfl)
theorem PW.ite {v : PV} {x y : PC} {Q : Exit -> TT -> SS -> Prop} {b : Bool} (hv : v.val T = some (.bool b)) (h : PW P w0 n (if b then x else y) T S Q) : PW P w0 n (.cond v x y) T S Q :=
 PW.cond hv (fun e => by subst e; exact h) (fun e => by subst e; exact h)
theorem addr_add_add (a : Addr) (m k : Nat) : (a.add m).add k = a.add (m + k) := by
 unfold Addr.add
 by_cases hm : m = 0
 ·subst hm; simp
 by_cases hk : k = 0
 ·subst hk; simp
 simp [hm, hk, Nat.add_assoc]
theorem Yields.ixN {sz : Nat} {x i : PV} {a : Addr} {len cap j : Nat} {k : IntKind} {z : Int} (hx : x.val T = some (.slice (some a) len cap)) (hi : i.val T = some (.int k z)) (hz : z = (j : Int)) (h : j < len) :
  Yields P w0 n (.ixS sz x i) T S (.pointer (some (a.add (j * sz)))) := by
 subst hz
 exact Yields.ixS hx hi (by omega) (by omega)
theorem Yields.ixN1 {x i : PV} {a : Addr} {len cap j : Nat} {k : IntKind} {z : Int} (hx : x.val T = some (.slice (some a) len cap)) (hi : i.val T = some (.int k z)) (hz : z = (j : Int)) (h : j < len) :
  Yields P w0 n (.ixS 1 x i) T S (.pointer (some (a.add j))) := by
 have := Yields.ixN (P := P) (w0 := w0) (n := n) (S := S) (sz := 1) hx hi hz h
 simpa using this
theorem OL.drop1 {l : List PI} {s : Seg} {K : TT -> SS -> Prop} (h : OL P w0 n l T S K) : OL P w0 n l T (s :: S) K :=
 fun ops is a w Q hc hs hr hq => h ops is a w Q hc hs (hr.sub (fun p hp => by simp [hp]) (by
  have := hr.nodup
  simp only [List.flatten_cons, List.map_append, List.nodup_append] at this
  exact this.2.1)) hq
theorem look_put_del {d1 d2 : Nat} {u v' : Value} {T : TT} (i : Nat) (v : Value) (h : look ((d2, v') :: SL.del (some d1) T) i = some v) : look ((d2, v') :: (d1, u) :: T) i = some v := by
 by_cases e : d2 = i
 ·subst e
  rw [look_put_same] at h ⊢
  exact h
 rw [look_cons_ne _ _ e] at h ⊢
 obtain ⟨h1, h2⟩ := look_del h
 rw [look_cons_ne _ _ h1]
 exact h2
theorem OL.app1 {t E sz bytes m k d1 d2 : Nat} {z v base : Value} {s x : PV} {zero : List Value} {xs : List Value} {seg : Seg} {r : List PI} {K : TT -> SS -> Prop}
  (hx : x.val T = some v) (hz : zero.length = sz) (hv1 : v.cells.size = sz) (hs : s.val T = some base) (hne : s.val ((d1, .bool true) :: T) = some base) (hk : S[k]? = some seg) (hv : SlV E sz base m xs seg) (h1 : v.cells.toList.all (·.oneCell') = true)
  (hb : (m + 1) * bytes <= 140737488355328) (h63 : m + 1 <= maxLen)
  (hK : ∀ v' seg', SlV E sz v' (m + 1) (xs ++ v.cells.toList) seg' -> OL P w0 n r ((d2, v') :: SL.del (some d1) T) (S.set k seg') K) :
  OL P w0 n (⟨some d1, none, .bsl E zero 1 [(0, sz, x)]⟩ :: ⟨some d2, none, .app t E sz bytes z s (.t d1)⟩ :: r) T S K := by
 have hfill : fillP T zero [(0, sz, x)] = some v.cells.toList := by
  simp only [fillP, hx]
  have hl : v.cells.toList.length = zero.length := by simp [hv1, hz]
  rw [if_pos ⟨hv1, by omega⟩]
  rw [setAt_eq zero 0 v.cells.toList (by omega)]
  simp [hl]
 refine OL.cons trivial (OW.bsl hfill) ?_
 rintro _ _ ⟨b, rfl, rfl⟩
 have hsv : s.val (put (some d1) (.slice (some ⟨b, 0, none⟩) 1 1) T) = some base := by
  cases s with
  | v y => simpa [PV.val] using hs
  | t i =>
   simp only [PV.val, put] at hne hs ⊢
   by_cases e : d1 = i
   ·subst e
    rw [look_put_same] at hne ⊢
    cases m with
    | zero =>
     obtain ⟨_, ⟨rfl, _⟩ | ⟨_, _, rfl, _⟩⟩ := hv <;> simp at hne
    | succ m => obtain ⟨_, ⟨rfl, _⟩ | ⟨_, _, rfl, _⟩⟩ := hv <;> simp at hne
   rw [look_cons_ne _ _ e]; exact hs
 refine OL.cons trivial (OW.app (k := k + 1) (a := ⟨b, 0, none⟩) (q := 1) (c := 1) (news := v.cells.toList) hsv (by simpa using hk) hv (by simp [PV.val, put, look_put_same]) (by simp [hv1]) (fun j u hj => (Rd.own (E := E) (tot := v.cells.toList.length) (by simp)).at hj) h1 hb h63) ?_
 rintro v' _ ⟨seg', rfl, hsl⟩
 rw [List.set_cons_succ]
 refine OL.drop1 ?_
 refine fun ops is a w Q hc hs hr hq => hK v' seg' hsl ops is a w Q hc (hs.keep fun i u hu => ?_) hr hq
 exact look_put_del i u hu
theorem thenK_n {K : TT -> SS -> Prop} {Q : Exit -> TT -> SS -> Prop} : thenK K Q .normal T S = K T S := rfl
structure Sub (S' S : SS) : Prop where
 mem : ∀ p ∈ S'.flatten, p ∈ S.flatten
 nodup : (S.flatten.map Prod.fst).Nodup -> (S'.flatten.map Prod.fst).Nodup
theorem Sub.refl (S : SS) : Sub S S := ⟨fun _ h => h, fun h => h⟩
theorem Sub.trans {A B C : SS} (h : Sub A B) (k : Sub B C) : Sub A C := ⟨fun p hp => k.mem p (h.mem p hp), fun hn => h.nodup (k.nodup hn)⟩
theorem Sub.drop {s : Seg} {S' S : SS} (h : Sub S' S) : Sub S' (s :: S) := ⟨fun p hp => by simp [h.mem p hp], fun hn => h.nodup (by
 simp only [List.flatten_cons, List.map_append, List.nodup_append] at hn
 exact hn.2.1)⟩
theorem Sub.sel (is : List Nat) (m : Nat) (hi : (decide is.Nodup && is.all (· < m)) = true) (S : SS) : Sub (SL.sel is m S) S := by
 simp only [Bool.and_eq_true, decide_eq_true_eq, List.all_eq_true] at hi
 exact ⟨fun p hp => sel_mem hp, fun hn => sel_nodup hn hi.1 hi.2⟩
theorem Sub.cons {s : Seg} {S' S : SS} (h : Sub S' S) : Sub (s :: S') (s :: S) := ⟨fun p hp => by
  simp only [List.flatten_cons, List.mem_append] at hp ⊢
  exact hp.imp id (h.mem p), fun hn => by
  simp only [List.flatten_cons, List.map_append, List.nodup_append] at hn ⊢
  exact ⟨hn.1, h.nodup hn.2.1, fun a ha b hb => hn.2.2 a ha b (by
   obtain ⟨p, hp, rfl⟩ := List.mem_map.1 hb
   exact List.mem_map.2 ⟨p, h.mem p hp, rfl⟩)⟩⟩
theorem Rep.subS {w : World} {S' : SS} (h : Rep w0 S w) (hs : Sub S' S) : Rep w0 S' w := h.sub hs.mem (hs.nodup h.nodup)
theorem FC.ofD {k : FuncId} {pc : PC} {rs : List Nat} {args : List Value} {post : Value -> SS -> Prop} (hk : Known P k pc n rs) (hn : args.length <= n)
  (h : PW P w0 n pc (argT 0 args) S (fun e T' S' => (e = .normal ∨ e = .ret) /\ ∃ v, resV T' rs = some v /\ ∃ S'', Sub S'' S' /\ post v S'')) : FC P w0 k args S post := by
 intro w hw
 refine (FC.of hk hn h w hw).mono ?_
 rintro e w' ⟨v, S', rfl, hr, S'', hs, hp⟩
 exact ⟨v, S'', rfl, hr.subS hs, hp⟩
theorem PW.subS {pc : PC} {S' : SS} {Q : Exit -> TT -> SS -> Prop} (hs : Sub S' S) (h : PW P w0 n pc T S' Q) : PW P w0 n pc T S Q := PW.sub hs.mem hs.nodup h
theorem OL.subS {l : List PI} {S' : SS} {K : TT -> SS -> Prop} (hs : Sub S' S) (h : OL P w0 n l T S' K) : OL P w0 n l T S K :=
 fun ops is a w Q hc hsat hr hq => h ops is a w Q hc hsat (hr.subS hs) hq
theorem FC.subS {k : FuncId} {args : List Value} {S' : SS} {post : Value -> SS -> Prop} (hs : Sub S' S) (h : FC P w0 k args S' post) : FC P w0 k args S post := fun w hw => h w (hw.subS hs)
theorem Sub.join {a b : Seg} {S : SS} : Sub ((a ++ b) :: S) (a :: b :: S) := ⟨fun p hp => by simpa using hp, fun hn => by simpa using hn⟩
def LoopEnd (I : Nat -> TT -> SS -> Prop) (m : Nat) (T' : TT) (S' : SS) : Prop := ∃ T'' S'', Within T'' T' /\ Sub S'' S' /\ ∃ k, k < m /\ I k T'' S''
theorem LoopEnd.mk {I : Nat -> TT -> SS -> Prop} {m : Nat} {T' T'' : TT} {S' : SS} (h : Within T'' T') (k : ∃ k, k < m /\ I k T'' S') : LoopEnd I m T' S' := ⟨T'', S', h, Sub.refl _, k⟩
theorem LoopEnd.mkS {I : Nat -> TT -> SS -> Prop} {m : Nat} {T' T'' : TT} {S' S'' : SS} (hs : Sub S'' S') (h : Within T'' T') (k : ∃ k, k < m /\ I k T'' S'') : LoopEnd I m T' S' := ⟨T'', S'', h, hs, k⟩
theorem PW.keepS {pc : PC} {T' : TT} {Q : Exit -> TT -> SS -> Prop} (hk : ∀ i v, look T' i = some v -> look T i = some v) (h : PW P w0 n pc T' S Q) : PW P w0 n pc T S Q :=
 fun c hc a w hs hr => h c hc a w (hs.keep hk) hr
theorem PW.loopK {x : PC} {Q : Exit -> TT -> SS -> Prop} (I : Nat -> TT -> SS -> Prop) {m : Nat} (h0 : I m T S)
  (round : ∀ m T S, I m T S -> PW P w0 n x T S (thenK (LoopEnd I m) Q)) : PW P w0 n (.loop x) T S Q := by
 refine PW.loop (fun m T S => ∃ T' S', (∀ i v, look T' i = some v -> look T i = some v) /\ Sub S' S /\ I m T' S') (m := m) ⟨T, S, fun _ _ h => h, Sub.refl _, h0⟩ ?_
 rintro m T S ⟨T', S', hw, hsub, hI⟩
 refine PW.subS hsub (PW.keepS hw (PW.mono (round m T' S' hI) ?_))
 intro e T S h
 cases e with
 | normal =>
  obtain ⟨T'', S'', h1, h2, k, h3, h4⟩ := h
  exact ⟨k, h3, T'', S'', h1.spec, h2, h4⟩
 | _ => exact h
variable {ez : PI -> FZ} {Ss : SS -> Prop} {fr : Bool} {K : TT -> SS -> Prop}
theorem GL.det {po : PO} {d : Option Nat} {g : Option (Nat × Bool)} {v : Value} {r : List (Nat × PI)} (hg : gOk T g) (h : ∀ S, Ss S -> Yields P w0 n po T S v) (k : GL P w0 n ez Ss fr K r (put d v T) S) : GL P w0 n ez Ss fr K ((0, ⟨d, g, po⟩) :: r) T S := .inr ⟨hg, .inl ⟨rfl, v, h, k⟩⟩
theorem GL.dp {po : PO} {d : Option Nat} {v : Value} {r : List (Nat × PI)} (h : evalP po T = some v) (k : GL P w0 n ez Ss fr K r (put d v T) S) : GL P w0 n ez Ss fr K ((0, ⟨d, none, po⟩) :: r) T S := GL.det trivial (fun _ _ => .pure h) k
theorem GL.lo {po : PO} {d : Option Nat} {g : Option (Nat × Bool)} {r : List (Nat × PI)} (hg : gOk T g) (h : OW P w0 n po T S (fun v S' => Ss S' /\ GL P w0 n ez Ss false K r (put d v T) S')) : GL P w0 n ez Ss false K ((2, ⟨d, g, po⟩) :: r) T S :=
 .inr ⟨hg, .inr (.inr (.inl ⟨rfl, fun F hF => by rw [hF rfl]; exact h.mono fun v S' ⟨h1, h2⟩ => ⟨S', List.Perm.refl _, h1, h2⟩⟩))⟩
theorem GL.loF {po : PO} {d : Option Nat} {g : Option (Nat × Bool)} {r : List (Nat × PI)} (hg : gOk T g) (h : ∀ F, OW P w0 n po T (F ++ S) (fun v S' => ∃ S1, (F ++ S1).Perm S' /\ Ss S1 /\ GL P w0 n ez Ss true K r (put d v T) S1)) : GL P w0 n ez Ss true K ((2, ⟨d, g, po⟩) :: r) T S :=
 .inr ⟨hg, .inr (.inr (.inl ⟨rfl, fun F _ => h F⟩))⟩
theorem GL.fresh {E : TypeId} {z : List Value} {d : Option Nat} {g : Option (Nat × Bool)} {r : List (Nat × PI)} (hg : gOk T g) (k : ∀ q, GL P w0 n ez Ss true K r (put d (.pointer (some ⟨q, 0, none⟩)) T) ([(q, .cells z E z.length)] :: S)) (he : ez ⟨d, g, .al E z⟩ = (E, z, fun r => .pointer (some ⟨r, 0, none⟩)) := by rfl) : GL P w0 n ez Ss true K ((3, ⟨d, g, .al E z⟩) :: r) T S :=
 .inr ⟨hg, .inr (.inr (.inr ⟨rfl, rfl, fun S' => by simp only; rw [he]; exact OW.al, by simp only; rw [he]; exact k⟩))⟩
theorem GL.freshB {E : TypeId} {len : Nat} {z : List Value} {parts : List (Nat × Nat × PV)} {cs : List Value} {d : Option Nat} {g : Option (Nat × Bool)} {r : List (Nat × PI)} (hg : gOk T g) (hf : fillP T z parts = some cs) (he : ez ⟨d, g, .bsl E z len parts⟩ = (E, cs, fun r => .slice (some ⟨r, 0, none⟩) len len)) (k : ∀ q, GL P w0 n ez Ss true K r (put d (.slice (some ⟨q, 0, none⟩) len len) T) ([(q, .cells cs E cs.length)] :: S)) : GL P w0 n ez Ss true K ((3, ⟨d, g, .bsl E z len parts⟩) :: r) T S :=
 .inr ⟨hg, .inr (.inr (.inr ⟨rfl, rfl, fun S' => by simp only; rw [he]; exact OW.bsl hf, by simp only; rw [he]; exact k⟩))⟩
end
section
variable {P : Program} {w0 : World} {n : Nat} {T : TT} {S : SS}
theorem add_own (r j : Nat) : (⟨r, 0, none⟩ : Addr).add j = ⟨r, j, none⟩ := by rw [Addr.add_lit]; simp
theorem Yields.ixO {sz : Nat} {x i : PV} {r len cap j : Nat} {k : IntKind} {z : Int} (hx : x.val T = some (.slice (some ⟨r, 0, none⟩) len cap)) (hi : i.val T = some (.int k z)) (hz : z = (j : Int)) (h : j < len) :
  Yields P w0 n (.ixS sz x i) T S (.pointer (some ⟨r, j * sz, none⟩)) := by
 have := Yields.ixN (P := P) (w0 := w0) (n := n) (S := S) (sz := sz) hx hi hz h
 rwa [add_own] at this
theorem Yields.ixO1 {x i : PV} {r len cap j : Nat} {k : IntKind} {z : Int} (hx : x.val T = some (.slice (some ⟨r, 0, none⟩) len cap)) (hi : i.val T = some (.int k z)) (hz : z = (j : Int)) (h : j < len) :
  Yields P w0 n (.ixS 1 x i) T S (.pointer (some ⟨r, j, none⟩)) := by
 have := Yields.ixN1 (P := P) (w0 := w0) (n := n) (S := S) hx hi hz h
 rwa [add_own] at this
theorem made1 (z : Value) (hz : z.cells = #[z]) (m : Nat) : (madeCells z.cells (m * 1)).toList = List.replicate m z := by rw [hz, Nat.mul_one, toList_madeCells_one]
theorem setAt_get (c : List Value) (k : Nat) (v : Value) (h : k < c.length) (p : Nat) : (setAt c k [v])[p]? = if p = k then some v else c[p]? := by
 induction c generalizing k p with
 | nil => simp at h
 | cons x c ih =>
  cases k with
  | zero => cases p <;> simp [setAt, setAt_nil]
  | succ k =>
   simp only [setAt]
   cases p with
   | zero => simp
   | succ p => simp [ih k (by simpa using h) p]
theorem own_at {r E tot : Nat} {c : List Value} (h : (r, AO.cells c E tot) ∈ S.flatten) {j : Nat} {v : Value} (hj : c[j]? = some v) : Cell w0 S ⟨r, j, none⟩ v := by
 have := (Rd.own (w0 := w0) h).at hj
 rwa [add_own] at this
theorem cutV0 (A : Option Addr) (cap sz h : Nat) : cutV A cap sz 0 h = .slice A h cap := by
 unfold cutV
 have : A.map (fun a => a.add (0 * sz)) = A := by cases A <;> simp [Addr.add]
 rw [this]; simp
theorem Rd.pre {A : Option Addr} {cs cs' : List Value} (h : Rd w0 S A cs) (hp : cs' <+: cs) : Rd w0 S A cs' := by
 obtain ⟨r, rfl⟩ := hp
 intro j v hj
 have hlt := (List.getElem?_eq_some_iff.1 hj).1
 exact h j v (by rw [List.getElem?_append_left hlt]; exact hj)
theorem Sub.nilL {S' S : SS} (h : Sub S' S) : Sub ([] :: S') S := ⟨fun p hp => h.mem p (by simpa using hp), fun hn => by simpa using h.nodup hn⟩
theorem inBlk_n {k : Nat} {Q : Exit -> TT -> SS -> Prop} : inBlk k Q .normal T S = Q .normal T S := rfl
end
end Go.SL

namespace Go.SL
open Go.ChangeShapes Go.WideShapes Go.ChangeAt Go.RowKit
section
variable {H : Type} {enc : TypeId × Value -> H} {P : Program} {W : World}
theorem trodAll_below (hl : laidOutB P = true) {W' : World} (hb : Below W.heap.size W W') : ∀ {ts : List TypeId} {vs : List Value} {ds : List (DataW H)} {ps : List MemPlace}, ts.all (fun t => P.readableRec t && decide (t < P.types.size)) = true ->
  DataW.TrodAll enc P W 0 (fun _ => true) true ts vs ds ps -> DataW.TrodAll enc P W' 0 (fun b => decide (b < W.heap.size)) true ts vs ds ps
 | [], [], [], ps, _, h => h
 | t :: ts, v :: vs, d :: ds, ps, hr, h => by
  obtain ⟨p, q, h1, h2, rfl⟩ := h
  simp only [List.all_cons, Bool.and_eq_true, decide_eq_true_eq] at hr
  obtain ⟨m, hm⟩ := h1
  exact ⟨p, q, Below.trod hl hr.1.1 hr.1.2 ⟨m, hm⟩ hb (DataW.trod_lt m _ _ _ hm), trodAll_below hl hb hr.2 h2, rfl⟩
theorem split_rows {α : Type} {f : α -> List Value} {R : α -> Prop} {m : Nat} : ∀ (len : Nat) (cs : List Value), cs.length = len * m -> (∀ i, i < len -> ∃ x, (cs.drop (i * m)).take m = f x /\ R x) -> ∃ l : List α, l.length = len /\ cs = l.flatMap f /\ ∀ x ∈ l, R x
 | 0, cs, hl, _ => ⟨[], rfl, by simpa using hl, by simp⟩
 | len + 1, cs, hl, h => by
  obtain ⟨x, hx, hR⟩ := h 0 (by omega)
  obtain ⟨l, h1, h2, h3⟩ := split_rows (f := f) (R := R) (m := m) len (cs.drop m) (by rw [List.length_drop, hl, Nat.succ_mul]; omega) (fun i hi => by
   obtain ⟨y, hy, hy2⟩ := h (i + 1) (by omega)
   exact ⟨y, by rw [List.drop_drop, show m + i * m = (i + 1) * m by rw [Nat.succ_mul]; omega]; exact hy, hy2⟩)
  refine ⟨x :: l, by simp [h1], ?_, by simpa using ⟨hR, h3⟩⟩
  rw [List.flatMap_cons, <- h2, <- hx]
  simp
theorem arg_list {α : Type} {f : α -> List Value} {R : α -> Prop} {t e : TypeId} {A : Option Addr} {len cap j : Nat} {d : DataW H} {ps : List MemPlace} {ts : List TypeId} {ds : List (DataW H)} (hu : P.underlying t = some (.slice e))
  (hQ : ∀ n cs y, DataW.trod enc P W 0 (fun _ => true) true n e cs = some y -> cs.length = P.cellsOf e -> ∃ x, cs = f x /\ R x)
  (h : DataW.Trod enc P W 0 (fun _ => true) true t (.slice A len cap) d ps) (hsz : (DataW.weightsEach P ts ds).all (· <= reachBytes) = true) (ht : ts[j]? = some t) (hd : ds[j]? = some d) :
  ∃ l : List α, l.length = len /\ Rd W [] A (l.flatMap f) /\ (∀ x ∈ l, R x) /\ len * P.bytesOf e <= reachBytes /\ len <= cap := by
 obtain ⟨fuel, h⟩ := h
 rcases DataW.trod_slice hu h with ⟨h0, _⟩ | ⟨a, len', cap', elems, rest, n, _, hcs, hx, hb, hl, hm, hlen, hel, _, _⟩
 ·simp [Value.cells] at h0
  obtain ⟨rfl, rfl, rfl⟩ := h0
  exact ⟨[], rfl, Rd.nil, by simp, by simp, by simp⟩
 simp [Value.cells] at hcs
 obtain ⟨rfl, rfl, rfl⟩ := hcs
 have hw := sized_slice (P := P) hsz ht (elems := elems.map (·.1)) (spare := rest.map (·.1)) (by rw [hd]; simpa using congrArg Prod.fst hx) hu
 generalize hmm : P.cellsOf e = m at *
 have row : ∀ i, i < len -> ∃ cs', cs'.length = m /\ (∀ q, q < m -> W.cell? (a.add (i * m + q)) = cs'[q]?) /\ ∃ x, cs' = f x /\ R x := by
  intro i hi
  have := hel i hi
  have hs : elems[i]? = some (elems[i]'(by omega)) := List.getElem?_eq_getElem (by omega)
  rw [hs, Option.bind_eq_some_iff] at this
  obtain ⟨cs', hc, ht'⟩ := this
  obtain ⟨_, hlc, hcell⟩ := World.cells?_some hc
  refine ⟨cs', hlc, fun q hq => ?_, hQ _ _ _ ht' hlc⟩
  rw [<- addr_add_add]
  exact hcell q hq
 have cellAt : ∀ j, j < len * m -> ∃ v, W.cell? (a.add j) = some v := by
  intro j hj
  have hm0 : 0 < m := Nat.pos_of_ne_zero fun e => by subst e; omega
  have hi : j / m < len := Nat.div_lt_of_lt_mul (by rw [Nat.mul_comm]; exact hj)
  have hq := Nat.mod_lt j hm0
  obtain ⟨cs', h1, h2, _⟩ := row (j / m) hi
  have := h2 (j % m) hq
  rw [Nat.mul_comm, Nat.div_add_mod] at this
  exact ⟨_, by rw [this]; exact List.getElem?_eq_getElem (by omega)⟩
 let cs := (List.range (len * m)).map fun j => (W.cell? (a.add j)).getD undef
 have hcs : ∀ j, j < len * m -> cs[j]? = W.cell? (a.add j) := by
  intro j hj
  obtain ⟨v, hv⟩ := cellAt j hj
  simp [cs, hj, hv]
 have hcl : cs.length = len * m := by simp [cs]
 obtain ⟨l, h1, h2, h3⟩ := split_rows (f := f) (R := R) (m := m) len cs hcl (fun i hi => by
  obtain ⟨cs', g1, g2, x, g3, g4⟩ := row i hi
  refine ⟨x, ?_, g4⟩
  rw [<- g3]
  apply List.ext_getElem?
  intro q
  by_cases hq : q < m
  ·have : (i + 1) * m <= len * m := Nat.mul_le_mul_right _ hi
   rw [Nat.succ_mul] at this
   rw [List.getElem?_take_of_lt hq, List.getElem?_drop, hcs _ (by omega), g2 q hq]
  rw [List.getElem?_eq_none (by simp; omega), List.getElem?_eq_none (by omega)])
 refine ⟨l, h1, ?_, h3, ?_, hl⟩
 ·rw [<- h2]
  intro j v hj
  have hlt : j < len * m := by have := (List.getElem?_eq_some_iff.1 hj).1; omega
  rw [hcs j hlt] at hj
  exact ⟨a, rfl, .inl hj⟩
 refine Nat.le_trans (Nat.mul_le_mul_right _ ?_) hw
 simp; omega
def Fits : CK -> Value -> Prop
 | .int k, v => ∃ n, v = .int k n /\ (Lit.int k n).wf = true
 | .str, v => ∃ s : ByteArray, v = .string s /\ s.size <= maxLen
 | .bool, v => ∃ b, v = .bool b
theorem trod_ck {t : TypeId} {c : CK} {n : Nat} {cs : List Value} {y : DataW H × List MemPlace} (hc : ckOf P t = some c) (h : DataW.trod enc P W 0 (fun _ => true) true n t cs = some y) : ∃ v, cs = [v] /\ Fits c v := by
 unfold ckOf at hc
 split at hc
 ·rename_i k hk; cases hc; obtain ⟨m, rfl, _, hw⟩ := DataW.trod_int hk h; exact ⟨_, rfl, m, rfl, hw⟩
 ·rename_i hk; cases hc; obtain ⟨s, rfl, _, hw⟩ := DataW.trod_string hk h; exact ⟨_, rfl, s, rfl, hw⟩
 ·rename_i hk; cases hc; obtain ⟨b, rfl, _⟩ := DataW.trod_bool hk h; exact ⟨_, rfl, b, rfl⟩
 cases hc
theorem FC.below {k : FuncId} {args : List Value} {v : Value} (h : FC P W k args [] (fun u _ => u = v)) : Calls P k args.toArray W fun e w' => e = .returned v /\ Below W.heap.size W w' :=
 (h W ⟨Below.refl _ _, by simp, by simp, .inr (Nat.le_refl _)⟩).mono fun e w' ⟨u, S', he, hr, hu⟩ => ⟨by rw [he, hu], hr.below⟩
end
end Go.SL

namespace Go.SL
open Go.RowKit
section
variable {P : Program} {w0 : World} {n : Nat} {T : TT} {S : SS}
theorem Yields.nilc {x : PV} {a : Addr} (hx : x.val T = some (.pointer (some a))) : Yields P w0 n (.nilc x) T S (.pointer (some a)) := by
 intro o ac w hco hs hr
 obtain ⟨y, ho, rfl⟩ := cOp_spec P hco
 simp [execOp, ho, hs.eval hx]
theorem ptrB_spec {t : TypeId} (h : ptrB P t = true) : ∃ e, P.underlying t = some (.pointer e) := by
 unfold ptrB at h
 split at h
 ·exact ⟨_, by assumption⟩
 simp at h
theorem Yields.eqPn {neg : Bool} {x y : PV} {A : Option Addr} (hx : x.val T = some (.pointer A)) (hy : y.val T = some (.pointer none)) : Yields P w0 n (.eqP neg x y) T S (.bool (if neg then A.isSome else A.isNone)) := by
 intro o ac w hco hs hr
 obtain ⟨t, a, b, u, ho, rfl, rfl, hp⟩ := cOp_spec P hco
 obtain ⟨e, he⟩ := ptrB_spec hp
 have heq : (Op.equalIn 10000 t (.pointer A) (.pointer none)).run P w = .ok A.isNone w := by
  unfold Op.equalIn
  cases A <;> simp [run_underlying he]
 cases neg
 ·simp [execOp, ho, hs.eval hx, hs.eval hy, eqGuard, binOp, Op.equal, Op.maxDepth, heq]
 simp [execOp, ho, hs.eval hx, hs.eval hy, eqGuard, binOp, Op.equal, Op.maxDepth, heq]
def bytesC (l : List UInt8) : List Value := l.map fun b => .int .u8 (b.toNat : Int)
theorem bytesC_length (l : List UInt8) : (bytesC l).length = l.length := by simp [bytesC]
theorem bytesC_all (l : List UInt8) : (bytesC l).all (·.oneCell') = true := by
 rw [List.all_eq_true]
 intro u hu
 obtain ⟨b, _, rfl⟩ := List.mem_map.1 hu
 rfl
theorem Yields.slA {len : Nat} {x : PV} {a : Addr} (hx : x.val T = some (.pointer (some a))) : Yields P w0 n (.slA len x) T S (.slice (some a) len len) := by
 intro o ac w hco hs hr
 obtain ⟨t, y, e, ie, ho, rfl, hu, hi⟩ := cOp_spec P hco
 have hb := run_bounds (P := P) false len len none none 0 len (.inr ⟨rfl, rfl⟩) (.inr ⟨rfl, rfl⟩) (Nat.zero_le _) (Nat.le_refl _) w
 have hsz : (sizeOf e).run P w = .ok ie.size w := by simp [sizeOf, typeInfo, program, hi, Sem.run]
 simp only [execOp, ho, hs.eval hx, Instr.sliceAt, Option.map_none]
 simp [run_underlying hu, Instr.sureAddr, hb, hsz]
 cases len <;> simp [Addr.add]
theorem Yields.mkF {f : FuncId} {caps : List PV} {vs : List Value} (hv : valsP T caps = some vs) : Yields P w0 n (.mkF f caps) T S (.func (.func f) #[] vs.toArray) := by
 intro o ac w hco hs hr
 obtain ⟨fi, cs, ho, hfi, rfl⟩ := cOp_spec P hco
 have hfi' : fi = #[] := by apply Array.toList_inj.1; simpa using hfi
 subst hfi'
 have hargs : cs.map ac.eval = vs.toArray := by
  have := valsP_spec hs hv
  rw [<- this, <- Array.toArray_toList (xs := cs.map ac.eval), Array.toList_map]
 simp [execOp, ho, Instr.makeFunc, hargs]
theorem OW.callv {f : PV} {g : FuncId} {args : List PV} {fi ca : List Value} {vs : List Value} {post : Value -> SS -> Prop} (hf : f.val T = some (.func (.func g) fi.toArray ca.toArray)) (hok : fnOk P g = true) (hv : valsP T args = some vs)
  (h : FC P w0 g (fi ++ vs ++ ca) S post) : OW P w0 n (.callv f args) T S post := by
 intro op ac w Q hco hs hr
 obtain ⟨cl, y, ho, hca, rfl, rfl⟩ := cOp_spec P hco
 have hargs : cl.args.map ac.eval = vs.toArray := by
  have := valsP_spec hs hv
  rw [<- this, <- Array.toArray_toList (xs := cl.args.map ac.eval), Array.toList_map]
 have hrun : (execOp ac.eval op).run P w = .ok (.enter g (fi ++ vs ++ ca).toArray) w := by
  unfold fnOk at hok
  split at hok
  ·rename_i fn hfn
   simp only [Bool.and_eq_true, bne_iff_ne, ne_eq] at hok
   have hb : ¬ fn.body = none := by intro hh; simp [hh] at hok
   simp only [execOp, ho, resolve, hca, hs.eval hf, Deferred.ofValue]
   simp [invoke, callFunc, program, Sem.run, hfn, hok.1, hb, hargs]
  simp at hok
 unfold Oper.wp
 rw [hrun]
 refine (h w hr).mono ?_
 rintro e w' ⟨v, S', rfl, hr', hp⟩
 exact ⟨v, S', rfl, hr', hp⟩
theorem OW.bsl0 {E : TypeId} : OW P w0 n (.bsl0 E) T S (fun v S' => ∃ r, v = .slice (some ⟨r, 0, none⟩) 0 0 /\ S' = [(r, .cells [] E 0)] :: S) := by
 intro op a w Q hco hs hr
 obtain ⟨t, l, qs, i, ho, rfl, hq, hu, hi⟩ := cOp_spec P hco
 have hq' : qs = #[] := by apply Array.toList_inj.1; simpa using hq
 subst hq'
 have hrun : (execOp a.eval op).run P w = .ok (.value (.slice (some ⟨w.heap.size, 0, none⟩) 0 0)) (w.alloc (.cells #[] E)) := by
  have hsz : (sizeOf E).run P w = .ok i.size w := by simp [sizeOf, typeInfo, program, hi, Sem.run]
  simp [execOp, ho, Instr.buildSlice, run_underlying hu, hsz, Instr.fill, newRow, newObj, Sem.run]
  rw [show Array.range 0 = #[] from by simp [Array.range], Array.map_empty]
 unfold Oper.wp
 rw [hrun]
 exact ⟨_, _, rfl, by simpa using hr.alloc #[] E, w.heap.size, rfl, rfl⟩
def KnownC (P : Program) (k : FuncId) (pc : PC) (n s : Nat) (m : Option Nat) : Prop :=
 ∃ fn c t, P.funcs[k]? = some fn /\ fn.body = some c /\ cC P fn.ntmps c = some pc /\ fn.ntmps = n /\ fn.results = #[.cell s t] /\ aggOf P t = some m
def ReadsAs (w0 : World) (S : SS) (m : Option Nat) (a : Addr) (v : Value) : Prop := match m with
 | none => Cell w0 S a v
 | some m => ∃ cs : List Value, v = .agg cs.toArray /\ cs.length = m /\ ∀ j u, cs[j]? = some u -> Cell w0 S (a.add j) u
theorem FC.ofC {k : FuncId} {pc : PC} {s : Nat} {m : Option Nat} {args : List Value} {post : Value -> SS -> Prop} (hk : KnownC P k pc n s m) (hn : args.length <= n)
  (h : PW P w0 n pc (argT 0 args) S (fun e T' S' => (e = .normal ∨ e = .ret) /\ ∃ a v, look T' s = some (.pointer (some a)) /\ ReadsAs w0 S' m a v /\ ∃ S'', Sub S'' S' /\ post v S'')) : FC P w0 k args S post := by
 obtain ⟨fn, c, t, hf, hb, hc, rfl, hres, hm⟩ := hk
 intro w hw
 refine calls_of_wp hf hb (wp_mono (h c hc _ w (argT_sat hn) hw) ?_)
 rintro e a' w' ⟨T', S', hs', hr', he, a, v, hl, hv, S'', hsub, hp⟩
 have ht := hs'.get s _ hl
 have hload : (loadVar t a).run P w' = .ok v w' := by
  cases m with
  | none =>
   obtain ⟨d, hu, hd⟩ := aggOf_none hm
   have := hr'.cell hv
   simp [loadVar, run_isAgg hu, hd, load, Sem.run, this]
  | some m =>
   obtain ⟨cs, rfl, hcl, hcs⟩ := hv
   obtain ⟨d, i, hu, hd, hi, hsz⟩ := aggOf_some hm
   have hload := run_loadCells_list (P := P) w' a cs (fun j v hj => hr'.cell (hcs j v hj))
   rw [hcl] at hload
   simp [loadVar, run_isAgg hu, hd, sizeOf, typeInfo, program, hi, hsz, hload, Sem.run]
 have hrun : (results fn a'.tmps).run P w' = .ok v w' := by
  simp [results, hres, ht, asAddr, hload]
 rcases he with rfl | rfl
 ·exact ⟨hs'.defers, v, hrun, v, S'', rfl, hr'.subS hsub, hp⟩
 exact ⟨hs'.defers, v, hrun, v, S'', rfl, hr'.subS hsub, hp⟩
end
section
variable {P : Program} {w0 : World} {n : Nat} {T : TT} {S : SS}
theorem Yields.binRaw {op : BinOp} {x y : PV} {u v r : Value} (hx : x.val T = some u) (hy : y.val T = some v) (hg : ∀ t a b w, (eqGuard op t a b u v).run P w = .ok () w) (h : ∀ t w, (binOp op t u v).run P w = .ok r w) : Yields P w0 n (.bin op x y) T S r := by
 intro o ac w hco hs hr
 obtain ⟨t, c, d, z, ho, rfl, rfl, hp⟩ := cOp_spec P hco
 simp only [execOp, ho, hs.eval hx, hs.eval hy]
 simp [hg, h]
theorem Yields.quo {x y : PV} {k : IntKind} {a b : Int} (hx : x.val T = some (.int k a)) (hy : y.val T = some (.int k b)) (hb : b ≠ 0) : Yields P w0 n (.bin .quo x y) T S (.int k (k.wrap (a.tdiv b))) :=
 Yields.binRaw hx hy (fun t a b w => by simp [eqGuard]) (fun t w => by simp [binOp, Op.intDiv, hb])
theorem Yields.rem {x y : PV} {k : IntKind} {a b : Int} (hx : x.val T = some (.int k a)) (hy : y.val T = some (.int k b)) (hb : b ≠ 0) : Yields P w0 n (.bin .rem x y) T S (.int k (a.tmod b)) :=
 Yields.binRaw hx hy (fun t a b w => by simp [eqGuard]) (fun t w => by simp [binOp, Op.intDiv, hb])
end
end Go.SL



namespace Go.SL
open Go.ChangeShapes Go.WideShapes Go.ChangeAt Go.RowKit
section
variable {H : Type} {enc : TypeId × Value -> H} {P : Program} {W : World}
def structShape (P : Program) (g : TypeId -> Option (List CK)) : Nat -> List Field -> Option (List CK)
 | _, [] => some []
 | off, f :: fs => match g f.type with
  | some s => if f.offset = off /\ P.cellsOf f.type = s.length then (structShape P g (off + s.length) fs).map (s ++ ·) else none
  | none => none
def deepOf (P : Program) : Nat -> TypeId -> Option (List CK)
 | 0, _ => none
 | d + 1, t => match ckOf P t with
  | some c => some [c]
  | none => match P.underlying t with
   | some (.struct fs) => structShape P (deepOf P d) 0 fs.toList
   | some (.array n e) => match deepOf P d e with
    | some s => if P.cellsOf e = s.length then some ((List.replicate n s).flatten) else none
    | none => none
   | _ => none
def FitsAll : List CK -> List Value -> Prop
 | [], [] => True
 | c :: cs, v :: vs => Fits c v /\ FitsAll cs vs
 | _, _ => False
theorem FitsAll.append {s t : List CK} {a b : List Value} (h1 : FitsAll s a) (h2 : FitsAll t b) : FitsAll (s ++ t) (a ++ b) := by
 induction s generalizing a with
 | nil => cases a with
  | nil => exact h2
  | cons v a => exact h1.elim
 | cons c s ih => cases a with
  | nil => exact h1.elim
  | cons v a => exact ⟨h1.1, ih h1.2⟩
theorem struct_fits {g : TypeId -> Option (List CK)} {cs : List Value} {n : Nat} {xs : List (DataW H × List MemPlace)}
  (hg : ∀ t s l y, g t = some s -> DataW.trod enc P W 0 (fun _ => true) true n t l = some y -> l.length = s.length -> FitsAll s l) :
  ∀ (fs : List Field) (off i : Nat) (sh : List CK), structShape P g off fs = some sh -> off + sh.length <= cs.length -> (∀ (j : Nat) (f : Field), fs[j]? = some f -> ∃ y, DataW.trod enc P W 0 (fun _ => true) true n f.type ((cs.drop f.offset).take (P.cellsOf f.type)) = some y) -> FitsAll sh ((cs.drop off).take sh.length)
 | [], off, i, sh, h, _, _ => by
  simp [structShape] at h; subst h
  simp [FitsAll]
 | f :: fs, off, i, sh, h, hl, hx => by
  simp only [structShape] at h
  split at h
  ·rename_i s hs
   split at h
   ·rename_i hc
    obtain ⟨r, hr, rfl⟩ := Option.map_eq_some_iff.1 h
    obtain ⟨y, hy⟩ := hx 0 f rfl
    simp only [List.length_append] at hl
    have h1 := hg _ _ _ _ hs hy (by rw [hc.1, hc.2]; simp; omega)
    rw [hc.1, hc.2] at h1
    have h2 := struct_fits (cs := cs) (xs := xs) hg fs (off + s.length) i r hr (by omega) (fun j f' hj => hx (j + 1) f' (by simpa using hj))
    have e : (cs.drop off).take (s ++ r).length = (cs.drop off).take s.length ++ (cs.drop (off + s.length)).take r.length := by
     rw [List.length_append, List.take_add, List.drop_drop]
    show FitsAll (s ++ r) _
    rw [e]
    exact h1.append h2
   cases h
  cases h
theorem arr_fits {s : List CK} : ∀ (n : Nat) (cs : List Value), cs.length = n * s.length -> (∀ i, i < n -> FitsAll s ((cs.drop (i * s.length)).take s.length)) -> FitsAll (List.replicate n s).flatten cs
 | 0, cs, hl, _ => by
  have : cs = [] := List.eq_nil_of_length_eq_zero (by simpa using hl)
  subst this; simp [FitsAll]
 | n + 1, cs, hl, h => by
  have h0 := h 0 (by omega)
  rw [Nat.zero_mul, List.drop_zero] at h0
  have h1 := arr_fits (s := s) n (cs.drop s.length) (by rw [List.length_drop, hl, Nat.succ_mul]; omega) (fun i hi => by
   have := h (i + 1) (by omega)
   rwa [List.drop_drop, show s.length + i * s.length = (i + 1) * s.length by rw [Nat.succ_mul]; omega])
  rw [List.replicate_succ, List.flatten_cons]
  have := h0.append h1
  rwa [List.take_append_drop] at this
theorem deep_fits (d : Nat) : ∀ (n : Nat) (t : TypeId) (sh : List CK) (cs : List Value) (y : DataW H × List MemPlace), deepOf P d t = some sh -> DataW.trod enc P W 0 (fun _ => true) true n t cs = some y -> cs.length = sh.length -> FitsAll sh cs := by
 induction d with
 | zero => intro n t sh cs y h; simp [deepOf] at h
 | succ d ih =>
  intro n t sh cs y h ht hlen
  simp only [deepOf] at h
  split at h
  ·rename_i c hc
   cases h
   obtain ⟨v, rfl, hf⟩ := trod_ck hc ht
   exact ⟨hf, trivial⟩
  split at h
  ·rename_i fs hu
   obtain ⟨xs, m, _, _, hl, hlx, hx⟩ := DataW.trod_struct hu ht
   have := struct_fits (enc := enc) (P := P) (W := W) (n := m) (cs := cs) (xs := xs) (g := fun t => (deepOf P d t)) ?_ fs.toList 0 0 sh h (by omega) ?_
   ·rw [List.drop_zero, <- hlen, List.take_length] at this; exact this
   ·exact fun t s l y h1 h2 h3 => ih m t s l y h1 h2 h3
   intro j f hj
   have h1 := hx j f (by rw [<- Array.getElem?_toList]; exact hj)
   have hjl : j < xs.length := by have := (List.getElem?_eq_some_iff.1 hj).1; rw [hlx]; simpa using this
   rw [List.getElem?_eq_getElem hjl] at h1
   exact ⟨_, h1⟩
  ·rename_i k e hu
   split at h
   ·rename_i s hs
    split at h
    ·rename_i hc
     cases h
     obtain ⟨xs, m, _, _, hl, hlx, hx⟩ := DataW.trod_array hu ht
     have hlen2 : cs.length = k * s.length := by rw [hlen]; simp
     refine arr_fits k cs hlen2 (fun i hi => ?_)
     have h1 := hx i hi
     rw [List.getElem?_eq_getElem (by omega), hc] at h1
     refine ih m e s _ _ hs h1 ?_
     have h2 : (i + 1) * s.length <= k * s.length := Nat.mul_le_mul_right _ hi
     rw [Nat.succ_mul] at h2
     simp; omega
    cases h
   cases h
  cases h
end
end Go.SL

namespace Go.SL
open Go.RowKit Go.ChangeShapes Go.WideShapes Go.ChangeAt
section
variable {H : Type} {enc : TypeId × Value -> H} {P : Program} {W : World}
theorem nil_cap {t e : TypeId} {A : Option Addr} {len cap : Nat} {d : DataW H} {ps : List MemPlace} (hu : P.underlying t = some (.slice e)) (h : DataW.Trod enc P W 0 (fun _ => true) true t (.slice A len cap) d ps) : A = none -> cap = 0 := by
 obtain ⟨fuel, h⟩ := h
 rcases DataW.trod_slice hu h with ⟨h0, _⟩ | ⟨a, len', cap', elems, rest, n, _, hcs, _⟩
 ·simp [Value.cells] at h0
  exact fun _ => h0.2.2
 simp [Value.cells] at hcs
 intro e; rw [hcs.1] at e; cases e
end
end Go.SL

namespace Go.SL
open Go.RowKit
section
variable {P : Program} {w0 : World} {n : Nat} {T : TT} {S : SS}
theorem constNil2 {y : Operand} (h : constNil y = 2) : y = .const (.slice none 0 0) := by
 unfold constNil at h
 split at h
 ·cases h
 ·rfl
 cases h
theorem Yields.mkI {t : TypeId} {x : PV} {v : Value} (hx : x.val T = some v) : Yields P w0 n (.more (.mkI t x)) T S (.iface t v) := by
 intro o a w hco hs hr
 obtain ⟨y, d, ho, rfl, hu, hd⟩ := cOp_spec P hco
 have : (Instr.makeInterface t v).run P w = .ok (.iface t v) w := by
  unfold Instr.makeInterface
  simp only [Sem.run_bind, run_underlying hu, Result.andThen_ok]
  cases d <;> (first | rfl | exact absurd rfl (hd _))
 simp [execOp, ho, hs.eval hx, this]
theorem Yields.slNil {neg : Bool} {x : PV} {A : Option Addr} {l c : Nat} (hx : x.val T = some (.slice A l c)) : Yields P w0 n (.more (.slNil neg x)) T S (.bool (if neg then A.isSome else A.isNone)) := by
 intro o a w hco hs hr
 obtain ⟨t, y, z, u, e, ho, rfl, hz, hu⟩ := cOp_spec P hco
 obtain rfl := constNil2 hz
 have he : a.eval (.const (.slice none 0 0)) = .slice none 0 0 := rfl
 have heq0 : ∀ d, (Op.equalIn (d + 1) t (.slice A l c) (.slice none 0 0)).run P w = .ok A.isNone w := by
  intro d
  cases A <;> simp [Op.equalIn, run_underlying hu]
 have heq : (Op.equal t (.slice A l c) (.slice none 0 0)).run P w = .ok A.isNone w := heq0 9999
 cases neg
 ·simp only [execOp, ho, Bool.false_eq_true, if_false, hs.eval hx, he]
  simp [eqGuard, binOp, heq]
 simp only [execOp, ho, if_true, hs.eval hx, he]
 simp [eqGuard, binOp, heq]
theorem Yields.bldA {zero : List Value} {parts : List (Nat × Nat × PV)} {cs : List Value} (h : fillP T zero parts = some cs) : Yields P w0 n (.more (.bldA zero parts)) T S (.agg cs.toArray) := by
 intro o a w hco hs hr
 obtain ⟨t, qs, m, e, i, ie, z, ho, hu, hi, hie, hz, rfl, hpa⟩ := cOp_spec P hco
 have hfill := fill_spec hs (place := fun j => some (j * ie.size, ie.size)) (cells := z.cells) hpa h
 simp only [execOp, ho]
 have hb : P.built t (qs.map fun (i, x) => (i, a.eval x)).toList = some cs.toArray := by
  unfold Program.built
  simp only [hi, hu, hz, hie]
  simp only [Array.toList_map]
  exact hfill
 have := run_build (P := P) w t _ cs.toArray hb
 simp only [Sem.run_bind, this, Result.andThen_ok]
 rfl
theorem OW.cvS {x : PV} {b o l c k E tot : Nat} {cs : List Value} (hx : x.val T = some (.slice (some ⟨b, o, none⟩) l c)) (hk : S[k]? = some [(b, .cells cs E tot)]) :
  OW P w0 n (.more (.cvS x)) T S (fun v S' => v = .slice (some ⟨b, o, none⟩) l c /\ S' = S.set k [(b, .ro cs)]) := by
 intro op a w Q hco hs hr
 obtain ⟨s, t, y, e, ho, rfl, rfl, hu, he⟩ := cOp_spec P hco
 obtain ⟨hge, C, hC, htot, hpre⟩ := hr.own (b, .cells cs E tot) (List.mem_flatten.2 ⟨_, List.mem_of_getElem? hk, by simp⟩)
 simp only at hge hC
 have hlt : b < w.heap.size := (Array.getElem?_eq_some_iff.1 hC).1
 have hrun : (execOp a.eval op).run P w = .ok (.value (.slice (some ⟨b, o, none⟩) l c)) (w.freeze ⟨b, C.size, none⟩ 1) := by
  simp only [execOp, ho, hs.eval hx, convert]
  have hsh : w.shape? b = some (E, C.size) := by simp [World.shape?, hC]
  simp [run_underlying hu, run_underlying he, markStringish, shape, freeze, Sem.run, hsh]
 unfold Oper.wp
 rw [hrun]
 refine ⟨_, _, rfl, ?_, rfl, rfl⟩
 have hheap : ∀ i, i ≠ b -> (w.freeze ⟨b, C.size, none⟩ 1).heap[i]? = w.heap[i]? := by
  intro i hi
  simp [World.freeze, Array.getElem?_modify]
  intro e
  exact absurd e.symm hi
 refine hr.replace hk ⟨rfl, rfl, rfl, by simp [World.freeze], fun i hi => hheap i (by omega)⟩ (fun i _ hne => hheap i (by simpa using hne)) (by simp) ?_
 intro p hp
 simp only [List.mem_singleton] at hp
 subst hp
 refine ⟨hge, ?_, .inl (by simp)⟩
 refine ⟨C, E, (C.size, C.size + 1), ?_, hpre⟩
 simp [World.freeze, Array.getElem?_modify, hC]
theorem OW.rngS {x : PV} {s : ByteArray} (hx : x.val T = some (.string s)) : OW P w0 n (.more (.rngS x)) T S (fun v S' => ∃ r, v = .pointer (some ⟨r, 0, none⟩) /\ S' = [(r, .obj (.stringIter s 0))] :: S) := by
 intro op a w Q hco hs hr
 obtain ⟨t, y, ho, rfl, hu⟩ := cOp_spec P hco
 have hrun : (execOp a.eval op).run P w = .ok (.value (.pointer (some ⟨w.heap.size, 0, none⟩))) (w.alloc (.stringIter s 0)) := by
  simp [execOp, ho, hs.eval hx, Instr.range, run_underlying hu, newObj, Sem.run]
 unfold Oper.wp
 rw [hrun]
 refine ⟨_, _, rfl, ?_, w.heap.size, rfl, rfl⟩
 refine hr.push (below_alloc hr _) (fun i hi => alloc_heap_lt w _ i hi) (by simp) ?_
 intro p hp
 simp only [List.mem_singleton] at hp
 subst hp
 exact ⟨alloc_heap_new w _, Nat.le_refl _⟩
theorem iter_at {w : World} {k b : Nat} {o : Obj} (h : Rep w0 S w) (hk : S[k]? = some [(b, .obj o)]) : w0.heap.size <= b /\ w.heap[b]? = some o :=
 h.own (b, .obj o) (List.mem_flatten.2 ⟨_, List.mem_of_getElem? hk, by simp⟩)
theorem OW.nxtS_end {x : PV} {s : ByteArray} {b k p : Nat} (hx : x.val T = some (.pointer (some ⟨b, 0, none⟩))) (hk : S[k]? = some [(b, .obj (.stringIter s p))]) (hp : ¬ p < s.size) :
  Yields P w0 n (.more (.nxtS x)) T S (.tuple #[.bool false]) := by
 intro op a w hco hs hr
 obtain ⟨y, ho, rfl⟩ := cOp_spec P hco
 obtain ⟨_, hw⟩ := iter_at hr hk
 simp [execOp, ho, hs.eval hx, Instr.next, getObj, Sem.run, hw, hp]
theorem OW.nxtS {x : PV} {s : ByteArray} {b k p : Nat} (hx : x.val T = some (.pointer (some ⟨b, 0, none⟩))) (hk : S[k]? = some [(b, .obj (.stringIter s p))]) (hp : p < s.size) :
  OW P w0 n (.more (.nxtS x)) T S (fun v S' => v = .tuple #[.bool true, .int .i64 (p : Int), .int .i32 ((Utf8.decode s p).1 : Int)] /\ S' = S.set k [(b, .obj (.stringIter s (p + (Utf8.decode s p).2)))]) := by
 intro op a w Q hco hs hr
 obtain ⟨y, ho, rfl⟩ := cOp_spec P hco
 obtain ⟨hge, hw⟩ := iter_at hr hk
 have hlt : b < w.heap.size := (Array.getElem?_eq_some_iff.1 hw).1
 have hrun : (execOp a.eval op).run P w = .ok (.value (.tuple #[.bool true, .int .i64 (p : Int), .int .i32 ((Utf8.decode s p).1 : Int)])) { w with heap := w.heap.setIfInBounds b (.stringIter s (p + (Utf8.decode s p).2)) } := by
  simp [execOp, ho, hs.eval hx, Instr.next, getObj, setObj, Sem.run, hw, hp, goInt]
 unfold Oper.wp
 rw [hrun]
 refine ⟨_, _, rfl, ?_, rfl, rfl⟩
 refine hr.replace hk ⟨rfl, rfl, rfl, by simp, fun i hi => ?_⟩ (fun i hi hne => ?_) (by simp) ?_
 ·have : b ≠ i := by omega
  simp [Array.getElem?_setIfInBounds_ne this]
 ·have : b ≠ i := by simp at hne; omega
  simp [Array.getElem?_setIfInBounds_ne this]
 intro q hq
 simp only [List.mem_singleton] at hq
 subst hq
 refine ⟨hge, ?_, .inl (by simp)⟩
 show ({ w with heap := w.heap.setIfInBounds b (.stringIter s (p + (Utf8.decode s p).2)) } : World).heap[b]? = some _
 simp [hlt]
end
def eqL : List CK -> List Value -> List Value -> Option Bool
 | [], [], [] => some true
 | c :: cs, x :: xs, y :: ys => match eqCell c x y, eqL cs xs ys with | some p, some q => some (p && q) | _, _ => none
 | _, _, _ => none
theorem eqL_cons {c : CK} {cs : List CK} {xs ys : List Value} {r : Bool} (h : eqL (c :: cs) xs ys = some r) : ∃ x xs' y ys' p q, xs = x :: xs' /\ ys = y :: ys' /\ eqCell c x y = some p /\ eqL cs xs' ys' = some q /\ r = (p && q) := by
 cases xs with
 | nil => simp [eqL] at h
 | cons x xs' =>
  cases ys with
  | nil => simp [eqL] at h
  | cons y ys' =>
   simp only [eqL] at h
   split at h
   ·rename_i p q h1 h2
    exact ⟨x, xs', y, ys', p, q, rfl, rfl, h1, h2, (Option.some.inj h).symm⟩
   cases h
theorem eqL_append {s t : List CK} : ∀ {xs ys : List Value} {r : Bool}, eqL (s ++ t) xs ys = some r -> ∃ p q, eqL s (xs.take s.length) (ys.take s.length) = some p /\ eqL t (xs.drop s.length) (ys.drop s.length) = some q /\ r = (p && q) := by
 induction s with
 | nil => intro xs ys r h; exact ⟨true, r, by simp [eqL], by simpa using h, by simp⟩
 | cons c s ih =>
  intro xs ys r h
  obtain ⟨x, xs', y, ys', p, q, rfl, rfl, h1, h2, rfl⟩ := eqL_cons (cs := s ++ t) h
  obtain ⟨p', q', h3, h4, rfl⟩ := ih h2
  exact ⟨p && p', q', by simp [eqL, h1, h3], by simpa using h4, by rw [Bool.and_assoc]⟩
theorem eqL_len {s : List CK} : ∀ {xs ys : List Value} {r : Bool}, eqL s xs ys = some r -> xs.length = s.length /\ ys.length = s.length := by
 induction s with
 | nil => intro xs ys r h; cases xs <;> cases ys <;> simp [eqL] at h ⊢
 | cons c s ih =>
  intro xs ys r h
  obtain ⟨x, xs', y, ys', p, q, rfl, rfl, h1, h2, rfl⟩ := eqL_cons h
  have := ih h2
  simp [this]
section
variable {P : Program} {w0 : World} {n : Nat} {T : TT} {S : SS} {w : World}
def AggEq (P : Program) (w : World) (d : Nat) : Prop := ∀ (t : TypeId) (sh : List CK), deepQ P d t = some sh -> ckOf P t = none -> (∃ dd, P.underlying t = some dd /\ rowD dd = true) /\
 ∀ (D : Nat), d <= D -> ∀ (xs ys : Array Value) (r : Bool), eqL sh xs.toList ys.toList = some r -> (Op.equalIn D t (.agg xs) (.agg ys)).run P w = .ok r w
theorem part_eq {d : Nat} (ih : AggEq P w d) {t : TypeId} {sh : List CK} (hd : deepQ P d t = some sh) (hc : P.cellsOf t = sh.length) {D : Nat} (hD : d <= D) (h1 : 0 < d) {xs ys : Array Value} {off : Nat} {r : Bool}
  (h : eqL sh ((xs.toList.drop off).take sh.length) ((ys.toList.drop off).take sh.length) = some r) : ∃ a b, (part t xs off).run P w = .ok a w /\ (part t ys off).run P w = .ok b w /\ (Op.equalIn D t a b).run P w = .ok r w := by
 cases hk : ckOf P t with
 | some c =>
  obtain ⟨d', rfl⟩ : ∃ d', d = d' + 1 := ⟨d - 1, by omega⟩
  simp only [deepQ, hk, Option.some.injEq] at hd
  subst hd
  obtain ⟨x, xs', y, ys', p, q, hx, hy, h2, h3, rfl⟩ := eqL_cons h
  have hq : q = true := by
   have := eqL_len h3
   obtain ⟨l1, l2⟩ := this
   have e1 : xs' = [] := List.eq_nil_of_length_eq_zero (by simpa using l1)
   have e2 : ys' = [] := List.eq_nil_of_length_eq_zero (by simpa using l2)
   subst e1; subst e2
   simpa [eqL] using h3.symm
  have get : ∀ (zs : Array Value) z zs', (zs.toList.drop off).take 1 = z :: zs' -> zs[off]? = some z := by
   intro zs z zs' hz
   have : ((zs.toList.drop off).take 1)[0]? = some z := by rw [hz]; rfl
   simpa using this
  obtain ⟨dd, hu, hrow⟩ := ckOf_agg hk
  obtain ⟨D', rfl⟩ : ∃ D', D = D' + 1 := ⟨D - 1, by omega⟩
  refine ⟨x, y, ?_, ?_, ?_⟩
  ·simp [part, run_isAgg hu, hrow, get xs x xs' hx]
  ·simp [part, run_isAgg hu, hrow, get ys y ys' hy]
  rw [hq, Bool.and_true]
  exact run_eqCell hk h2 D' w
 | none =>
  obtain ⟨⟨dd, hu, hrow⟩, hrun⟩ := ih t sh hd hk
  obtain ⟨i, hi⟩ := info_of_underlying hu
  have hsz := run_sizeOf w hi
  have hpart : ∀ zs : Array Value, (part t zs off).run P w = .ok (.agg (zs.extract off (off + sh.length))) w := by
   intro zs
   simp only [part, Sem.run_bind, run_isAgg hu, hrow, Result.andThen_ok, if_true, hsz, hc]
   rfl
  refine ⟨_, _, hpart xs, hpart ys, hrun D hD _ _ r ?_⟩
  simpa [List.extract] using h
theorem eqFields_deep {d : Nat} (ih : AggEq P w d) (h1 : 0 < d) {D : Nat} (hD : d <= D) {xs ys : Array Value} : ∀ (fs : List Field) (off : Nat) (sh : List CK) (r : Bool), structQ P (deepQ P d) off fs = some sh -> eqL sh (xs.toList.drop off) (ys.toList.drop off) = some r -> (Op.eqFields D xs ys fs).run P w = .ok r w
 | [], off, sh, r, hs, he => by
  simp only [structQ, Option.some.injEq] at hs
  subst hs
  have := eqL_len he
  obtain ⟨l1, l2⟩ := this
  have e1 : xs.toList.drop off = [] := List.eq_nil_of_length_eq_zero l1
  have e2 : ys.toList.drop off = [] := List.eq_nil_of_length_eq_zero l2
  rw [e1, e2] at he
  simp only [eqL, Option.some.injEq] at he
  subst he
  simp [Op.eqFields]
 | f :: fs, off, sh, r, hs, he => by
  simp only [structQ] at hs
  split at hs
  ·rename_i s hf
   split at hs
   ·rename_i hc
    obtain ⟨ho, hcells, hname⟩ := hc
    simp only [Option.map_eq_some_iff] at hs
    obtain ⟨sh', hs', rfl⟩ := hs
    obtain ⟨p, q, h2, h3, rfl⟩ := eqL_append he
    rw [List.drop_drop, List.drop_drop] at h3
    obtain ⟨a, b, g1, g2, g3⟩ := part_eq ih hf hcells hD h1 h2
    subst ho
    simp only [Op.eqFields, hname, ne_eq, not_false_eq_true, if_true, Sem.run_bind, g1, g2, g3, Result.andThen_ok]
    cases p
    ·simp
    simp only [Bool.not_true, Bool.false_eq_true, if_false, Bool.true_and]
    exact eqFields_deep ih h1 hD fs _ sh' q hs' h3
   cases hs
  cases hs
theorem eqItems_deep {d : Nat} (ih : AggEq P w d) (h1 : 0 < d) {D : Nat} (hD : d <= D) {xs ys : Array Value} {e : TypeId} {s : List CK} (hd : deepQ P d e = some s) (hc : P.cellsOf e = s.length) : ∀ (m i : Nat) (r : Bool), eqL (List.replicate m s).flatten (xs.toList.drop (i * s.length)) (ys.toList.drop (i * s.length)) = some r ->
  (Op.eqItems D e (P.cellsOf e) xs ys (List.range' i m)).run P w = .ok r w
 | 0, i, r, he => by
  obtain ⟨l1, l2⟩ := eqL_len he
  have e1 : xs.toList.drop (i * s.length) = [] := List.eq_nil_of_length_eq_zero (by simpa using l1)
  have e2 : ys.toList.drop (i * s.length) = [] := List.eq_nil_of_length_eq_zero (by simpa using l2)
  rw [e1, e2] at he
  have : r = true := by simpa [eqL] using he.symm
  subst this
  simp [Op.eqItems]
 | m + 1, i, r, he => by
  rw [List.replicate_succ, List.flatten_cons] at he
  obtain ⟨p, q, h2, h3, rfl⟩ := eqL_append he
  rw [List.drop_drop, List.drop_drop] at h3
  obtain ⟨a, b, g1, g2, g3⟩ := part_eq ih hd hc hD h1 h2
  rw [<- hc] at g1 g2
  rw [List.range'_succ]
  simp only [Op.eqItems, Sem.run_bind, g1, g2, g3, Result.andThen_ok]
  cases p
  ·simp
  simp only [Bool.not_true, Bool.false_eq_true, if_false, Bool.true_and]
  refine eqItems_deep ih h1 hD hd hc m (i + 1) q ?_
  rw [show (i + 1) * s.length = i * s.length + s.length by rw [Nat.add_mul, Nat.one_mul]]
  exact h3
theorem agg_eq (P : Program) (w : World) : ∀ d, AggEq P w d
 | 0 => fun t sh h => by simp [deepQ] at h
 | d + 1 => by
  intro t sh h hk
  have ih := agg_eq P w d
  simp only [deepQ, hk] at h
  split at h
  ·rename_i fs hu
   split at h
   ·rename_i hst
    refine ⟨⟨_, hu, rfl⟩, fun D hD xs ys r he => ?_⟩
    obtain ⟨D', rfl⟩ : ∃ D', D = D' + 1 := ⟨D - 1, by omega⟩
    have hfs : P.fieldsOf t = fs := by simp [Program.fieldsOf, hu]
    rw [run_equalIn_struct w D' t xs ys (by rw [hfs]; exact hu) hst, hfs]
    by_cases h0 : 0 < d
    ·exact eqFields_deep ih h0 (by omega) _ 0 sh r h (by simpa using he)
    obtain rfl : d = 0 := by omega
    cases hl : fs.toList with
    | nil =>
     rw [hl] at h
     simp only [structQ, Option.some.injEq] at h
     subst h
     obtain ⟨l1, l2⟩ := eqL_len he
     have e1 : xs.toList = [] := List.eq_nil_of_length_eq_zero l1
     have e2 : ys.toList = [] := List.eq_nil_of_length_eq_zero l2
     rw [e1, e2] at he
     simp only [eqL, Option.some.injEq] at he
     subst he
     simp [Op.eqFields]
    | cons f fs => rw [hl] at h; simp [structQ, deepQ] at h
   cases h
  ·rename_i m e hu
   split at h
   ·rename_i s hs
    split at h
    ·rename_i hc
     obtain rfl := Option.some.inj h
     refine ⟨⟨_, hu, rfl⟩, fun D hD xs ys r he => ?_⟩
     obtain ⟨D', rfl⟩ : ∃ D', D = D' + 1 := ⟨D - 1, by omega⟩
     obtain ⟨i, hi⟩ : ∃ i, P.info? e = some i := by
      cases hq : P.info? e with
      | some i => exact ⟨i, rfl⟩
      | none =>
       exfalso
       by_cases h0 : 0 < d
       ·obtain ⟨d', rfl⟩ : ∃ d', d = d' + 1 := ⟨d - 1, by omega⟩
        have hun : P.underlying e = none := by
         cases hx : P.underlying e with
         | none => rfl
         | some x => obtain ⟨i, hi⟩ := info_of_underlying hx; rw [hq] at hi; cases hi
        simp [deepQ, ckOf, hun] at hs
       obtain rfl : d = 0 := by omega
       simp [deepQ] at hs
     rw [run_equalIn_array w D' xs ys hu hi, List.range_eq_range']
     have h0 : 0 < d := Nat.pos_of_ne_zero fun e => by subst e; simp [deepQ] at hs
     exact eqItems_deep ih h0 (by omega) hs hc m 0 r (by simpa using he)
    cases h
   cases h
  cases h
theorem Yields.eqD {neg : Bool} {t : TypeId} {sh : List CK} {x y : PV} {xs ys : Array Value} {r : Bool} (hx : x.val T = some (.agg xs)) (hy : y.val T = some (.agg ys)) (h : eqL sh xs.toList ys.toList = some r) :
  Yields P w0 n (.more (.eqD neg t sh x y)) T S (.bool (if neg then !r else r)) := by
 intro o a w hco hs hr
 obtain ⟨c, d, u, ho, rfl, rfl, hfl, hg, dd, hu, hdd⟩ := cOp_spec P hco
 have hk : ckOf P t = none := by
  unfold ckOf
  rw [hu]
  cases dd <;> simp_all
 have heq : (Op.equalIn 10000 t (.agg xs) (.agg ys)).run P w = .ok r w := (agg_eq P w 8 t sh hfl hk).2 10000 (by omega) xs ys r h
 simp only [execOp, ho, hs.eval hx, hs.eval hy]
 cases neg
 ·simp only [Bool.false_eq_true, if_false, Sem.run_bind, run_eqGuard_agg w .eql t c d xs ys hg, Result.andThen_ok, run_eql_struct, heq]
  simp
 simp only [if_true, Sem.run_bind, run_eqGuard_agg w .neq t c d xs ys hg, Result.andThen_ok]
 have : (binOp .neq t (.agg xs) (.agg ys)).run P w = .ok (.bool !r) w := by
  show (do Pure.pure (Value.bool (!(<- Op.equal t (.agg xs) (.agg ys)))) : Sem Value).run P w = _
  have h2 : (Op.equal t (.agg xs) (.agg ys)).run P w = .ok r w := heq
  simp [h2]
 simp [this]
end
end Go.SL



namespace Go.SL
open Go.RowKit
section
variable {P : Program} {w0 : World} {n : Nat} {T : TT} {S : SS}
theorem Rep.allocObj {w : World} (h : Rep w0 S w) (o : Obj) : Rep w0 ([(w.heap.size, .obj o)] :: S) (w.alloc o) := by
 refine h.push (below_alloc h _) (fun i hi => alloc_heap_lt w _ i hi) (by simp) ?_
 intro p hp
 simp only [List.mem_singleton] at hp
 subst hp
 exact ⟨World.alloc_heap_new w o, Nat.le_refl _⟩
end
end Go.SL

namespace Go.SL
open Go.ChangeShapes Go.WideShapes Go.ChangeAt Go.RowKit
section
variable {H : Type} {enc : TypeId × Value -> H} {P : Program} {W : World}
theorem weights_mem_all {P : Program} {e : TypeId} : ∀ {ds : List (DataW H)} {d : DataW H} {k : Nat}, d ∈ ds -> k ∈ d.weights P e -> k ∈ DataW.weightsAll P e ds
 | x :: r, d, k, hd, hk => by
  simp only [DataW.weightsAll, List.mem_append]
  rcases List.mem_cons.1 hd with rfl | h
  ·exact .inl hk
  exact .inr (weights_mem_all h hk)
theorem arg_listW {α : Type} {f : α -> List Value} {R : α -> Prop} {t e : TypeId} {A : Option Addr} {len cap j : Nat} {d : DataW H} {ps : List MemPlace} {ts : List TypeId} {ds : List (DataW H)} (hu : P.underlying t = some (.slice e))
  (hQ : ∀ n cs y, DataW.trod enc P W 0 (fun _ => true) true n e cs = some y -> cs.length = P.cellsOf e -> (∀ k ∈ y.1.weights P e, k <= reachBytes) -> ∃ x, cs = f x /\ R x)
  (h : DataW.Trod enc P W 0 (fun _ => true) true t (.slice A len cap) d ps) (hsz : (DataW.weightsEach P ts ds).all (· <= reachBytes) = true) (ht : ts[j]? = some t) (hd : ds[j]? = some d) :
  ∃ l : List α, l.length = len /\ Rd W [] A (l.flatMap f) /\ (∀ x ∈ l, R x) /\ len * P.bytesOf e <= reachBytes /\ len <= cap := by
 obtain ⟨fuel, h⟩ := h
 rcases DataW.trod_slice hu h with ⟨h0, _⟩ | ⟨a, len', cap', elems, rest, n, _, hcs, hx, hb, hl, hm, hlen, hel, _, _⟩
 ·simp [Value.cells] at h0
  obtain ⟨rfl, rfl, rfl⟩ := h0
  exact ⟨[], rfl, Rd.nil, by simp, by simp, by simp⟩
 simp [Value.cells] at hcs
 obtain ⟨rfl, rfl, rfl⟩ := hcs
 have hw := sized_slice (P := P) hsz ht (elems := elems.map (·.1)) (spare := rest.map (·.1)) (by rw [hd]; simpa using congrArg Prod.fst hx) hu
 have hwt : ∀ (i : Nat) (hi : i < elems.length), ∀ k ∈ (elems[i].1).weights P e, k <= reachBytes := by
  intro i hi k hk
  have hdd : ds[j]? = some (.slice (elems.map (·.1)) (rest.map (·.1))) := by rw [hd]; simpa using congrArg Prod.fst hx
  have := List.all_eq_true.1 hsz _ (DataW.weights_mem_each ht hdd k (by
   simp only [DataW.weights, hu, List.mem_cons, List.mem_append]
   exact .inr (.inl (weights_mem_all (List.mem_map.2 ⟨elems[i], List.getElem_mem hi, rfl⟩) hk))))
  simpa using this
 generalize hmm : P.cellsOf e = m at *
 have row : ∀ i, i < len -> ∃ cs', cs'.length = m /\ (∀ q, q < m -> W.cell? (a.add (i * m + q)) = cs'[q]?) /\ ∃ x, cs' = f x /\ R x := by
  intro i hi
  have := hel i hi
  have hs : elems[i]? = some (elems[i]'(by omega)) := List.getElem?_eq_getElem (by omega)
  rw [hs, Option.bind_eq_some_iff] at this
  obtain ⟨cs', hc, ht'⟩ := this
  obtain ⟨_, hlc, hcell⟩ := World.cells?_some hc
  refine ⟨cs', hlc, fun q hq => ?_, hQ _ _ _ ht' hlc (hwt i (by omega))⟩
  rw [<- addr_add_add]
  exact hcell q hq
 have cellAt : ∀ j, j < len * m -> ∃ v, W.cell? (a.add j) = some v := by
  intro j hj
  have hm0 : 0 < m := Nat.pos_of_ne_zero fun e => by subst e; omega
  have hi : j / m < len := Nat.div_lt_of_lt_mul (by rw [Nat.mul_comm]; exact hj)
  have hq := Nat.mod_lt j hm0
  obtain ⟨cs', h1, h2, _⟩ := row (j / m) hi
  have := h2 (j % m) hq
  rw [Nat.mul_comm, Nat.div_add_mod] at this
  exact ⟨_, by rw [this]; exact List.getElem?_eq_getElem (by omega)⟩
 let cs := (List.range (len * m)).map fun j => (W.cell? (a.add j)).getD undef
 have hcs : ∀ j, j < len * m -> cs[j]? = W.cell? (a.add j) := by
  intro j hj
  obtain ⟨v, hv⟩ := cellAt j hj
  simp [cs, hj, hv]
 have hcl : cs.length = len * m := by simp [cs]
 obtain ⟨l, h1, h2, h3⟩ := split_rows (f := f) (R := R) (m := m) len cs hcl (fun i hi => by
  obtain ⟨cs', g1, g2, x, g3, g4⟩ := row i hi
  refine ⟨x, ?_, g4⟩
  rw [<- g3]
  apply List.ext_getElem?
  intro q
  by_cases hq : q < m
  ·have : (i + 1) * m <= len * m := Nat.mul_le_mul_right _ hi
   rw [Nat.succ_mul] at this
   rw [List.getElem?_take_of_lt hq, List.getElem?_drop, hcs _ (by omega), g2 q hq]
  rw [List.getElem?_eq_none (by simp; omega), List.getElem?_eq_none (by omega)])
 refine ⟨l, h1, ?_, h3, ?_, hl⟩
 ·rw [<- h2]
  intro j v hj
  have hlt : j < len * m := by have := (List.getElem?_eq_some_iff.1 hj).1; omega
  rw [hcs j hlt] at hj
  exact ⟨a, rfl, .inl hj⟩
 refine Nat.le_trans (Nat.mul_le_mul_right _ ?_) hw
 simp; omega
theorem arg_stringW_list {t e : TypeId} {A : Option Addr} {len cap j : Nat} {d : DataW H} {ps : List MemPlace} {ts : List TypeId} {ds : List (DataW H)} (hu : P.underlying t = some (.slice e)) (he : P.underlying e = some .string)
  (h : DataW.Trod enc P W 0 (fun _ => true) true t (.slice A len cap) d ps) (hsz : (DataW.weightsEach P ts ds).all (· <= reachBytes) = true) (ht : ts[j]? = some t) (hd : ds[j]? = some d) :
  ∃ l : List ByteArray, l.length = len /\ Rd W [] A (l.map .string) /\ (∀ x ∈ l, x.size <= 140737488351232) /\ len * P.bytesOf e <= reachBytes /\ len <= cap := by
 obtain ⟨l, h1, h2, h3, h4⟩ := arg_listW (f := fun s : ByteArray => [Value.string s]) (R := fun s => s.size <= 140737488351232) hu (fun n cs y hh _ hwt => by
  obtain ⟨s, rfl, hy, hw⟩ := DataW.trod_string he hh
  refine ⟨s, rfl, ?_⟩
  have := hwt s.data.toList.length (by rw [hy]; simp [DataW.weights])
  have e : s.data.toList.length = s.size := by simp
  rw [e] at this
  exact this) h hsz ht hd
 exact ⟨l, h1, by rw [List.map_eq_flatMap]; exact h2, h3, h4⟩
end
end Go.SL

namespace Go.SL
open Go.RowKit
section
variable {P : Program} {w0 : World} {n : Nat} {T : TT} {S : SS}
theorem Yields.cap {x : PV} {A : Option Addr} {l c : Nat} (hx : x.val T = some (.slice A l c)) : Yields P w0 n (.more (.other (.cap x))) T S (.int .i64 (c : Int)) := by
 intro o a w hco hs hr
 obtain ⟨cl, t, y, e, ho, hca, hat, har, rfl, hu⟩ := cOp_spec P hco
 simp only [execOp, ho, resolve, hca, invoke, builtin, hat, har]
 simp [Builtin.cap_, hs.eval hx, run_underlying hu, goInt]
theorem OW.xf {f : FuncId} {args : List PV} {vs : List Value} {v : Value} (hv : valsP T args = some vs) (h : ∀ w, Rep w0 S w -> (callFunc f vs.toArray).run P w = .ok (.value v) w) :
  OW P w0 n (.more (.other (.xf f args))) T S (fun u S' => u = v /\ S' = S) := by
 intro o a w Q hco hs hr
 obtain ⟨c, ho, hca, rfl⟩ := cOp_spec P hco
 have hargs : c.args.map a.eval = vs.toArray := by
  apply Array.toList_inj.1
  simpa using valsP_spec hs hv
 unfold Oper.wp
 have hrun : (execOp a.eval o).run P w = .ok (.value v) w := by
  simp only [execOp, ho]
  simp [resolve, hca, Act.eval, Deferred.ofValue, invoke, hargs, h w hr]
 rw [hrun]
 exact ⟨v, S, rfl, hr, rfl, rfl⟩
def KnownCT (P : Program) (k : FuncId) (pc : PC) (n s u : Nat) (m : Option Nat) : Prop :=
 ∃ fn c t, P.funcs[k]? = some fn /\ fn.body = some c /\ cC P fn.ntmps c = some pc /\ fn.ntmps = n /\ fn.results = #[.cell s t, .tmp u] /\ aggOf P t = some m
theorem FC.ofCT {k : FuncId} {pc : PC} {s u : Nat} {m : Option Nat} {args : List Value} {post : Value -> SS -> Prop} (hk : KnownCT P k pc n s u m) (hn : args.length <= n)
  (h : PW P w0 n pc (argT 0 args) S (fun e T' S' => (e = .normal ∨ e = .ret) /\ ∃ a v x, look T' s = some (.pointer (some a)) /\ ReadsAs w0 S' m a v /\ look T' u = some x /\ ∃ S'', Sub S'' S' /\ post (.tuple #[v, x]) S'')) : FC P w0 k args S post := by
 obtain ⟨fn, c, t, hf, hb, hc, rfl, hres, hm⟩ := hk
 intro w hw
 refine calls_of_wp hf hb (wp_mono (h c hc _ w (argT_sat hn) hw) ?_)
 rintro e a' w' ⟨T', S', hs', hr', he, a, v, x, hl, hv, hx, S'', hsub, hp⟩
 have ht := hs'.get s _ hl
 have htx := hs'.get u _ hx
 have hload : (loadVar t a).run P w' = .ok v w' := by
  cases m with
  | none =>
   obtain ⟨d, hu, hd⟩ := aggOf_none hm
   have := hr'.cell hv
   simp [loadVar, run_isAgg hu, hd, load, Sem.run, this]
  | some m =>
   obtain ⟨cs, rfl, hcl, hcs⟩ := hv
   obtain ⟨d, i, hu, hd, hi, hsz⟩ := aggOf_some hm
   have hload := run_loadCells_list (P := P) w' a cs (fun j v hj => hr'.cell (hcs j v hj))
   rw [hcl] at hload
   simp [loadVar, run_isAgg hu, hd, sizeOf, typeInfo, program, hi, hsz, hload, Sem.run]
 have hrun : (results fn a'.tmps).run P w' = .ok (.tuple #[v, x]) w' := by
  simp [results, hres, ht, htx, asAddr, hload]
 rcases he with rfl | rfl
 ·exact ⟨hs'.defers, _, hrun, _, S'', rfl, hr'.subS hsub, hp⟩
 exact ⟨hs'.defers, _, hrun, _, S'', rfl, hr'.subS hsub, hp⟩
end
end Go.SL



namespace Go.SL
open Go.RowKit Go.ChangeShapes Go.WideShapes Go.ChangeAt
section
variable {H : Type} {enc : TypeId × Value -> H} {P : Program} {W : World}
theorem trod_slice1 {t e : TypeId} {n : Nat} {cs : List Value} {y : DataW H × List MemPlace} (hu : P.underlying t = some (.slice e)) (h : DataW.trod enc P W 0 (fun _ => true) true n t cs = some y) :
  ∃ A len cap, cs = [.slice A len cap] /\ DataW.Trod enc P W 0 (fun _ => true) true t (.slice A len cap) y.1 y.2 := by
 rcases DataW.trod_slice hu h with ⟨h0, _⟩ | ⟨a, len', cap', elems, rest, n', _, hcs, _⟩
 ·exact ⟨none, 0, 0, h0, n, by rw [show (Value.slice none 0 0).cells.toList = cs from h0.symm]; exact h⟩
 exact ⟨_, _, _, hcs, n, by rw [show (Value.slice (some a) len' cap').cells.toList = cs from hcs.symm]; exact h⟩
end
end Go.SL
