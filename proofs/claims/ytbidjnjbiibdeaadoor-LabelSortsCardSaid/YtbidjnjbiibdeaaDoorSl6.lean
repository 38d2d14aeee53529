/- Rules: values and rows out of parts; fields of values. -/
import Derived.Test.YtbidjnjbiibdeaaDoorSl5
import Derived.MapKept
import Derived.Laws.StructEq
set_option linter.unusedVariables false
set_option linter.unusedSimpArgs false
namespace Go.SL
open Go.RowKit

section
variable {P : Program} {w0 : World} {n : Nat} {T : TT} {S : SS}

theorem setAt_cons (cs : List Value) (k : Nat) (v : Value) (vs : List Value) (h : k < cs.length) : setAt cs k (v :: vs) = setAt (cs.set k v) (k + 1) vs := by
  induction cs generalizing k with
  | nil => simp at h
  | cons c cs ih =>
    cases k with
    | zero => simp [setAt]
    | succ k => simp only [setAt, List.set_cons_succ]; rw [ih k (by simpa using h)]
theorem foldl_setAt (off : Nat) : ∀ (l : List Value) (k : Nat) (cells : Array Value), off + k + l.length ≤ cells.size →
    ((l.zipIdx k).foldl (fun cs p => cs.setIfInBounds (off + p.2) p.1) cells).toList = setAt cells.toList (off + k) l
  | [], k, cells, _ => by simp [setAt_nil]
  | c :: l, k, cells, h => by
    simp only [List.zipIdx_cons, List.foldl_cons, List.length_cons] at h ⊢
    rw [foldl_setAt off l (k + 1) _ (by simp; omega)]
    rw [setAt_cons _ _ _ _ (by simp; omega)]
    simp [Nat.add_assoc]

/-- parts laid over cells -/
def fillP (T : TT) : List Value → List (Nat × Nat × PV) → Option (List Value)
  | cs, [] => some cs
  | cs, (off, size, x) :: r => match x.val T with
    | some v => if v.cells.size = size ∧ off + size ≤ cs.length then fillP T (setAt cs off v.cells.toList) r else none
    | none => none

theorem fill_spec {a : Act} (hs : Sat n T a) {place : Nat → Option (Nat × Nat)} : ∀ {qs : List (Nat × Operand)} {ps : List (Nat × Nat × PV)} {cells : Array Value} {cs : List Value},
    partsAt place qs = some ps → fillP T cells.toList ps = some cs → Instr.fill place cells (qs.map fun (i, x) => (i, a.eval x)) = some cs.toArray
  | [], ps, cells, cs, h1, h2 => by
    simp [partsAt] at h1
    subst h1
    simp [fillP] at h2
    subst h2
    simp [Instr.fill]
  | (i, x) :: qs, ps, cells, cs, h1, h2 => by
    simp only [partsAt, List.mapM_cons, Option.bind_eq_bind, Option.pure_def] at h1
    cases hp : place i with
    | none => simp [hp] at h1
    | some p =>
      obtain ⟨off, size⟩ := p
      simp only [hp, Option.map_some, Option.bind_some] at h1
      change (partsAt place qs).bind _ = _ at h1
      cases hq : partsAt place qs with
      | none => rw [hq] at h1; simp at h1
      | some ps' =>
        rw [hq] at h1
        simp only [Option.bind_some, Option.some.injEq] at h1
        subst h1
        simp only [fillP] at h2
        split at h2
        · rename_i v hv
          split at h2
          · rename_i hcond
            obtain ⟨hsz, hle⟩ := hcond
            have hev := hs.eval hv
            simp only [List.map_cons, Instr.fill, hp, hev]
            have hc : ¬ (v.cells.size ≠ size || decide (off + v.cells.size > cells.size)) = true := by
              simp at hle ⊢
              omega
            rw [if_neg hc]
            have hfold : (v.cells.zipIdx.foldl (fun cs x => cs.setIfInBounds (off + x.2) x.1) cells).toList = setAt cells.toList off v.cells.toList := by
              rw [← Array.foldl_toList, Array.toList_zipIdx]
              have := foldl_setAt off v.cells.toList 0 cells (by simp at hle ⊢; omega)
              simpa using this
            have := fill_spec hs (place := place) (qs := qs) (ps := ps') (cells := v.cells.zipIdx.foldl (fun cs x => cs.setIfInBounds (off + x.2) x.1) cells) (cs := cs) hq (by rw [hfold]; exact h2)
            exact this
          · simp at h2
        · simp at h2

theorem run_placesOf {fs : List Field} {ps : List (Nat × Nat)} (h : placesOf P fs = some ps) (w : World) : (fs.mapM fun f => Prod.mk f.offset <$> sizeOf f.type).run P w = .ok ps w :=
  run_places w fs ps h
theorem Yields.build {zero : List Value} {parts : List (Nat × Nat × PV)} {cs : List Value} (h : fillP T zero parts = some cs) : Yields P w0 n (.build zero parts) T S (.agg cs.toArray) := by
  intro o a w hco hs hr
  obtain ⟨t, qs, fs, i, z, ps, ho, hu, hi, hz, rfl, hps, hpa⟩ := cOp_spec P hco
  have hfill := fill_spec hs (place := fun j => ps[j]?) (cells := z.cells) hpa h
  simp only [execOp, ho]
  have hb : P.built t (qs.map fun (i, x) => (i, a.eval x)).toList = some cs.toArray := by
    unfold Program.built
    simp only [hi, hu, hz]
    unfold placesOf at hps
    rw [hps]
    simp only [Array.toList_map]
    have e : (fun x : Nat => ps.toArray[x]?) = fun j => ps[j]? := by funext j; simp
    rw [e]
    exact hfill
  have := run_build (P := P) w t _ cs.toArray hb
  simp only [Sem.run_bind, this, Result.andThen_ok]
  rfl

theorem OW.bsl {E : TypeId} {len : Nat} {zero : List Value} {parts : List (Nat × Nat × PV)} {cs : List Value} (h : fillP T zero parts = some cs) :
    OW P w0 n (.bsl E zero len parts) T S (fun v S' => ∃ r, v = .slice (some ⟨r, 0, none⟩) len len ∧ S' = [(r, .cells cs E cs.length)] :: S) := by
  intro op a w Q hco hs hr
  obtain ⟨t, qs, i, z, ho, hu, hi, hz, hle, hne, rfl, hpa⟩ := cOp_spec P hco
  have hfill := fill_spec hs (place := fun j => some (j * i.size, i.size)) (cells := (Array.range (len * i.size)).map (z.cells[· % z.cells.size]!)) hpa h
  have hrun : (execOp a.eval op).run P w = .ok (.value (.slice (some ⟨w.heap.size, 0, none⟩) len len)) (w.alloc (.cells cs.toArray E)) := by
    simp only [execOp, ho, Instr.buildSlice]
    have hle' : ¬ (16777216 < len * i.size) := by omega
    simp only [Array.toList_map]
    have hsz : (sizeOf E).run P w = .ok i.size w := by simp [sizeOf, typeInfo, program, hi, Sem.run]
    have hzv : (zeroValue E).run P w = .ok z w := by simp [zeroValue, typeInfo, program, hi, hz, Sem.run]
    simp only [Array.toList_map] at hfill ⊢
    simp only [Sem.run_bind, run_underlying hu, Result.andThen_ok, hsz]
    simp [hle', hne, hzv]
    rw [hfill]
    simp [newRow, newObj, Sem.run]
  unfold Oper.wp
  rw [hrun]
  refine ⟨_, _, rfl, ?_, w.heap.size, rfl, rfl⟩
  have := hr.alloc cs.toArray E
  simpa using this


/-! ### fields of values -/
theorem Yields.fld {off : Nat} {x : PV} {cs : Array Value} {v : Value} (hx : x.val T = some (.agg cs)) (hc : cs[off]? = some v) : Yields P w0 n (.fld off x) T S v := by
  intro o a w hco hs hr
  obtain ⟨s, y, j, fs, f, ho, rfl, hu, hf, rfl, hagg⟩ := cOp_spec P hco
  obtain ⟨d, hd, hrow⟩ := aggOf_none hagg
  simp only [execOp, ho, hs.eval hx, Instr.field]
  simp [run_underlying hu, hf, asAgg, part, run_isAgg hd, hrow, hc]
theorem Yields.fldA {off m : Nat} {x : PV} {cs : Array Value} (hx : x.val T = some (.agg cs)) : Yields P w0 n (.fldA off m x) T S (.agg (cs.extract off (off + m))) := by
  intro o a w hco hs hr
  obtain ⟨s, y, j, fs, f, ho, rfl, hu, hf, rfl, hagg⟩ := cOp_spec P hco
  obtain ⟨d, i, hd, hrow, hi, rfl⟩ := aggOf_some hagg
  simp only [execOp, ho, hs.eval hx, Instr.field]
  simp [run_underlying hu, hf, asAgg, part, run_isAgg hd, hrow, sizeOf, typeInfo, program, hi, Sem.run]

/-! ### maps with strings as keys -/
def skey (es : List (ByteArray × Value)) : List (Value × Value) := es.map fun p => (.string p.1, p.2)
/-- what a key leads to -/
def mget (es : List (ByteArray × Value)) (s : ByteArray) : Option Value := (es.find? fun p => s == p.1).map (·.2)
def mputAt : List (ByteArray × Value) → ByteArray → Value → List (ByteArray × Value)
  | [], s, v => [(s, v)]
  | p :: r, s, v => if s == p.1 then (s, v) :: r else p :: mputAt r s v

theorem findNow_string {s : ByteArray} : ∀ (en : List MapEntry) (es : List (ByteArray × Value)) (i : Nat), en.map (fun e => (e.key, e.val)) = skey es →
    ∃ r, Instr.findNow .string (.string s) en i = some r ∧ r.map (·.2) = mget es s
  | [], es, i, h => by
    cases es with
    | nil => exact ⟨none, rfl, rfl⟩
    | cons p es => simp [skey] at h
  | e :: en, es, i, h => by
    cases es with
    | nil => simp [skey] at h
    | cons p es =>
      simp only [skey, List.map_cons, List.cons.injEq, Prod.mk.injEq] at h
      obtain ⟨⟨h1, h2⟩, h3⟩ := h
      simp only [Instr.findNow, h1, Instr.sameNow]
      by_cases hb : (s == p.1) = true
      · refine ⟨some (i, e.val), by simp [hb], by simp [mget, List.find?_cons, hb, h2]⟩
      · have hb' : (s == p.1) = false := by simpa using hb
        obtain ⟨r, hr1, hr2⟩ := findNow_string (s := s) en es (i + 1) h3
        exact ⟨r, by simp [hb', hr1], by rw [hr2]; simp [mget, List.find?_cons, hb']⟩

theorem run_checkKey_string {kt : TypeId} (h : P.underlying kt = some .string) (b : Bool) (m : Nat) (s : ByteArray) (w : World) : (Instr.checkKey b (m + 1) kt (.string s)).run P w = .ok () w := by
  simp [Instr.checkKey, run_underlying h]

theorem Rep.mapAt {w : World} {k b : Nat} {es : List (Value × Value)} (h : Rep w0 S w) (hk : S[k]? = some [(b, .map es)]) :
    w0.heap.size ≤ b ∧ ∃ en clk, w.heap[b]? = some (.map en clk) ∧ en.toList.map (fun e => (e.key, e.val)) = es :=
  h.own (b, .map es) (List.mem_flatten.2 ⟨_, List.mem_of_getElem? hk, by simp⟩)

theorem Yields.lenM {x : PV} {b k : Nat} {es : List (Value × Value)} (hx : x.val T = some (.map (some b))) (hk : S[k]? = some [(b, .map es)]) : Yields P w0 n (.lenM x) T S (.int .i64 es.length) := by
  intro o a w hco hs hr
  obtain ⟨t, kt, vt, c, cl, ho, hca, hat, har, rfl, hu⟩ := cOp_spec P hco
  obtain ⟨_, en, clk, hw, he⟩ := hr.mapAt hk
  have hlen : en.size = es.length := by rw [← he]; simp
  simp [execOp, ho, resolve, hca, invoke, builtin, Builtin.len_, hat, har, hs.eval hx, run_underlying hu, goInt, getObj, Sem.run, hw, hlen]
theorem Yields.lookS {zero : Value} {ok : Bool} {x y : PV} {b k : Nat} {es : List (ByteArray × Value)} {s : ByteArray} (hx : x.val T = some (.map (some b))) (hy : y.val T = some (.string s)) (hk : S[k]? = some [(b, .map (skey es))]) :
    Yields P w0 n (.lookS zero ok x y) T S (if ok then .tuple #[(mget es s).getD zero, .bool (mget es s).isSome] else (mget es s).getD zero) := by
  intro o a w hco hs hr
  obtain ⟨t, c, d, kt, et, i, ho, rfl, rfl, hu, hkt, hi, hz⟩ := cOp_spec P hco
  obtain ⟨_, en, clk, hw, he⟩ := hr.mapAt hk
  obtain ⟨r, hr1, hr2⟩ := findNow_string (s := s) en.toList es 0 he
  simp only [execOp, ho, hs.eval hx, hs.eval hy, Instr.lookup]
  have hck := fun bb => run_checkKey_string (P := P) hkt bb 9999 s w
  simp only [Sem.run_bind, run_underlying hu, Result.andThen_ok]
  have hg : (getObj b).run P w = .ok (.map en clk) w := by simp [getObj, Sem.run, hw]
  simp only [Sem.run_bind, hg, Result.andThen_ok]
  simp only [Sem.run_pure, Result.andThen_ok, hck, Instr.findKey, Sem.run_bind, run_underlying hkt, hr1]
  cases r with
  | none =>
    simp at hr2
    simp [zeroValue, typeInfo, program, hi, hz, Sem.run, ← hr2]
  | some p =>
    obtain ⟨j, v⟩ := p
    simp at hr2
    simp [← hr2]
theorem OW.mkM : OW P w0 n .mkM T S (fun v S' => ∃ r, v = .map (some r) ∧ S' = [(r, .map [])] :: S) := by
  intro op a w Q hco hs hr
  obtain ⟨t, ho⟩ := cOp_spec P hco
  have hrun : (execOp a.eval op).run P w = .ok (.value (.map (some w.heap.size))) (w.alloc (.map #[] 0)) := by
    simp [execOp, ho, Instr.makeMap, newObj, Sem.run]
  unfold Oper.wp
  rw [hrun]
  refine ⟨_, _, rfl, ?_, w.heap.size, rfl, rfl⟩
  refine hr.push (below_alloc hr _) (fun i hi => alloc_heap_lt w _ i hi) (by simp) ?_
  intro p hp
  simp only [List.mem_singleton] at hp
  subst hp
  exact ⟨⟨#[], 0, alloc_heap_new w _, by simp⟩, Nat.le_refl _⟩

theorem findNow_put {s : ByteArray} : ∀ (en : List MapEntry) (es : List (ByteArray × Value)) (i : Nat), en.map (fun e => (e.key, e.val)) = skey es →
    (Instr.findNow .string (.string s) en i = some none ∧ mget es s = none ∧ ∀ v, mputAt es s v = es ++ [(s, v)]) ∨
    (∃ j u e, Instr.findNow .string (.string s) en i = some (some (i + j, u)) ∧ en[j]? = some e ∧ e.key = .string s ∧ ∀ v, skey (mputAt es s v) = (skey es).set j (.string s, v))
  | [], es, i, h => by
    cases es with
    | nil => exact .inl ⟨rfl, rfl, fun v => rfl⟩
    | cons p es => simp [skey] at h
  | e :: en, es, i, h => by
    cases es with
    | nil => simp [skey] at h
    | cons p es =>
      simp only [skey, List.map_cons, List.cons.injEq, Prod.mk.injEq] at h
      obtain ⟨⟨h1, h2⟩, h3⟩ := h
      simp only [Instr.findNow, h1, Instr.sameNow]
      by_cases hb : (s == p.1) = true
      · right
        have hsp : s = p.1 := (Go.MapKept.bytes_beq s p.1).1 hb
        refine ⟨0, e.val, e, by simp [hb], by simp, by rw [h1, hsp], fun v => by simp [mputAt, hb, skey]⟩
      · have hb' : (s == p.1) = false := by simpa using hb
        rcases findNow_put (s := s) en es (i + 1) h3 with ⟨h4, h5, h6⟩ | ⟨j, u, e', h4, h5, h6, h7⟩
        · exact .inl ⟨by simp [hb', h4], by simp only [mget] at h5 ⊢; simp [List.find?_cons, hb'] at h5 ⊢; exact h5, fun v => by simp [mputAt, hb', h6]⟩
        · refine .inr ⟨j + 1, u, e', by simp [hb', h4]; omega, by simpa using h5, h6, fun v => ?_⟩
          have := h7 v
          simp only [skey] at this ⊢
          simp [mputAt, hb', this]

theorem OW.updSU {x y z : PV} {b k : Nat} {es : List (ByteArray × Value)} {s : ByteArray} {v : Value} (hx : x.val T = some (.map (some b))) (hy : y.val T = some (.string s)) (hz : z.val T = some v) (hk : S[k]? = some [(b, .map (skey es))]) :
    OW P w0 n (.updS x y z) T S (fun v' S' => v' = undef ∧ S' = S.set k [(b, .map (skey (mputAt es s v)))]) := by
  intro op a w Q hco hs hr
  obtain ⟨t, c, d, u, kt, et, ho, rfl, rfl, rfl, hu, hkt⟩ := cOp_spec P hco
  obtain ⟨hge, en, clk, hw, he⟩ := hr.mapAt hk
  have hlt : b < w.heap.size := (Array.getElem?_eq_some_iff.1 hw).1
  have hck := run_checkKey_string (P := P) hkt false 9999 s w
  have hg : (getObj b).run P w = .ok (.map en clk) w := by simp [getObj, Sem.run, hw]
  have hput : ∀ o : Obj, (∀ c e f, o ≠ .cells c e f) → (setObj b o).run P w = .ok () { w with heap := w.heap.setIfInBounds b o } := by
    intro o _
    simp [setObj, Sem.run, hw]
  have fin : ∀ (en' : Array MapEntry) (clk' : Nat), (execOp a.eval op).run P w = .ok .skip { w with heap := w.heap.setIfInBounds b (.map en' clk') } → en'.toList.map (fun e => (e.key, e.val)) = skey (mputAt es s v) →
      op.wp P a w (fun a' w' => ∃ v_1 S', a' = a.put op.dst v_1 ∧ Rep w0 S' w' ∧ v_1 = undef ∧ S' = S.set k [(b, .map (skey (mputAt es s v)))]) Q := by
    intro en' clk' hrun hen
    unfold Oper.wp
    rw [hrun]
    refine ⟨undef, _, rfl, ?_, rfl, rfl⟩
    refine hr.replace hk ⟨rfl, rfl, rfl, by simp, fun i hi => ?_⟩ (fun i hi hne => ?_) (by simp) ?_
    · have : b ≠ i := by omega
      simp [Array.getElem?_setIfInBounds_ne this]
    · have : b ≠ i := by simp at hne; omega
      simp [Array.getElem?_setIfInBounds_ne this]
    · intro p hp
      simp only [List.mem_singleton] at hp
      subst hp
      exact ⟨hge, ⟨en', clk', by simp [hlt], hen⟩, .inl (by simp)⟩
  rcases findNow_put (s := s) en.toList es 0 he with ⟨h4, h5, h6⟩ | ⟨j, u', e', h4, h5, h6, h7⟩
  · refine fin (en.push { key := .string s, val := v, born := clk }) (clk + 1) ?_ ?_
    · simp only [execOp, ho, hs.eval hx, hs.eval hy, hs.eval hz, Instr.mapUpdate]
      simp [run_underlying hu, hg, hck, Instr.findKey, run_underlying hkt, h4, hput]
    · simp [he, h6, skey]
  · simp only [Nat.zero_add] at h4
    have hstay : (Instr.keyThatStays (.string s) (.string s)).run P w = .ok (.string s) w := by
      have hss : (s == s) = true := (Go.MapKept.bytes_beq s s).2 rfl
      simp [Instr.keyThatStays, Instr.sameBits, hss]
    have hkey : ((en[j]?).map (·.key)).getD (.string s) = .string s := by
      have : en[j]? = some e' := by simpa using h5
      simp [this, h6]
    refine fin (en.modify j fun e => { e with key := .string s, val := v }) clk ?_ ?_
    · simp only [execOp, ho, hs.eval hx, hs.eval hy, hs.eval hz, Instr.mapUpdate]
      simp [run_underlying hu, hg, hck, Instr.findKey, run_underlying hkt, h4, hkey, hstay, hput]
    · rw [h7 v, ← he]
      apply List.ext_getElem?
      intro i
      by_cases e : j = i
      · subst e
        have hlt' : j < en.size := by have := (List.getElem?_eq_some_iff.1 h5).1; simpa using this
        simp [Array.getElem?_modify, hlt']
      · simp [Array.getElem?_modify, e, List.getElem?_set_ne e]
theorem OW.updS {x y z : PV} {b k : Nat} {es : List (ByteArray × Value)} {s : ByteArray} {v : Value} (hx : x.val T = some (.map (some b))) (hy : y.val T = some (.string s)) (hz : z.val T = some v) (hk : S[k]? = some [(b, .map (skey es))]) :
    OW P w0 n (.updS x y z) T S (fun _ S' => S' = S.set k [(b, .map (skey (mputAt es s v)))]) := by
  exact (OW.updSU hx hy hz hk).mono fun _ _ h => h.2


/-! ### structs compared; new variables -/
def eqCell : CK → Value → Value → Option Bool
  | .int k, .int j a, .int j' b => if j = k ∧ j' = k then some (a == b) else none
  | .str, .string a, .string b => some (a.toList == b.toList)
  | .bool, .bool a, .bool b => some (a == b)
  | _, _, _ => none
def eqCells : List CK → List Value → List Value → Option Bool
  | [], [], [] => some true
  | [c], [x], [y] => eqCell c x y
  | c :: cs, x :: xs, y :: ys => match eqCell c x y, eqCells cs xs ys with | some p, some q => some (p && q) | _, _ => none
  | _, _, _ => none
theorem run_eqCell {c : CK} {t : TypeId} {x y : Value} {r : Bool} (hc : ckOf P t = some c) (h : eqCell c x y = some r) (d : Nat) (w : World) : (Op.equalIn (d + 1) t x y).run P w = .ok r w := by
  unfold ckOf at hc
  split at hc
  · rename_i k hu
    obtain rfl := Option.some.inj hc
    unfold eqCell at h
    split at h <;> simp_all
    obtain ⟨⟨rfl, rfl⟩, rfl⟩ := h
    simp [Op.equalIn, run_underlying hu]
  · rename_i hu
    obtain rfl := Option.some.inj hc
    unfold eqCell at h
    split at h <;> simp_all
    subst h
    exact run_equalIn_string w d t _ _ hu
  · rename_i hu
    obtain rfl := Option.some.inj hc
    unfold eqCell at h
    split at h <;> simp_all
    subst h
    simp [Op.equalIn, run_underlying hu]
  · simp at hc
theorem ckOf_agg {t : TypeId} {c : CK} (h : ckOf P t = some c) : ∃ d, P.underlying t = some d ∧ rowD d = false := by
  unfold ckOf at h
  split at h
  all_goals (first | (simp at h; done) | exact ⟨_, by assumption, rfl⟩)
theorem run_eqFields_flat {xs ys : Array Value} {d : Nat} {w : World} : ∀ (fs : List Field) (i : Nat) (sh : List CK) (r : Bool), flatFrom P i fs = some sh → eqCells sh (xs.toList.drop i) (ys.toList.drop i) = some r →
    (Op.eqFields (d + 1) xs ys fs).run P w = .ok r w
  | [], i, sh, r, hf, he => by
    simp [flatFrom] at hf
    subst hf
    unfold eqCells at he
    split at he <;> simp_all [Op.eqFields]
  | f :: fs, i, sh, r, hf, he => by
    simp only [flatFrom] at hf
    split at hf
    · rename_i c cs hc hcs
      split at hf
      · rename_i hcond
        obtain ⟨hoff, hname⟩ := hcond
        obtain rfl := Option.some.inj hf
        obtain ⟨dd, hu, hrow⟩ := ckOf_agg hc
        have hpart : ∀ (zs : Array Value) z, zs[i]? = some z → (part f.type zs f.offset).run P w = .ok z w := by
          intro zs z hz
          simp [part, run_isAgg hu, hrow, hoff, hz]
        -- the first cells
        have hx : ∃ x y rx ry, xs.toList.drop i = x :: rx ∧ ys.toList.drop i = y :: ry ∧ xs[i]? = some x ∧ ys[i]? = some y ∧ xs.toList.drop (i + 1) = rx ∧ ys.toList.drop (i + 1) = ry := by
          cases hx : xs.toList.drop i with
          | nil => rw [hx] at he; cases cs <;> simp [eqCells] at he
          | cons x rx =>
            cases hy : ys.toList.drop i with
            | nil => rw [hx, hy] at he; cases cs <;> cases rx <;> simp [eqCells] at he
            | cons y ry =>
              have e1 : xs[i]? = some x := by
                have : (xs.toList.drop i)[0]? = some x := by rw [hx]; rfl
                simpa using this
              have e2 : ys[i]? = some y := by
                have : (ys.toList.drop i)[0]? = some y := by rw [hy]; rfl
                simpa using this
              refine ⟨x, y, rx, ry, rfl, rfl, e1, e2, ?_, ?_⟩
              · rw [← List.drop_drop, hx]; rfl
              · rw [← List.drop_drop, hy]; rfl
        obtain ⟨x, y, rx, ry, h1, h2, h3, h4, h5, h6⟩ := hx
        rw [h1, h2] at he
        have hstep : ∃ p q, eqCell c x y = some p ∧ eqCells cs rx ry = some q ∧ r = (p && q) := by
          cases cs with
          | nil =>
            cases rx with
            | nil =>
              cases ry with
              | nil => exact ⟨r, true, by simpa [eqCells] using he, rfl, by simp⟩
              | cons _ _ => simp [eqCells] at he
            | cons _ _ => simp [eqCells] at he
          | cons c' cs' =>
            rw [show eqCells (c :: c' :: cs') (x :: rx) (y :: ry) = (match eqCell c x y, eqCells (c' :: cs') rx ry with | some p, some q => some (p && q) | _, _ => none) from rfl] at he
            split at he
            · rename_i p q hp hq
              exact ⟨p, q, hp, hq, by simpa using he.symm⟩
            · simp at he
        obtain ⟨p, q, hp, hq, rfl⟩ := hstep
        simp only [Op.eqFields, hname, ne_eq, not_false_eq_true, if_true, Sem.run_bind, hpart xs x h3, hpart ys y h4, Result.andThen_ok, run_eqCell hc hp d w]
        cases p
        · simp
        · simp only [Bool.not_true, Bool.false_eq_true, if_false, Bool.true_and]
          exact run_eqFields_flat fs (i + 1) cs q hcs (by rw [h5, h6]; exact hq)
      · simp at hf
    · simp at hf
theorem flatOf_spec {t : TypeId} {sh : List CK} (h : flatOf P t = some sh) : P.underlying t = some (.struct (P.fieldsOf t)) ∧ P.stoodInHeld t = false ∧ P.eqGuardType P.depth t = false ∧ flatFrom P 0 (P.fieldsOf t).toList = some sh := by
  unfold flatOf at h
  split at h
  · rename_i fs hu
    split at h
    · rename_i hc
      have : P.fieldsOf t = fs := by simp [Program.fieldsOf, hu]
      rw [this]
      exact ⟨hu, hc.1, hc.2, h⟩
    · simp at h
  · simp at h
theorem Yields.eqA {neg : Bool} {t : TypeId} {sh : List CK} {x y : PV} {xs ys : Array Value} {r : Bool} (hx : x.val T = some (.agg xs)) (hy : y.val T = some (.agg ys)) (h : eqCells sh xs.toList ys.toList = some r) :
    Yields P w0 n (.eqA neg t sh x y) T S (.bool (if neg then !r else r)) := by
  intro o a w hco hs hr
  obtain ⟨c, d, u, ho, rfl, rfl, hfl⟩ := cOp_spec P hco
  obtain ⟨hu, hst, hg, hff⟩ := flatOf_spec hfl
  have heq : (Op.equalIn 10000 t (.agg xs) (.agg ys)).run P w = .ok r w := by
    rw [run_equalIn_struct w 9999 t xs ys hu hst]
    exact run_eqFields_flat _ 0 sh r hff (by simpa using h)
  simp only [execOp, ho, hs.eval hx, hs.eval hy]
  cases neg
  · simp only [Bool.false_eq_true, if_false, Sem.run_bind, run_eqGuard_agg w .eql t c d xs ys hg, Result.andThen_ok, run_eql_struct, heq]
    simp
  · simp only [if_true, Sem.run_bind, run_eqGuard_agg w .neq t c d xs ys hg, Result.andThen_ok, run_neq_struct, heq]
    simp
theorem OW.al {E : TypeId} {zero : List Value} : OW P w0 n (.al E zero) T S (fun v S' => ∃ r, v = .pointer (some ⟨r, 0, none⟩) ∧ S' = [(r, .cells zero E zero.length)] :: S) := by
  intro op a w Q hco hs hr
  obtain ⟨i, z, ho, hi, hz, rfl⟩ := cOp_spec P hco
  have hrun : (execOp a.eval op).run P w = .ok (.value (.pointer (some ⟨w.heap.size, 0, none⟩))) (w.alloc (.cells z.cells E)) := by
    simp [execOp, ho, Instr.alloc, zeroValue, typeInfo, program, hi, hz, Sem.run, newVar, newRow, newObj]
  unfold Oper.wp
  rw [hrun]
  exact ⟨_, _, rfl, by simpa using hr.alloc z.cells E, w.heap.size, rfl, rfl⟩
theorem OW.bx {E : TypeId} {x : PV} {v : Value} (hx : x.val T = some v) : OW P w0 n (.bx E x) T S (fun u S' => ∃ r, u = .pointer (some ⟨r, 0, none⟩) ∧ S' = [(r, .cells v.cells.toList E v.cells.toList.length)] :: S) := by
  intro op a w Q hco hs hr
  obtain ⟨c, ho, rfl⟩ := cOp_spec P hco
  have hrun : (execOp a.eval op).run P w = .ok (.value (.pointer (some ⟨w.heap.size, 0, none⟩))) (w.alloc (.cells v.cells E)) := by
    simp [execOp, ho, hs.eval hx, Instr.box, Sem.run, newVar, newRow, newObj]
  unfold Oper.wp
  rw [hrun]
  exact ⟨_, _, rfl, by simpa using hr.alloc v.cells E, w.heap.size, rfl, rfl⟩

end
end Go.SL
