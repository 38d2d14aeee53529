/- More rules: pointers compared, bytes and texts, arrays by address, function values, results in cells. -/
import Derived.Test.YtbidjnjbiibdeaaDoorSl9
import Derived.Laws.IdiomStrings
import Derived.Laws.IdiomCopy
import Derived.Lib.AppendStr
set_option linter.unusedVariables false
set_option linter.unusedSimpArgs false
namespace Go.SL
open Go.RowKit

section
variable {P : Program} {w0 : World} {n : Nat} {T : TT} {S : SS}

theorem Rd.ro {r : Nat} {xs : List Value} (h : (r, AO.ro xs) ∈ S.flatten) : Rd w0 S (Option.some ⟨r, 0, none⟩) xs := by
  intro j v hj
  refine ⟨_, rfl, .inr (.inr ⟨xs, ?_, ?_, ?_⟩)⟩
  · simpa [Addr.add_lit] using h
  · simp [Addr.add_lit]
  · simpa [Addr.add_lit] using hj
theorem Yields.nilc {x : PV} {a : Addr} (hx : x.val T = some (.pointer (some a))) : Yields P w0 n (.nilc x) T S (.pointer (some a)) := by
  intro o ac w hco hs hr
  obtain ⟨y, ho, rfl⟩ := cOp_spec P hco
  simp [execOp, ho, hs.eval hx]
theorem Yields.nilcF {x : PV} {f : FuncId} {fi ca : Array Value} (hx : x.val T = some (.func (.func f) fi ca)) : Yields P w0 n (.nilc x) T S (.func (.func f) fi ca) := by
  intro o ac w hco hs hr
  obtain ⟨y, ho, rfl⟩ := cOp_spec P hco
  simp [execOp, ho, hs.eval hx]
theorem ptrB_spec {t : TypeId} (h : ptrB P t = true) : ∃ e, P.underlying t = some (.pointer e) := by
  unfold ptrB at h
  split at h
  · exact ⟨_, by assumption⟩
  · simp at h
/-- is it nil? -/
theorem Yields.eqPn {neg : Bool} {x y : PV} {A : Option Addr} (hx : x.val T = some (.pointer A)) (hy : y.val T = some (.pointer none)) : Yields P w0 n (.eqP neg x y) T S (.bool (if neg then A.isSome else A.isNone)) := by
  intro o ac w hco hs hr
  obtain ⟨t, a, b, u, ho, rfl, rfl, hp⟩ := cOp_spec P hco
  obtain ⟨e, he⟩ := ptrB_spec hp
  have heq : (Op.equalIn 10000 t (.pointer A) (.pointer none)).run P w = .ok A.isNone w := by
    unfold Op.equalIn
    cases A <;> simp [run_underlying he]
  cases neg
  · simp [execOp, ho, hs.eval hx, hs.eval hy, eqGuard, binOp, Op.equal, Op.maxDepth, heq]
  · simp [execOp, ho, hs.eval hx, hs.eval hy, eqGuard, binOp, Op.equal, Op.maxDepth, heq]

/-! ### bytes and texts -/
def bytesC (l : List UInt8) : List Value := l.map fun b => .int .u8 (b.toNat : Int)
theorem bytesC_append (l r : List UInt8) : bytesC (l ++ r) = bytesC l ++ bytesC r := by simp [bytesC]
theorem bytesC_length (l : List UInt8) : (bytesC l).length = l.length := by simp [bytesC]
theorem bytesC_all (l : List UInt8) : (bytesC l).all (·.oneCell') = true := by
  rw [List.all_eq_true]
  intro u hu
  obtain ⟨b, _, rfl⟩ := List.mem_map.1 hu
  rfl
theorem Yields.strOf {x : PV} {A : Option Addr} {len cap : Nat} {l : List UInt8} (hx : x.val T = some (.slice A len cap)) (hl : l.length = len) (h : Rd w0 S A (bytesC l)) : Yields P w0 n (.strOf x) T S (.string ⟨l.toArray⟩) := by
  intro o ac w hco hs hr
  obtain ⟨s, t, a, e, ho, rfl, hs1, ht, he⟩ := cOp_spec P hco
  subst hl
  simp only [execOp, ho, hs.eval hx]
  cases A with
  | none =>
    have : l = [] := by
      cases l with
      | nil => rfl
      | cons b l => obtain ⟨_, e, _⟩ := h 0 _ rfl; cases e
    subst this
    rw [Sem.run_bind, run_convert_bytes_string w s t e none _ _ hs1 he ht]
    simp [Conv.bytesToString]
    rfl
  | some a' =>
    have := run_convert_bytes_back (P := P) w s t e a' cap l hs1 he ht (fun j hj => hr.cell (h.at (by simp [bytesC, hj])))
    rw [Sem.run_bind, this]
    simp
theorem OW.bytesOf {E : TypeId} {x : PV} {s : ByteArray} (hx : x.val T = some (.string s)) : OW P w0 n (.bytesOf E x) T S (fun v S' => ∃ r cap, v = .slice (some ⟨r, 0, none⟩) s.size cap ∧ s.size ≤ cap ∧ S' = [(r, .ro (bytesC s.data.toList))] :: S) := by
  intro op a w Q hco hs hr
  obtain ⟨u, t, y, ho, rfl, hs1, ht, he⟩ := cOp_spec P hco
  have hrun := run_bytes_of_string (P := P) w u t E s hs1 ht he
  have hex : (execOp a.eval op).run P w = .ok (.value (.slice (some ⟨w.heap.size, 0, none⟩) s.size (grownCap w s.size 0 E))) (w.drew.alloc (.cells (bytesRow s (grownCap w s.size 0 E)) E ((bytesRow s (grownCap w s.size 0 E)).size, (bytesRow s (grownCap w s.size 0 E)).size + 1))) := by
    simp only [execOp, ho, hs.eval hx]
    rw [Sem.run_bind, hrun]
    simp
  unfold Oper.wp
  rw [hex]
  refine ⟨_, _, rfl, ?_, w.heap.size, _, rfl, grownCap_ge .., rfl⟩
  have hb : Below w0.heap.size w (w.drew.alloc (.cells (bytesRow s (grownCap w s.size 0 E)) E ((bytesRow s (grownCap w s.size 0 E)).size, (bytesRow s (grownCap w s.size 0 E)).size + 1))) := (Below.refl _ w).drew.alloc hr.base _
  refine hr.push hb (fun i hi => alloc_heap_lt w.drew _ i hi) (by simp) ?_
  intro p hp
  simp only [List.mem_singleton] at hp
  subst hp
  refine ⟨?_, Nat.le_refl _⟩
  refine ⟨_, _, _, alloc_heap_new w.drew _, ?_⟩
  simp only [bytesRow, bytesC, Array.toList_append, Array.toList_map, List.length_map]
  have : (List.map (fun b : UInt8 => Value.int .u8 (b.toNat : Int)) s.data.toList).length = s.data.toList.length := by simp
  rw [← this, List.take_left']
  simp

/-! ### arrays by their address -/
theorem Yields.slA {len : Nat} {x : PV} {a : Addr} (hx : x.val T = some (.pointer (some a))) : Yields P w0 n (.slA len x) T S (.slice (some a) len len) := by
  intro o ac w hco hs hr
  obtain ⟨t, y, e, ie, ho, rfl, hu, hi⟩ := cOp_spec P hco
  have hb := run_bounds (P := P) false len len none none 0 len (.inr ⟨rfl, rfl⟩) (.inr ⟨rfl, rfl⟩) (Nat.zero_le _) (Nat.le_refl _) w
  have hsz : (sizeOf e).run P w = .ok ie.size w := by simp [sizeOf, typeInfo, program, hi, Sem.run]
  simp only [execOp, ho, hs.eval hx, Instr.sliceAt, Option.map_none]
  simp [run_underlying hu, Instr.sureAddr, hb, hsz]
  cases len <;> simp [Addr.add]
theorem Yields.ixA {len sz j : Nat} {x i : PV} {a : Addr} {k : IntKind} {z : Int} (hx : x.val T = some (.pointer (some a))) (hi : i.val T = some (.int k z)) (hz : z = (j : Int)) (h : j < len) : Yields P w0 n (.ixA len sz x i) T S (.pointer (some (a.add (j * sz)))) := by
  intro o ac w hco hs hr
  obtain ⟨t, y, y2, e, ie, ho, rfl, rfl, hu, hie, rfl⟩ := cOp_spec P hco
  subst hz
  have hsz : (sizeOf e).run P w = .ok ie.size w := by simp [sizeOf, typeInfo, program, hie, Sem.run]
  simp only [execOp, ho, hs.eval hx, hs.eval hi, Instr.indexAt]
  simp [run_underlying hu, Instr.sureAddr, asIntOf, hsz, h]

/-! ### function values -/
theorem Yields.mkF {f : FuncId} {caps : List PV} {vs : List Value} (hv : valsP T caps = some vs) : Yields P w0 n (.mkF f caps) T S (.func (.func f) #[] vs.toArray) := by
  intro o ac w hco hs hr
  obtain ⟨fi, cs, ho, hfi, rfl⟩ := cOp_spec P hco
  have hfi' : fi = #[] := by apply Array.toList_inj.1; simpa using hfi
  subst hfi'
  have hargs : cs.map ac.eval = vs.toArray := by
    have := valsP_spec hs hv
    rw [← this, ← Array.toArray_toList (xs := cs.map ac.eval), Array.toList_map]
  simp [execOp, ho, Instr.makeFunc, hargs]
/-- a function value called: its own code, the arguments, then what it holds -/
theorem OW.callv {f : PV} {g : FuncId} {args : List PV} {fi ca : List Value} {vs : List Value} {post : Value → SS → Prop} (hf : f.val T = some (.func (.func g) fi.toArray ca.toArray)) (hok : fnOk P g = true) (hv : valsP T args = some vs)
    (h : FC P w0 g (fi ++ vs ++ ca) S post) : OW P w0 n (.callv f args) T S post := by
  intro op ac w Q hco hs hr
  obtain ⟨cl, y, ho, hca, rfl, rfl⟩ := cOp_spec P hco
  have hargs : cl.args.map ac.eval = vs.toArray := by
    have := valsP_spec hs hv
    rw [← this, ← Array.toArray_toList (xs := cl.args.map ac.eval), Array.toList_map]
  have hrun : (execOp ac.eval op).run P w = .ok (.enter g (fi ++ vs ++ ca).toArray) w := by
    unfold fnOk at hok
    split at hok
    · rename_i fn hfn
      simp only [Bool.and_eq_true, bne_iff_ne, ne_eq] at hok
      have hb : ¬ fn.body = none := by intro hh; simp [hh] at hok
      simp only [execOp, ho, resolve, hca, hs.eval hf, Deferred.ofValue]
      simp [invoke, callFunc, program, Sem.run, hfn, hok.1, hb, hargs]
    · simp at hok
  unfold Oper.wp
  rw [hrun]
  refine (h w hr).mono ?_
  rintro e w' ⟨v, S', rfl, hr', hp⟩
  exact ⟨v, S', rfl, hr', hp⟩

/-- a new row of nothing -/
theorem OW.bsl0 {E : TypeId} : OW P w0 n (.bsl0 E) T S (fun v S' => ∃ r, v = .slice (some ⟨r, 0, none⟩) 0 0 ∧ S' = [(r, .cells [] E 0)] :: S) := by
  intro op a w Q hco hs hr
  obtain ⟨t, l, qs, i, ho, rfl, hq, hu, hi⟩ := cOp_spec P hco
  have hq' : qs = #[] := by apply Array.toList_inj.1; simpa using hq
  subst hq'
  have hrun : (execOp a.eval op).run P w = .ok (.value (.slice (some ⟨w.heap.size, 0, none⟩) 0 0)) (w.alloc (.cells #[] E)) := by
    have hsz : (sizeOf E).run P w = .ok i.size w := by simp [sizeOf, typeInfo, program, hi, Sem.run]
    simp [execOp, ho, Instr.buildSlice, run_underlying hu, hsz, Instr.fill, newRow, newObj, Sem.run]
    rw [show Array.range 0 = #[] from by simp [Array.range], Array.map_empty]
  unfold Oper.wp
  rw [hrun]
  exact ⟨_, _, rfl, by simpa using hr.alloc #[] E, w.heap.size, rfl, rfl⟩

/-! ### a text put behind bytes -/
theorem strCells_bytesC (s : ByteArray) : Lib.strCells s = bytesC s.data.toList := by simp [Lib.strCells, bytesC]
theorem app_new_str {w : World} (t u ty e : TypeId) (i : TypeInfo) (ht : P.underlying t = some (.slice e)) (hu : P.underlying u = some .string) (hi : P.info? e = some i) (hz : i.zero = some (.int .u8 0)) (hsz : i.size = 1) (hby : i.bytes = 1)
    {base : Nat} (v : Value) (m : Nat) (xs : List Value) (hown : w.ownsRow base e 1 v m xs) (s : ByteArray) (hb : m + s.size ≤ 140737488355328) (hbase : base ≤ w.heap.size) :
    ∃ v' w', (Builtin.append_ #[t, u] ty #[v, .string s]).run P w = .ok v' w' ∧ w'.ownsRow base e 1 v' (m + s.size) (xs ++ Lib.strCells s) ∧ w.grownBy w' v.ownBlock ∧
      (∀ r, v'.ownBlock = some r → v.ownBlock = some r ∨ w.heap.size ≤ r) := by
  have h63 : m + s.size ≤ maxLen := by unfold maxLen; omega
  obtain ⟨v', w', hrun, ho, hg, hnil⟩ := Lib.run_append_own_string (P := P) w base t u ty e i ht hu hi hz hsz hby v m xs hown s h63 hb hbase
  refine ⟨v', w', hrun, ho, hg, fun r hr => ?_⟩
  obtain ⟨hxl, ⟨rfl, rfl⟩ | ⟨g, cap, cur, rfl, hbg, hgc, hnc, hcm, hcs, htake⟩⟩ := hown
  · by_cases hm : s.size = 0
    · rw [hnil.2 ⟨rfl, hm⟩] at hr
      simp [Value.ownBlock] at hr
    · have h2 := run_append_nil_string (P := P) w t u ty e i (.int .u8 0) ht hu hi hz s (by omega) (by omega) (by rw [hby]; omega)
      rw [h2] at hrun
      injection hrun with e1 e2
      subst e1
      simp [Value.ownBlock] at hr
      exact .inr (by omega)
  · by_cases hroom : m + s.size ≤ cap
    · have h2 := Lib.run_append_room_string (P := P) w t u ty e i ht hu hi hsz g m cap cur hgc s hroom (by omega)
      rw [h2] at hrun
      injection hrun with e1 e2
      subst e1
      exact .inl hr
    · have holds : ∀ j u, xs[j]? = some u → w.cell? ((⟨g, 0, none⟩ : Addr).add j) = some u := (show w.ownsRow base e 1 _ m xs from ⟨hxl, .inr ⟨g, cap, cur, rfl, hbg, hgc, hnc, hcm, hcs, htake⟩⟩).cells (g := g) rfl
      have h2 := Lib.run_append_grow_string (P := P) w t u ty e i (.int .u8 0) ht hu hi hz ⟨g, 0, none⟩ m cap xs (by rw [hsz]; exact hxl) holds s (by omega) (by omega) (growslice_fits (by omega) (by rw [hby]; omega))
      rw [h2] at hrun
      injection hrun with e1 e2
      subst e1
      simp [Value.ownBlock] at hr
      exact .inr (by omega)
theorem OW.appStr {t u E m k : Nat} {v : Value} {s x : PV} {xs : List Value} {seg : Seg} {st : ByteArray} (hs' : s.val T = some v) (hk : S[k]? = some seg) (hv : SlV E 1 v m xs seg)
    (hx : x.val T = some (.string st)) (hb : m + st.size ≤ 140737488355328) :
    OW P w0 n (.appStr t u E 1 (.int .u8 0) s x) T S (fun v' S' => ∃ seg', S' = S.set k seg' ∧ SlV E 1 v' (m + st.size) (xs ++ bytesC st.data.toList) seg') := by
  intro op ac w Q hco hs hr
  obtain ⟨y, y', cl, i, ho, hca, hat, har, rfl, rfl, ht, hu, hi, hz, hby, hzs, hsz⟩ := cOp_spec P hco
  obtain ⟨v', w', hrun, hown, hg, hnew⟩ := app_new_str (P := P) t u op.type E i ht hu hi hz hsz hby v m xs (hr.owns hk hv) st hb hr.base
  rw [strCells_bytesC] at hown
  obtain ⟨seg', hsl, hrep⟩ := hr.ofOwns hk hv hown hg hnew
  unfold Oper.wp
  have hrun' : (execOp ac.eval op).run P w = .ok (.value v') w' := by
    simp only [execOp, ho, resolve, hca, invoke, builtin, hat, har]
    simp [hs.eval hs', hs.eval hx, hrun]
  rw [hrun']
  exact ⟨v', _, rfl, hrep, seg', rfl, hsl⟩

/-- 'copy' into a row of the walk's own -/
theorem OW.cpy {E E' b o dl dc sl sc tot k : Nat} {d s : PV} {A : Option Addr} {c news : List Value} (hd : d.val T = some (.slice (some ⟨b, o, none⟩) dl dc)) (hs' : s.val T = some (.slice A sl sc)) (hk : S[k]? = some [(b, .cells c E' tot)])
    (hn : news.length = Nat.min sl dl) (hrd : Rd w0 S A news) (hb : o + news.length ≤ c.length) (h1 : news.all (·.oneCell') = true) :
    OW P w0 n (.cpy E 1 d s) T S (fun v S' => v = .int .i64 (news.length : Int) ∧ S' = S.set k [(b, .cells (setAt c o news) E' tot)]) := by
  intro op a w Q hco hs hr
  obtain ⟨t, u, y, z, cl, i, ho, hca, hat, har, rfl, rfl, hu, hi, hsz⟩ := cOp_spec P hco
  obtain ⟨hge, C, hC, htot, hpre⟩ := hr.own (b, .cells c E' tot) (List.mem_flatten.2 ⟨_, List.mem_of_getElem? hk, by simp⟩)
  simp only at hge hC
  have hlen : c.length ≤ C.size := by
    have := congrArg List.length hpre
    simp at this
    omega
  have hst := run_storeCells_at P b o E' news 0 C w hC (by omega) (fun v hv => (List.all_eq_true.1 h1) v hv)
  simp only [Nat.add_zero] at hst
  have hfirst : (Builtin.firstCells 1 (Nat.min sl dl) (.slice A sl sc)).run P w = .ok news.toArray w := by
    cases A with
    | none =>
      have : news = [] := by
        cases news with
        | nil => rfl
        | cons x r => obtain ⟨_, e, _⟩ := hrd 0 _ rfl; cases e
      subst this
      simp [Builtin.firstCells]
    | some a' =>
      have hl := run_loadCells_list (P := P) w a' news (fun j v hj => hr.cell (hrd.at hj))
      simp [Builtin.firstCells, ← hn, hl]
  unfold Oper.wp
  have hrun : (execOp a.eval op).run P w = .ok (.value (.int .i64 (news.length : Int))) (w.setRow b (C.toList.take o ++ news ++ C.toList.drop (o + news.length)).toArray) := by
    simp only [execOp, ho, resolve, hca, invoke, builtin, hat, har]
    simp [Builtin.copy_, hs.eval hd, hs.eval hs', run_underlying hu, Builtin.lenOf, sizeOf, typeInfo, program, Sem.run, hi, hsz, hfirst, hst, goInt]
    exact congrArg _ hn.symm
  rw [hrun]
  refine ⟨_, _, rfl, ?_, rfl, rfl⟩
  have hheap := setRow_heap w b C (C.toList.take o ++ news ++ C.toList.drop (o + news.length)).toArray E' (0, 0) hC
  refine hr.replace hk (below_setRow w b _ hge) (fun i _ hne => setRow_heap_other w b i _ (by simpa using hne)) (by simp) ?_
  intro p hp
  simp only [List.mem_singleton] at hp
  subst hp
  refine ⟨hge, ⟨_, hheap, ?_, ?_⟩, .inl (by simp)⟩
  · simp only [List.size_toArray, List.length_append, List.length_take, List.length_drop, Array.length_toList]; omega
  · rw [setAt_length, setAt_eq c o _ (by omega)]
    have := take_lay C.toList o news c.length (by omega) (by simp; omega)
    rw [hpre] at this
    simpa using this

/-! ### a result in a cell -/
/-- a function whose one result lies in a cell: the slot of its address; how many cells, where it is of more parts -/
def KnownC (P : Program) (k : FuncId) (pc : PC) (n s : Nat) (m : Option Nat) : Prop :=
  ∃ fn c t, P.funcs[k]? = some fn ∧ fn.body = some c ∧ cC P fn.ntmps c = some pc ∧ fn.ntmps = n ∧ fn.results = #[.cell s t] ∧ aggOf P t = some m
def ReadsAs (w0 : World) (S : SS) (m : Option Nat) (a : Addr) (v : Value) : Prop := match m with
  | none => Cell w0 S a v
  | some m => ∃ cs : List Value, v = .agg cs.toArray ∧ cs.length = m ∧ ∀ j u, cs[j]? = some u → Cell w0 S (a.add j) u
theorem FC.ofC {k : FuncId} {pc : PC} {s : Nat} {m : Option Nat} {args : List Value} {post : Value → SS → Prop} (hk : KnownC P k pc n s m) (hn : args.length ≤ n)
    (h : PW P w0 n pc (argT 0 args) S (fun e T' S' => (e = .normal ∨ e = .ret) ∧ ∃ a v, look T' s = some (.pointer (some a)) ∧ ReadsAs w0 S' m a v ∧ ∃ S'', Sub S'' S' ∧ post v S'')) : FC P w0 k args S post := by
  obtain ⟨fn, c, t, hf, hb, hc, rfl, hres, hm⟩ := hk
  intro w hw
  refine calls_of_wp hf hb (wp_mono (h c hc _ w (argT_sat hn) hw) ?_)
  rintro e a' w' ⟨T', S', hs', hr', he, a, v, hl, hv, S'', hsub, hp⟩
  have ht := hs'.get s _ hl
  have hload : (loadVar t a).run P w' = .ok v w' := by
    cases m with
    | none =>
      obtain ⟨d, hu, hd⟩ := aggOf_none hm
      have := hr'.cell hv
      simp [loadVar, run_isAgg hu, hd, load, Sem.run, this]
    | some m =>
      obtain ⟨cs, rfl, hcl, hcs⟩ := hv
      obtain ⟨d, i, hu, hd, hi, hsz⟩ := aggOf_some hm
      have hload := run_loadCells_list (P := P) w' a cs (fun j v hj => hr'.cell (hcs j v hj))
      rw [hcl] at hload
      simp [loadVar, run_isAgg hu, hd, sizeOf, typeInfo, program, hi, hsz, hload, Sem.run]
  have hrun : (results fn a'.tmps).run P w' = .ok v w' := by
    simp [results, hres, ht, asAddr, hload]
  rcases he with rfl | rfl
  · exact ⟨hs'.defers, v, hrun, v, S'', rfl, hr'.subS hsub, hp⟩
  · exact ⟨hs'.defers, v, hrun, v, S'', rfl, hr'.subS hsub, hp⟩
end
end Go.SL
