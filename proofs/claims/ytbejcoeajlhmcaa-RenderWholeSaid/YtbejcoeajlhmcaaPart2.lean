/- Walks and plain facts for the laws of this seat: what each function answers, for every input. -/
import Derived.Test.YtbejcoeajlhmcaaPart1
import Derived.Laws.IdiomStrings
import Derived.Laws.IdiomCopy
import Derived.Lib.AppendStr
import Derived.ChangeKeysEq
import Derived.RangeFuncLeaves
import Derived.RangeFuncRecord
import Derived.RangeFuncKeeps
import Derived.OrdersIn
import Derived.Lib.AppendZerosOnto
import Derived.Lib.Overlaps
set_option linter.unusedVariables false
set_option linter.unusedSimpArgs false
set_option linter.unusedSectionVars false

namespace Go.SL
open Go.RowKit
section
variable {P : Program} {w0 : World} {n : Nat} {T : TT} {S : SS}
theorem Rd.ro {r : Nat} {xs : List Value} (h : (r, AO.ro xs) ∈ S.flatten) : Rd w0 S (Option.some ⟨r, 0, none⟩) xs := by
 intro j v hj
 refine ⟨_, rfl, .inr (.inr ⟨xs, ?_, ?_, ?_⟩)⟩
 ·simpa [Addr.add_lit] using h
 ·simp [Addr.add_lit]
 ·simpa [Addr.add_lit] using hj
theorem Yields.nilc {x : PV} {a : Addr} (hx : x.val T = some (.pointer (some a))) : Yields P w0 n (.nilc x) T S (.pointer (some a)) := by
 intro o ac w hco hs hr
 obtain ⟨y, ho, rfl⟩ := cOp_spec P hco
 simp [execOp, ho, hs.eval hx]
theorem ptrB_spec {t : TypeId} (h : ptrB P t = true) : ∃ e, P.underlying t = some (.pointer e) := by
 unfold ptrB at h
 split at h
 ·exact ⟨_, by assumption⟩
 ·simp at h
theorem Yields.eqPn {neg : Bool} {x y : PV} {A : Option Addr} (hx : x.val T = some (.pointer A)) (hy : y.val T = some (.pointer none)) : Yields P w0 n (.eqP neg x y) T S (.bool (if neg then A.isSome else A.isNone)) := by
 intro o ac w hco hs hr
 obtain ⟨t, a, b, u, ho, rfl, rfl, hp⟩ := cOp_spec P hco
 obtain ⟨e, he⟩ := ptrB_spec hp
 have heq : (Op.equalIn 10000 t (.pointer A) (.pointer none)).run P w = .ok A.isNone w := by
  unfold Op.equalIn
  cases A <;> simp [run_underlying he]
 cases neg
 ·simp [execOp, ho, hs.eval hx, hs.eval hy, eqGuard, binOp, Op.equal, Op.maxDepth, heq]
 ·simp [execOp, ho, hs.eval hx, hs.eval hy, eqGuard, binOp, Op.equal, Op.maxDepth, heq]
def bytesC (l : List UInt8) : List Value := l.map fun b => .int .u8 (b.toNat : Int)
theorem bytesC_length (l : List UInt8) : (bytesC l).length = l.length := by simp [bytesC]
theorem bytesC_all (l : List UInt8) : (bytesC l).all (·.oneCell') = true := by
 rw [List.all_eq_true]
 intro u hu
 obtain ⟨b, _, rfl⟩ := List.mem_map.1 hu
 rfl
theorem Yields.strOf {x : PV} {A : Option Addr} {len cap : Nat} {l : List UInt8} (hx : x.val T = some (.slice A len cap)) (hl : l.length = len) (h : Rd w0 S A (bytesC l)) : Yields P w0 n (.strOf x) T S (.string ⟨l.toArray⟩) := by
 intro o ac w hco hs hr
 obtain ⟨s, t, a, e, ho, rfl, hs1, ht, he⟩ := cOp_spec P hco
 subst hl
 simp only [execOp, ho, hs.eval hx]
 cases A with
 | none =>
  have : l = [] := by
   cases l with
   | nil => rfl
   | cons b l => obtain ⟨_, e, _⟩ := h 0 _ rfl; cases e
  subst this
  rw [Sem.run_bind, run_convert_bytes_string w s t e none _ _ hs1 he ht]
  simp [Conv.bytesToString]
  rfl
 | some a' =>
  have := run_convert_bytes_back (P := P) w s t e a' cap l hs1 he ht (fun j hj => hr.cell (h.at (by simp [bytesC, hj])))
  rw [Sem.run_bind, this]
  simp
theorem OW.bytesOf {E : TypeId} {x : PV} {s : ByteArray} (hx : x.val T = some (.string s)) : OW P w0 n (.bytesOf E x) T S (fun v S' => ∃ r cap, v = .slice (some ⟨r, 0, none⟩) s.size cap ∧ s.size ≤ cap ∧ S' = [(r, .ro (bytesC s.data.toList))] :: S) := by
 intro op a w Q hco hs hr
 obtain ⟨u, t, y, ho, rfl, hs1, ht, he⟩ := cOp_spec P hco
 have hrun := run_bytes_of_string (P := P) w u t E s hs1 ht he
 have hex : (execOp a.eval op).run P w = .ok (.value (.slice (some ⟨w.heap.size, 0, none⟩) s.size (grownCap w s.size 0 E))) (w.drew.alloc (.cells (bytesRow s (grownCap w s.size 0 E)) E ((bytesRow s (grownCap w s.size 0 E)).size, (bytesRow s (grownCap w s.size 0 E)).size + 1))) := by
  simp only [execOp, ho, hs.eval hx]
  rw [Sem.run_bind, hrun]
  simp
 unfold Oper.wp
 rw [hex]
 refine ⟨_, _, rfl, ?_, w.heap.size, _, rfl, grownCap_ge .., rfl⟩
 have hb : Below w0.heap.size w (w.drew.alloc (.cells (bytesRow s (grownCap w s.size 0 E)) E ((bytesRow s (grownCap w s.size 0 E)).size, (bytesRow s (grownCap w s.size 0 E)).size + 1))) := (Below.refl _ w).drew.alloc hr.base _
 refine hr.push hb (fun i hi => alloc_heap_lt w.drew _ i hi) (by simp) ?_
 intro p hp
 simp only [List.mem_singleton] at hp
 subst hp
 refine ⟨?_, Nat.le_refl _⟩
 refine ⟨_, _, _, alloc_heap_new w.drew _, ?_⟩
 simp only [bytesRow, bytesC, Array.toList_append, Array.toList_map, List.length_map]
 have : (List.map (fun b : UInt8 => Value.int .u8 (b.toNat : Int)) s.data.toList).length = s.data.toList.length := by simp
 rw [← this, List.take_left']
 simp
theorem Yields.slA {len : Nat} {x : PV} {a : Addr} (hx : x.val T = some (.pointer (some a))) : Yields P w0 n (.slA len x) T S (.slice (some a) len len) := by
 intro o ac w hco hs hr
 obtain ⟨t, y, e, ie, ho, rfl, hu, hi⟩ := cOp_spec P hco
 have hb := run_bounds (P := P) false len len none none 0 len (.inr ⟨rfl, rfl⟩) (.inr ⟨rfl, rfl⟩) (Nat.zero_le _) (Nat.le_refl _) w
 have hsz : (sizeOf e).run P w = .ok ie.size w := by simp [sizeOf, typeInfo, program, hi, Sem.run]
 simp only [execOp, ho, hs.eval hx, Instr.sliceAt, Option.map_none]
 simp [run_underlying hu, Instr.sureAddr, hb, hsz]
 cases len <;> simp [Addr.add]
theorem Yields.ixA {len sz j : Nat} {x i : PV} {a : Addr} {k : IntKind} {z : Int} (hx : x.val T = some (.pointer (some a))) (hi : i.val T = some (.int k z)) (hz : z = (j : Int)) (h : j < len) : Yields P w0 n (.ixA len sz x i) T S (.pointer (some (a.add (j * sz)))) := by
 intro o ac w hco hs hr
 obtain ⟨t, y, y2, e, ie, ho, rfl, rfl, hu, hie, rfl⟩ := cOp_spec P hco
 subst hz
 have hsz : (sizeOf e).run P w = .ok ie.size w := by simp [sizeOf, typeInfo, program, hie, Sem.run]
 simp only [execOp, ho, hs.eval hx, hs.eval hi, Instr.indexAt]
 simp [run_underlying hu, Instr.sureAddr, asIntOf, hsz, h]
theorem Yields.mkF {f : FuncId} {caps : List PV} {vs : List Value} (hv : valsP T caps = some vs) : Yields P w0 n (.mkF f caps) T S (.func (.func f) #[] vs.toArray) := by
 intro o ac w hco hs hr
 obtain ⟨fi, cs, ho, hfi, rfl⟩ := cOp_spec P hco
 have hfi' : fi = #[] := by apply Array.toList_inj.1; simpa using hfi
 subst hfi'
 have hargs : cs.map ac.eval = vs.toArray := by
  have := valsP_spec hs hv
  rw [← this, ← Array.toArray_toList (xs := cs.map ac.eval), Array.toList_map]
 simp [execOp, ho, Instr.makeFunc, hargs]
theorem OW.callv {f : PV} {g : FuncId} {args : List PV} {fi ca : List Value} {vs : List Value} {post : Value → SS → Prop} (hf : f.val T = some (.func (.func g) fi.toArray ca.toArray)) (hok : fnOk P g = true) (hv : valsP T args = some vs)
  (h : FC P w0 g (fi ++ vs ++ ca) S post) : OW P w0 n (.callv f args) T S post := by
 intro op ac w Q hco hs hr
 obtain ⟨cl, y, ho, hca, rfl, rfl⟩ := cOp_spec P hco
 have hargs : cl.args.map ac.eval = vs.toArray := by
  have := valsP_spec hs hv
  rw [← this, ← Array.toArray_toList (xs := cl.args.map ac.eval), Array.toList_map]
 have hrun : (execOp ac.eval op).run P w = .ok (.enter g (fi ++ vs ++ ca).toArray) w := by
  unfold fnOk at hok
  split at hok
  ·rename_i fn hfn
   simp only [Bool.and_eq_true, bne_iff_ne, ne_eq] at hok
   have hb : ¬ fn.body = none := by intro hh; simp [hh] at hok
   simp only [execOp, ho, resolve, hca, hs.eval hf, Deferred.ofValue]
   simp [invoke, callFunc, program, Sem.run, hfn, hok.1, hb, hargs]
  ·simp at hok
 unfold Oper.wp
 rw [hrun]
 refine (h w hr).mono ?_
 rintro e w' ⟨v, S', rfl, hr', hp⟩
 exact ⟨v, S', rfl, hr', hp⟩
theorem OW.bsl0 {E : TypeId} : OW P w0 n (.bsl0 E) T S (fun v S' => ∃ r, v = .slice (some ⟨r, 0, none⟩) 0 0 ∧ S' = [(r, .cells [] E 0)] :: S) := by
 intro op a w Q hco hs hr
 obtain ⟨t, l, qs, i, ho, rfl, hq, hu, hi⟩ := cOp_spec P hco
 have hq' : qs = #[] := by apply Array.toList_inj.1; simpa using hq
 subst hq'
 have hrun : (execOp a.eval op).run P w = .ok (.value (.slice (some ⟨w.heap.size, 0, none⟩) 0 0)) (w.alloc (.cells #[] E)) := by
  have hsz : (sizeOf E).run P w = .ok i.size w := by simp [sizeOf, typeInfo, program, hi, Sem.run]
  simp [execOp, ho, Instr.buildSlice, run_underlying hu, hsz, Instr.fill, newRow, newObj, Sem.run]
  rw [show Array.range 0 = #[] from by simp [Array.range], Array.map_empty]
 unfold Oper.wp
 rw [hrun]
 exact ⟨_, _, rfl, by simpa using hr.alloc #[] E, w.heap.size, rfl, rfl⟩
theorem strCells_bytesC (s : ByteArray) : Lib.strCells s = bytesC s.data.toList := by simp [Lib.strCells, bytesC]
theorem app_new_str {w : World} (t u ty e : TypeId) (i : TypeInfo) (ht : P.underlying t = some (.slice e)) (hu : P.underlying u = some .string) (hi : P.info? e = some i) (hz : i.zero = some (.int .u8 0)) (hsz : i.size = 1) (hby : i.bytes = 1)
  {base : Nat} (v : Value) (m : Nat) (xs : List Value) (hown : w.ownsRow base e 1 v m xs) (s : ByteArray) (hb : m + s.size ≤ 140737488355328) (hbase : base ≤ w.heap.size) :
  ∃ v' w', (Builtin.append_ #[t, u] ty #[v, .string s]).run P w = .ok v' w' ∧ w'.ownsRow base e 1 v' (m + s.size) (xs ++ Lib.strCells s) ∧ w.grownBy w' v.ownBlock ∧
   (∀ r, v'.ownBlock = some r → v.ownBlock = some r ∨ w.heap.size ≤ r) := by
 have h63 : m + s.size ≤ maxLen := by unfold maxLen; omega
 obtain ⟨v', w', hrun, ho, hg, hnil⟩ := Lib.run_append_own_string (P := P) w base t u ty e i ht hu hi hz hsz hby v m xs hown s h63 hb hbase
 refine ⟨v', w', hrun, ho, hg, fun r hr => ?_⟩
 obtain ⟨hxl, ⟨rfl, rfl⟩ | ⟨g, cap, cur, rfl, hbg, hgc, hnc, hcm, hcs, htake⟩⟩ := hown
 ·by_cases hm : s.size = 0
  ·rw [hnil.2 ⟨rfl, hm⟩] at hr
   simp [Value.ownBlock] at hr
  ·have h2 := run_append_nil_string (P := P) w t u ty e i (.int .u8 0) ht hu hi hz s (by omega) (by omega) (by rw [hby]; omega)
   rw [h2] at hrun
   injection hrun with e1 e2
   subst e1
   simp [Value.ownBlock] at hr
   exact .inr (by omega)
 ·by_cases hroom : m + s.size ≤ cap
  ·have h2 := Lib.run_append_room_string (P := P) w t u ty e i ht hu hi hsz g m cap cur hgc s hroom (by omega)
   rw [h2] at hrun
   injection hrun with e1 e2
   subst e1
   exact .inl hr
  ·have holds : ∀ j u, xs[j]? = some u → w.cell? ((⟨g, 0, none⟩ : Addr).add j) = some u := (show w.ownsRow base e 1 _ m xs from ⟨hxl, .inr ⟨g, cap, cur, rfl, hbg, hgc, hnc, hcm, hcs, htake⟩⟩).cells (g := g) rfl
   have h2 := Lib.run_append_grow_string (P := P) w t u ty e i (.int .u8 0) ht hu hi hz ⟨g, 0, none⟩ m cap xs (by rw [hsz]; exact hxl) holds s (by omega) (by omega) (growslice_fits (by omega) (by rw [hby]; omega))
   rw [h2] at hrun
   injection hrun with e1 e2
   subst e1
   simp [Value.ownBlock] at hr
   exact .inr (by omega)
theorem OW.appStr {t u E m k : Nat} {v : Value} {s x : PV} {xs : List Value} {seg : Seg} {st : ByteArray} (hs' : s.val T = some v) (hk : S[k]? = some seg) (hv : SlV E 1 v m xs seg)
  (hx : x.val T = some (.string st)) (hb : m + st.size ≤ 140737488355328) :
  OW P w0 n (.appStr t u E 1 (.int .u8 0) s x) T S (fun v' S' => ∃ seg', S' = S.set k seg' ∧ SlV E 1 v' (m + st.size) (xs ++ bytesC st.data.toList) seg') := by
 intro op ac w Q hco hs hr
 obtain ⟨y, y', cl, i, ho, hca, hat, har, rfl, rfl, ht, hu, hi, hz, hby, hzs, hsz⟩ := cOp_spec P hco
 obtain ⟨v', w', hrun, hown, hg, hnew⟩ := app_new_str (P := P) t u op.type E i ht hu hi hz hsz hby v m xs (hr.owns hk hv) st hb hr.base
 rw [strCells_bytesC] at hown
 obtain ⟨seg', hsl, hrep⟩ := hr.ofOwns hk hv hown hg hnew
 unfold Oper.wp
 have hrun' : (execOp ac.eval op).run P w = .ok (.value v') w' := by
  simp only [execOp, ho, resolve, hca, invoke, builtin, hat, har]
  simp [hs.eval hs', hs.eval hx, hrun]
 rw [hrun']
 exact ⟨v', _, rfl, hrep, seg', rfl, hsl⟩
theorem OW.cpy {E E' b o dl dc sl sc tot k : Nat} {d s : PV} {A : Option Addr} {c news : List Value} (hd : d.val T = some (.slice (some ⟨b, o, none⟩) dl dc)) (hs' : s.val T = some (.slice A sl sc)) (hk : S[k]? = some [(b, .cells c E' tot)])
  (hn : news.length = Nat.min sl dl) (hrd : Rd w0 S A news) (hb : o + news.length ≤ c.length) (h1 : news.all (·.oneCell') = true) :
  OW P w0 n (.cpy E 1 d s) T S (fun v S' => v = .int .i64 (news.length : Int) ∧ S' = S.set k [(b, .cells (setAt c o news) E' tot)]) := by
 intro op a w Q hco hs hr
 obtain ⟨t, u, y, z, cl, i, ho, hca, hat, har, rfl, rfl, hu, hi, hsz⟩ := cOp_spec P hco
 obtain ⟨hge, C, hC, htot, hpre⟩ := hr.own (b, .cells c E' tot) (List.mem_flatten.2 ⟨_, List.mem_of_getElem? hk, by simp⟩)
 simp only at hge hC
 have hlen : c.length ≤ C.size := by
  have := congrArg List.length hpre
  simp at this
  omega
 have hst := run_storeCells_at P b o E' news 0 C w hC (by omega) (fun v hv => (List.all_eq_true.1 h1) v hv)
 simp only [Nat.add_zero] at hst
 have hfirst : (Builtin.firstCells 1 (Nat.min sl dl) (.slice A sl sc)).run P w = .ok news.toArray w := by
  cases A with
  | none =>
   have : news = [] := by
    cases news with
    | nil => rfl
    | cons x r => obtain ⟨_, e, _⟩ := hrd 0 _ rfl; cases e
   subst this
   simp [Builtin.firstCells]
  | some a' =>
   have hl := run_loadCells_list (P := P) w a' news (fun j v hj => hr.cell (hrd.at hj))
   simp [Builtin.firstCells, ← hn, hl]
 unfold Oper.wp
 have hrun : (execOp a.eval op).run P w = .ok (.value (.int .i64 (news.length : Int))) (w.setRow b (C.toList.take o ++ news ++ C.toList.drop (o + news.length)).toArray) := by
  simp only [execOp, ho, resolve, hca, invoke, builtin, hat, har]
  simp [Builtin.copy_, hs.eval hd, hs.eval hs', run_underlying hu, Builtin.lenOf, sizeOf, typeInfo, program, Sem.run, hi, hsz, hfirst, hst, goInt]
  exact congrArg _ hn.symm
 rw [hrun]
 refine ⟨_, _, rfl, ?_, rfl, rfl⟩
 have hheap := setRow_heap w b C (C.toList.take o ++ news ++ C.toList.drop (o + news.length)).toArray E' (0, 0) hC
 refine hr.replace hk (below_setRow w b _ hge) (fun i _ hne => setRow_heap_other w b i _ (by simpa using hne)) (by simp) ?_
 intro p hp
 simp only [List.mem_singleton] at hp
 subst hp
 refine ⟨hge, ⟨_, hheap, ?_, ?_⟩, .inl (by simp)⟩
 ·simp only [List.size_toArray, List.length_append, List.length_take, List.length_drop, Array.length_toList]; omega
 ·rw [setAt_length, setAt_eq c o _ (by omega)]
  have := take_lay C.toList o news c.length (by omega) (by simp; omega)
  rw [hpre] at this
  simpa using this
def KnownC (P : Program) (k : FuncId) (pc : PC) (n s : Nat) (m : Option Nat) : Prop :=
 ∃ fn c t, P.funcs[k]? = some fn ∧ fn.body = some c ∧ cC P fn.ntmps c = some pc ∧ fn.ntmps = n ∧ fn.results = #[.cell s t] ∧ aggOf P t = some m
def ReadsAs (w0 : World) (S : SS) (m : Option Nat) (a : Addr) (v : Value) : Prop := match m with
 | none => Cell w0 S a v
 | some m => ∃ cs : List Value, v = .agg cs.toArray ∧ cs.length = m ∧ ∀ j u, cs[j]? = some u → Cell w0 S (a.add j) u
theorem FC.ofC {k : FuncId} {pc : PC} {s : Nat} {m : Option Nat} {args : List Value} {post : Value → SS → Prop} (hk : KnownC P k pc n s m) (hn : args.length ≤ n)
  (h : PW P w0 n pc (argT 0 args) S (fun e T' S' => (e = .normal ∨ e = .ret) ∧ ∃ a v, look T' s = some (.pointer (some a)) ∧ ReadsAs w0 S' m a v ∧ ∃ S'', Sub S'' S' ∧ post v S'')) : FC P w0 k args S post := by
 obtain ⟨fn, c, t, hf, hb, hc, rfl, hres, hm⟩ := hk
 intro w hw
 refine calls_of_wp hf hb (wp_mono (h c hc _ w (argT_sat hn) hw) ?_)
 rintro e a' w' ⟨T', S', hs', hr', he, a, v, hl, hv, S'', hsub, hp⟩
 have ht := hs'.get s _ hl
 have hload : (loadVar t a).run P w' = .ok v w' := by
  cases m with
  | none =>
   obtain ⟨d, hu, hd⟩ := aggOf_none hm
   have := hr'.cell hv
   simp [loadVar, run_isAgg hu, hd, load, Sem.run, this]
  | some m =>
   obtain ⟨cs, rfl, hcl, hcs⟩ := hv
   obtain ⟨d, i, hu, hd, hi, hsz⟩ := aggOf_some hm
   have hload := run_loadCells_list (P := P) w' a cs (fun j v hj => hr'.cell (hcs j v hj))
   rw [hcl] at hload
   simp [loadVar, run_isAgg hu, hd, sizeOf, typeInfo, program, hi, hsz, hload, Sem.run]
 have hrun : (results fn a'.tmps).run P w' = .ok v w' := by
  simp [results, hres, ht, asAddr, hload]
 rcases he with rfl | rfl
 ·exact ⟨hs'.defers, v, hrun, v, S'', rfl, hr'.subS hsub, hp⟩
 ·exact ⟨hs'.defers, v, hrun, v, S'', rfl, hr'.subS hsub, hp⟩
end
end Go.SL

namespace Go.SL
open Go.RowKit
section
variable {P : Program} {w0 : World} {n : Nat} {T : TT} {S : SS}
theorem Yields.binRaw {op : BinOp} {x y : PV} {u v r : Value} (hx : x.val T = some u) (hy : y.val T = some v) (hg : ∀ t a b w, (eqGuard op t a b u v).run P w = .ok () w) (h : ∀ t w, (binOp op t u v).run P w = .ok r w) : Yields P w0 n (.bin op x y) T S r := by
 intro o ac w hco hs hr
 obtain ⟨t, c, d, z, ho, rfl, rfl, hp⟩ := cOp_spec P hco
 simp only [execOp, ho, hs.eval hx, hs.eval hy]
 simp [hg, h]
theorem Yields.quo {x y : PV} {k : IntKind} {a b : Int} (hx : x.val T = some (.int k a)) (hy : y.val T = some (.int k b)) (hb : b ≠ 0) : Yields P w0 n (.bin .quo x y) T S (.int k (k.wrap (a.tdiv b))) :=
 Yields.binRaw hx hy (fun t a b w => by simp [eqGuard]) (fun t w => by simp [binOp, Op.intDiv, hb])
theorem Yields.rem {x y : PV} {k : IntKind} {a b : Int} (hx : x.val T = some (.int k a)) (hy : y.val T = some (.int k b)) (hb : b ≠ 0) : Yields P w0 n (.bin .rem x y) T S (.int k (a.tmod b)) :=
 Yields.binRaw hx hy (fun t a b w => by simp [eqGuard]) (fun t w => by simp [binOp, Op.intDiv, hb])
end
end Go.SL

namespace Go.SL
open Go.RowKit
section
variable {P : Program} {w0 : World} {n : Nat} {T : TT} {S : SS}
inductive QLs (P : Program) (w0 : World) (n : Nat) (Ss : SS → Prop) : List PI → TT → TT → List Value → Prop
  | nil {T : TT} : QLs P w0 n Ss [] T T []
  | step {T T' : TT} {d : Option Nat} {g : Option (Nat × Bool)} {po : PO} {v : Value} {r : List PI} {vs : List Value} (hg : gOk T g) (h : ∀ S, Ss S → OW P w0 n po T S (fun v' S' => v' = v ∧ S' = S)) (k : QLs P w0 n Ss r (put d v T) T' vs) : QLs P w0 n Ss (⟨d, g, po⟩ :: r) T T' (v :: vs)
  | off {T T' : TT} {d : Option Nat} {s : Nat} {b : Bool} {u : Value} {po : PO} {r : List PI} {vs : List Value} (hl : look T s = some u) (hc : (boolOf u == some b) = false) (k : QLs P w0 n Ss r (put d undef T) T' vs) : QLs P w0 n Ss (⟨d, some (s, b), po⟩ :: r) T T' (undef :: vs)
theorem QLs.trace {ops : Array Oper} {Ss : SS → Prop} {l : List PI} {T T' : TT} {vals : List Value} (h : QLs P w0 n Ss l T T' vals) : ∀ s a, cIs P n ops (List.range' s l.length) = some l → Sat n T a →
    vals.length = l.length ∧ Sat n T' (runA ops (fun i => vals.getD (i - s) undef) s l.length a) ∧ (∀ j, j < l.length → ∀ S, Ss S → GivesAt P w0 S ops (s + j) (vals.getD j undef) (runA ops (fun i => vals.getD (i - s) undef) s j a)) ∧ (∀ j o, j < l.length → ops[s + j]? = some o → dstOk n o.dst = true) ∧ (∀ j, j < l.length → ∀ x, l[j]? = some x → x.d = dstAt ops (s + j)) := by
  have shift : ∀ (v : Value) (vs : List Value) (s m : Nat) (a : Act) (o : Oper), ops[s]? = some o → runA ops (fun i => (v :: vs).getD (i - s) undef) s (m + 1) a = runA ops (fun i => vs.getD (i - (s + 1)) undef) (s + 1) m (a.put o.dst v) := by
    intro v vs s m a o ho
    have hda : dstAt ops s = o.dst := by simp [dstAt, ho]
    unfold runA
    rw [List.range'_succ, List.foldl_cons]
    simp only [Nat.sub_self, List.getD_cons_zero, hda]
    refine foldl_ext' _ _ _ _ fun b j hj => ?_
    have : s + 1 ≤ j := by have := List.mem_range'.1 hj; omega
    rw [show j - s = (j - (s + 1)) + 1 by omega, List.getD_cons_succ]
  induction h with
  | nil => intro s a _ hs; exact ⟨rfl, by simpa [runA] using hs, fun j hj => by simp at hj, fun j o hj => by simp at hj, fun j hj => by simp at hj⟩
  | @step T T' d g po v r vs hg h k ih =>
    intro s a hc hs
    simp only [List.length_cons, List.range'_succ] at hc
    obtain ⟨i, is, he, hi, hrest⟩ := cIs_cons hc
    simp only [List.cons.injEq] at he
    obtain ⟨rfl, rfl⟩ := he
    obtain ⟨o, ho, hpo, hd, hdst, hgd⟩ := cI_spec hi
    simp only at hpo hdst
    subst hdst
    obtain ⟨h0, h1, h2, h3, h4⟩ := ih (s + 1) _ hrest (hs.put hd v)
    refine ⟨by simp [h0], by rw [List.length_cons, shift v vs s _ a o ho]; exact h1, ?_, ?_, ?_⟩
    · intro j hj S hS
      cases j with
      | zero =>
        intro o' ho'
        obtain rfl : o = o' := by rw [Nat.add_zero, ho] at ho'; exact Option.some.inj ho'
        left
        simp only [runA, List.range'_zero, List.foldl_nil, List.getD_cons_zero]
        refine ⟨?_, fun w hr => ?_⟩
        · rcases hgd with ⟨hgd, _⟩ | ⟨j, b, s', hgd, hjj, he⟩
          · simp [Region.wanted, hgd]
          · simp only at he
            subst he
            simp [Region.wanted, hgd, hs.yielded hjj hg]
        · refine Oper.wp_mono ?_ (h S hS o a w _ hpo hs hr)
          rintro b w' ⟨v', S', rfl, hr', rfl, rfl⟩
          exact ⟨rfl, hr'⟩
      | succ j =>
        rw [shift v vs s _ a o ho, List.getD_cons_succ]
        have := h2 j (by simpa using hj) S hS
        rwa [show s + 1 + j = s + (j + 1) by omega] at this
    · intro j o' hj ho'
      cases j with
      | zero => obtain rfl : o = o' := by rw [Nat.add_zero, ho] at ho'; exact Option.some.inj ho'
                exact hd
      | succ j => exact h3 j o' (by simpa using hj) (by rwa [show s + 1 + j = s + (j + 1) by omega])
    · intro j hj x hx
      cases j with
      | zero => simp at hx; subst hx; simp [dstAt, ho]
      | succ j => have := h4 j (by simpa using hj) x (by simpa using hx); rwa [show s + 1 + j = s + (j + 1) by omega] at this
  | @off T T' d sl b u po r vs hl hcb k ih =>
    intro s a hc hs
    simp only [List.length_cons, List.range'_succ] at hc
    obtain ⟨i, is, he, hi, hrest⟩ := cIs_cons hc
    simp only [List.cons.injEq] at he
    obtain ⟨rfl, rfl⟩ := he
    obtain ⟨o, ho, hpo, hd, hdst, hgd⟩ := cI_spec hi
    simp only at hpo hdst
    subst hdst
    obtain ⟨h0, h1, h2, h3, h4⟩ := ih (s + 1) _ hrest (hs.put hd undef)
    refine ⟨by simp [h0], by rw [List.length_cons, shift undef vs s _ a o ho]; exact h1, ?_, ?_, ?_⟩
    · intro j hj S hS
      cases j with
      | zero =>
        intro o' ho'
        obtain rfl : o = o' := by rw [Nat.add_zero, ho] at ho'; exact Option.some.inj ho'
        right
        refine ⟨?_, by simp⟩
        simp only [runA, List.range'_zero, List.foldl_nil]
        rcases hgd with ⟨_, hgd⟩ | ⟨j, b', s', hgd, hjj, he⟩
        · simp at hgd
        · simp only [Option.some.injEq, Prod.mk.injEq] at he
          obtain ⟨rfl, rfl⟩ := he
          simp only [Region.wanted, hgd, hs.yieldedV hjj hl]; exact hcb
      | succ j =>
        rw [shift undef vs s _ a o ho, List.getD_cons_succ]
        have := h2 j (by simpa using hj) S hS
        rwa [show s + 1 + j = s + (j + 1) by omega] at this
    · intro j o' hj ho'
      cases j with
      | zero => obtain rfl : o = o' := by rw [Nat.add_zero, ho] at ho'; exact Option.some.inj ho'
                exact hd
      | succ j => exact h3 j o' (by simpa using hj) (by rwa [show s + 1 + j = s + (j + 1) by omega])
    · intro j hj x hx
      cases j with
      | zero => simp at hx; subst hx; simp [dstAt, ho]
      | succ j => have := h4 j (by simpa using hj) x (by simpa using hx); rwa [show s + 1 + j = s + (j + 1) by omega] at this
theorem wp_transfer_any {o : Oper} {a a' : Act} {w : World} {R : Value → SS → World → Prop} {Q : Exit → Act → World → Prop} (he : execOp a.eval o = execOp a'.eval o) (hn : a.tmps.size = a'.tmps.size) (hd : dstOk a.tmps.size o.dst = true)
    (hdf : a.defers = [])
    (h : o.wp P a w (fun b w' => ∃ v S', b = a.put o.dst v ∧ R v S' w') (fun _ _ _ => False)) : o.wp P a' w (fun b w' => ∃ v S', b = a'.put o.dst v ∧ R v S' w') Q := by
  have put_eq : ∀ x v : Value, a.put o.dst x = a.put o.dst v → a'.put o.dst x = a'.put o.dst v := by
    intro x v hx
    cases hdst : o.dst with
    | none => rfl
    | some d =>
      rw [hdst] at hx hd
      simp only [dstOk, decide_eq_true_eq] at hd
      have : x = v := by
        have := congrArg (fun b : Act => b.tmps[d]?) hx
        simpa [Act.put, hd] using this
      rw [this]
  unfold Oper.wp at *
  rw [← he]
  generalize (execOp a.eval o).run P w = r at *
  cases r with
  | ok x w' =>
    cases x <;> simp only [Oper.upon] at h ⊢
    case value x => obtain ⟨v, S', h1, h2⟩ := h; exact ⟨v, S', put_eq _ _ h1, h2⟩
    case skip => obtain ⟨v, S', h1, h2⟩ := h; exact ⟨v, S', put_eq _ _ h1, h2⟩
    case defer d =>
      exfalso
      obtain ⟨v, S', h1, h2⟩ := h
      have := congrArg Act.defers h1
      cases hdst : o.dst <;> simp [Act.put, hdst, hdf] at this
    case enter f args =>
      refine h.mono ?_
      intro e w'' he
      cases e with
      | returned x => obtain ⟨v, S', h1, h2⟩ := he; exact ⟨v, S', put_eq _ _ h1, h2⟩
      | panicked c => exact he.elim
      | outgrown => obtain ⟨_, _, hf⟩ := he; exact hf.elim
    case row row args => exact h.mono fun v w'' ⟨v', S', h1, h2⟩ => ⟨v', S', put_eq _ _ h1, h2⟩
    all_goals exact h.elim
  | halt x w' => cases x <;> simp only [Oper.upon] at h ⊢
set_option maxHeartbeats 4000000 in
theorem PW.quiet1 {k d : Nat} {l A B : List PI} {c : PI} {Q : Exit → TT → SS → Prop} {T1 T2 : TT} {va vb : List Value} {Ss : SS → Prop} {K : Value → SS → Prop} (hm : P.follows .mixedOrders = true) (hl : l.take k = A ++ c :: B) (hcg : c.g = none) (hd : c.d = some d)
    (hcm : ∀ x, c.o ≠ .mov x) (hB : B.all (fun x => x.d != some d) = true) (hA : QLs P w0 n Ss A T T1 va) (hc2x : OW P w0 n c.o T1 S K) (hSs : Ss S) (hK : ∀ v S', K v S' → Ss S') (hBq : QLs P w0 n Ss B (SL.del (some d) T1) T2 vb)
    (h4 : ∀ v S', K v S' → OL P w0 n (l.drop k) ((d, v) :: T2) S' (Q .normal)) : PW P w0 n (.quiet k l) T S Q := by
  intro c hc a w hs hr
  cases c
  case region id ops dr =>
    cases dr with
    | false => simp [cC] at hc
    | true =>
      simp only [cC] at hc
      split at hc
      case isFalse => simp at hc
      rename_i hcond
      simp only [Bool.and_eq_true] at hcond
      obtain ⟨⟨⟨hap, hback⟩, hsel⟩, hhoist⟩ := hcond
      simp only [Option.map_eq_some_iff] at hc
      obtain ⟨l', hcis, hmk⟩ := hc
      obtain ⟨rfl, rfl⟩ := mkQ_quiet hmk
      obtain ⟨hhead, hkle⟩ := headOf_spec ops (hoists ops) ops.size (Nat.le_refl _)
      change headB ops ((hoists ops).filter (· < quietAt ops)) (quietAt ops) = true at hhead
      change quietAt ops ≤ ops.size at hkle
      generalize hk : quietAt ops = k at *
      generalize hH : (hoists ops).filter (· < k) = Hs at *
      have hHk : ∀ i ∈ Hs, i < k := fun i hi => by rw [← hH] at hi; simpa using (List.mem_filter.1 hi).2
      have hsplit : List.range ops.size = List.range' 0 k ++ List.range' k (ops.size - k) := by
        rw [List.range_eq_range']
        have := List.range'_append (s := 0) (m := k) (n := ops.size - k) (step := 1)
        simp only [Nat.one_mul, Nat.zero_add] at this
        rw [this]
        congr 1
        omega
      rw [hsplit] at hcis
      obtain ⟨hc1, hc2⟩ := cIs_append hcis
      simp only [List.length_range'] at hc1 hc2
      have hlen : (l'.take k).length = k := by simpa using cIs_length hc1
      rw [hl] at hc1 hlen
      simp only [List.length_append, List.length_cons] at hlen
      have hpk : A.length < k := by omega
      have hra : List.range' 0 k = List.range' 0 A.length ++ (A.length :: List.range' (A.length + 1) B.length) := by
        have h1 := List.range'_append (s := 0) (m := A.length) (n := B.length + 1) (step := 1)
        simp only [Nat.one_mul, Nat.zero_add, List.range'_succ] at h1
        rw [show k = A.length + (B.length + 1) by omega, ← h1]
      rw [hra] at hc1
      obtain ⟨hcA, hcR⟩ := cIs_append hc1
      simp only [List.length_range', List.take_left', List.drop_left'] at hcA hcR
      obtain ⟨ic, isc, hce, hci, hcB⟩ := cIs_cons hcR
      simp only [List.cons.injEq] at hce
      obtain ⟨rfl, rfl⟩ := hce
      obtain ⟨oc, hoc, hpoc, hdc, hdstc, hgdc⟩ := cI_spec hci
      obtain ⟨hla, hsA, hgA, hdA⟩ := hA.trace 0 a hcA hs
      simp only [Nat.zero_add, Nat.sub_zero] at hsA hgA hdA
      let vs : Value → Nat → Value := fun u i => (va ++ u :: vb).getD i undef
      have hvA : ∀ u i, i < A.length → vs u i = va.getD i undef := by
        intro u i hi
        simp only [vs, List.getD_eq_getElem?_getD]
        rw [List.getElem?_append_left (by omega)]
      have hrunA : ∀ u m, m ≤ A.length → runA ops (vs u) 0 m a = runA ops (fun i => va.getD i undef) 0 m a := fun u m hm' =>
        foldl_ext' _ _ _ _ fun b j hj => by
          have := List.mem_range'.1 hj
          rw [hvA u j (by omega)]
      have hoc' : dstAt ops A.length = some d := by rw [← hd, ← hdstc]; simp [dstAt, hoc]
      have hrunC : ∀ u, runA ops (vs u) 0 (A.length + 1) a = (runA ops (vs u) 0 A.length a).put (some d) u := by
        intro u
        have e2 : runA ops (vs u) 0 (A.length + 1) a = (runA ops (vs u) 0 A.length a).put (dstAt ops A.length) (vs u A.length) := by
          simp [runA, List.range'_concat]
        rw [e2, hoc']
        simp only [vs, List.getD_eq_getElem?_getD]
        rw [List.getElem?_append_right (by omega), hla]
        simp
      have hsC : ∀ u, Sat n T1 (runA ops (vs u) 0 A.length a) := fun u => by rw [hrunA u _ (Nat.le_refl _)]; exact hsA
      have hdok : dstOk n (some d) = true := by rw [← hd, ← hdstc]; exact hdc
      have hB' : ∀ u, _ := fun u => hBq.trace (A.length + 1) (runA ops (vs u) 0 (A.length + 1) a) hcB (by rw [hrunC u]; exact (hsC u).del u)
      have hrunB : ∀ u m, m ≤ B.length → runA ops (vs u) 0 (A.length + 1 + m) a = runA ops (fun i => vb.getD (i - (A.length + 1)) undef) (A.length + 1) m (runA ops (vs u) 0 (A.length + 1) a) := by
        intro u m hm'
        have h1 := List.range'_append (s := 0) (m := A.length + 1) (n := m) (step := 1)
        simp only [Nat.one_mul, Nat.zero_add] at h1
        unfold runA
        rw [← h1, List.foldl_append]
        refine foldl_ext' _ _ _ _ fun b j hj => ?_
        have := List.mem_range'.1 hj
        have e : vs u j = vb.getD (j - (A.length + 1)) undef := by
          simp only [vs, List.getD_eq_getElem?_getD]
          rw [List.getElem?_append_right (by omega), hla, show j - A.length = (j - (A.length + 1)) + 1 by omega, List.getElem?_cons_succ]
        rw [e]
      have hkB : k = A.length + 1 + B.length := by omega
      have hsat' : ∀ u, Sat n ((d, u) :: T2) (runA ops (vs u) 0 k a) := by
        intro u
        have h2 := (hB' u).2.1
        rw [hkB, hrunB u _ (Nat.le_refl _)]
        refine ⟨h2.size, h2.defers, fun i v hv => ?_⟩
        by_cases e : d = i
        · subst e
          rw [look_put_same] at hv
          obtain rfl := Option.some.inj hv
          have hother : ∀ m, m ≤ B.length → (runA ops (fun i => vb.getD (i - (A.length + 1)) undef) (A.length + 1) m (runA ops (vs u) 0 (A.length + 1) a)).tmps[d]? = some u := by
            intro m
            induction m with
            | zero =>
              intro _
              have e0 : runA ops (fun i => vb.getD (i - (A.length + 1)) undef) (A.length + 1) 0 (runA ops (vs u) 0 (A.length + 1) a) = (runA ops (vs u) 0 A.length a).put (some d) u := hrunC u
              rw [e0]
              have hdn : d < (runA ops (vs u) 0 A.length a).tmps.size := by rw [(hsC u).size]; simpa [dstOk] using hdok
              simp [Act.put, hdn]
            | succ m ih =>
              intro hm'
              have e2 : runA ops (fun i => vb.getD (i - (A.length + 1)) undef) (A.length + 1) (m + 1) (runA ops (vs u) 0 (A.length + 1) a) = (runA ops (fun i => vb.getD (i - (A.length + 1)) undef) (A.length + 1) m (runA ops (vs u) 0 (A.length + 1) a)).put (dstAt ops (A.length + 1 + m)) (vb.getD (A.length + 1 + m - (A.length + 1)) undef) := by
                simp [runA, List.range'_concat]
              rw [e2]
              have hne := (hB' u).2.2.2.2 m (by omega)
              cases hdd : dstAt ops (A.length + 1 + m) with
              | none => simp only [Act.put]; exact ih (by omega)
              | some y =>
                have : y ≠ d := by
                  intro e; subst e
                  have h5 := List.all_eq_true.1 hB (B[m]'(by omega)) (List.getElem_mem _)
                  have h6 := hne (B[m]'(by omega)) (List.getElem?_eq_getElem (by omega))
                  rw [hdd] at h6
                  simp [← h6] at h5
                simp only [Act.put]
                rw [Array.getElem?_setIfInBounds_ne this]
                exact ih (by omega)
          exact hother _ (Nat.le_refl _)
        · rw [look_cons_ne _ _ e] at hv
          exact h2.get i v hv
      have hgives : ∀ u S', Ss S' → ∀ i, i < k → i ≠ A.length → GivesAt P w0 S' ops i (vs u i) (runA ops (vs u) 0 i a) := by
        intro u S' hS' i hi hne
        rcases Nat.lt_or_gt_of_ne hne with h | h
        · have := hgA i h S' hS'
          rw [hvA u i h, hrunA u i (by omega)]
          exact this
        · obtain ⟨m, rfl⟩ : ∃ m, i = A.length + 1 + m := ⟨i - (A.length + 1), by omega⟩
          have := (hB' u).2.2.1 m (by omega) S' hS'
          rw [hrunB u m (by omega)]
          have e : vs u (A.length + 1 + m) = vb.getD m undef := by
            simp only [vs, List.getD_eq_getElem?_getD]
            rw [List.getElem?_append_right (by omega), hla, show A.length + 1 + m - A.length = m + 1 by omega, List.getElem?_cons_succ]
          rw [e]
          exact this
      have hdst : ∀ i o, i < k → ops[i]? = some o → dstOk n o.dst = true := by
        intro i o hi ho
        rcases Nat.lt_trichotomy i A.length with h | h | h
        · exact hdA.1 i o h ho
        · subst h; obtain rfl : oc = o := by rw [hoc] at ho; exact Option.some.inj ho
          exact hdc
        · obtain ⟨m, rfl⟩ : ∃ m, i = A.length + 1 + m := ⟨i - (A.length + 1), by omega⟩
          exact (hB' undef).2.2.2.1 m o (by omega) ho
      -- ordered pairs
      have hpair : ∀ i j, i < j → j < ops.size → ∀ oi oj, ops[i]? = some oi → ops[j]? = some oj → behind (reach ops) j i = true ∨ oi.apart ops oj = true := by
        intro i j hij hj oi oj hoi hoj
        have := List.all_eq_true.1 (List.all_eq_true.1 hap j (List.mem_range.2 hj)) i (List.mem_range.2 hij)
        simpa [hoi, hoj] using this
      have htail : ∀ t i, k ≤ t → t < ops.size → i < t → i ∉ Hs → behind (reach ops) t i = true := by
        intro t i hkt ht hi hnH
        have := List.all_eq_true.1 hhead t (List.mem_range.2 ht)
        simp only [Bool.or_eq_true, decide_eq_true_eq] at this
        rcases this with h | h
        · omega
        · have := List.all_eq_true.1 h i (List.mem_range.2 hi)
          simpa [hnH] using this
      have hreadyX : ∀ (listed : Array Bool) i, (∀ j o, ops[j]? = some o → listed.getD j true = true → ∀ e ∈ o.after, Region.binds .any e = true → listed.getD e.on true = true) → i ∈ Region.ready .any ops listed →
          ∀ j, j < ops.size → behind (reach ops) i j = true → j ≠ i → listed.getD j true = true := by
        intro listed i hcl hi j hj hb hne
        obtain ⟨hun, o, ho, hall⟩ := mem_ready.1 hi
        have hX : Closed ops (fun x => listed.getD x true = true ∨ x = i) := by
          rintro x ox hox (hx | rfl) e he hbd
          · exact .inl (hcl x ox hox hx e he hbd)
          · obtain rfl : o = ox := by rw [ho] at hox; exact Option.some.inj hox
            have := hall e he hbd
            left
            cases hlt : listed[e.on]? with
            | none => simp [hlt] at this
            | some b => simpa [hlt] using this
        rcases behind_spec hX (Array.getElem?_eq_some_iff.1 ho).1 hb (.inr rfl) with h | h
        · exact h
        · exact absurd h hne
      have horder : ∀ (listed : Array Bool) i o, (∀ j o, ops[j]? = some o → listed.getD j true = true → ∀ e ∈ o.after, Region.binds .any e = true → listed.getD e.on true = true) → i ∈ Region.ready .any ops listed → ops[i]? = some o → i < k →
          ∀ x, (x ∈ o.looksAt ops ∨ o.dst = some x) → ∀ j, j < k → j ≠ i → dstAt ops j = some x → decide (j < i) = listed.getD j true := by
        intro listed i o hcl hi ho hik x hx j hj hne hdj
        obtain ⟨hun, o', ho', hpre⟩ := mem_ready.1 hi
        have hilt : i < ops.size := (Array.getElem?_eq_some_iff.1 ho).1
        have hjlt : j < ops.size := by omega
        have hoj : ops[j]? = some ops[j] := by simp [hjlt]
        have hdj' : ops[j].dst = some x := by simpa [dstAt, hoj] using hdj
        rcases Nat.lt_or_gt_of_ne hne with h | h
        · rcases hpair j i h hilt _ _ hoj ho with hb' | hap'
          · rw [hreadyX listed i hcl hi j hjlt hb' hne]
            simp [h]
          · obtain ⟨e1, e2, e3⟩ := Oper.apart_spec hap'
            rcases hx with hx | hx
            · exact absurd hx (e1 x hdj')
            · exact absurd hx (e2 x hdj')
        · rcases hpair i j h hjlt _ _ ho hoj with hb' | hap'
          · have hnl : listed.getD j true = false := by
              cases hlj : listed.getD j true with
              | false => rfl
              | true =>
                exfalso
                have hX : Closed ops (fun x => listed.getD x true = true) := fun x ox hox hx e he hbd => hcl x ox hox hx e he hbd
                have := behind_spec hX hjlt hb' hlj
                rw [hun] at this
                cases this
            rw [hnl]
            simp; omega
          · obtain ⟨e1, e2, e3⟩ := Oper.apart_spec hap'
            rcases hx with hx | hx
            · exact absurd hx (e3 x hdj')
            · exact absurd hdj' (e2 x hx)
      have hgetset : ∀ (listed : Array Bool) i, listed.size = ops.size → i < ops.size → (listed.setIfInBounds i true).getD i true = true := by
        intro listed i h1 h2
        have : i < listed.size := by omega
        simp [this]
      have hput : ∀ u (listed : Array Bool) i o, listed.size = ops.size → (∀ j o, ops[j]? = some o → listed.getD j true = true → ∀ e ∈ o.after, Region.binds .any e = true → listed.getD e.on true = true) → i ∈ Region.ready .any ops listed → ops[i]? = some o → i < k →
          (foldF ops (vs u) (fun j => listed.getD j true) k a).put o.dst (vs u i) = foldF ops (vs u) (fun j => (listed.setIfInBounds i true).getD j true) k a := by
        intro u listed i o hsz hcl hi ho hik
        have hilt : i < ops.size := (Array.getElem?_eq_some_iff.1 ho).1
        have hdo : dstOk n o.dst = true := hdst i o hik ho
        have hda : dstAt ops i = o.dst := by simp [dstAt, ho]
        have hgi := hgetset listed i hsz hilt
        have hgj : ∀ j, j ≠ i → (listed.setIfInBounds i true).getD j true = listed.getD j true := fun j hj => getD_set_ne true (Ne.symm hj)
        have szs : ∀ f, (foldF ops (vs u) f k a).tmps.size = a.tmps.size := fun f => (foldF_size ops (vs u) f k a).1
        have dfs : ∀ f, (foldF ops (vs u) f k a).defers = a.defers := fun f => (foldF_size ops (vs u) f k a).2
        refine act_ext ?_ ?_ fun x => ?_
        · cases o.dst <;> simp [Act.put, szs]
        · cases o.dst <;> simp [Act.put, dfs]
        · by_cases hx : o.dst = some x
          · have e1 : (foldF ops (vs u) (fun j => (listed.setIfInBounds i true).getD j true) k a).tmps[x]? = (foldF ops (vs u) (fun j => decide (j < i + 1)) k a).tmps[x]? := by
              refine foldF_agree ops (vs u) _ _ k a x fun j hj hdj => ?_
              by_cases e : j = i
              · subst e; rw [hgi]; simp
              · rw [hgj j e, ← horder listed i o hcl hi ho hik x (.inr hx) j hj e hdj]
                by_cases h : j < i
                · have : j < i + 1 := by omega
                  simp [h, this]
                · have : ¬ j < i + 1 := by omega
                  simp [h, this]
            rw [e1, foldF_runA ops (vs u) (i + 1) k a (by omega)]
            have e2 : runA ops (vs u) 0 (i + 1) a = (runA ops (vs u) 0 i a).put (dstAt ops i) (vs u i) := by
              simp [runA, List.range'_concat]
            rw [e2, hda, hx]
            simp only [Act.put]
            have hxn : x < a.tmps.size := by rw [hs.size]; simpa [dstOk, hx] using hdo
            have hsz1 : (runA ops (vs u) 0 i a).tmps.size = a.tmps.size := by rw [← foldF_runA ops (vs u) i k a (by omega)]; exact szs _
            rw [Array.getElem?_setIfInBounds_self_of_lt (by rw [szs]; exact hxn), Array.getElem?_setIfInBounds_self_of_lt (by rw [hsz1]; exact hxn)]
          · have e1 : (foldF ops (vs u) (fun j => (listed.setIfInBounds i true).getD j true) k a).tmps[x]? = (foldF ops (vs u) (fun j => listed.getD j true) k a).tmps[x]? := by
              refine foldF_agree ops (vs u) _ _ k a x fun j hj hdj => ?_
              by_cases e : j = i
              · subst e; rw [hda] at hdj; exact absurd hdj hx
              · exact hgj j e
            rw [e1]
            cases hd : o.dst with
            | none => rfl
            | some y =>
              have : y ≠ x := fun e => hx (by rw [hd, e])
              simp [Act.put, Array.getElem?_setIfInBounds_ne this]
      have hagree : ∀ u (listed : Array Bool) i o, (∀ j o, ops[j]? = some o → listed.getD j true = true → ∀ e ∈ o.after, Region.binds .any e = true → listed.getD e.on true = true) → i ∈ Region.ready .any ops listed → ops[i]? = some o → i < k →
          ∀ x, x ∈ o.looksAt ops → (runA ops (vs u) 0 i a).tmps[x]? = (foldF ops (vs u) (fun j => listed.getD j true) k a).tmps[x]? := by
        intro u listed i o hcl hi ho hik x hx
        rw [← foldF_runA ops (vs u) i k a (by omega)]
        refine foldF_agree ops (vs u) _ _ k a x fun j hj hdj => ?_
        by_cases e : j = i
        · subst e
          have hun := (mem_ready.1 hi).1
          rw [hun]; simp
        · exact horder listed i o hcl hi ho hik x (.inl hx) j hj e hdj
      have hclset : ∀ (listed : Array Bool) i o, listed.size = ops.size → (∀ j o, ops[j]? = some o → listed.getD j true = true → ∀ e ∈ o.after, Region.binds .any e = true → listed.getD e.on true = true) → i ∈ Region.ready .any ops listed → ops[i]? = some o →
          (∀ j o, ops[j]? = some o → (listed.setIfInBounds i true).getD j true = true → ∀ e ∈ o.after, Region.binds .any e = true → (listed.setIfInBounds i true).getD e.on true = true) := by
        intro listed i o hsz hcl hi ho j oj hoj hj e he hbd
        have hilt : i < ops.size := (Array.getElem?_eq_some_iff.1 ho).1
        obtain ⟨hun, o', ho', hpre⟩ := mem_ready.1 hi
        obtain rfl : o = o' := by rw [ho] at ho'; exact Option.some.inj ho'
        have hgj : ∀ j, j ≠ i → (listed.setIfInBounds i true).getD j true = listed.getD j true := fun j hj => getD_set_ne true (Ne.symm hj)
        by_cases e1 : e.on = i
        · rw [e1]; exact hgetset listed i hsz hilt
        · rw [hgj _ e1]
          by_cases e2 : j = i
          · subst e2
            obtain rfl : o = oj := by rw [ho] at hoj; exact Option.some.inj hoj
            have := hpre e he hbd
            cases hlt : listed[e.on]? with
            | none => simp [hlt] at this
            | some bb => simpa [hlt] using this
          · rw [hgj _ e2] at hj
            exact hcl j oj hoj hj e he hbd
      have hcntset : ∀ (listed : Array Bool) i, listed.size = ops.size → i ∈ Region.ready .any ops listed → i < ops.size → cnt (fun j => listed.getD j true) ops.size = cnt (fun j => (listed.setIfInBounds i true).getD j true) ops.size + 1 := by
        intro listed i hsz hi hilt
        have := cnt_set (f := fun j => listed.getD j true) (g := fun j => (listed.setIfInBounds i true).getD j true) (i := i) (mem_ready.1 hi).1 (hgetset listed i hsz hilt) (fun j hj => getD_set_ne true (Ne.symm hj)) ops.size
        simpa [hilt] using this
      refine wp_mono (Q := fun e a' w' => e = .normal ∧ ∃ T' S', Sat n T' a' ∧ Rep w0 S' w' ∧ Q e T' S') ?_ (fun e a' w' h => h.2)
      refine wp_region_any hm ?_
      have key : ∀ (fuel : Nat) (listed : Array Bool) (b : Act) (w' : World), listed.size = ops.size →
          (∀ j o, ops[j]? = some o → listed.getD j true = true → ∀ e ∈ o.after, Region.binds .any e = true → listed.getD e.on true = true) → (∀ i ∈ Hs, listed.getD i true = true) →
          (∀ t, k ≤ t → t < ops.size → listed.getD t true = false) → (∃ u Sx, (if listed.getD A.length true = true then K u Sx else (u = undef ∧ Sx = S)) ∧ b = foldF ops (vs u) (fun j => listed.getD j true) k a ∧ Rep w0 Sx w') → cnt (fun j => listed.getD j true) ops.size = fuel →
          wpAny P .any ops (fun e a' w' => e = .normal ∧ ∃ T' S', Sat n T' a' ∧ Rep w0 S' w' ∧ Q e T' S') fuel listed b w' := by
        intro fuel
        induction fuel with
        | zero =>
          intro listed b w' hsz hcl hHl htl ⟨u, Sx, hph, hb, hr'⟩ hcnt
          have hall : ∀ j, j < ops.size → listed.getD j true = true := by
            intro j hj
            cases hx : listed.getD j true with
            | true => rfl
            | false =>
              exfalso
              have : ∀ m, j < m → 0 < cnt (fun j => listed.getD j true) m := by
                intro m
                induction m with
                | zero => intro h; omega
                | succ m ih =>
                  intro h
                  simp only [cnt]
                  by_cases e : j = m
                  · subst e; simp [hx]
                  · have := ih (by omega); omega
              have := this ops.size hj
              omega
          have hKx : K u Sx := by rw [if_pos (hall A.length (by omega))] at hph; exact hph
          have hkeq : k = ops.size := by
            rcases Nat.lt_or_ge k ops.size with h | h
            · have h1 := htl k (Nat.le_refl _) h
              have h2 := hall k h
              rw [h1] at h2
              cases h2
            · omega
          have hbt : b = runA ops (vs u) 0 k a := by
            rw [hb, ← foldF_runA ops (vs u) k k a (Nat.le_refl _)]
            unfold foldF
            refine foldl_ext' _ _ _ _ fun b j hj => ?_
            have hj' := List.mem_range.1 hj
            simp [hall j (by omega), hj']
          refine ⟨?_, ?_⟩
          · unfold Region.ready
            rw [List.filter_eq_nil_iff]
            intro i hi
            rw [hall i (List.mem_range.1 hi)]
            simp
          · have := h4 u Sx hKx ops [] b w' (fun e a' w' => e = .normal ∧ ∃ T' S', Sat n T' a' ∧ Rep w0 S' w' ∧ Q e T' S') (by
              rw [hkeq, Nat.sub_self] at hc2
              rw [hkeq]
              simpa using hc2) (hbt ▸ hsat' u) hr' (fun a' w' T' S' h3 h4 h5 => ⟨rfl, T', S', h3, h4, h5⟩)
            simpa [wpOps] using this
        | succ fuel ih =>
          intro listed b w' hsz hcl hHl htl ⟨u, Sx, hph, hb, hr'⟩ hcnt
          by_cases hall : ∀ j, j < k → listed.getD j true = true
          · -- the head is done
            have hKx : K u Sx := by rw [if_pos (hall A.length hpk)] at hph; exact hph
            have hexact : ∀ j, j < ops.size → listed.getD j true = decide (j < k) := by
              intro j hj
              by_cases h : j < k
              · rw [hall j h]; simp [h]
              · rw [htl j (by omega) hj]; simp [h]
            have hbt : b = runA ops (vs u) 0 k a := by
              rw [hb, ← foldF_runA ops (vs u) k k a (Nat.le_refl _)]
              unfold foldF
              refine foldl_ext' _ _ _ _ fun b j hj => ?_
              have hj' := List.mem_range.1 hj
              simp [hall j hj', hj']
            have hfuel : fuel + 1 = ops.size - k := by
              rw [← hcnt, cnt_congr ops.size hexact, cnt_below]
            rw [hfuel]
            have htl2 : ∀ listed' : Array Bool, ∀ t s', k ≤ s' → s' < t → t < ops.size → (∀ j, j < ops.size → listed'.getD j true = decide (j < s')) → listed'.size = ops.size → t ∉ Region.ready .any ops listed' := by
              intro l'' t s' h1 h2 h3 h4 h5 hmem
              have := hreadyX l'' t (fun j o ho hj e he hbd => by
                have hlt := backB_spec hback ho he hbd
                have hjs : j < ops.size := (Array.getElem?_eq_some_iff.1 ho).1
                rw [h4 j hjs] at hj
                rw [h4 e.on (by omega)]
                simp only [decide_eq_true_eq] at hj ⊢
                omega) hmem s' (by omega) (htail t s' (by omega) h3 h2 (fun hm' => by have := hHk s' hm'; omega)) (by omega)
              rw [h4 s' (by omega)] at this
              simp at this
            refine wpAny_tail hback (ops.size - k) k listed b w' (by omega) hsz hexact (fun t i h1 h2 h3 h4 h5 => htl2 listed t k (Nat.le_refl _) h1 h2 hexact hsz) htl2 ?_
            exact h4 u Sx hKx ops _ b w' _ hc2 (hbt ▸ hsat' u) hr' (fun a' w' T' S' h3 h4 h5 => ⟨rfl, T', S', h3, h4, h5⟩)
          · refine ⟨fun h0 => ?_, fun i hi => ?_⟩
            · exfalso
              obtain ⟨i, hi1, hi2, hi3⟩ := cnt_pos ops.size (by rw [hcnt]; omega : 0 < cnt (fun j => listed.getD j true) ops.size)
              have : i ∈ Region.ready .any ops listed := by
                rw [mem_ready]
                refine ⟨hi2, ops[i], by simp [hi1], fun e he hbd => ?_⟩
                have hlt := backB_spec hback (show ops[i]? = some ops[i] by simp [hi1]) he hbd
                have h3 := hi3 e.on hlt
                have : e.on < listed.size := by omega
                simpa [this] using h3
              rw [h0] at this
              simp at this
            · have hmem := mem_ready.1 hi
              obtain ⟨hun, o, ho, hpre⟩ := hmem
              have hilt : i < ops.size := (Array.getElem?_eq_some_iff.1 ho).1
              have hik : i < k := by
                rcases Nat.lt_or_ge i k with h | h
                · exact h
                · exfalso
                  refine hall fun j hj => ?_
                  by_cases hjH : j ∈ Hs
                  · exact hHl j hjH
                  · exact hreadyX listed i hcl hi j (by omega) (htail i j h hilt (by omega) hjH) (by omega)
              have hdo : dstOk n o.dst = true := hdst i o hik ho
              have hagree' := hagree u listed i o hcl hi ho hik
              rw [← hb] at hagree'
              have hev : execOp (runA ops (vs u) 0 i a).eval o = execOp b.eval o :=
                execOp_congr o (fun cs bb hh => Region.noSelect_spec hsel i o cs bb ho hh) fun x hx => eval_agree fun t ht => hagree' t (looks_op (ht ▸ hx))
              have hwan := wanted_agree (ops := ops) (o := o) (a := runA ops (vs u) 0 i a) (b := b) hagree'
              have hgj : ∀ j, j ≠ i → (listed.setIfInBounds i true).getD j true = listed.getD j true := fun j hj => getD_set_ne true (Ne.symm hj)
              have hnext : ∀ u2 S2 w'' b2, (if (listed.setIfInBounds i true).getD A.length true = true then K u2 S2 else (u2 = undef ∧ S2 = S)) → b2 = foldF ops (vs u2) (fun j => (listed.setIfInBounds i true).getD j true) k a → Rep w0 S2 w'' → wpAny P .any ops (fun e a' w' => e = .normal ∧ ∃ T' S', Sat n T' a' ∧ Rep w0 S' w' ∧ Q e T' S') fuel (listed.setIfInBounds i true) b2 w'' := by
                intro u2 S2 w'' b2 hp2 hb2 hr''
                refine ih _ _ w'' (by simpa using hsz) (hclset listed i o hsz hcl hi ho) ?_ ?_ ⟨u2, S2, hp2, hb2, hr''⟩ ?_
                · intro j hj
                  by_cases e : j = i
                  · subst e; exact hgetset listed j hsz hilt
                  · rw [hgj j e]; exact hHl j hj
                · intro t h3 h4'
                  rw [hgj t (by omega)]
                  exact htl t h3 h4'
                · have := hcntset listed i hsz hi hilt
                  omega
              have hsz1 : (runA ops (vs u) 0 i a).tmps.size = n := by rw [← foldF_runA ops (vs u) i k a (by omega), (foldF_size ops (vs u) _ k a).1, hs.size]
              have hsz2 : b.tmps.size = n := by rw [hb, (foldF_size ops (vs u) _ k a).1, hs.size]
              have hdf : (runA ops (vs u) 0 i a).defers = [] := by rw [← foldF_runA ops (vs u) i k a (by omega), (foldF_size ops (vs u) _ k a).2, hs.defers]
              have hputu := fun u2 => hput u2 listed i o hsz hcl hi ho hik
              unfold wpOp
              simp only [ho]
              by_cases hip : i = A.length
              · -- the one that turns something
                subst hip
                obtain rfl : oc = o := by rw [hoc] at ho; exact Option.some.inj ho
                rw [if_neg (by simp [hun])] at hph
                obtain ⟨rfl, rfl⟩ := hph
                have hwt : Region.wanted oc (yielded ops b.tmps) = true := by
                  rcases hgdc with ⟨hgn, _⟩ | ⟨j, b', s', hgn, hj, he⟩
                  · simp [Region.wanted, hgn]
                  · rw [hcg] at he; cases he
                rw [if_pos hwt]
                left
                have hl2 := hc2x oc _ w' (fun _ _ _ => False) hpoc (hsC undef) hr'
                refine Oper.wp_mono ?_ (wp_transfer_any hev (by rw [hsz1, hsz2]) (by rw [hsz1]; exact hdo) hdf hl2)
                rintro b' w'' ⟨v2, S2, rfl, hr2, hk2⟩
                refine hnext v2 S2 w'' _ (by rw [if_pos (hgetset listed _ hsz hilt)]; exact hk2) ?_ hr2
                have h7 := hputu v2
                have h8 : vs v2 A.length = v2 := by
                  simp only [vs, List.getD_eq_getElem?_getD]
                  rw [List.getElem?_append_right (by omega), hla]
                  simp
                rw [h8] at h7
                rw [← h7, hb]
                congr 1
                unfold foldF
                refine foldl_ext' _ _ _ _ fun b j hj => ?_
                by_cases hjl : listed.getD j true = true
                · have hjp : j ≠ A.length := fun e => by rw [e, hun] at hjl; cases hjl
                  have : vs undef j = vs v2 j := by
                    simp only [vs, List.getD_eq_getElem?_getD]
                    rcases Nat.lt_or_gt_of_ne hjp with h | h
                    · rw [List.getElem?_append_left (by omega), List.getElem?_append_left (by omega)]
                    · rw [List.getElem?_append_right (by omega), List.getElem?_append_right (by omega), show j - va.length = (j - va.length - 1) + 1 by omega, List.getElem?_cons_succ, List.getElem?_cons_succ]
                  rw [this]
                · simp [hjl]
              · have hSx : Ss Sx := by
                  split at hph
                  · exact hK _ _ hph
                  · rw [hph.2]; exact hSs
                have hph2 : (if (listed.setIfInBounds i true).getD A.length true = true then K u Sx else (u = undef ∧ Sx = S)) := by
                  rw [hgj A.length (Ne.symm hip)]; exact hph
                rcases hgives u Sx hSx i hik hip o ho with ⟨hw1, hw2⟩ | ⟨hw1, hw2⟩
                · rw [hwan] at hw1
                  rw [if_pos hw1]
                  left
                  refine Oper.wp_mono ?_ (wp_transfer hev (by rw [hsz1, hsz2]) (by rw [hsz1]; exact hdo) hdf (hw2 w' hr'))
                  rintro b' w'' ⟨rfl, hr''⟩
                  exact hnext u Sx w'' _ hph2 (by rw [hb]; exact hputu u) hr''
                · rw [hwan] at hw1
                  rw [hw1]
                  simp only [Bool.false_eq_true, if_false]
                  have h9 := hputu u
                  rw [hw2] at h9
                  exact hnext u Sx w' _ hph2 (by rw [hb]; exact h9) hr'
      -- the moves first
      have phase0 : ∀ (Hr : List Nat) (listed : Array Bool) (b : Act) (w' : World), hoistB ops Hr listed = true → (∀ i ∈ Hr, i < k) → listed.size = ops.size →
          (∀ j o, ops[j]? = some o → listed.getD j true = true → ∀ e ∈ o.after, Region.binds .any e = true → listed.getD e.on true = true) → (∀ i ∈ Hs, listed.getD i true = true ∨ i ∈ Hr) →
          (∀ t, k ≤ t → t < ops.size → listed.getD t true = false) → listed.getD A.length true = false → b = foldF ops (vs undef) (fun j => listed.getD j true) k a → Rep w0 S w' →
          wpAny P .any ops (fun e a' w' => e = .normal ∧ ∃ T' S', Sat n T' a' ∧ Rep w0 S' w' ∧ Q e T' S') (cnt (fun j => listed.getD j true) ops.size) listed b w' := by
        intro Hr
        induction Hr with
        | nil =>
          intro listed b w' _ _ hsz hcl hHl htl hnp hb hr'
          exact key _ listed b w' hsz hcl (fun i hi => (hHl i hi).resolve_right (by simp)) htl ⟨undef, S, by rw [if_neg (by simp [hnp])]; exact ⟨rfl, rfl⟩, hb, hr'⟩ rfl
        | cons i Hr ih =>
          intro listed b w' hh hlt hsz hcl hHl htl hnp hb hr'
          simp only [hoistB, Bool.and_eq_true] at hh
          obtain ⟨⟨⟨hho, hfree⟩, hready⟩, hrest⟩ := hh
          have hi : i ∈ Region.ready .any ops listed := by simpa using hready
          obtain ⟨hun, o, ho, hpre⟩ := mem_ready.1 hi
          have hilt : i < ops.size := (Array.getElem?_eq_some_iff.1 ho).1
          have hik : i < k := hlt i (by simp)
          have hgj : ∀ j, j ≠ i → (listed.setIfInBounds i true).getD j true = listed.getD j true := fun j hj => getD_set_ne true (Ne.symm hj)
          rw [hcntset listed i hsz hi hilt]
          simp only [hoistable?, ho, hoistable, Bool.and_eq_true] at hho
          obtain ⟨hgn, hmv⟩ := hho
          have hgn' : o.guard = none := by simpa using hgn
          have hwant : ∀ t : Array Value, Region.wanted o (yielded ops t) = true := fun t => by simp [Region.wanted, hgn']
          have hagree' := hagree undef listed i o hcl hi ho hik
          rw [← hb] at hagree'
          have hdo : dstOk n o.dst = true := hdst i o hik ho
          have hsz1 : (runA ops (vs undef) 0 i a).tmps.size = n := by rw [← foldF_runA ops (vs undef) i k a (by omega), (foldF_size ops (vs undef) _ k a).1, hs.size]
          have hmove : ∃ x, (o.op = .move x ∨ o.op = .assign x) := by
            cases hop : o.op <;> rw [hop] at hmv <;> simp at hmv
            · exact ⟨_, .inl rfl⟩
            · exact ⟨_, .inr rfl⟩
          obtain ⟨x, hx⟩ := hmove
          have hip : i ≠ A.length := by
            intro e; subst e
            obtain rfl : oc = o := by rw [hoc] at ho; exact Option.some.inj ho
            have : c.o = .mov (cV x) := by
              have h5 : cOp P oc = some (.mov (cV x)) := by unfold cOp cOp0; rcases hx with hx | hx <;> simp [hx]
              rw [h5] at hpoc
              exact (Option.some.inj hpoc).symm
            exact hcm _ this
          have hexec : ∀ ρ, execOp ρ o = pure (.value (ρ x)) := by
            intro ρ
            rcases hx with hx | hx <;> simp [execOp, hx]
          have hval : b.eval x = vs undef i ∨ o.dst = none := by
            rcases hgives undef S hSs i hik hip o ho with ⟨_, hw2⟩ | ⟨hw1, _⟩
            · have := hw2 w' hr'
              unfold Oper.wp at this
              rw [hexec] at this
              simp only [Sem.run_pure, Oper.upon] at this
              have hev : (runA ops (vs undef) 0 i a).eval x = b.eval x := eval_agree fun t ht => hagree' t (looks_op (by rcases hx with hx | hx <;> simp [hx, Op.operands, ht]))
              cases hd : o.dst with
              | none => exact .inr rfl
              | some d =>
                left
                rw [hd] at this hdo
                have h3 := congrArg (fun c : Act => c.tmps[d]?) this.1
                have hdn : d < n := by simpa [dstOk] using hdo
                simp [Act.put, hsz1, hdn] at h3
                rw [← hev]; exact h3
            · rw [hwant] at hw1; cases hw1
          refine wpAny_take (oi := o) (v := b.eval x) ho hsel hfree hready (fun c a w hq => by simp at hq) (.inl ⟨hwant _, fun w => by rw [hexec]; rfl⟩) ?_
          have hbput : b.put o.dst (b.eval x) = foldF ops (vs undef) (fun j => (listed.setIfInBounds i true).getD j true) k a := by
            rw [← hput undef listed i o hsz hcl hi ho hik, ← hb]
            rcases hval with h | h
            · rw [h]
            · rw [h]; rfl
          rw [hbput]
          refine ih _ _ w' hrest (fun j hj => hlt j (by simp [hj])) (by simpa using hsz) (hclset listed i o hsz hcl hi ho) ?_ ?_ (by rw [hgj _ (Ne.symm hip)]; exact hnp) rfl hr'
          · intro j hj
            by_cases e : j = i
            · subst e; exact .inl (hgetset listed j hsz hilt)
            · rw [hgj j e]
              rcases hHl j hj with h | h
              · exact .inl h
              · rcases List.mem_cons.1 h with h | h
                · exact absurd h e
                · exact .inr h
          · intro t h3 h4
            rw [hgj t (by omega)]
            exact htl t h3 h4
      have hcnt0 : cnt (fun j => (Array.replicate ops.size false).getD j true) ops.size = ops.size := by
        rw [cnt_congr (g := fun j => decide (j < 0)) ops.size (fun j hj => by simp [hj]), cnt_below]
        omega
      have := phase0 Hs (Array.replicate ops.size false) a { w with drawn := w.drawn + 1 } hhoist hHk (by simp) ?_ (fun i hi => .inr hi) ?_ (by have : A.length < ops.size := (by omega); simp [this]) ?_ ?_
      · rwa [hcnt0] at this
      · intro j o ho hj
        exfalso
        have hlt : j < ops.size := (Array.getElem?_eq_some_iff.1 ho).1
        simp [hlt] at hj
      · intro t _ ht
        simp [ht]
      · have : ∀ j, j < k → (Array.replicate ops.size false).getD j true = decide (j < 0) := by
          intro j hj
          have : j < ops.size := by omega
          simp [this]
        have h0 : foldF ops (vs undef) (fun j => (Array.replicate ops.size false).getD j true) k a = foldF ops (vs undef) (fun j => decide (j < 0)) k a := by
          unfold foldF
          refine foldl_ext' _ _ _ _ fun b j hj => ?_
          simp only [this j (List.mem_range.1 hj)]
        rw [h0, foldF_runA ops (vs undef) 0 k a (Nat.zero_le _)]
        rfl
      · exact hr.same ((Below.refl _ w).drew) (fun _ _ => rfl)
  all_goals (first | (simp [cC] at hc; done) | (simp only [cC] at hc; split at hc <;> simp at hc; done))
end
end Go.SL

namespace Go.SL
open Go.RowKit
section
variable {P : Program} {w0 : World} {n : Nat} {T : TT} {S : SS}
def Over (base : SS) (S : SS) : Prop := ∀ q ∈ base.flatten, q ∈ S.flatten
def QKs (P : Program) (w0 : World) (n : Nat) (base : SS) (l : List PI) (T : TT) (K : TT → Prop) : Prop := ∃ T' vs, QLs P w0 n (Over base) l T T' vs ∧ K T'
theorem QKs.nil {base : SS} {K : TT → Prop} (h : K T) : QKs P w0 n base [] T K := ⟨T, [], .nil, h⟩
theorem QKs.det {base : SS} {po : PO} {d : Option Nat} {g : Option (Nat × Bool)} {v : Value} {r : List PI} {K : TT → Prop} (hg : gOk T g) (h : ∀ S, Over base S → Yields P w0 n po T S v) (k : QKs P w0 n base r (put d v T) K) : QKs P w0 n base (⟨d, g, po⟩ :: r) T K :=
 let ⟨T', vs, h1, h2⟩ := k; ⟨T', _, .step hg (fun S hS => OW.of_yields (h S hS)) h1, h2⟩
theorem PW.quiet1K {k p d : Nat} {l B : List PI} {c : PI} {base : SS} {Q : Exit → TT → SS → Prop} {K : Value → SS → Prop} (hm : P.follows .mixedOrders = true) (hl : (l.take k).drop p = c :: B) (hcg : c.g = none) (hd : c.d = some d)
  (hcm : ∀ x, c.o ≠ .mov x) (hB : B.all (fun x => x.d != some d) = true) (hS : Over base S)
  (h : QKs P w0 n base ((l.take k).take p) T (fun T1 => OW P w0 n c.o T1 S K ∧ (∀ v S', K v S' → Over base S') ∧ QKs P w0 n base B (SL.del (some d) T1) (fun T2 => ∀ v S', K v S' → OL P w0 n (l.drop k) ((d, v) :: T2) S' (Q .normal)))) : PW P w0 n (.quiet k l) T S Q := by
 obtain ⟨T1, va, h1, h2, h3, T2, vb, h4, h5⟩ := h
 refine PW.quiet1 (A := (l.take k).take p) hm ?_ hcg hd hcm hB h1 h2 hS h3 h4 h5
 rw [← hl, List.take_append_drop]
theorem Over.cons {base : SS} {s : Seg} (h : Over base S) : Over base (s :: S) := fun q hq => by simp [h q hq]
theorem Over.refl (S : SS) : Over S S := fun _ h => h
theorem Over.hd (s : Seg) (S : SS) : Over [s] (s :: S) := fun q hq => by simp only [List.flatten_cons, List.flatten_nil, List.append_nil] at hq; simp [hq]
end
end Go.SL

namespace Go.SL
open Go.RowKit
section
variable {P : Program} {w0 : World} {n : Nat} {T : TT} {S : SS}
end
end Go.SL

namespace Go.SL
open Go.ChangeShapes Go.WideShapes Go.ChangeAt Go.RowKit
section
variable {H : Type} {enc : TypeId × Value → H} {P : Program} {W : World}
def structShape (P : Program) (g : TypeId → Option (List CK)) : Nat → List Field → Option (List CK)
 | _, [] => some []
 | off, f :: fs => match g f.type with
  | some s => if f.offset = off ∧ P.cellsOf f.type = s.length then (structShape P g (off + s.length) fs).map (s ++ ·) else none
  | none => none
def deepOf (P : Program) : Nat → TypeId → Option (List CK)
 | 0, _ => none
 | d + 1, t => match ckOf P t with
  | some c => some [c]
  | none => match P.underlying t with
   | some (.struct fs) => structShape P (deepOf P d) 0 fs.toList
   | some (.array n e) => match deepOf P d e with
    | some s => if P.cellsOf e = s.length then some ((List.replicate n s).flatten) else none
    | none => none
   | _ => none
def FitsAll : List CK → List Value → Prop
 | [], [] => True
 | c :: cs, v :: vs => Fits c v ∧ FitsAll cs vs
 | _, _ => False
theorem FitsAll.append {s t : List CK} {a b : List Value} (h1 : FitsAll s a) (h2 : FitsAll t b) : FitsAll (s ++ t) (a ++ b) := by
 induction s generalizing a with
 | nil => cases a with
  | nil => exact h2
  | cons v a => exact h1.elim
 | cons c s ih => cases a with
  | nil => exact h1.elim
  | cons v a => exact ⟨h1.1, ih h1.2⟩
theorem FitsAll.len {s : List CK} {a : List Value} (h : FitsAll s a) : s.length = a.length := by
 induction s generalizing a with
 | nil => cases a with
  | nil => rfl
  | cons v a => exact h.elim
 | cons c s ih => cases a with
  | nil => exact h.elim
  | cons v a => simp [ih h.2]
theorem struct_fits {g : TypeId → Option (List CK)} {cs : List Value} {n : Nat} {xs : List (DataW H × List MemPlace)}
  (hg : ∀ t s l y, g t = some s → DataW.trod enc P W 0 (fun _ => true) true n t l = some y → l.length = s.length → FitsAll s l) :
  ∀ (fs : List Field) (off i : Nat) (sh : List CK), structShape P g off fs = some sh → off + sh.length ≤ cs.length → (∀ (j : Nat) (f : Field), fs[j]? = some f → ∃ y, DataW.trod enc P W 0 (fun _ => true) true n f.type ((cs.drop f.offset).take (P.cellsOf f.type)) = some y) → FitsAll sh ((cs.drop off).take sh.length)
 | [], off, i, sh, h, _, _ => by
  simp [structShape] at h; subst h
  simp [FitsAll]
 | f :: fs, off, i, sh, h, hl, hx => by
  simp only [structShape] at h
  split at h
  ·rename_i s hs
   split at h
   ·rename_i hc
    obtain ⟨r, hr, rfl⟩ := Option.map_eq_some_iff.1 h
    obtain ⟨y, hy⟩ := hx 0 f rfl
    simp only [List.length_append] at hl
    have h1 := hg _ _ _ _ hs hy (by rw [hc.1, hc.2]; simp; omega)
    rw [hc.1, hc.2] at h1
    have h2 := struct_fits (cs := cs) (xs := xs) hg fs (off + s.length) i r hr (by omega) (fun j f' hj => hx (j + 1) f' (by simpa using hj))
    have e : (cs.drop off).take (s ++ r).length = (cs.drop off).take s.length ++ (cs.drop (off + s.length)).take r.length := by
     rw [List.length_append, List.take_add, List.drop_drop]
    show FitsAll (s ++ r) _
    rw [e]
    exact h1.append h2
   ·cases h
  ·cases h
theorem arr_fits {s : List CK} : ∀ (n : Nat) (cs : List Value), cs.length = n * s.length → (∀ i, i < n → FitsAll s ((cs.drop (i * s.length)).take s.length)) → FitsAll (List.replicate n s).flatten cs
 | 0, cs, hl, _ => by
  have : cs = [] := List.eq_nil_of_length_eq_zero (by simpa using hl)
  subst this; simp [FitsAll]
 | n + 1, cs, hl, h => by
  have h0 := h 0 (by omega)
  rw [Nat.zero_mul, List.drop_zero] at h0
  have h1 := arr_fits (s := s) n (cs.drop s.length) (by rw [List.length_drop, hl, Nat.succ_mul]; omega) (fun i hi => by
   have := h (i + 1) (by omega)
   rwa [List.drop_drop, show s.length + i * s.length = (i + 1) * s.length by rw [Nat.succ_mul]; omega])
  rw [List.replicate_succ, List.flatten_cons]
  have := h0.append h1
  rwa [List.take_append_drop] at this
theorem deep_fits (d : Nat) : ∀ (n : Nat) (t : TypeId) (sh : List CK) (cs : List Value) (y : DataW H × List MemPlace), deepOf P d t = some sh → DataW.trod enc P W 0 (fun _ => true) true n t cs = some y → cs.length = sh.length → FitsAll sh cs := by
 induction d with
 | zero => intro n t sh cs y h; simp [deepOf] at h
 | succ d ih =>
  intro n t sh cs y h ht hlen
  simp only [deepOf] at h
  split at h
  ·rename_i c hc
   cases h
   obtain ⟨v, rfl, hf⟩ := trod_ck hc ht
   exact ⟨hf, trivial⟩
  ·split at h
   ·rename_i fs hu
    obtain ⟨xs, m, _, _, hl, hlx, hx⟩ := DataW.trod_struct hu ht
    have := struct_fits (enc := enc) (P := P) (W := W) (n := m) (cs := cs) (xs := xs) (g := fun t => (deepOf P d t)) ?_ fs.toList 0 0 sh h (by omega) ?_
    ·rw [List.drop_zero, ← hlen, List.take_length] at this; exact this
    ·exact fun t s l y h1 h2 h3 => ih m t s l y h1 h2 h3
    ·intro j f hj
     have h1 := hx j f (by rw [← Array.getElem?_toList]; exact hj)
     have hjl : j < xs.length := by have := (List.getElem?_eq_some_iff.1 hj).1; rw [hlx]; simpa using this
     rw [List.getElem?_eq_getElem hjl] at h1
     exact ⟨_, h1⟩
   ·rename_i k e hu
    split at h
    ·rename_i s hs
     split at h
     ·rename_i hc
      cases h
      obtain ⟨xs, m, _, _, hl, hlx, hx⟩ := DataW.trod_array hu ht
      have hlen2 : cs.length = k * s.length := by rw [hlen]; simp
      refine arr_fits k cs hlen2 (fun i hi => ?_)
      have h1 := hx i hi
      rw [List.getElem?_eq_getElem (by omega), hc] at h1
      refine ih m e s _ _ hs h1 ?_
      have h2 : (i + 1) * s.length ≤ k * s.length := Nat.mul_le_mul_right _ hi
      rw [Nat.succ_mul] at h2
      simp; omega
     ·cases h
    ·cases h
   ·cases h
end
end Go.SL

namespace Go.SL
open Go.RowKit Go.ChangeShapes Go.WideShapes Go.ChangeAt
section
variable {H : Type} {enc : TypeId × Value → H} {P : Program} {W : World}
theorem nil_cap {t e : TypeId} {A : Option Addr} {len cap : Nat} {d : DataW H} {ps : List MemPlace} (hu : P.underlying t = some (.slice e)) (h : DataW.Trod enc P W 0 (fun _ => true) true t (.slice A len cap) d ps) : A = none → cap = 0 := by
 obtain ⟨fuel, h⟩ := h
 rcases DataW.trod_slice hu h with ⟨h0, _⟩ | ⟨a, len', cap', elems, rest, n, _, hcs, _⟩
 ·simp [Value.cells] at h0
  exact fun _ => h0.2.2
 ·simp [Value.cells] at hcs
  intro e; rw [hcs.1] at e; cases e
end
end Go.SL

namespace Go.SL
open Go.RowKit
section
variable {P : Program} {w0 : World} {n : Nat} {T : TT} {S : SS}
theorem Yields.neg {x : PV} {k : IntKind} {z : Int} (hx : x.val T = some (.int k z)) : Yields P w0 n (.more (.neg x)) T S (.int k (k.wrap (0 - z))) := by
 intro o a w hco hs hr
 obtain ⟨t, y, ho, rfl⟩ := cOp_spec P hco
 simp [execOp, ho, hs.eval hx, Op.unary, Op.intArith]
theorem constNil1 {y : Operand} (h : constNil y = 1) : y = .const .nilIface := by
 unfold constNil at h
 split at h
 ·rfl
 ·cases h
 ·cases h
theorem constNil2 {y : Operand} (h : constNil y = 2) : y = .const (.slice none 0 0) := by
 unfold constNil at h
 split at h
 ·cases h
 ·rfl
 ·cases h
theorem Yields.mkI {t : TypeId} {x : PV} {v : Value} (hx : x.val T = some v) : Yields P w0 n (.more (.mkI t x)) T S (.iface t v) := by
 intro o a w hco hs hr
 obtain ⟨y, d, ho, rfl, hu, hd⟩ := cOp_spec P hco
 have : (Instr.makeInterface t v).run P w = .ok (.iface t v) w := by
  unfold Instr.makeInterface
  simp only [Sem.run_bind, run_underlying hu, Result.andThen_ok]
  cases d <;> (first | rfl | exact absurd rfl (hd _))
 simp [execOp, ho, hs.eval hx, this]
def isNilI : Value → Option Bool
 | .nilIface => some true
 | .iface _ _ => some false
 | _ => none
theorem Yields.eqJ {neg : Bool} {tys : List (TypeId × IntKind)} {x y : PV} {tx ty : TypeId} {k k' : IntKind} {a b : Int} {r : Bool} (hx : x.val T = some (.iface tx (.int k a))) (hy : y.val T = some (.iface ty (.int k' b)))
  (hr : (tx ≠ ty ∧ r = false) ∨ (tx = ty ∧ k = k' ∧ (tx, k) ∈ tys ∧ r = (a == b))) : Yields P w0 n (.more (.eqJ neg tys x y)) T S (.bool (if neg then !r else r)) := by
 intro o ac w hco hs hrep
 obtain ⟨t, p, q, u, ms, ho, rfl, rfl, rfl, hu⟩ := cOp_spec P hco
 have heq0 : ∀ d, (Op.equalIn (d + 2) t (.iface tx (.int k a)) (.iface ty (.int k' b))).run P w = .ok r w := by
  intro d
  rcases hr with ⟨hne, rfl⟩ | ⟨rfl, rfl, hm, rfl⟩
  ·simp [Op.equalIn, run_underlying hu, hne]
  ·obtain ⟨h1, i, h2, h3⟩ := intTys_mem hm
   simp [Op.equalIn, run_underlying hu, run_underlying h1, typeInfo, program, Sem.run, h2, h3]
 have heq : (Op.equal t (.iface tx (.int k a)) (.iface ty (.int k' b))).run P w = .ok r w := heq0 9998
 cases neg with
 | false =>
  simp only [execOp, ho, hs.eval hx, hs.eval hy, Bool.false_eq_true, if_false]
  simp [eqGuard, binOp, heq]
 | true =>
  simp only [execOp, ho, hs.eval hx, hs.eval hy, if_true]
  simp [eqGuard, binOp, heq]
theorem Yields.eqI {neg : Bool} {x : PV} {v : Value} {b : Bool} (hx : x.val T = some v) (hb : isNilI v = some b) : Yields P w0 n (.more (.eqI neg x)) T S (.bool (if neg then !b else b)) := by
 intro o a w hco hs hr
 obtain ⟨t, y, z, u, ms, ho, rfl, hz, hu⟩ := cOp_spec P hco
 obtain rfl := constNil1 hz
 have he : a.eval (.const .nilIface) = .nilIface := rfl
 have heq0 : ∀ d, (Op.equalIn (d + 1) t v .nilIface).run P w = .ok b w := by
  intro d
  unfold isNilI at hb
  split at hb <;> (first | cases hb | skip)
  ·simp [Op.equalIn, run_underlying hu]
  ·simp [Op.equalIn, run_underlying hu]
 have heq : (Op.equal t v .nilIface).run P w = .ok b w := heq0 9999
 have hg : ∀ op, (eqGuard op t y (.const .nilIface) v .nilIface).run P w = .ok () w := by
  intro op
  unfold isNilI at hb
  split at hb <;> (first | cases hb | skip)
  ·cases op <;> simp [eqGuard]
  ·cases op <;> simp [eqGuard]
 have hbin : ∀ op, op = BinOp.eql ∨ op = .neq → (binOp op t v .nilIface).run P w = .ok (.bool (if op == .neq then !b else b)) w := by
  intro op hop
  unfold isNilI at hb
  split at hb <;> (first | cases hb | skip)
  ·rcases hop with rfl | rfl <;> simp [binOp, heq]
  ·rcases hop with rfl | rfl <;> simp [binOp, heq]
 cases neg
 ·simp only [execOp, ho, Bool.false_eq_true, if_false, hs.eval hx, he]
  simp [hg, hbin]
 ·simp only [execOp, ho, if_true, hs.eval hx, he]
  simp [hg, hbin]
theorem Yields.slNil {neg : Bool} {x : PV} {A : Option Addr} {l c : Nat} (hx : x.val T = some (.slice A l c)) : Yields P w0 n (.more (.slNil neg x)) T S (.bool (if neg then A.isSome else A.isNone)) := by
 intro o a w hco hs hr
 obtain ⟨t, y, z, u, e, ho, rfl, hz, hu⟩ := cOp_spec P hco
 obtain rfl := constNil2 hz
 have he : a.eval (.const (.slice none 0 0)) = .slice none 0 0 := rfl
 have heq0 : ∀ d, (Op.equalIn (d + 1) t (.slice A l c) (.slice none 0 0)).run P w = .ok A.isNone w := by
  intro d
  cases A <;> simp [Op.equalIn, run_underlying hu]
 have heq : (Op.equal t (.slice A l c) (.slice none 0 0)).run P w = .ok A.isNone w := heq0 9999
 cases neg
 ·simp only [execOp, ho, Bool.false_eq_true, if_false, hs.eval hx, he]
  simp [eqGuard, binOp, heq]
 ·simp only [execOp, ho, if_true, hs.eval hx, he]
  simp [eqGuard, binOp, heq]
theorem Yields.slAr {len sz : Nat} {x : PV} {lo hi : Option PV} {a : Addr} {l h : Nat} {li hi' : Option Int} (hx : x.val T = some (.pointer (some a)))
  (hl : ovI lo T = some li) (hh : ovI hi T = some hi') (el : li = some (l : Int) ∨ (li = none ∧ l = 0)) (eh : hi' = some (h : Int) ∨ (hi' = none ∧ h = len)) (h1 : l ≤ h) (h2 : h ≤ len) :
  Yields P w0 n (.more (.slAr len sz x lo hi)) T S (.slice (some (if len = l then a else a.add (l * sz))) (h - l) (len - l)) := by
 intro o ac w hco hs hr
 obtain ⟨t, y, ol, oh, e, ie, ho, rfl, rfl, rfl, hu, hie, rfl⟩ := cOp_spec P hco
 have e1 : (∃ k, ol.map ac.eval = some (.int k (l : Int))) ∨ (ol.map ac.eval = none ∧ l = 0) := by
  rcases ovI_spec hs hl with ⟨h, h'⟩ | ⟨j, k, h, h'⟩
  ·rw [h] at el; rcases el with el | el
   ·cases el
   ·exact .inr ⟨h', el.2⟩
  ·rw [h] at el; rcases el with el | el
   ·obtain rfl := Option.some.inj el; exact .inl ⟨k, h'⟩
   ·cases el.1
 have e2 : (∃ k, oh.map ac.eval = some (.int k (h : Int))) ∨ (oh.map ac.eval = none ∧ h = len) := by
  rcases ovI_spec hs hh with ⟨h, h'⟩ | ⟨j, k, h, h'⟩
  ·rw [h] at eh; rcases eh with eh | eh
   ·cases eh
   ·exact .inr ⟨h', eh.2⟩
  ·rw [h] at eh; rcases eh with eh | eh
   ·obtain rfl := Option.some.inj eh; exact .inl ⟨k, h'⟩
   ·cases eh.1
 have hb := run_bounds (P := P) false len len (ol.map ac.eval) (oh.map ac.eval) l h e1 e2 h1 h2 w
 simp only [execOp, ho, hs.eval hx, Instr.sliceAt]
 simp [run_underlying hu, Instr.sureAddr, hb, sizeOf, typeInfo, program, Sem.run, hie]
theorem Yields.bldA {zero : List Value} {parts : List (Nat × Nat × PV)} {cs : List Value} (h : fillP T zero parts = some cs) : Yields P w0 n (.more (.bldA zero parts)) T S (.agg cs.toArray) := by
 intro o a w hco hs hr
 obtain ⟨t, qs, m, e, i, ie, z, ho, hu, hi, hie, hz, rfl, hpa⟩ := cOp_spec P hco
 have hfill := fill_spec hs (place := fun j => some (j * ie.size, ie.size)) (cells := z.cells) hpa h
 simp only [execOp, ho]
 have hb : P.built t (qs.map fun (i, x) => (i, a.eval x)).toList = some cs.toArray := by
  unfold Program.built
  simp only [hi, hu, hz, hie]
  simp only [Array.toList_map]
  exact hfill
 have := run_build (P := P) w t _ cs.toArray hb
 simp only [Sem.run_bind, this, Result.andThen_ok]
 rfl
theorem OW.cvS {x : PV} {b o l c k E tot : Nat} {cs : List Value} (hx : x.val T = some (.slice (some ⟨b, o, none⟩) l c)) (hk : S[k]? = some [(b, .cells cs E tot)]) :
  OW P w0 n (.more (.cvS x)) T S (fun v S' => v = .slice (some ⟨b, o, none⟩) l c ∧ S' = S.set k [(b, .ro cs)]) := by
 intro op a w Q hco hs hr
 obtain ⟨s, t, y, e, ho, rfl, rfl, hu, he⟩ := cOp_spec P hco
 obtain ⟨hge, C, hC, htot, hpre⟩ := hr.own (b, .cells cs E tot) (List.mem_flatten.2 ⟨_, List.mem_of_getElem? hk, by simp⟩)
 simp only at hge hC
 have hlt : b < w.heap.size := (Array.getElem?_eq_some_iff.1 hC).1
 have hrun : (execOp a.eval op).run P w = .ok (.value (.slice (some ⟨b, o, none⟩) l c)) (w.freeze ⟨b, C.size, none⟩ 1) := by
  simp only [execOp, ho, hs.eval hx, convert]
  have hsh : w.shape? b = some (E, C.size) := by simp [World.shape?, hC]
  simp [run_underlying hu, run_underlying he, markStringish, shape, freeze, Sem.run, hsh]
 unfold Oper.wp
 rw [hrun]
 refine ⟨_, _, rfl, ?_, rfl, rfl⟩
 have hheap : ∀ i, i ≠ b → (w.freeze ⟨b, C.size, none⟩ 1).heap[i]? = w.heap[i]? := by
  intro i hi
  simp [World.freeze, Array.getElem?_modify]
  intro e
  exact absurd e.symm hi
 refine hr.replace hk ⟨rfl, rfl, rfl, by simp [World.freeze], fun i hi => hheap i (by omega)⟩ (fun i _ hne => hheap i (by simpa using hne)) (by simp) ?_
 intro p hp
 simp only [List.mem_singleton] at hp
 subst hp
 refine ⟨hge, ?_, .inl (by simp)⟩
 refine ⟨C, E, (C.size, C.size + 1), ?_, hpre⟩
 simp [World.freeze, Array.getElem?_modify, hC]
theorem OW.rngS {x : PV} {s : ByteArray} (hx : x.val T = some (.string s)) : OW P w0 n (.more (.rngS x)) T S (fun v S' => ∃ r, v = .pointer (some ⟨r, 0, none⟩) ∧ S' = [(r, .obj (.stringIter s 0))] :: S) := by
 intro op a w Q hco hs hr
 obtain ⟨t, y, ho, rfl, hu⟩ := cOp_spec P hco
 have hrun : (execOp a.eval op).run P w = .ok (.value (.pointer (some ⟨w.heap.size, 0, none⟩))) (w.alloc (.stringIter s 0)) := by
  simp [execOp, ho, hs.eval hx, Instr.range, run_underlying hu, newObj, Sem.run]
 unfold Oper.wp
 rw [hrun]
 refine ⟨_, _, rfl, ?_, w.heap.size, rfl, rfl⟩
 refine hr.push (below_alloc hr _) (fun i hi => alloc_heap_lt w _ i hi) (by simp) ?_
 intro p hp
 simp only [List.mem_singleton] at hp
 subst hp
 exact ⟨alloc_heap_new w _, Nat.le_refl _⟩
theorem iter_at {w : World} {k b : Nat} {o : Obj} (h : Rep w0 S w) (hk : S[k]? = some [(b, .obj o)]) : w0.heap.size ≤ b ∧ w.heap[b]? = some o :=
 h.own (b, .obj o) (List.mem_flatten.2 ⟨_, List.mem_of_getElem? hk, by simp⟩)
theorem OW.nxtS {x : PV} {s : ByteArray} {b k p : Nat} (hx : x.val T = some (.pointer (some ⟨b, 0, none⟩))) (hk : S[k]? = some [(b, .obj (.stringIter s p))]) (hp : p < s.size) :
  OW P w0 n (.more (.nxtS x)) T S (fun v S' => v = .tuple #[.bool true, .int .i64 (p : Int), .int .i32 ((Utf8.decode s p).1 : Int)] ∧ S' = S.set k [(b, .obj (.stringIter s (p + (Utf8.decode s p).2)))]) := by
 intro op a w Q hco hs hr
 obtain ⟨y, ho, rfl⟩ := cOp_spec P hco
 obtain ⟨hge, hw⟩ := iter_at hr hk
 have hlt : b < w.heap.size := (Array.getElem?_eq_some_iff.1 hw).1
 have hrun : (execOp a.eval op).run P w = .ok (.value (.tuple #[.bool true, .int .i64 (p : Int), .int .i32 ((Utf8.decode s p).1 : Int)])) { w with heap := w.heap.setIfInBounds b (.stringIter s (p + (Utf8.decode s p).2)) } := by
  simp [execOp, ho, hs.eval hx, Instr.next, getObj, setObj, Sem.run, hw, hp, goInt]
 unfold Oper.wp
 rw [hrun]
 refine ⟨_, _, rfl, ?_, rfl, rfl⟩
 refine hr.replace hk ⟨rfl, rfl, rfl, by simp, fun i hi => ?_⟩ (fun i hi hne => ?_) (by simp) ?_
 ·have : b ≠ i := by omega
  simp [Array.getElem?_setIfInBounds_ne this]
 ·have : b ≠ i := by simp at hne; omega
  simp [Array.getElem?_setIfInBounds_ne this]
 ·intro q hq
  simp only [List.mem_singleton] at hq
  subst hq
  refine ⟨hge, ?_, .inl (by simp)⟩
  show ({ w with heap := w.heap.setIfInBounds b (.stringIter s (p + (Utf8.decode s p).2)) } : World).heap[b]? = some _
  simp [hlt]
theorem ext_none {fn : Func} {name : String} (hn : fn.name = name) (ho : fn.origin = "") (h1 : (Extern.allNextRows.lookup name).isNone = true) (h2 : (Extern.allNextRows.lookup "").isNone = true) : Extern.findNext fn = none := by
 unfold Extern.findNext
 rw [hn, ho]
 simp only [Option.isNone_iff_eq_none] at h1 h2
 simp [h1, h2]
theorem Yields.xc {row : Nat} {args : List PV} {vs : List Value} {v : Value} {e : Array Value → Sem Value} (hv : valsP T args = some vs) (h1 : (Extern.allNextRows.lookup (rowOf row)).isNone = true) (h2 : (Extern.allNextRows.lookup "").isNone = true)
  (he : ∀ fn : Func, fn.name = rowOf row → Extern.find fn = some e) (hr : ∀ w, (e vs.toArray).run P w = .ok v w) : Yields P w0 n (.more (.xc row args)) T S v := by
 intro o a w hco hs hrep
 obtain ⟨c, f, fn, ho, hca, rfl, hf, hn, hor, hb, hng⟩ := cOp_spec P hco
 have hargs : c.args.map a.eval = vs.toArray := by
  apply Array.toList_inj.1
  simpa using valsP_spec hs hv
 have := run_callFunc_extern hf hng hb (ext_none hn hor h1 h2) (he fn hn) vs.toArray w
 rw [hr w] at this
 simp only [execOp, ho]
 simp [resolve, hca, Act.eval, Deferred.ofValue, invoke, hargs, this]
end
end Go.SL

namespace Go.SL
open Go.RowKit
def eqL : List CK → List Value → List Value → Option Bool
 | [], [], [] => some true
 | c :: cs, x :: xs, y :: ys => match eqCell c x y, eqL cs xs ys with | some p, some q => some (p && q) | _, _ => none
 | _, _, _ => none
theorem eqL_cons {c : CK} {cs : List CK} {xs ys : List Value} {r : Bool} (h : eqL (c :: cs) xs ys = some r) : ∃ x xs' y ys' p q, xs = x :: xs' ∧ ys = y :: ys' ∧ eqCell c x y = some p ∧ eqL cs xs' ys' = some q ∧ r = (p && q) := by
 cases xs with
 | nil => simp [eqL] at h
 | cons x xs' =>
  cases ys with
  | nil => simp [eqL] at h
  | cons y ys' =>
   simp only [eqL] at h
   split at h
   ·rename_i p q h1 h2
    exact ⟨x, xs', y, ys', p, q, rfl, rfl, h1, h2, (Option.some.inj h).symm⟩
   ·cases h
theorem eqL_append {s t : List CK} : ∀ {xs ys : List Value} {r : Bool}, eqL (s ++ t) xs ys = some r → ∃ p q, eqL s (xs.take s.length) (ys.take s.length) = some p ∧ eqL t (xs.drop s.length) (ys.drop s.length) = some q ∧ r = (p && q) := by
 induction s with
 | nil => intro xs ys r h; exact ⟨true, r, by simp [eqL], by simpa using h, by simp⟩
 | cons c s ih =>
  intro xs ys r h
  obtain ⟨x, xs', y, ys', p, q, rfl, rfl, h1, h2, rfl⟩ := eqL_cons (cs := s ++ t) h
  obtain ⟨p', q', h3, h4, rfl⟩ := ih h2
  exact ⟨p && p', q', by simp [eqL, h1, h3], by simpa using h4, by rw [Bool.and_assoc]⟩
theorem eqL_len {s : List CK} : ∀ {xs ys : List Value} {r : Bool}, eqL s xs ys = some r → xs.length = s.length ∧ ys.length = s.length := by
 induction s with
 | nil => intro xs ys r h; cases xs <;> cases ys <;> simp [eqL] at h ⊢
 | cons c s ih =>
  intro xs ys r h
  obtain ⟨x, xs', y, ys', p, q, rfl, rfl, h1, h2, rfl⟩ := eqL_cons h
  have := ih h2
  simp [this]
section
variable {P : Program} {w0 : World} {n : Nat} {T : TT} {S : SS} {w : World}
def AggEq (P : Program) (w : World) (d : Nat) : Prop := ∀ (t : TypeId) (sh : List CK), deepQ P d t = some sh → ckOf P t = none → (∃ dd, P.underlying t = some dd ∧ rowD dd = true) ∧
 ∀ (D : Nat), d ≤ D → ∀ (xs ys : Array Value) (r : Bool), eqL sh xs.toList ys.toList = some r → (Op.equalIn D t (.agg xs) (.agg ys)).run P w = .ok r w
theorem part_eq {d : Nat} (ih : AggEq P w d) {t : TypeId} {sh : List CK} (hd : deepQ P d t = some sh) (hc : P.cellsOf t = sh.length) {D : Nat} (hD : d ≤ D) (h1 : 0 < d) {xs ys : Array Value} {off : Nat} {r : Bool}
  (h : eqL sh ((xs.toList.drop off).take sh.length) ((ys.toList.drop off).take sh.length) = some r) : ∃ a b, (part t xs off).run P w = .ok a w ∧ (part t ys off).run P w = .ok b w ∧ (Op.equalIn D t a b).run P w = .ok r w := by
 cases hk : ckOf P t with
 | some c =>
  obtain ⟨d', rfl⟩ : ∃ d', d = d' + 1 := ⟨d - 1, by omega⟩
  simp only [deepQ, hk, Option.some.injEq] at hd
  subst hd
  obtain ⟨x, xs', y, ys', p, q, hx, hy, h2, h3, rfl⟩ := eqL_cons h
  have hq : q = true := by
   have := eqL_len h3
   obtain ⟨l1, l2⟩ := this
   have e1 : xs' = [] := List.eq_nil_of_length_eq_zero (by simpa using l1)
   have e2 : ys' = [] := List.eq_nil_of_length_eq_zero (by simpa using l2)
   subst e1; subst e2
   simpa [eqL] using h3.symm
  have get : ∀ (zs : Array Value) z zs', (zs.toList.drop off).take 1 = z :: zs' → zs[off]? = some z := by
   intro zs z zs' hz
   have : ((zs.toList.drop off).take 1)[0]? = some z := by rw [hz]; rfl
   simpa using this
  obtain ⟨dd, hu, hrow⟩ := ckOf_agg hk
  obtain ⟨D', rfl⟩ : ∃ D', D = D' + 1 := ⟨D - 1, by omega⟩
  refine ⟨x, y, ?_, ?_, ?_⟩
  ·simp [part, run_isAgg hu, hrow, get xs x xs' hx]
  ·simp [part, run_isAgg hu, hrow, get ys y ys' hy]
  ·rw [hq, Bool.and_true]
   exact run_eqCell hk h2 D' w
 | none =>
  obtain ⟨⟨dd, hu, hrow⟩, hrun⟩ := ih t sh hd hk
  obtain ⟨i, hi⟩ := info_of_underlying hu
  have hsz := run_sizeOf w hi
  have hpart : ∀ zs : Array Value, (part t zs off).run P w = .ok (.agg (zs.extract off (off + sh.length))) w := by
   intro zs
   simp only [part, Sem.run_bind, run_isAgg hu, hrow, Result.andThen_ok, if_true, hsz, hc]
   rfl
  refine ⟨_, _, hpart xs, hpart ys, hrun D hD _ _ r ?_⟩
  simpa [List.extract] using h
theorem eqFields_deep {d : Nat} (ih : AggEq P w d) (h1 : 0 < d) {D : Nat} (hD : d ≤ D) {xs ys : Array Value} : ∀ (fs : List Field) (off : Nat) (sh : List CK) (r : Bool), structQ P (deepQ P d) off fs = some sh → eqL sh (xs.toList.drop off) (ys.toList.drop off) = some r → (Op.eqFields D xs ys fs).run P w = .ok r w
 | [], off, sh, r, hs, he => by
  simp only [structQ, Option.some.injEq] at hs
  subst hs
  have := eqL_len he
  obtain ⟨l1, l2⟩ := this
  have e1 : xs.toList.drop off = [] := List.eq_nil_of_length_eq_zero l1
  have e2 : ys.toList.drop off = [] := List.eq_nil_of_length_eq_zero l2
  rw [e1, e2] at he
  simp only [eqL, Option.some.injEq] at he
  subst he
  simp [Op.eqFields]
 | f :: fs, off, sh, r, hs, he => by
  simp only [structQ] at hs
  split at hs
  ·rename_i s hf
   split at hs
   ·rename_i hc
    obtain ⟨ho, hcells, hname⟩ := hc
    simp only [Option.map_eq_some_iff] at hs
    obtain ⟨sh', hs', rfl⟩ := hs
    obtain ⟨p, q, h2, h3, rfl⟩ := eqL_append he
    rw [List.drop_drop, List.drop_drop] at h3
    obtain ⟨a, b, g1, g2, g3⟩ := part_eq ih hf hcells hD h1 h2
    subst ho
    simp only [Op.eqFields, hname, ne_eq, not_false_eq_true, if_true, Sem.run_bind, g1, g2, g3, Result.andThen_ok]
    cases p
    ·simp
    ·simp only [Bool.not_true, Bool.false_eq_true, if_false, Bool.true_and]
     exact eqFields_deep ih h1 hD fs _ sh' q hs' h3
   ·cases hs
  ·cases hs
theorem eqItems_deep {d : Nat} (ih : AggEq P w d) (h1 : 0 < d) {D : Nat} (hD : d ≤ D) {xs ys : Array Value} {e : TypeId} {s : List CK} (hd : deepQ P d e = some s) (hc : P.cellsOf e = s.length) : ∀ (m i : Nat) (r : Bool), eqL (List.replicate m s).flatten (xs.toList.drop (i * s.length)) (ys.toList.drop (i * s.length)) = some r →
  (Op.eqItems D e (P.cellsOf e) xs ys (List.range' i m)).run P w = .ok r w
 | 0, i, r, he => by
  obtain ⟨l1, l2⟩ := eqL_len he
  have e1 : xs.toList.drop (i * s.length) = [] := List.eq_nil_of_length_eq_zero (by simpa using l1)
  have e2 : ys.toList.drop (i * s.length) = [] := List.eq_nil_of_length_eq_zero (by simpa using l2)
  rw [e1, e2] at he
  have : r = true := by simpa [eqL] using he.symm
  subst this
  simp [Op.eqItems]
 | m + 1, i, r, he => by
  rw [List.replicate_succ, List.flatten_cons] at he
  obtain ⟨p, q, h2, h3, rfl⟩ := eqL_append he
  rw [List.drop_drop, List.drop_drop] at h3
  obtain ⟨a, b, g1, g2, g3⟩ := part_eq ih hd hc hD h1 h2
  rw [← hc] at g1 g2
  rw [List.range'_succ]
  simp only [Op.eqItems, Sem.run_bind, g1, g2, g3, Result.andThen_ok]
  cases p
  ·simp
  ·simp only [Bool.not_true, Bool.false_eq_true, if_false, Bool.true_and]
   refine eqItems_deep ih h1 hD hd hc m (i + 1) q ?_
   rw [show (i + 1) * s.length = i * s.length + s.length by rw [Nat.add_mul, Nat.one_mul]]
   exact h3
theorem agg_eq (P : Program) (w : World) : ∀ d, AggEq P w d
 | 0 => fun t sh h => by simp [deepQ] at h
 | d + 1 => by
  intro t sh h hk
  have ih := agg_eq P w d
  simp only [deepQ, hk] at h
  split at h
  ·rename_i fs hu
   split at h
   ·rename_i hst
    refine ⟨⟨_, hu, rfl⟩, fun D hD xs ys r he => ?_⟩
    obtain ⟨D', rfl⟩ : ∃ D', D = D' + 1 := ⟨D - 1, by omega⟩
    have hfs : P.fieldsOf t = fs := by simp [Program.fieldsOf, hu]
    rw [run_equalIn_struct w D' t xs ys (by rw [hfs]; exact hu) hst, hfs]
    by_cases h0 : 0 < d
    ·exact eqFields_deep ih h0 (by omega) _ 0 sh r h (by simpa using he)
    ·obtain rfl : d = 0 := by omega
     cases hl : fs.toList with
     | nil =>
      rw [hl] at h
      simp only [structQ, Option.some.injEq] at h
      subst h
      obtain ⟨l1, l2⟩ := eqL_len he
      have e1 : xs.toList = [] := List.eq_nil_of_length_eq_zero l1
      have e2 : ys.toList = [] := List.eq_nil_of_length_eq_zero l2
      rw [e1, e2] at he
      simp only [eqL, Option.some.injEq] at he
      subst he
      simp [Op.eqFields]
     | cons f fs => rw [hl] at h; simp [structQ, deepQ] at h
   ·cases h
  ·rename_i m e hu
   split at h
   ·rename_i s hs
    split at h
    ·rename_i hc
     obtain rfl := Option.some.inj h
     refine ⟨⟨_, hu, rfl⟩, fun D hD xs ys r he => ?_⟩
     obtain ⟨D', rfl⟩ : ∃ D', D = D' + 1 := ⟨D - 1, by omega⟩
     obtain ⟨i, hi⟩ : ∃ i, P.info? e = some i := by
      cases hq : P.info? e with
      | some i => exact ⟨i, rfl⟩
      | none =>
       exfalso
       by_cases h0 : 0 < d
       ·obtain ⟨d', rfl⟩ : ∃ d', d = d' + 1 := ⟨d - 1, by omega⟩
        have hun : P.underlying e = none := by
         cases hx : P.underlying e with
         | none => rfl
         | some x => obtain ⟨i, hi⟩ := info_of_underlying hx; rw [hq] at hi; cases hi
        simp [deepQ, ckOf, hun] at hs
       ·obtain rfl : d = 0 := by omega
        simp [deepQ] at hs
     rw [run_equalIn_array w D' xs ys hu hi, List.range_eq_range']
     have h0 : 0 < d := Nat.pos_of_ne_zero fun e => by subst e; simp [deepQ] at hs
     exact eqItems_deep ih h0 (by omega) hs hc m 0 r (by simpa using he)
    ·cases h
   ·cases h
  ·cases h
theorem Yields.eqD {neg : Bool} {t : TypeId} {sh : List CK} {x y : PV} {xs ys : Array Value} {r : Bool} (hx : x.val T = some (.agg xs)) (hy : y.val T = some (.agg ys)) (h : eqL sh xs.toList ys.toList = some r) :
  Yields P w0 n (.more (.eqD neg t sh x y)) T S (.bool (if neg then !r else r)) := by
 intro o a w hco hs hr
 obtain ⟨c, d, u, ho, rfl, rfl, hfl, hg, dd, hu, hdd⟩ := cOp_spec P hco
 have hk : ckOf P t = none := by
  unfold ckOf
  rw [hu]
  cases dd <;> simp_all
 have heq : (Op.equalIn 10000 t (.agg xs) (.agg ys)).run P w = .ok r w := (agg_eq P w 8 t sh hfl hk).2 10000 (by omega) xs ys r h
 simp only [execOp, ho, hs.eval hx, hs.eval hy]
 cases neg
 ·simp only [Bool.false_eq_true, if_false, Sem.run_bind, run_eqGuard_agg w .eql t c d xs ys hg, Result.andThen_ok, run_eql_struct, heq]
  simp
 ·simp only [if_true, Sem.run_bind, run_eqGuard_agg w .neq t c d xs ys hg, Result.andThen_ok]
  have : (binOp .neq t (.agg xs) (.agg ys)).run P w = .ok (.bool !r) w := by
   show (do Pure.pure (Value.bool (!(← Op.equal t (.agg xs) (.agg ys)))) : Sem Value).run P w = _
   have h2 : (Op.equal t (.agg xs) (.agg ys)).run P w = .ok r w := heq
   simp [h2]
  simp [this]
end
end Go.SL

namespace Go.SL
open Go.RowKit
section
variable {P : Program} {w0 : World} {n : Nat} {T : TT} {S : SS}
set_option maxHeartbeats 1000000 in
theorem PW.quiet2Q {p k : Nat} {l : List PI} {Q : Exit → TT → SS → Prop} {T' : TT} (hm : P.follows .mixedOrders = true) (h1 : QL P w0 n S (l.take k) T T') (h2 : OL P w0 n (l.drop k) T' S (Q .normal)) : PW P w0 n (.quiet2 p k l) T S Q := by
 intro c hc a w hs hr
 cases c
 case region id ops dr =>
  cases dr with
  | false => simp [cC] at hc
  | true =>
   simp only [cC] at hc
   split at hc
   case isFalse => simp at hc
   rename_i hcond
   simp only [Bool.and_eq_true] at hcond
   obtain ⟨⟨⟨hap, hback⟩, hsel⟩, hhoist⟩ := hcond
   simp only [Option.map_eq_some_iff] at hc
   obtain ⟨l', hcis, hmk⟩ := hc
   obtain ⟨rfl, rfl, _, _⟩ := mkQ_quiet2 hmk
   obtain ⟨hhead, hkle⟩ := headOf_spec ops (hoists ops) ops.size (Nat.le_refl _)
   change headB ops ((hoists ops).filter (· < quietAt ops)) (quietAt ops) = true at hhead
   change quietAt ops ≤ ops.size at hkle
   generalize hk : quietAt ops = k at *
   generalize hH : (hoists ops).filter (· < k) = Hs at *
   have hHk : ∀ i ∈ Hs, i < k := fun i hi => by rw [← hH] at hi; simpa using (List.mem_filter.1 hi).2
   have hsplit : List.range ops.size = List.range' 0 k ++ List.range' k (ops.size - k) := by
    rw [List.range_eq_range']
    have := List.range'_append (s := 0) (m := k) (n := ops.size - k) (step := 1)
    simp only [Nat.one_mul, Nat.zero_add] at this
    rw [this]
    congr 1
    omega
   rw [hsplit] at hcis
   obtain ⟨hc1, hc2⟩ := cIs_append hcis
   simp only [List.length_range'] at hc1 hc2
   have hlen : (l'.take k).length = k := by simpa using cIs_length hc1
   obtain ⟨vs, hsat', hgives, hdst⟩ := h1.trace (ops := ops) 0 a (by rw [hlen]; exact hc1) hs
   rw [hlen] at hsat' hgives hdst
   simp only [Nat.zero_add] at hgives hdst
   -- ordered pairs
   have hpair : ∀ i j, i < j → j < ops.size → ∀ oi oj, ops[i]? = some oi → ops[j]? = some oj → behind (reach ops) j i = true ∨ oi.apart ops oj = true := by
    intro i j hij hj oi oj hoi hoj
    have := List.all_eq_true.1 (List.all_eq_true.1 hap j (List.mem_range.2 hj)) i (List.mem_range.2 hij)
    simpa [hoi, hoj] using this
   have htail : ∀ t i, k ≤ t → t < ops.size → i < t → i ∉ Hs → behind (reach ops) t i = true := by
    intro t i hkt ht hi hnH
    have := List.all_eq_true.1 hhead t (List.mem_range.2 ht)
    simp only [Bool.or_eq_true, decide_eq_true_eq] at this
    rcases this with h | h
    ·omega
    ·have := List.all_eq_true.1 h i (List.mem_range.2 hi)
     simpa [hnH] using this
   have hreadyX : ∀ (listed : Array Bool) i, (∀ j o, ops[j]? = some o → listed.getD j true = true → ∀ e ∈ o.after, Region.binds .any e = true → listed.getD e.on true = true) → i ∈ Region.ready .any ops listed →
     ∀ j, j < ops.size → behind (reach ops) i j = true → j ≠ i → listed.getD j true = true := by
    intro listed i hcl hi j hj hb hne
    obtain ⟨hun, o, ho, hall⟩ := mem_ready.1 hi
    have hX : Closed ops (fun x => listed.getD x true = true ∨ x = i) := by
     rintro x ox hox (hx | rfl) e he hbd
     ·exact .inl (hcl x ox hox hx e he hbd)
     ·obtain rfl : o = ox := by rw [ho] at hox; exact Option.some.inj hox
      have := hall e he hbd
      left
      cases hlt : listed[e.on]? with
      | none => simp [hlt] at this
      | some b => simpa [hlt] using this
    rcases behind_spec hX (Array.getElem?_eq_some_iff.1 ho).1 hb (.inr rfl) with h | h
    ·exact h
    ·exact absurd h hne
   have horder : ∀ (listed : Array Bool) i o, (∀ j o, ops[j]? = some o → listed.getD j true = true → ∀ e ∈ o.after, Region.binds .any e = true → listed.getD e.on true = true) → i ∈ Region.ready .any ops listed → ops[i]? = some o → i < k →
     ∀ x, (x ∈ o.looksAt ops ∨ o.dst = some x) → ∀ j, j < k → j ≠ i → dstAt ops j = some x → decide (j < i) = listed.getD j true := by
    intro listed i o hcl hi ho hik x hx j hj hne hdj
    obtain ⟨hun, o', ho', hpre⟩ := mem_ready.1 hi
    have hilt : i < ops.size := (Array.getElem?_eq_some_iff.1 ho).1
    have hjlt : j < ops.size := by omega
    have hoj : ops[j]? = some ops[j] := by simp [hjlt]
    have hdj' : ops[j].dst = some x := by simpa [dstAt, hoj] using hdj
    rcases Nat.lt_or_gt_of_ne hne with h | h
    ·rcases hpair j i h hilt _ _ hoj ho with hb' | hap'
     ·rw [hreadyX listed i hcl hi j hjlt hb' hne]
      simp [h]
     ·obtain ⟨e1, e2, e3⟩ := Oper.apart_spec hap'
      rcases hx with hx | hx
      ·exact absurd hx (e1 x hdj')
      ·exact absurd hx (e2 x hdj')
    ·rcases hpair i j h hjlt _ _ ho hoj with hb' | hap'
     ·have hnl : listed.getD j true = false := by
       cases hlj : listed.getD j true with
       | false => rfl
       | true =>
        exfalso
        have hX : Closed ops (fun x => listed.getD x true = true) := fun x ox hox hx e he hbd => hcl x ox hox hx e he hbd
        have := behind_spec hX hjlt hb' hlj
        rw [hun] at this
        cases this
      rw [hnl]
      simp; omega
     ·obtain ⟨e1, e2, e3⟩ := Oper.apart_spec hap'
      rcases hx with hx | hx
      ·exact absurd hx (e3 x hdj')
      ·exact absurd hdj' (e2 x hx)
   have hgetset : ∀ (listed : Array Bool) i, listed.size = ops.size → i < ops.size → (listed.setIfInBounds i true).getD i true = true := by
    intro listed i h1 h2
    have : i < listed.size := by omega
    simp [this]
   have hput : ∀ (listed : Array Bool) i o, listed.size = ops.size → (∀ j o, ops[j]? = some o → listed.getD j true = true → ∀ e ∈ o.after, Region.binds .any e = true → listed.getD e.on true = true) → i ∈ Region.ready .any ops listed → ops[i]? = some o → i < k →
     (foldF ops vs (fun j => listed.getD j true) k a).put o.dst (vs i) = foldF ops vs (fun j => (listed.setIfInBounds i true).getD j true) k a := by
    intro listed i o hsz hcl hi ho hik
    have hilt : i < ops.size := (Array.getElem?_eq_some_iff.1 ho).1
    have hdo : dstOk n o.dst = true := hdst i o hik ho
    have hda : dstAt ops i = o.dst := by simp [dstAt, ho]
    have hgi := hgetset listed i hsz hilt
    have hgj : ∀ j, j ≠ i → (listed.setIfInBounds i true).getD j true = listed.getD j true := fun j hj => getD_set_ne true (Ne.symm hj)
    have szs : ∀ f, (foldF ops vs f k a).tmps.size = a.tmps.size := fun f => (foldF_size ops vs f k a).1
    have dfs : ∀ f, (foldF ops vs f k a).defers = a.defers := fun f => (foldF_size ops vs f k a).2
    refine act_ext ?_ ?_ fun x => ?_
    ·cases o.dst <;> simp [Act.put, szs]
    ·cases o.dst <;> simp [Act.put, dfs]
    ·by_cases hx : o.dst = some x
     ·have e1 : (foldF ops vs (fun j => (listed.setIfInBounds i true).getD j true) k a).tmps[x]? = (foldF ops vs (fun j => decide (j < i + 1)) k a).tmps[x]? := by
       refine foldF_agree ops vs _ _ k a x fun j hj hdj => ?_
       by_cases e : j = i
       ·subst e; rw [hgi]; simp
       ·rw [hgj j e, ← horder listed i o hcl hi ho hik x (.inr hx) j hj e hdj]
        by_cases h : j < i
        ·have : j < i + 1 := by omega
         simp [h, this]
        ·have : ¬ j < i + 1 := by omega
         simp [h, this]
      rw [e1, foldF_runA ops vs (i + 1) k a (by omega)]
      have e2 : runA ops vs 0 (i + 1) a = (runA ops vs 0 i a).put (dstAt ops i) (vs i) := by
       simp [runA, List.range'_concat]
      rw [e2, hda, hx]
      simp only [Act.put]
      have hxn : x < a.tmps.size := by rw [hs.size]; simpa [dstOk, hx] using hdo
      have hsz1 : (runA ops vs 0 i a).tmps.size = a.tmps.size := by rw [← foldF_runA ops vs i k a (by omega)]; exact szs _
      rw [Array.getElem?_setIfInBounds_self_of_lt (by rw [szs]; exact hxn), Array.getElem?_setIfInBounds_self_of_lt (by rw [hsz1]; exact hxn)]
     ·have e1 : (foldF ops vs (fun j => (listed.setIfInBounds i true).getD j true) k a).tmps[x]? = (foldF ops vs (fun j => listed.getD j true) k a).tmps[x]? := by
       refine foldF_agree ops vs _ _ k a x fun j hj hdj => ?_
       by_cases e : j = i
       ·subst e; rw [hda] at hdj; exact absurd hdj hx
       ·exact hgj j e
      rw [e1]
      cases hd : o.dst with
      | none => rfl
      | some y =>
       have : y ≠ x := fun e => hx (by rw [hd, e])
       simp [Act.put, Array.getElem?_setIfInBounds_ne this]
   have hagree : ∀ (listed : Array Bool) i o, (∀ j o, ops[j]? = some o → listed.getD j true = true → ∀ e ∈ o.after, Region.binds .any e = true → listed.getD e.on true = true) → i ∈ Region.ready .any ops listed → ops[i]? = some o → i < k →
     ∀ x, x ∈ o.looksAt ops → (runA ops vs 0 i a).tmps[x]? = (foldF ops vs (fun j => listed.getD j true) k a).tmps[x]? := by
    intro listed i o hcl hi ho hik x hx
    rw [← foldF_runA ops vs i k a (by omega)]
    refine foldF_agree ops vs _ _ k a x fun j hj hdj => ?_
    by_cases e : j = i
    ·subst e
     have hun := (mem_ready.1 hi).1
     rw [hun]; simp
    ·exact horder listed i o hcl hi ho hik x (.inl hx) j hj e hdj
   have hclset : ∀ (listed : Array Bool) i o, listed.size = ops.size → (∀ j o, ops[j]? = some o → listed.getD j true = true → ∀ e ∈ o.after, Region.binds .any e = true → listed.getD e.on true = true) → i ∈ Region.ready .any ops listed → ops[i]? = some o →
     (∀ j o, ops[j]? = some o → (listed.setIfInBounds i true).getD j true = true → ∀ e ∈ o.after, Region.binds .any e = true → (listed.setIfInBounds i true).getD e.on true = true) := by
    intro listed i o hsz hcl hi ho j oj hoj hj e he hbd
    have hilt : i < ops.size := (Array.getElem?_eq_some_iff.1 ho).1
    obtain ⟨hun, o', ho', hpre⟩ := mem_ready.1 hi
    obtain rfl : o = o' := by rw [ho] at ho'; exact Option.some.inj ho'
    have hgj : ∀ j, j ≠ i → (listed.setIfInBounds i true).getD j true = listed.getD j true := fun j hj => getD_set_ne true (Ne.symm hj)
    by_cases e1 : e.on = i
    ·rw [e1]; exact hgetset listed i hsz hilt
    ·rw [hgj _ e1]
     by_cases e2 : j = i
     ·subst e2
      obtain rfl : o = oj := by rw [ho] at hoj; exact Option.some.inj hoj
      have := hpre e he hbd
      cases hlt : listed[e.on]? with
      | none => simp [hlt] at this
      | some bb => simpa [hlt] using this
     ·rw [hgj _ e2] at hj
      exact hcl j oj hoj hj e he hbd
   have hcntset : ∀ (listed : Array Bool) i, listed.size = ops.size → i ∈ Region.ready .any ops listed → i < ops.size → cnt (fun j => listed.getD j true) ops.size = cnt (fun j => (listed.setIfInBounds i true).getD j true) ops.size + 1 := by
    intro listed i hsz hi hilt
    have := cnt_set (f := fun j => listed.getD j true) (g := fun j => (listed.setIfInBounds i true).getD j true) (i := i) (mem_ready.1 hi).1 (hgetset listed i hsz hilt) (fun j hj => getD_set_ne true (Ne.symm hj)) ops.size
    simpa [hilt] using this
   refine wp_mono (Q := fun e a' w' => e = .normal ∧ ∃ T' S', Sat n T' a' ∧ Rep w0 S' w' ∧ Q e T' S') ?_ (fun e a' w' h => h.2)
   refine wp_region_any hm ?_
   have key : ∀ (fuel : Nat) (listed : Array Bool) (b : Act) (w' : World), listed.size = ops.size →
     (∀ j o, ops[j]? = some o → listed.getD j true = true → ∀ e ∈ o.after, Region.binds .any e = true → listed.getD e.on true = true) → (∀ i ∈ Hs, listed.getD i true = true) →
     (∀ t, k ≤ t → t < ops.size → listed.getD t true = false) → b = foldF ops vs (fun j => listed.getD j true) k a → Rep w0 S w' → cnt (fun j => listed.getD j true) ops.size = fuel →
     wpAny P .any ops (fun e a' w' => e = .normal ∧ ∃ T' S', Sat n T' a' ∧ Rep w0 S' w' ∧ Q e T' S') fuel listed b w' := by
    intro fuel
    induction fuel with
    | zero =>
     intro listed b w' hsz hcl hHl htl hb hr' hcnt
     have hall : ∀ j, j < ops.size → listed.getD j true = true := by
      intro j hj
      cases hx : listed.getD j true with
      | true => rfl
      | false =>
       exfalso
       have : ∀ m, j < m → 0 < cnt (fun j => listed.getD j true) m := by
        intro m
        induction m with
        | zero => intro h; omega
        | succ m ih =>
         intro h
         simp only [cnt]
         by_cases e : j = m
         ·subst e; simp [hx]
         ·have := ih (by omega); omega
       have := this ops.size hj
       omega
     have hkeq : k = ops.size := by
      rcases Nat.lt_or_ge k ops.size with h | h
      ·have h1 := htl k (Nat.le_refl _) h
       have h2 := hall k h
       rw [h1] at h2
       cases h2
      ·omega
     have hbt : b = runA ops vs 0 k a := by
      rw [hb, ← foldF_runA ops vs k k a (Nat.le_refl _)]
      unfold foldF
      refine foldl_ext' _ _ _ _ fun b j hj => ?_
      have hj' := List.mem_range.1 hj
      simp [hall j (by omega), hj']
     refine ⟨?_, ?_⟩
     ·unfold Region.ready
      rw [List.filter_eq_nil_iff]
      intro i hi
      rw [hall i (List.mem_range.1 hi)]
      simp
     ·have := h2 ops [] b w' (fun e a' w' => e = .normal ∧ ∃ T' S', Sat n T' a' ∧ Rep w0 S' w' ∧ Q e T' S') (by
       rw [hkeq, Nat.sub_self] at hc2
       rw [hkeq]
       simpa using hc2) (hbt ▸ hsat') hr' (fun a' w' T' S' h3 h4 h5 => ⟨rfl, T', S', h3, h4, h5⟩)
      simpa [wpOps] using this
    | succ fuel ih =>
     intro listed b w' hsz hcl hHl htl hb hr' hcnt
     by_cases hall : ∀ j, j < k → listed.getD j true = true
     ·-- the head is done
      have hexact : ∀ j, j < ops.size → listed.getD j true = decide (j < k) := by
       intro j hj
       by_cases h : j < k
       ·rw [hall j h]; simp [h]
       ·rw [htl j (by omega) hj]; simp [h]
      have hbt : b = runA ops vs 0 k a := by
       rw [hb, ← foldF_runA ops vs k k a (Nat.le_refl _)]
       unfold foldF
       refine foldl_ext' _ _ _ _ fun b j hj => ?_
       have hj' := List.mem_range.1 hj
       simp [hall j hj', hj']
      have hfuel : fuel + 1 = ops.size - k := by
       rw [← hcnt, cnt_congr ops.size hexact, cnt_below]
      rw [hfuel]
      have htl2 : ∀ listed' : Array Bool, ∀ t s', k ≤ s' → s' < t → t < ops.size → (∀ j, j < ops.size → listed'.getD j true = decide (j < s')) → listed'.size = ops.size → t ∉ Region.ready .any ops listed' := by
       intro l'' t s' h1 h2 h3 h4 h5 hmem
       have := hreadyX l'' t (fun j o ho hj e he hbd => by
        have hlt := backB_spec hback ho he hbd
        have hjs : j < ops.size := (Array.getElem?_eq_some_iff.1 ho).1
        rw [h4 j hjs] at hj
        rw [h4 e.on (by omega)]
        simp only [decide_eq_true_eq] at hj ⊢
        omega) hmem s' (by omega) (htail t s' (by omega) h3 h2 (fun hm' => by have := hHk s' hm'; omega)) (by omega)
       rw [h4 s' (by omega)] at this
       simp at this
      refine wpAny_tail hback (ops.size - k) k listed b w' (by omega) hsz hexact (fun t i h1 h2 h3 h4 h5 => htl2 listed t k (Nat.le_refl _) h1 h2 hexact hsz) htl2 ?_
      exact h2 ops _ b w' _ hc2 (hbt ▸ hsat') hr' (fun a' w' T' S' h3 h4 h5 => ⟨rfl, T', S', h3, h4, h5⟩)
     ·refine ⟨fun h0 => ?_, fun i hi => ?_⟩
      ·exfalso
       obtain ⟨i, hi1, hi2, hi3⟩ := cnt_pos ops.size (by rw [hcnt]; omega : 0 < cnt (fun j => listed.getD j true) ops.size)
       have : i ∈ Region.ready .any ops listed := by
        rw [mem_ready]
        refine ⟨hi2, ops[i], by simp [hi1], fun e he hbd => ?_⟩
        have hlt := backB_spec hback (show ops[i]? = some ops[i] by simp [hi1]) he hbd
        have h3 := hi3 e.on hlt
        have : e.on < listed.size := by omega
        simpa [this] using h3
       rw [h0] at this
       simp at this
      ·have hmem := mem_ready.1 hi
       obtain ⟨hun, o, ho, hpre⟩ := hmem
       have hilt : i < ops.size := (Array.getElem?_eq_some_iff.1 ho).1
       have hik : i < k := by
        rcases Nat.lt_or_ge i k with h | h
        ·exact h
        ·exfalso
         refine hall fun j hj => ?_
         by_cases hjH : j ∈ Hs
         ·exact hHl j hjH
         ·exact hreadyX listed i hcl hi j (by omega) (htail i j h hilt (by omega) hjH) (by omega)
       have hdo : dstOk n o.dst = true := hdst i o hik ho
       have hagree' := hagree listed i o hcl hi ho hik
       rw [← hb] at hagree'
       have hev : execOp (runA ops vs 0 i a).eval o = execOp b.eval o :=
        execOp_congr o (fun cs bb hh => Region.noSelect_spec hsel i o cs bb ho hh) fun x hx => eval_agree fun t ht => hagree' t (looks_op (ht ▸ hx))
       have hwan := wanted_agree (ops := ops) (o := o) (a := runA ops vs 0 i a) (b := b) hagree'
       have hnext : ∀ w'', Rep w0 S w'' → wpAny P .any ops (fun e a' w' => e = .normal ∧ ∃ T' S', Sat n T' a' ∧ Rep w0 S' w' ∧ Q e T' S') fuel (listed.setIfInBounds i true) (b.put o.dst (vs i)) w'' := by
        intro w'' hr''
        have hgj : ∀ j, j ≠ i → (listed.setIfInBounds i true).getD j true = listed.getD j true := fun j hj => getD_set_ne true (Ne.symm hj)
        refine ih _ _ w'' (by simpa using hsz) (hclset listed i o hsz hcl hi ho) ?_ ?_ ?_ hr'' ?_
        ·intro j hj
         by_cases e : j = i
         ·subst e; exact hgetset listed j hsz hilt
         ·rw [hgj j e]; exact hHl j hj
        ·intro t h3 h4
         rw [hgj t (by omega)]
         exact htl t h3 h4
        ·rw [hb]; exact hput listed i o hsz hcl hi ho hik
        ·have := hcntset listed i hsz hi hilt
         omega
       unfold wpOp
       simp only [ho]
       rcases hgives i hik o ho with ⟨hw1, hw2⟩ | ⟨hw1, hw2⟩
       ·rw [hwan] at hw1
        rw [if_pos hw1]
        left
        have hsz1 : (runA ops vs 0 i a).tmps.size = n := by rw [← foldF_runA ops vs i k a (by omega), (foldF_size ops vs _ k a).1, hs.size]
        have hsz2 : b.tmps.size = n := by rw [hb, (foldF_size ops vs _ k a).1, hs.size]
        have hdf : (runA ops vs 0 i a).defers = [] := by rw [← foldF_runA ops vs i k a (by omega), (foldF_size ops vs _ k a).2, hs.defers]
        refine Oper.wp_mono ?_ (wp_transfer hev (by rw [hsz1, hsz2]) (by rw [hsz1]; exact hdo) hdf (hw2 w' hr'))
        rintro b' w'' ⟨rfl, hr''⟩
        exact hnext w'' hr''
       ·rw [hwan] at hw1
        rw [hw1]
        simp only [Bool.false_eq_true, if_false]
        rw [← hw2]
        exact hnext w' hr'
   -- the moves first
   have phase0 : ∀ (Hr : List Nat) (listed : Array Bool) (b : Act) (w' : World), hoistB ops Hr listed = true → (∀ i ∈ Hr, i < k) → listed.size = ops.size →
     (∀ j o, ops[j]? = some o → listed.getD j true = true → ∀ e ∈ o.after, Region.binds .any e = true → listed.getD e.on true = true) → (∀ i ∈ Hs, listed.getD i true = true ∨ i ∈ Hr) →
     (∀ t, k ≤ t → t < ops.size → listed.getD t true = false) → b = foldF ops vs (fun j => listed.getD j true) k a → Rep w0 S w' →
     wpAny P .any ops (fun e a' w' => e = .normal ∧ ∃ T' S', Sat n T' a' ∧ Rep w0 S' w' ∧ Q e T' S') (cnt (fun j => listed.getD j true) ops.size) listed b w' := by
    intro Hr
    induction Hr with
    | nil =>
     intro listed b w' _ _ hsz hcl hHl htl hb hr'
     exact key _ listed b w' hsz hcl (fun i hi => (hHl i hi).resolve_right (by simp)) htl hb hr' rfl
    | cons i Hr ih =>
     intro listed b w' hh hlt hsz hcl hHl htl hb hr'
     simp only [hoistB, Bool.and_eq_true] at hh
     obtain ⟨⟨⟨hho, hfree⟩, hready⟩, hrest⟩ := hh
     have hi : i ∈ Region.ready .any ops listed := by simpa using hready
     obtain ⟨hun, o, ho, hpre⟩ := mem_ready.1 hi
     have hilt : i < ops.size := (Array.getElem?_eq_some_iff.1 ho).1
     have hik : i < k := hlt i (by simp)
     have hgj : ∀ j, j ≠ i → (listed.setIfInBounds i true).getD j true = listed.getD j true := fun j hj => getD_set_ne true (Ne.symm hj)
     rw [hcntset listed i hsz hi hilt]
     simp only [hoistable?, ho, hoistable, Bool.and_eq_true] at hho
     obtain ⟨hgn, hmv⟩ := hho
     have hgn' : o.guard = none := by simpa using hgn
     have hwant : ∀ t : Array Value, Region.wanted o (yielded ops t) = true := fun t => by simp [Region.wanted, hgn']
     have hagree' := hagree listed i o hcl hi ho hik
     rw [← hb] at hagree'
     have hdo : dstOk n o.dst = true := hdst i o hik ho
     have hsz1 : (runA ops vs 0 i a).tmps.size = n := by rw [← foldF_runA ops vs i k a (by omega), (foldF_size ops vs _ k a).1, hs.size]
     have hmove : ∃ x, (o.op = .move x ∨ o.op = .assign x) := by
      cases hop : o.op <;> rw [hop] at hmv <;> simp at hmv
      ·exact ⟨_, .inl rfl⟩
      ·exact ⟨_, .inr rfl⟩
     obtain ⟨x, hx⟩ := hmove
     have hexec : ∀ ρ, execOp ρ o = pure (.value (ρ x)) := by
      intro ρ
      rcases hx with hx | hx <;> simp [execOp, hx]
     have hval : b.eval x = vs i ∨ o.dst = none := by
      rcases hgives i hik o ho with ⟨_, hw2⟩ | ⟨hw1, _⟩
      ·have := hw2 w' hr'
       unfold Oper.wp at this
       rw [hexec] at this
       simp only [Sem.run_pure, Oper.upon] at this
       have hev : (runA ops vs 0 i a).eval x = b.eval x := eval_agree fun t ht => hagree' t (looks_op (by rcases hx with hx | hx <;> simp [hx, Op.operands, ht]))
       cases hd : o.dst with
       | none => exact .inr rfl
       | some d =>
        left
        rw [hd] at this hdo
        have h3 := congrArg (fun c : Act => c.tmps[d]?) this.1
        have hdn : d < n := by simpa [dstOk] using hdo
        simp [Act.put, hsz1, hdn] at h3
        rw [← hev]; exact h3
      ·rw [hwant] at hw1; cases hw1
     refine wpAny_take (oi := o) (v := b.eval x) ho hsel hfree hready (fun c a w hq => by simp at hq) (.inl ⟨hwant _, fun w => by rw [hexec]; rfl⟩) ?_
     have hbput : b.put o.dst (b.eval x) = foldF ops vs (fun j => (listed.setIfInBounds i true).getD j true) k a := by
      rw [← hput listed i o hsz hcl hi ho hik, ← hb]
      rcases hval with h | h
      ·rw [h]
      ·rw [h]; rfl
     rw [hbput]
     refine ih _ _ w' hrest (fun j hj => hlt j (by simp [hj])) (by simpa using hsz) (hclset listed i o hsz hcl hi ho) ?_ ?_ rfl hr'
     ·intro j hj
      by_cases e : j = i
      ·subst e; exact .inl (hgetset listed j hsz hilt)
      ·rw [hgj j e]
       rcases hHl j hj with h | h
       ·exact .inl h
       ·rcases List.mem_cons.1 h with h | h
        ·exact absurd h e
        ·exact .inr h
     ·intro t h3 h4
      rw [hgj t (by omega)]
      exact htl t h3 h4
   have hcnt0 : cnt (fun j => (Array.replicate ops.size false).getD j true) ops.size = ops.size := by
    rw [cnt_congr (g := fun j => decide (j < 0)) ops.size (fun j hj => by simp [hj]), cnt_below]
    omega
   have := phase0 Hs (Array.replicate ops.size false) a { w with drawn := w.drawn + 1 } hhoist hHk (by simp) ?_ (fun i hi => .inr hi) ?_ ?_ ?_
   ·rwa [hcnt0] at this
   ·intro j o ho hj
    exfalso
    have hlt : j < ops.size := (Array.getElem?_eq_some_iff.1 ho).1
    simp [hlt] at hj
   ·intro t _ ht
    simp [ht]
   ·have : ∀ j, j < k → (Array.replicate ops.size false).getD j true = decide (j < 0) := by
     intro j hj
     have : j < ops.size := by omega
     simp [this]
    have h0 : foldF ops vs (fun j => (Array.replicate ops.size false).getD j true) k a = foldF ops vs (fun j => decide (j < 0)) k a := by
     unfold foldF
     refine foldl_ext' _ _ _ _ fun b j hj => ?_
     simp only [this j (List.mem_range.1 hj)]
    rw [h0, foldF_runA ops vs 0 k a (Nat.zero_le _)]
    rfl
   ·exact hr.same ((Below.refl _ w).drew) (fun _ _ => rfl)
 all_goals (first | (simp [cC] at hc; done) | (simp only [cC] at hc; split at hc <;> simp at hc; done))
theorem PW.quiet2QK {p k : Nat} {l : List PI} {Q : Exit → TT → SS → Prop} (hm : P.follows .mixedOrders = true) (h : QK P w0 n S (l.take k) T (fun T' => OL P w0 n (l.drop k) T' S (Q .normal))) : PW P w0 n (.quiet2 p k l) T S Q :=
 let ⟨_, h1, h2⟩ := h; PW.quiet2Q hm h1 h2
end
end Go.SL

namespace Go.SL
open Go.RowKit
def fen : Option Nat → Fence
 | none => Fence.wide
 | some l => Fence.wide.inRound l
theorem fen_calls {r : Option Nat} {m : Nat} {P : Program} {f : FuncId} {args : Array Value} {w : World} {R : Ending → World → Prop} : CallsIn (fen r) m P f args w R ↔ Calls P f args w R := by
 have h0 := callsIn_wide (n := m) (P := P) (f := f) (args := args) (w := w) (R := R)
 cases r with
 | none => exact h0
 | some l => exact ⟨fun h => h0.1 h, fun h => h0.2 h⟩
section
variable {P : Program} {w0 : World} {n : Nat} {T : TT} {S : SS} {r : Option Nat} {m : Nat}
theorem Rep.putObj {l : Nat} {o o' : Obj} {w : World} (h : Rep w0 ([(l, .obj o)] :: S) w) (hc : o.isCells = false) (hw : o.isWalk = false) : Rep w0 ([(l, .obj o')] :: S) (w.putObj l o') := by
 obtain ⟨hge, hown⟩ := h.own (l, .obj o) (by simp)
 have hl : w.heap[l]? = some o := hown
 refine ⟨h.below.trans (belowK_b (w := w0) (Nat.le_refl _) w l o o' hge hl hc hw), by simpa using h.nodup, fun p hp => ?_, h.drawn⟩
 simp only [List.flatten_cons, List.singleton_append, List.mem_cons] at hp
 rcases hp with rfl | hp
 ·exact ⟨hge, World.putObj_heap_same (h.lt (p := (l, .obj o)) (by simp))⟩
 ·obtain ⟨h1, h2⟩ := h.own p (by simp [hp])
  refine ⟨h1, h2.congr (World.putObj_heap_other ?_)⟩
  intro e
  have := h.nodup
  simp only [List.flatten_cons, List.singleton_append, List.map_cons, List.nodup_cons] at this
  exact this.1 (e ▸ List.mem_map.2 ⟨p, hp, rfl⟩)
end
end Go.SL

namespace Go.SL
open Go.RowKit
section
variable {P : Program} {w0 : World} {n : Nat} {T : TT} {S : SS}
theorem eval_defers (a : Act) (ds : List Deferred) : Act.eval { a with defers := ds } = a.eval := by funext x; cases x <;> rfl
theorem put_defers (a : Act) (ds : List Deferred) (d : Option Nat) (v : Value) : Act.put { a with defers := ds } d v = { a.put d v with defers := ds } := by cases d <;> rfl
theorem wp_defers {o : Oper} {a : Act} {w : World} {K K' : Act → World → Prop} {Q Q' : Exit → Act → World → Prop} (ds : List Deferred) (hnd : ∀ d w', (execOp a.eval o).run P w ≠ .ok (.defer d) w') (hk : ∀ a w, K a w → K' { a with defers := ds } w) (hq : ∀ e a w, Q e a w → Q' e { a with defers := ds } w) (h : o.wp P a w K Q) : o.wp P { a with defers := ds } w K' Q' := by
  unfold Oper.wp at *
  rw [eval_defers]
  have hput := fun d v => put_defers a ds d v
  have hlo : LetsOut Q → LetsOut Q' := fun ⟨a0, w0, h⟩ => ⟨_, w0, hq _ _ _ h⟩
  generalize hx : (execOp a.eval o).run P w = x at *
  cases x with
  | ok y w' =>
    cases y <;> simp only [Oper.upon] at h ⊢ <;>
      first
        | (rw [hput]; exact hk _ _ h)
        | exact h.elim
        | (exact Calls.mono h (fun e w'' he => by cases e <;> first | (simp only at he ⊢; rw [hput]; exact hk _ _ he) | exact hq _ _ _ he | exact hlo he))
        | (exact Rows.mono h (fun v w'' he => by rw [hput]; exact hk _ _ he))
        | exact absurd rfl (hnd _ _)
  | halt y w' => cases y <;> simp only [Oper.upon] at h ⊢ <;> first | exact hq _ _ _ h | exact h.elim
def noDefer (P : Program) (po : PO) : Prop := ∀ o, cOp P o = some po → ∀ (ρ : Operand → Value) (w w' : World) d, (execOp ρ o).run P w ≠ .ok (.defer d) w'
def OLd (P : Program) (w0 : World) (n : Nat) (ds : List Deferred) (l : List PI) (T : TT) (S : SS) (K : TT → SS → Prop) : Prop :=
  ∀ (ops : Array Oper) (is : List Nat) a w (Q : Exit → Act → World → Prop), cIs P n ops is = some l → Sat n T a → Rep w0 S w →
    (∀ a' w' T' S', Sat n T' a' → Rep w0 S' w' → K T' S' → Q .normal { a' with defers := ds } w') → wpOps P ops Q is { a with defers := ds } w
theorem OLd.nil {ds : List Deferred} {K : TT → SS → Prop} (h : K T S) : OLd P w0 n ds [] T S K := by
  intro ops is a w Q hc hs hr hk
  cases is with
  | nil => exact hk a w T S hs hr h
  | cons i is =>
    simp only [cIs] at hc
    split at hc
    · simp at hc
    · simp at hc
theorem OLd.cons {ds : List Deferred} {po : PO} {d : Option Nat} {rr : List PI} {K : TT → SS → Prop} {K' : Value → SS → Prop} (hnd : noDefer P po) (h : OW P w0 n po T S K') (hk : ∀ v S', K' v S' → OLd P w0 n ds rr (put d v T) S' K) : OLd P w0 n ds (⟨d, none, po⟩ :: rr) T S K := by
  intro ops is a w Q hc hs hr hq
  obtain ⟨i, is, rfl, hi, hrest⟩ := cIs_cons hc
  obtain ⟨o, ho, hpo, hd, hdst, hg⟩ := cI_spec hi
  have hw : Region.wanted o (yielded ops a.tmps) = true := by
    rcases hg with ⟨hg, _⟩ | ⟨j, b, s, hg, hj, he⟩
    · simp [Region.wanted, hg]
    · simp at he
  rw [wpOps_cons]
  unfold wpOp
  simp only [ho]
  rw [if_pos hw]
  refine .inl (wp_defers (Q := fun e a w => Q e { a with defers := ds } w) ds (fun d w' => hnd o hpo _ _ _ _) ?_ (fun _ _ _ h => h) (h o a w _ hpo hs hr))
  rintro a' w' ⟨v, S', rfl, hr', hk'⟩
  simp only at hdst
  subst hdst
  exact hk v S' hk' ops is _ w' Q hrest (hs.put hd _) hr' hq
theorem Rep.allocObj {w : World} (h : Rep w0 S w) (o : Obj) : Rep w0 ([(w.heap.size, .obj o)] :: S) (w.alloc o) := by
  refine h.push (below_alloc h _) (fun i hi => alloc_heap_lt w _ i hi) (by simp) ?_
  intro p hp
  simp only [List.mem_singleton] at hp
  subst hp
  exact ⟨World.alloc_heap_new w o, Nat.le_refl _⟩
def LS (l D : Nat) (L : Loop) (S : SS) : SS := [(l, .obj (.loop L))] :: [(D, .obj (.deferred (some [])))] :: S
theorem Rep.putD {l D : Nat} {L : Loop} {w : World} (h : Rep w0 (LS l D L S) w) : ∃ S', Rep w0 S' (w.putObj D (.deferred none)) ∧ S' = S := by
  have h2 : Rep w0 ([(D, .obj (.deferred (some [])))] :: S) w := h.sub (fun p hp => by unfold LS; simp only [List.flatten_cons, List.mem_append] at hp ⊢; exact .inr hp) (by have := h.nodup; unfold LS at this; simp only [List.flatten_cons, List.singleton_append, List.map_cons, List.nodup_cons] at this ⊢; exact this.2)
  have h3 := Rep.putObj (o' := .deferred none) h2 rfl rfl
  exact ⟨S, h3.sub (fun p hp => by simp only [List.flatten_cons, List.mem_append]; exact .inr hp) (by have := h3.nodup; simp only [List.flatten_cons, List.singleton_append, List.map_cons, List.nodup_cons] at this; exact this.2), rfl⟩
def resOk (P : Program) (w0 : World) (n : Nat) (fn : Func) (post : Value → SS → Prop) (T : TT) (S : SS) : Prop :=
  ∃ v, (∀ a w, Sat n T a → Rep w0 S w → (results fn a.tmps).run P w = .ok v w) ∧ post v S
theorem FC.range {k id : Nat} {fn : Func} {c0 c1 c7 A B : Code} {g : Operand} {ps : Array Nat} {l0 l1 l7 : List PI} {args : List Value} {post : Value → SS → Prop}
    (hf : P.funcs[k]? = some fn) (hb : fn.body = some (.seq c0 (.seq (.seq c1 (.block id (.rangeFunc g ps A B))) (.seq c7 .ret)))) (hnt : fn.ntmps = n)
    (hc0 : cC P n c0 = some (.ops l0)) (hc1 : cC P n c1 = some (.ops l1)) (hc7 : cC P n c7 = some (.ops l7)) (hn : args.length ≤ n)
    (h : OL P w0 n l0 (argT 0 args) S (fun T0 S0 => OL P w0 n l1 T0 S0 (fun T1 S1 => ∃ (f : Nat) (fi ca : List Value), (cV g).val T1 = some (.func (.func f) fi.toArray ca.toArray) ∧ fnOk P f = true ∧
      ∀ (l D fid : Nat) (tmps : Array Value), Sat n T1 { tmps := tmps, defers := [] } →
        FC P w0 f (fi ++ [.func (.yield l) #[] #[]] ++ ca) (LS l D { state := .ready, pending := none, fn := fid, tmps := tmps, params := ps, assign := A, body := B, defers := D } S1) (fun _ S' => ∃ (L : Loop) (S3 : SS), S' = LS l D L S3 ∧ L.state ≠ .busy ∧
          ((L.pending = none ∧ ∀ L' ds, OLd P w0 n ds l7 T1 (LS l D L' S3) (fun T7 S7 => ∃ S8, S7 = LS l D L' S8 ∧ resOk P w0 n fn post T7 S8)) ∨
           (L.pending = some .ret ∧ resOk P w0 n fn post T1 S3)))))) : FC P w0 k args S post := by
  intro w hw
  subst hnt
  refine (callsIn_wide (n := 1)).1 (callsIn_of_wp_marks hf hb trivial ?_)
  refine wpIn_seq (wpIn_mono (wpIn_wide.2 ((PW.ops (Q := thenK (fun T0 S0 => OL P w0 fn.ntmps l1 T0 S0 _) (fun _ _ _ => False)) h) c0 hc0 _ w (argT_sat hn) hw)) ?_)
  rintro e a w1 ⟨T0, S0, hs0, hr0, q⟩
  cases e <;> try exact q.elim
  refine wpIn_seq ?_
  refine wpIn_seq (wpIn_mono (wpIn_wide.2 ((PW.ops (Q := thenK (fun T1 S1 => _) (fun _ _ _ => False)) q) c1 hc1 _ w1 hs0 hr0)) ?_)
  rintro e a1 w2 ⟨T1, S1, hs1, hr1, q1⟩
  cases e <;> try exact q1.elim
  obtain ⟨f, fi, ca, hg, hok, hfc⟩ := q1
  refine wpIn_block ?_
  refine wpIn_rangeFunc ?_
  intro fid _
  obtain ⟨tmps, ds1⟩ := a1
  obtain rfl : ds1 = [] := hs1.defers
  have hev : Act.eval ⟨tmps, []⟩ g = .func (.func f) fi.toArray ca.toArray := hs1.eval hg
  have hrepD := Rep.allocObj hr1 (.deferred (some []))
  have hrepL := Rep.allocObj hrepD (.loop { state := .ready, pending := none, fn := fid, tmps := tmps, params := ps, assign := A, body := B, defers := w2.heap.size })
  rw [World.size_alloc] at hrepL
  have hcall := hfc (w2.heap.size + 1) w2.heap.size fid tmps hs1 _ hrepL
  obtain ⟨W, hW⟩ : ∃ W, (w2.alloc (.deferred (some []))).alloc (.loop { state := .ready, pending := none, fn := fid, tmps := tmps, params := ps, assign := A, body := B, defers := w2.heap.size }) = W := ⟨_, rfl⟩
  have henter : (Instr.enterLoop fid tmps ps A B none).run P w2 = .ok (w2.heap.size + 1, [{ target := .collected w2.heap.size, args := #[] }]) W := by rw [← hW]; exact run_enterLoop_outer fid tmps ps A B
  rw [hW] at hcall
  clear hrepL hrepD
  refine ⟨w2.heap.size + 1, [{ target := .collected w2.heap.size, args := #[] }], W, { target := .fn (.func f) ca.toArray, args := fi.toArray ++ #[Value.func (.yield (w2.heap.size + 1)) #[] #[]] }, W, f, (fi ++ [Value.func (.yield (w2.heap.size + 1)) #[] #[]] ++ ca).toArray, W, henter, ?_, fun _ _ => trivial, ?_, (fun e => by cases e), ?_⟩
  · simp only [resolve, rangeCall, hev, Deferred.ofValue]
    simp [Sem.run, Act.eval]
  · unfold fnOk at hok
    split at hok
    · rename_i fn' hfn
      simp only [Bool.and_eq_true, bne_iff_ne, ne_eq] at hok
      have hb : ¬ fn'.body = none := by intro hh; simp [hh] at hok
      simp [invoke, callFunc, program, Sem.run, hfn, hok.1, hb]
    · simp at hok
  · refine (fen_calls (r := none)).2 (hcall.mono ?_)
    rintro e w3 ⟨v, S', rfl, hr3, L, S3, rfl, hbusy, hq⟩
    have hL : w3.heap[w2.heap.size + 1]? = some (.loop L) := (hr3.own (w2.heap.size + 1, .obj (.loop L)) (by simp [LS])).2
    refine ⟨L.pending, _, run_endLoop hL hbusy, ?_⟩
    have hr4 : Rep w0 (LS (w2.heap.size + 1) w2.heap.size { L with state := .exhausted } S3) (w3.putObj (w2.heap.size + 1) (.loop { L with state := .exhausted })) := Rep.putObj hr3 rfl rfl
    generalize w3.putObj (w2.heap.size + 1) (.loop { L with state := .exhausted }) = w4 at hr4
    have fin : ∀ (T7 : TT) (S7 : SS) (L7 : Loop) (a7 : Act) (w7 : World), Sat fn.ntmps T7 a7 → Rep w0 (LS (w2.heap.size + 1) w2.heap.size L7 S7) w7 → resOk P w0 fn.ntmps fn post T7 S7 →
        LeavesInM Fence.wide 1 P fn a7.tmps (fun e w' => ∃ v S', e = .returned v ∧ Rep w0 S' w' ∧ post v S') [{ target := .collected w2.heap.size, args := #[] }] .returning w7 := by
      rintro T7 S7 L7 a7 w7 hs7 hr7 ⟨v7, hv7, hp7⟩
      have hD : w7.heap[w2.heap.size]? = some (.deferred (some [])) := (hr7.own (w2.heap.size, .obj (.deferred (some []))) (by simp [LS])).2
      obtain ⟨S9, hr9, rfl⟩ := Rep.putD hr7
      exact ⟨by simp, .inl ⟨_, _, rfl, run_takeDeferred hD, v7, hv7 a7 _ hs7 hr9, v7, _, rfl, hr9, hp7⟩⟩
    rcases hq with ⟨hp, hq⟩ | ⟨hp, hq⟩
    · rw [hp]
      show (Code.seq c7 .ret).wpIn _ _ _ _ _ _
      refine wpIn_seq ?_
      cases c7 with
      | region id7 ops7 dr7 =>
        cases dr7 with
        | false =>
          simp only [cC, Option.map_eq_some_iff] at hc7
          obtain ⟨l', hc7', he⟩ := hc7
          simp only [PC.ops.injEq] at he
          subst he
          refine wpIn_wide.2 (wp_region (hq _ _ ops7 _ ⟨tmps, []⟩ w4 _ hc7' hs1 hr4 ?_))
          rintro a7 w7 T7 S7 hs7 hr7 ⟨S8, rfl, hres⟩
          exact wpIn_ret (fin T7 S8 _ a7 w7 hs7 hr7 hres)
        | true =>
          simp only [cC] at hc7
          split at hc7
          · simp at hc7
          · simp at hc7
      | _ => (first | (simp [cC] at hc7; done) | (simp only [cC] at hc7; split at hc7 <;> simp at hc7; done))
    · rw [hp]
      show (Code.ret).wpIn _ _ _ _ _ _
      exact wpIn_ret (fin T1 S3 _ ⟨tmps, []⟩ w4 hs1 hr4 hq)
end
end Go.SL

namespace Go.SL
open Go.ChangeShapes Go.WideShapes Go.ChangeAt Go.RowKit
section
variable {H : Type} {enc : TypeId × Value → H} {P : Program} {W : World}
theorem weights_mem_all {P : Program} {e : TypeId} : ∀ {ds : List (DataW H)} {d : DataW H} {k : Nat}, d ∈ ds → k ∈ d.weights P e → k ∈ DataW.weightsAll P e ds
 | x :: r, d, k, hd, hk => by
  simp only [DataW.weightsAll, List.mem_append]
  rcases List.mem_cons.1 hd with rfl | h
  ·exact .inl hk
  ·exact .inr (weights_mem_all h hk)
theorem arg_listW {α : Type} {f : α → List Value} {R : α → Prop} {t e : TypeId} {A : Option Addr} {len cap j : Nat} {d : DataW H} {ps : List MemPlace} {ts : List TypeId} {ds : List (DataW H)} (hu : P.underlying t = some (.slice e))
  (hQ : ∀ n cs y, DataW.trod enc P W 0 (fun _ => true) true n e cs = some y → cs.length = P.cellsOf e → (∀ k ∈ y.1.weights P e, k ≤ reachBytes) → ∃ x, cs = f x ∧ R x)
  (h : DataW.Trod enc P W 0 (fun _ => true) true t (.slice A len cap) d ps) (hsz : (DataW.weightsEach P ts ds).all (· ≤ reachBytes) = true) (ht : ts[j]? = some t) (hd : ds[j]? = some d) :
  ∃ l : List α, l.length = len ∧ Rd W [] A (l.flatMap f) ∧ (∀ x ∈ l, R x) ∧ len * P.bytesOf e ≤ reachBytes ∧ len ≤ cap := by
 obtain ⟨fuel, h⟩ := h
 rcases DataW.trod_slice hu h with ⟨h0, _⟩ | ⟨a, len', cap', elems, rest, n, _, hcs, hx, hb, hl, hm, hlen, hel, _, _⟩
 ·simp [Value.cells] at h0
  obtain ⟨rfl, rfl, rfl⟩ := h0
  exact ⟨[], rfl, Rd.nil, by simp, by simp, by simp⟩
 ·simp [Value.cells] at hcs
  obtain ⟨rfl, rfl, rfl⟩ := hcs
  have hw := sized_slice (P := P) hsz ht (elems := elems.map (·.1)) (spare := rest.map (·.1)) (by rw [hd]; simpa using congrArg Prod.fst hx) hu
  have hwt : ∀ (i : Nat) (hi : i < elems.length), ∀ k ∈ (elems[i].1).weights P e, k ≤ reachBytes := by
   intro i hi k hk
   have hdd : ds[j]? = some (.slice (elems.map (·.1)) (rest.map (·.1))) := by rw [hd]; simpa using congrArg Prod.fst hx
   have := List.all_eq_true.1 hsz _ (DataW.weights_mem_each ht hdd k (by
    simp only [DataW.weights, hu, List.mem_cons, List.mem_append]
    exact .inr (.inl (weights_mem_all (List.mem_map.2 ⟨elems[i], List.getElem_mem hi, rfl⟩) hk))))
   simpa using this
  generalize hmm : P.cellsOf e = m at *
  have row : ∀ i, i < len → ∃ cs', cs'.length = m ∧ (∀ q, q < m → W.cell? (a.add (i * m + q)) = cs'[q]?) ∧ ∃ x, cs' = f x ∧ R x := by
   intro i hi
   have := hel i hi
   have hs : elems[i]? = some (elems[i]'(by omega)) := List.getElem?_eq_getElem (by omega)
   rw [hs, Option.bind_eq_some_iff] at this
   obtain ⟨cs', hc, ht'⟩ := this
   obtain ⟨_, hlc, hcell⟩ := World.cells?_some hc
   refine ⟨cs', hlc, fun q hq => ?_, hQ _ _ _ ht' hlc (hwt i (by omega))⟩
   rw [← addr_add_add]
   exact hcell q hq
  have cellAt : ∀ j, j < len * m → ∃ v, W.cell? (a.add j) = some v := by
   intro j hj
   have hm0 : 0 < m := Nat.pos_of_ne_zero fun e => by subst e; omega
   have hi : j / m < len := Nat.div_lt_of_lt_mul (by rw [Nat.mul_comm]; exact hj)
   have hq := Nat.mod_lt j hm0
   obtain ⟨cs', h1, h2, _⟩ := row (j / m) hi
   have := h2 (j % m) hq
   rw [Nat.mul_comm, Nat.div_add_mod] at this
   exact ⟨_, by rw [this]; exact List.getElem?_eq_getElem (by omega)⟩
  let cs := (List.range (len * m)).map fun j => (W.cell? (a.add j)).getD undef
  have hcs : ∀ j, j < len * m → cs[j]? = W.cell? (a.add j) := by
   intro j hj
   obtain ⟨v, hv⟩ := cellAt j hj
   simp [cs, hj, hv]
  have hcl : cs.length = len * m := by simp [cs]
  obtain ⟨l, h1, h2, h3⟩ := split_rows (f := f) (R := R) (m := m) len cs hcl (fun i hi => by
   obtain ⟨cs', g1, g2, x, g3, g4⟩ := row i hi
   refine ⟨x, ?_, g4⟩
   rw [← g3]
   apply List.ext_getElem?
   intro q
   by_cases hq : q < m
   ·have : (i + 1) * m ≤ len * m := Nat.mul_le_mul_right _ hi
    rw [Nat.succ_mul] at this
    rw [List.getElem?_take_of_lt hq, List.getElem?_drop, hcs _ (by omega), g2 q hq]
   ·rw [List.getElem?_eq_none (by simp; omega), List.getElem?_eq_none (by omega)])
  refine ⟨l, h1, ?_, h3, ?_, hl⟩
  ·rw [← h2]
   intro j v hj
   have hlt : j < len * m := by have := (List.getElem?_eq_some_iff.1 hj).1; omega
   rw [hcs j hlt] at hj
   exact ⟨a, rfl, .inl hj⟩
  ·refine Nat.le_trans (Nat.mul_le_mul_right _ ?_) hw
   simp; omega
theorem arg_stringW_list {t e : TypeId} {A : Option Addr} {len cap j : Nat} {d : DataW H} {ps : List MemPlace} {ts : List TypeId} {ds : List (DataW H)} (hu : P.underlying t = some (.slice e)) (he : P.underlying e = some .string)
  (h : DataW.Trod enc P W 0 (fun _ => true) true t (.slice A len cap) d ps) (hsz : (DataW.weightsEach P ts ds).all (· ≤ reachBytes) = true) (ht : ts[j]? = some t) (hd : ds[j]? = some d) :
  ∃ l : List ByteArray, l.length = len ∧ Rd W [] A (l.map .string) ∧ (∀ x ∈ l, x.size ≤ 140737488351232) ∧ len * P.bytesOf e ≤ reachBytes ∧ len ≤ cap := by
 obtain ⟨l, h1, h2, h3, h4⟩ := arg_listW (f := fun s : ByteArray => [Value.string s]) (R := fun s => s.size ≤ 140737488351232) hu (fun n cs y hh _ hwt => by
  obtain ⟨s, rfl, hy, hw⟩ := DataW.trod_string he hh
  refine ⟨s, rfl, ?_⟩
  have := hwt s.data.toList.length (by rw [hy]; simp [DataW.weights])
  have e : s.data.toList.length = s.size := by simp
  rw [e] at this
  exact this) h hsz ht hd
 exact ⟨l, h1, by rw [List.map_eq_flatMap]; exact h2, h3, h4⟩
end
end Go.SL

namespace Go.SL
open Go.RowKit
section
variable {P : Program} {w0 : World} {n : Nat} {T : TT} {S : SS}
theorem Yields.cap {x : PV} {A : Option Addr} {l c : Nat} (hx : x.val T = some (.slice A l c)) : Yields P w0 n (.more (.other (.cap x))) T S (.int .i64 (c : Int)) := by
 intro o a w hco hs hr
 obtain ⟨cl, t, y, e, ho, hca, hat, har, rfl, hu⟩ := cOp_spec P hco
 simp only [execOp, ho, resolve, hca, invoke, builtin, hat, har]
 simp [Builtin.cap_, hs.eval hx, run_underlying hu, goInt]
theorem OW.xf {f : FuncId} {args : List PV} {vs : List Value} {v : Value} (hv : valsP T args = some vs) (h : ∀ w, Rep w0 S w → (callFunc f vs.toArray).run P w = .ok (.value v) w) :
  OW P w0 n (.more (.other (.xf f args))) T S (fun u S' => u = v ∧ S' = S) := by
 intro o a w Q hco hs hr
 obtain ⟨c, ho, hca, rfl⟩ := cOp_spec P hco
 have hargs : c.args.map a.eval = vs.toArray := by
  apply Array.toList_inj.1
  simpa using valsP_spec hs hv
 unfold Oper.wp
 have hrun : (execOp a.eval o).run P w = .ok (.value v) w := by
  simp only [execOp, ho]
  simp [resolve, hca, Act.eval, Deferred.ofValue, invoke, hargs, h w hr]
 rw [hrun]
 exact ⟨v, S, rfl, hr, rfl, rfl⟩
theorem OW.appM {t u E sz bytes m q cp : Nat} {z : Value} {s l : PV} {A : Option Addr} {olds : List Value} {kq : IntKind} (hs' : s.val T = some (.slice A m cp)) (hl : l.val T = some (.int kq (q : Int))) (hrd : Rd w0 S A olds) (ho : olds.length = m * sz)
  (hq : 0 < q) (hg : cp < m + q) (h63 : m + q ≤ maxLen) (hb : (m + q) * bytes ≤ 140737488355328) :
  OW P w0 n (.more (.other (.appM t u E sz bytes z s l))) T S (fun v S' => ∃ r c, v = .slice (some ⟨r, 0, none⟩) (m + q) c ∧ m + q ≤ c ∧ c ≤ maxLen ∧ S' = [(r, .cells (olds ++ (Builtin.zeroCells z.cells q).toList ++ (Builtin.zeroCells z.cells (c - (m + q))).toList) E (c * sz))] :: S) := by
 intro op a w Q hco hs hr
 obtain ⟨a1, b1, cl, i, kn, hop, hca, hat, har, rfl, rfl, hu, hun, hi, hiz, rfl, rfl, hzs, hs0⟩ := cOp_spec P hco
 have hold : (Builtin.firstCells i.size m (.slice A m cp)).run P w.drew = .ok olds.toArray w.drew := by
  cases A with
  | none =>
   have : olds = [] := by
    cases olds with
    | nil => rfl
    | cons x r => obtain ⟨_, e, _⟩ := hrd 0 _ rfl; cases e
   subst this
   simp [Builtin.firstCells]
  | some a' => exact run_firstCells_some (P := P) w.drew i.size m a' m cp olds ho (fun j v hj => hr.cell (hrd.at hj))
 have hfit : Builtin.nextslicecap (m + q) cp * i.bytes ≤ 281474976710656 := growslice_fits (by omega) hb
 have h48 : q * i.bytes ≤ 281474976710656 := by
  have : q * i.bytes ≤ (m + q) * i.bytes := Nat.mul_le_mul_right _ (by omega)
  omega
 have hm63 : ((m + q : Nat) : Int) ≤ 9223372036854775807 := by have : maxLen = 9223372036854775807 := rfl; omega
 have happ := Lib.run_append_grow_zeros (P := P) w t u op.type E i z kq kn hu hun hi hiz A m cp olds hold q hq hs0 hg hm63 h48 hfit
 unfold Oper.wp
 have hrun : (execOp a.eval op).run P w = .ok (.value (.slice (some ⟨w.heap.size, 0, none⟩) (m + q) (grownCap w (m + q) cp E)))
   (w.drew.alloc (.cells (olds.toArray ++ Builtin.zeroCells z.cells q ++ Builtin.zeroCells z.cells (grownCap w (m + q) cp E - (m + q))) E)) := by
  simp only [execOp, hop, resolve, hca, invoke, builtin, hat, har]
  simp [hs.eval hs', hs.eval hl, happ]
 rw [hrun]
 have hr' : Rep w0 S w.drew := hr.same ⟨rfl, rfl, rfl, Nat.le_refl _, fun _ _ => rfl⟩ (fun _ _ => rfl)
 have hge := grownCap_ge w (m + q) cp E
 have hle := grownCap_le_maxLen w (m + q) cp E h63
 have hal := hr'.alloc (olds.toArray ++ Builtin.zeroCells z.cells q ++ Builtin.zeroCells z.cells (grownCap w (m + q) cp E - (m + q))) E
 generalize hc : grownCap w (m + q) cp E = c at *
 refine ⟨_, _, rfl, hal, w.heap.size, c, rfl, hge, hle, ?_⟩
 have hz0 : 0 < z.cells.size := by omega
 have hsz : (olds.toArray ++ Builtin.zeroCells z.cells q ++ Builtin.zeroCells z.cells (c - (m + q))).size = c * i.size := by
  simp only [Array.size_append, Builtin.zeroCells, Array.size_map, Array.size_range, List.size_toArray, ho, hzs]
  rw [← Nat.add_mul, ← Nat.add_mul, show m + q + (c - (m + q)) = c from by omega]
 rw [hsz]
 simp
end
end Go.SL

namespace Go.SL
open Go.RowKit
section
variable {P : Program} {w0 : World} {n : Nat} {T : TT} {S : SS}
abbrev AlOp := Nat × TypeId × List Value
def alPI (x : AlOp) : PI := ⟨some x.1, none, .al x.2.1 x.2.2⟩
def alSeg (x : AlOp) (r : Nat) : Seg := [(r, .cells x.2.2 x.2.1 x.2.2.length)]
def bindA : List AlOp → List Nat → TT → TT
 | x :: al, r :: rs, T => bindA al rs (put (some x.1) (.pointer (some ⟨r, 0, none⟩)) T)
 | _, _, T => T
def segA : List AlOp → List Nat → SS
 | x :: al, r :: rs => alSeg x r :: segA al rs
 | _, _ => []
def alD : AlOp := (0, 0, [])
theorem segA_eq (r : Nat → Nat) : ∀ (al : List AlOp) (p : Nat), segA al ((List.range' p al.length).map r) = (List.range' p al.length).map fun j => alSeg (al.getD (j - p) alD) (r j)
 | [], p => rfl
 | x :: al, p => by
  have ih := segA_eq r al (p + 1)
  simp only [List.length_cons, List.range'_succ, List.map_cons, segA, ih]
  congr 1
  ·simp
  ·apply List.map_congr_left
   intro j hj
   have := List.mem_range'.1 hj
   obtain ⟨q, hq, rfl⟩ := this
   rw [show p + 1 + 1 * q - p = q + 1 by omega, show p + 1 + 1 * q - (p + 1) = q by omega, List.getD_cons_succ]
theorem cIs_at {ops : Array Oper} : ∀ (is : List Nat) (l : List PI) (j q : Nat) (x : PI), cIs P n ops is = some l → is[j]? = some q → l[j]? = some x → cI P n ops q = some x := by
 intro is
 induction is with
 | nil => intro l j q x _ hq; simp at hq
 | cons i0 is ih =>
  intro l j q x hcs hq hx
  cases l with
  | nil => simp at hx
  | cons y l =>
   obtain ⟨i', r, he, h1, h2⟩ := cIs_cons hcs
   simp only [List.cons.injEq] at he
   obtain ⟨rfl, rfl⟩ := he
   cases j with
   | zero => simp at hq hx; subst hq; subst hx; exact h1
   | succ j => exact ih l j q x h2 (by simpa using hq) (by simpa using hx)
set_option maxHeartbeats 4000000 in
theorem PW.quietAl {k : Nat} {l A : List PI} {al : List AlOp} {Q : Exit → TT → SS → Prop} {T1 : TT} {va : List Value} (hm : P.follows .mixedOrders = true) (hl : l.take k = A ++ al.map alPI)
  (hA : QLs P w0 n (Over S) A T T1 va) (h4 : ∀ rs : List Nat, rs.length = al.length → OL P w0 n (l.drop k) (bindA al rs T1) (segA al rs ++ S) (Q .normal)) : PW P w0 n (.quiet k l) T S Q := by
 intro c hc a w hs hr
 cases c
 case region id ops dr =>
  cases dr with
  | false => simp [cC] at hc
  | true =>
   simp only [cC] at hc
   split at hc
   case isFalse => simp at hc
   rename_i hcond
   simp only [Bool.and_eq_true] at hcond
   obtain ⟨⟨⟨hap, hback⟩, hsel⟩, hhoist⟩ := hcond
   simp only [Option.map_eq_some_iff] at hc
   obtain ⟨l', hcis, hmk⟩ := hc
   obtain ⟨rfl, rfl⟩ := mkQ_quiet hmk
   obtain ⟨hhead, hkle⟩ := headOf_spec ops (hoists ops) ops.size (Nat.le_refl _)
   change headB ops ((hoists ops).filter (· < quietAt ops)) (quietAt ops) = true at hhead
   change quietAt ops ≤ ops.size at hkle
   generalize hk : quietAt ops = k at *
   generalize hH : (hoists ops).filter (· < k) = Hs at *
   have hHk : ∀ i ∈ Hs, i < k := fun i hi => by rw [← hH] at hi; simpa using (List.mem_filter.1 hi).2
   have hsplit : List.range ops.size = List.range' 0 k ++ List.range' k (ops.size - k) := by
    rw [List.range_eq_range']
    have := List.range'_append (s := 0) (m := k) (n := ops.size - k) (step := 1)
    simp only [Nat.one_mul, Nat.zero_add] at this
    rw [this]
    congr 1
    omega
   rw [hsplit] at hcis
   obtain ⟨hc1, hc2⟩ := cIs_append hcis
   simp only [List.length_range'] at hc1 hc2
   have hlen : (l'.take k).length = k := by simpa using cIs_length hc1
   rw [hl] at hc1 hlen
   simp only [List.length_append, List.length_map] at hlen
   have hra : List.range' 0 k = List.range' 0 A.length ++ List.range' A.length al.length := by
    have h1 := List.range'_append (s := 0) (m := A.length) (n := al.length) (step := 1)
    simp only [Nat.one_mul, Nat.zero_add] at h1
    rw [h1]; congr 1; omega
   have hc1' := hc1
   rw [hra] at hc1'
   obtain ⟨hcA, hcR⟩ := cIs_append hc1'
   simp only [List.length_range', List.take_left', List.drop_left'] at hcA hcR
   obtain ⟨hla, hsA, hgA, hdA⟩ := hA.trace 0 a hcA hs
   simp only [Nat.zero_add, Nat.sub_zero] at hsA hgA hdA
   let vs : (Nat → Nat) → Nat → Value := fun r i => if i < A.length then va.getD i undef else .pointer (some ⟨r i, 0, none⟩)
   have hvA : ∀ r i, i < A.length → vs r i = va.getD i undef := fun r i hi => by simp only [vs]; rw [if_pos hi]
   have hvB : ∀ r i, ¬ i < A.length → vs r i = .pointer (some ⟨r i, 0, none⟩) := fun r i hi => by simp only [vs]; rw [if_neg hi]
   have hrunA : ∀ r m, m ≤ A.length → runA ops (vs r) 0 m a = runA ops (fun i => va.getD i undef) 0 m a := fun r m hm' =>
    foldl_ext' _ _ _ _ fun b j hj => by
     have := List.mem_range'.1 hj
     rw [hvA r j (by omega)]
   -- what stands at each place
   have hpi : ∀ i o, i < k → ops[i]? = some o → ∃ x, (A ++ al.map alPI)[i]? = some x ∧ cOp P o = some x.o ∧ dstOk n o.dst = true ∧ o.dst = x.d ∧ ((o.guard = none ∧ x.g = none) ∨ ∃ j b s, o.guard = some (j, b) ∧ (ops[j]?).bind (·.dst) = some s ∧ x.g = some (s, b)) := by
    intro i o hi ho
    have hlt : i < (A ++ al.map alPI).length := by simp only [List.length_append, List.length_map]; omega
    have hx : (A ++ al.map alPI)[i]? = some (A ++ al.map alPI)[i] := List.getElem?_eq_getElem hlt
    have hci := cIs_at (List.range' 0 k) _ i i _ hc1 (by rw [List.getElem?_range' (by omega)]; simp) hx
    obtain ⟨o', ho', h1, h2, h3, h4⟩ := cI_spec hci
    obtain rfl : o = o' := by rw [ho] at ho'; exact Option.some.inj ho'
    exact ⟨_, hx, h1, h2, h3, h4⟩
   have hal : ∀ i o, i < k → ¬ i < A.length → ops[i]? = some o → cOp P o = some (.al (al.getD (i - A.length) alD).2.1 (al.getD (i - A.length) alD).2.2) ∧ dstOk n o.dst = true ∧ o.dst = some (al.getD (i - A.length) alD).1 ∧ o.guard = none := by
    intro i o hi hge ho
    obtain ⟨x, hx, h1, h2, h3, h4⟩ := hpi i o hi ho
    rw [List.getElem?_append_right (by omega), List.getElem?_map] at hx
    obtain ⟨y, hy, rfl⟩ := Option.map_eq_some_iff.1 hx
    have e : al.getD (i - A.length) alD = y := by simp [List.getD_eq_getElem?_getD, hy]
    rw [e]
    refine ⟨h1, h2, h3, ?_⟩
    rcases h4 with ⟨h4, _⟩ | ⟨_, _, _, _, _, h4⟩
    ·exact h4
    ·cases h4
   have hkA : k = A.length + al.length := by omega
   have hsat' : ∀ r, Sat n (bindA al ((List.range' A.length al.length).map r) T1) (runA ops (vs r) 0 k a) := by
    intro r
    have gen : ∀ (q : List AlOp) (p : Nat) (T' : TT), (∀ j, j < q.length → p + j < k ∧ ¬ p + j < A.length ∧ al.getD (p + j - A.length) alD = q.getD j alD) → Sat n T' (runA ops (vs r) 0 p a) → Sat n (bindA q ((List.range' p q.length).map r) T') (runA ops (vs r) 0 (p + q.length) a) := by
     intro q
     induction q with
     | nil => intro p T' _ h; simpa [bindA] using h
     | cons x q ih =>
      intro p T' hq h
      obtain ⟨h1, h2, h3⟩ := hq 0 (by simp)
      rw [Nat.add_zero] at h1 h2 h3
      rw [List.getD_cons_zero] at h3
      have hpo : p < ops.size := by omega
      have ho : ops[p]? = some ops[p] := by simp [hpo]
      obtain ⟨_, hdk, hdd, _⟩ := hal p _ h1 h2 ho
      rw [h3] at hdd
      have e2 : runA ops (vs r) 0 (p + 1) a = (runA ops (vs r) 0 p a).put (some x.1) (.pointer (some ⟨r p, 0, none⟩)) := by
       have : dstAt ops p = some x.1 := by simp [dstAt, ho, hdd]
       rw [← hvB r p h2, ← this]
       simp [runA, List.range'_concat]
      simp only [List.length_cons, List.range'_succ, List.map_cons, bindA]
      rw [show p + (q.length + 1) = p + 1 + q.length by omega]
      refine ih (p + 1) _ (fun j hj => ?_) ?_
      ·obtain ⟨g1, g2, g3⟩ := hq (j + 1) (by simp; omega)
       rw [show p + (j + 1) = p + 1 + j by omega, List.getD_cons_succ] at *
       exact ⟨g1, g2, g3⟩
      ·rw [e2]; exact h.put (by rw [← hdd]; exact hdk) _
    rw [hkA]
    refine gen al A.length T1 (fun j hj => ⟨by omega, by omega, by rw [show A.length + j - A.length = j by omega]⟩) ?_
    rw [hrunA r _ (Nat.le_refl _)]; exact hsA
   have hgives : ∀ r S', Over S S' → ∀ i, i < A.length → GivesAt P w0 S' ops i (vs r i) (runA ops (vs r) 0 i a) := by
    intro r S' hS' i h
    have := hgA i h S' hS'
    rw [hvA r i h, hrunA r i (by omega)]
    exact this
   have hdst : ∀ i o, i < k → ops[i]? = some o → dstOk n o.dst = true := fun i o hi ho => by obtain ⟨x, _, _, h2, _⟩ := hpi i o hi ho; exact h2
   let ST : (Nat → Nat) → List Nat → SS := fun r is => is.map (fun j => alSeg (al.getD (j - A.length) alD) (r j)) ++ S
   have hST : ∀ r is, Over S (ST r is) := fun r is q hq => by simp only [ST, List.flatten_append, List.mem_append]; exact .inr hq
   have hfin : ∀ r is w', is.Nodup → (∀ j, j ∈ is ↔ A.length ≤ j ∧ j < k) → Rep w0 (ST r is) w' → Rep w0 (segA al ((List.range' A.length al.length).map r) ++ S) w' := by
    intro r is w' hnd hmem hr'
    have hperm : (List.range' A.length al.length).Perm is := (List.perm_ext_iff_of_nodup List.nodup_range' hnd).2 fun j => by
     rw [hmem, List.mem_range'_1]; omega
    rw [segA_eq]
    have hp2 : ((List.range' A.length al.length).map (fun j => alSeg (al.getD (j - A.length) alD) (r j)) ++ S).Perm (ST r is) := (hperm.map _).append_right S
    refine hr'.sub (fun q hq => ?_) ?_
    ·exact (hp2.flatten.mem_iff).1 hq
    ·exact ((hp2.flatten.map Prod.fst).nodup_iff).2 hr'.nodup
   -- ordered pairs
   have hpair : ∀ i j, i < j → j < ops.size → ∀ oi oj, ops[i]? = some oi → ops[j]? = some oj → behind (reach ops) j i = true ∨ oi.apart ops oj = true := by
    intro i j hij hj oi oj hoi hoj
    have := List.all_eq_true.1 (List.all_eq_true.1 hap j (List.mem_range.2 hj)) i (List.mem_range.2 hij)
    simpa [hoi, hoj] using this
   have htail : ∀ t i, k ≤ t → t < ops.size → i < t → i ∉ Hs → behind (reach ops) t i = true := by
    intro t i hkt ht hi hnH
    have := List.all_eq_true.1 hhead t (List.mem_range.2 ht)
    simp only [Bool.or_eq_true, decide_eq_true_eq] at this
    rcases this with h | h
    ·omega
    ·have := List.all_eq_true.1 h i (List.mem_range.2 hi)
     simpa [hnH] using this
   have hreadyX : ∀ (listed : Array Bool) i, (∀ j o, ops[j]? = some o → listed.getD j true = true → ∀ e ∈ o.after, Region.binds .any e = true → listed.getD e.on true = true) → i ∈ Region.ready .any ops listed →
     ∀ j, j < ops.size → behind (reach ops) i j = true → j ≠ i → listed.getD j true = true := by
    intro listed i hcl hi j hj hb hne
    obtain ⟨hun, o, ho, hall⟩ := mem_ready.1 hi
    have hX : Closed ops (fun x => listed.getD x true = true ∨ x = i) := by
     rintro x ox hox (hx | rfl) e he hbd
     ·exact .inl (hcl x ox hox hx e he hbd)
     ·obtain rfl : o = ox := by rw [ho] at hox; exact Option.some.inj hox
      have := hall e he hbd
      left
      cases hlt : listed[e.on]? with
      | none => simp [hlt] at this
      | some b => simpa [hlt] using this
    rcases behind_spec hX (Array.getElem?_eq_some_iff.1 ho).1 hb (.inr rfl) with h | h
    ·exact h
    ·exact absurd h hne
   have horder : ∀ (listed : Array Bool) i o, (∀ j o, ops[j]? = some o → listed.getD j true = true → ∀ e ∈ o.after, Region.binds .any e = true → listed.getD e.on true = true) → i ∈ Region.ready .any ops listed → ops[i]? = some o → i < k →
     ∀ x, (x ∈ o.looksAt ops ∨ o.dst = some x) → ∀ j, j < k → j ≠ i → dstAt ops j = some x → decide (j < i) = listed.getD j true := by
    intro listed i o hcl hi ho hik x hx j hj hne hdj
    obtain ⟨hun, o', ho', hpre⟩ := mem_ready.1 hi
    have hilt : i < ops.size := (Array.getElem?_eq_some_iff.1 ho).1
    have hjlt : j < ops.size := by omega
    have hoj : ops[j]? = some ops[j] := by simp [hjlt]
    have hdj' : ops[j].dst = some x := by simpa [dstAt, hoj] using hdj
    rcases Nat.lt_or_gt_of_ne hne with h | h
    ·rcases hpair j i h hilt _ _ hoj ho with hb' | hap'
     ·rw [hreadyX listed i hcl hi j hjlt hb' hne]
      simp [h]
     ·obtain ⟨e1, e2, e3⟩ := Oper.apart_spec hap'
      rcases hx with hx | hx
      ·exact absurd hx (e1 x hdj')
      ·exact absurd hx (e2 x hdj')
    ·rcases hpair i j h hjlt _ _ ho hoj with hb' | hap'
     ·have hnl : listed.getD j true = false := by
       cases hlj : listed.getD j true with
       | false => rfl
       | true =>
        exfalso
        have hX : Closed ops (fun x => listed.getD x true = true) := fun x ox hox hx e he hbd => hcl x ox hox hx e he hbd
        have := behind_spec hX hjlt hb' hlj
        rw [hun] at this
        cases this
      rw [hnl]
      simp; omega
     ·obtain ⟨e1, e2, e3⟩ := Oper.apart_spec hap'
      rcases hx with hx | hx
      ·exact absurd hx (e3 x hdj')
      ·exact absurd hdj' (e2 x hx)
   have hgetset : ∀ (listed : Array Bool) i, listed.size = ops.size → i < ops.size → (listed.setIfInBounds i true).getD i true = true := by
    intro listed i h1 h2
    have : i < listed.size := by omega
    simp [this]
   have hput : ∀ (u : Nat → Nat) (listed : Array Bool) i o, listed.size = ops.size → (∀ j o, ops[j]? = some o → listed.getD j true = true → ∀ e ∈ o.after, Region.binds .any e = true → listed.getD e.on true = true) → i ∈ Region.ready .any ops listed → ops[i]? = some o → i < k →
     (foldF ops (vs u) (fun j => listed.getD j true) k a).put o.dst (vs u i) = foldF ops (vs u) (fun j => (listed.setIfInBounds i true).getD j true) k a := by
    intro u listed i o hsz hcl hi ho hik
    have hilt : i < ops.size := (Array.getElem?_eq_some_iff.1 ho).1
    have hdo : dstOk n o.dst = true := hdst i o hik ho
    have hda : dstAt ops i = o.dst := by simp [dstAt, ho]
    have hgi := hgetset listed i hsz hilt
    have hgj : ∀ j, j ≠ i → (listed.setIfInBounds i true).getD j true = listed.getD j true := fun j hj => getD_set_ne true (Ne.symm hj)
    have szs : ∀ f, (foldF ops (vs u) f k a).tmps.size = a.tmps.size := fun f => (foldF_size ops (vs u) f k a).1
    have dfs : ∀ f, (foldF ops (vs u) f k a).defers = a.defers := fun f => (foldF_size ops (vs u) f k a).2
    refine act_ext ?_ ?_ fun x => ?_
    ·cases o.dst <;> simp [Act.put, szs]
    ·cases o.dst <;> simp [Act.put, dfs]
    ·by_cases hx : o.dst = some x
     ·have e1 : (foldF ops (vs u) (fun j => (listed.setIfInBounds i true).getD j true) k a).tmps[x]? = (foldF ops (vs u) (fun j => decide (j < i + 1)) k a).tmps[x]? := by
       refine foldF_agree ops (vs u) _ _ k a x fun j hj hdj => ?_
       by_cases e : j = i
       ·subst e; rw [hgi]; simp
       ·rw [hgj j e, ← horder listed i o hcl hi ho hik x (.inr hx) j hj e hdj]
        by_cases h : j < i
        ·have : j < i + 1 := by omega
         simp [h, this]
        ·have : ¬ j < i + 1 := by omega
         simp [h, this]
      rw [e1, foldF_runA ops (vs u) (i + 1) k a (by omega)]
      have e2 : runA ops (vs u) 0 (i + 1) a = (runA ops (vs u) 0 i a).put (dstAt ops i) (vs u i) := by
       simp [runA, List.range'_concat]
      rw [e2, hda, hx]
      simp only [Act.put]
      have hxn : x < a.tmps.size := by rw [hs.size]; simpa [dstOk, hx] using hdo
      have hsz1 : (runA ops (vs u) 0 i a).tmps.size = a.tmps.size := by rw [← foldF_runA ops (vs u) i k a (by omega)]; exact szs _
      rw [Array.getElem?_setIfInBounds_self_of_lt (by rw [szs]; exact hxn), Array.getElem?_setIfInBounds_self_of_lt (by rw [hsz1]; exact hxn)]
     ·have e1 : (foldF ops (vs u) (fun j => (listed.setIfInBounds i true).getD j true) k a).tmps[x]? = (foldF ops (vs u) (fun j => listed.getD j true) k a).tmps[x]? := by
       refine foldF_agree ops (vs u) _ _ k a x fun j hj hdj => ?_
       by_cases e : j = i
       ·subst e; rw [hda] at hdj; exact absurd hdj hx
       ·exact hgj j e
      rw [e1]
      cases hd : o.dst with
      | none => rfl
      | some y =>
       have : y ≠ x := fun e => hx (by rw [hd, e])
       simp [Act.put, Array.getElem?_setIfInBounds_ne this]
   have hagree : ∀ (u : Nat → Nat) (listed : Array Bool) i o, (∀ j o, ops[j]? = some o → listed.getD j true = true → ∀ e ∈ o.after, Region.binds .any e = true → listed.getD e.on true = true) → i ∈ Region.ready .any ops listed → ops[i]? = some o → i < k →
     ∀ x, x ∈ o.looksAt ops → (runA ops (vs u) 0 i a).tmps[x]? = (foldF ops (vs u) (fun j => listed.getD j true) k a).tmps[x]? := by
    intro u listed i o hcl hi ho hik x hx
    rw [← foldF_runA ops (vs u) i k a (by omega)]
    refine foldF_agree ops (vs u) _ _ k a x fun j hj hdj => ?_
    by_cases e : j = i
    ·subst e
     have hun := (mem_ready.1 hi).1
     rw [hun]; simp
    ·exact horder listed i o hcl hi ho hik x (.inl hx) j hj e hdj
   have hclset : ∀ (listed : Array Bool) i o, listed.size = ops.size → (∀ j o, ops[j]? = some o → listed.getD j true = true → ∀ e ∈ o.after, Region.binds .any e = true → listed.getD e.on true = true) → i ∈ Region.ready .any ops listed → ops[i]? = some o →
     (∀ j o, ops[j]? = some o → (listed.setIfInBounds i true).getD j true = true → ∀ e ∈ o.after, Region.binds .any e = true → (listed.setIfInBounds i true).getD e.on true = true) := by
    intro listed i o hsz hcl hi ho j oj hoj hj e he hbd
    have hilt : i < ops.size := (Array.getElem?_eq_some_iff.1 ho).1
    obtain ⟨hun, o', ho', hpre⟩ := mem_ready.1 hi
    obtain rfl : o = o' := by rw [ho] at ho'; exact Option.some.inj ho'
    have hgj : ∀ j, j ≠ i → (listed.setIfInBounds i true).getD j true = listed.getD j true := fun j hj => getD_set_ne true (Ne.symm hj)
    by_cases e1 : e.on = i
    ·rw [e1]; exact hgetset listed i hsz hilt
    ·rw [hgj _ e1]
     by_cases e2 : j = i
     ·subst e2
      obtain rfl : o = oj := by rw [ho] at hoj; exact Option.some.inj hoj
      have := hpre e he hbd
      cases hlt : listed[e.on]? with
      | none => simp [hlt] at this
      | some bb => simpa [hlt] using this
     ·rw [hgj _ e2] at hj
      exact hcl j oj hoj hj e he hbd
   have hcntset : ∀ (listed : Array Bool) i, listed.size = ops.size → i ∈ Region.ready .any ops listed → i < ops.size → cnt (fun j => listed.getD j true) ops.size = cnt (fun j => (listed.setIfInBounds i true).getD j true) ops.size + 1 := by
    intro listed i hsz hi hilt
    have := cnt_set (f := fun j => listed.getD j true) (g := fun j => (listed.setIfInBounds i true).getD j true) (i := i) (mem_ready.1 hi).1 (hgetset listed i hsz hilt) (fun j hj => getD_set_ne true (Ne.symm hj)) ops.size
    simpa [hilt] using this
   refine wp_mono (Q := fun e a' w' => e = .normal ∧ ∃ T' S', Sat n T' a' ∧ Rep w0 S' w' ∧ Q e T' S') ?_ (fun e a' w' h => h.2)
   refine wp_region_any hm ?_
   have key : ∀ (fuel : Nat) (listed : Array Bool) (b : Act) (w' : World), listed.size = ops.size →
     (∀ j o, ops[j]? = some o → listed.getD j true = true → ∀ e ∈ o.after, Region.binds .any e = true → listed.getD e.on true = true) → (∀ i ∈ Hs, listed.getD i true = true) →
     (∀ t, k ≤ t → t < ops.size → listed.getD t true = false) → (∃ (u : Nat → Nat) (is : List Nat), (is.Nodup ∧ ∀ j, j ∈ is ↔ A.length ≤ j ∧ j < k ∧ listed.getD j true = true) ∧ b = foldF ops (vs u) (fun j => listed.getD j true) k a ∧ Rep w0 (ST u is) w') → cnt (fun j => listed.getD j true) ops.size = fuel →
     wpAny P .any ops (fun e a' w' => e = .normal ∧ ∃ T' S', Sat n T' a' ∧ Rep w0 S' w' ∧ Q e T' S') fuel listed b w' := by
    intro fuel
    induction fuel with
    | zero =>
     intro listed b w' hsz hcl hHl htl ⟨u, is, hph, hb, hr'⟩ hcnt
     have hall : ∀ j, j < ops.size → listed.getD j true = true := by
      intro j hj
      cases hx : listed.getD j true with
      | true => rfl
      | false =>
       exfalso
       have : ∀ m, j < m → 0 < cnt (fun j => listed.getD j true) m := by
        intro m
        induction m with
        | zero => intro h; omega
        | succ m ih =>
         intro h
         simp only [cnt]
         by_cases e : j = m
         ·subst e; simp [hx]
         ·have := ih (by omega); omega
       have := this ops.size hj
       omega
     have hKx := hfin u is w' hph.1 (fun j => by rw [hph.2]; exact ⟨fun h => ⟨h.1, h.2.1⟩, fun h => ⟨h.1, h.2, hall j (by omega)⟩⟩) hr'
     have hkeq : k = ops.size := by
      rcases Nat.lt_or_ge k ops.size with h | h
      ·have h1 := htl k (Nat.le_refl _) h
       have h2 := hall k h
       rw [h1] at h2
       cases h2
      ·omega
     have hbt : b = runA ops (vs u) 0 k a := by
      rw [hb, ← foldF_runA ops (vs u) k k a (Nat.le_refl _)]
      unfold foldF
      refine foldl_ext' _ _ _ _ fun b j hj => ?_
      have hj' := List.mem_range.1 hj
      simp [hall j (by omega), hj']
     refine ⟨?_, ?_⟩
     ·unfold Region.ready
      rw [List.filter_eq_nil_iff]
      intro i hi
      rw [hall i (List.mem_range.1 hi)]
      simp
     ·have := h4 _ (by simp) ops [] b w' (fun e a' w' => e = .normal ∧ ∃ T' S', Sat n T' a' ∧ Rep w0 S' w' ∧ Q e T' S') (by
       rw [hkeq, Nat.sub_self] at hc2
       rw [hkeq]
       simpa using hc2) (hbt ▸ hsat' u) hKx (fun a' w' T' S' h3 h4 h5 => ⟨rfl, T', S', h3, h4, h5⟩)
      simpa [wpOps] using this
    | succ fuel ih =>
     intro listed b w' hsz hcl hHl htl ⟨u, is, hph, hb, hr'⟩ hcnt
     by_cases hall : ∀ j, j < k → listed.getD j true = true
     ·-- the head is done
      have hKx := hfin u is w' hph.1 (fun j => by rw [hph.2]; exact ⟨fun h => ⟨h.1, h.2.1⟩, fun h => ⟨h.1, h.2, hall j h.2⟩⟩) hr'
      have hexact : ∀ j, j < ops.size → listed.getD j true = decide (j < k) := by
       intro j hj
       by_cases h : j < k
       ·rw [hall j h]; simp [h]
       ·rw [htl j (by omega) hj]; simp [h]
      have hbt : b = runA ops (vs u) 0 k a := by
       rw [hb, ← foldF_runA ops (vs u) k k a (Nat.le_refl _)]
       unfold foldF
       refine foldl_ext' _ _ _ _ fun b j hj => ?_
       have hj' := List.mem_range.1 hj
       simp [hall j hj', hj']
      have hfuel : fuel + 1 = ops.size - k := by
       rw [← hcnt, cnt_congr ops.size hexact, cnt_below]
      rw [hfuel]
      have htl2 : ∀ listed' : Array Bool, ∀ t s', k ≤ s' → s' < t → t < ops.size → (∀ j, j < ops.size → listed'.getD j true = decide (j < s')) → listed'.size = ops.size → t ∉ Region.ready .any ops listed' := by
       intro l'' t s' h1 h2 h3 h4 h5 hmem
       have := hreadyX l'' t (fun j o ho hj e he hbd => by
        have hlt := backB_spec hback ho he hbd
        have hjs : j < ops.size := (Array.getElem?_eq_some_iff.1 ho).1
        rw [h4 j hjs] at hj
        rw [h4 e.on (by omega)]
        simp only [decide_eq_true_eq] at hj ⊢
        omega) hmem s' (by omega) (htail t s' (by omega) h3 h2 (fun hm' => by have := hHk s' hm'; omega)) (by omega)
       rw [h4 s' (by omega)] at this
       simp at this
      refine wpAny_tail hback (ops.size - k) k listed b w' (by omega) hsz hexact (fun t i h1 h2 h3 h4 h5 => htl2 listed t k (Nat.le_refl _) h1 h2 hexact hsz) htl2 ?_
      exact h4 _ (by simp) ops _ b w' _ hc2 (hbt ▸ hsat' u) hKx (fun a' w' T' S' h3 h4 h5 => ⟨rfl, T', S', h3, h4, h5⟩)
     ·refine ⟨fun h0 => ?_, fun i hi => ?_⟩
      ·exfalso
       obtain ⟨i, hi1, hi2, hi3⟩ := cnt_pos ops.size (by rw [hcnt]; omega : 0 < cnt (fun j => listed.getD j true) ops.size)
       have : i ∈ Region.ready .any ops listed := by
        rw [mem_ready]
        refine ⟨hi2, ops[i], by simp [hi1], fun e he hbd => ?_⟩
        have hlt := backB_spec hback (show ops[i]? = some ops[i] by simp [hi1]) he hbd
        have h3 := hi3 e.on hlt
        have : e.on < listed.size := by omega
        simpa [this] using h3
       rw [h0] at this
       simp at this
      ·have hmem := mem_ready.1 hi
       obtain ⟨hun, o, ho, hpre⟩ := hmem
       have hilt : i < ops.size := (Array.getElem?_eq_some_iff.1 ho).1
       have hik : i < k := by
        rcases Nat.lt_or_ge i k with h | h
        ·exact h
        ·exfalso
         refine hall fun j hj => ?_
         by_cases hjH : j ∈ Hs
         ·exact hHl j hjH
         ·exact hreadyX listed i hcl hi j (by omega) (htail i j h hilt (by omega) hjH) (by omega)
       have hdo : dstOk n o.dst = true := hdst i o hik ho
       have hagree' := hagree u listed i o hcl hi ho hik
       rw [← hb] at hagree'
       have hev : execOp (runA ops (vs u) 0 i a).eval o = execOp b.eval o :=
        execOp_congr o (fun cs bb hh => Region.noSelect_spec hsel i o cs bb ho hh) fun x hx => eval_agree fun t ht => hagree' t (looks_op (ht ▸ hx))
       have hwan := wanted_agree (ops := ops) (o := o) (a := runA ops (vs u) 0 i a) (b := b) hagree'
       have hgj : ∀ j, j ≠ i → (listed.setIfInBounds i true).getD j true = listed.getD j true := fun j hj => getD_set_ne true (Ne.symm hj)
       have hnext : ∀ (u2 : Nat → Nat) (is2 : List Nat) w'' b2, (is2.Nodup ∧ ∀ j, j ∈ is2 ↔ A.length ≤ j ∧ j < k ∧ (listed.setIfInBounds i true).getD j true = true) → b2 = foldF ops (vs u2) (fun j => (listed.setIfInBounds i true).getD j true) k a → Rep w0 (ST u2 is2) w'' → wpAny P .any ops (fun e a' w' => e = .normal ∧ ∃ T' S', Sat n T' a' ∧ Rep w0 S' w' ∧ Q e T' S') fuel (listed.setIfInBounds i true) b2 w'' := by
        intro u2 is2 w'' b2 hp2 hb2 hr''
        refine ih _ _ w'' (by simpa using hsz) (hclset listed i o hsz hcl hi ho) ?_ ?_ ⟨u2, is2, hp2, hb2, hr''⟩ ?_
        ·intro j hj
         by_cases e : j = i
         ·subst e; exact hgetset listed j hsz hilt
         ·rw [hgj j e]; exact hHl j hj
        ·intro t h3 h4'
         rw [hgj t (by omega)]
         exact htl t h3 h4'
        ·have := hcntset listed i hsz hi hilt
         omega
       have hsz1 : (runA ops (vs u) 0 i a).tmps.size = n := by rw [← foldF_runA ops (vs u) i k a (by omega), (foldF_size ops (vs u) _ k a).1, hs.size]
       have hsz2 : b.tmps.size = n := by rw [hb, (foldF_size ops (vs u) _ k a).1, hs.size]
       have hdf : (runA ops (vs u) 0 i a).defers = [] := by rw [← foldF_runA ops (vs u) i k a (by omega), (foldF_size ops (vs u) _ k a).2, hs.defers]
       have hputu := fun u2 => hput u2 listed i o hsz hcl hi ho hik
       unfold wpOp
       simp only [ho]
       by_cases hip : ¬ i < A.length
       ·-- a fresh cell
        obtain ⟨hco, hdk, hdd, hgn⟩ := hal i o hik hip ho
        have hwt : Region.wanted o (yielded ops b.tmps) = true := by simp [Region.wanted, hgn]
        rw [if_pos hwt]
        left
        have hsb : Sat n [] b := ⟨hsz2, by rw [hb, (foldF_size ops (vs u) _ k a).2, hs.defers], fun i v hv => by simp [look] at hv⟩
        refine Oper.wp_mono ?_ (OW.al (T := []) (S := ST u is) o b w' _ hco hsb hr')
        rintro b' w'' ⟨v2, S2, rfl, hr2, r0, rfl, rfl⟩
        have hni : i ∉ is := fun h => by have := ((hph.2 i).1 h).2.2; rw [hun] at this; cases this
        have hgi : (listed.setIfInBounds i true).getD i true = true := hgetset listed i hsz hilt
        refine hnext (fun j => if j = i then r0 else u j) (i :: is) w'' _ ⟨List.nodup_cons.2 ⟨hni, hph.1⟩, fun j => ?_⟩ ?_ ?_
        ·by_cases e : j = i
         ·subst e; simp only [List.mem_cons, true_or, hgi, and_true, true_iff]; omega
         ·rw [hgj j e, List.mem_cons, ← hph.2]; simp [e]
        ·have h7 := hputu (fun j => if j = i then r0 else u j)
         have h8 : vs (fun j => if j = i then r0 else u j) i = .pointer (some ⟨r0, 0, none⟩) := by
          have := hvB (fun j => if j = i then r0 else u j) i hip
          simpa using this
         have h9 : (foldF ops (vs fun j => if j = i then r0 else u j) (fun j => listed.getD j true) k a).put o.dst (.pointer (some ⟨r0, 0, none⟩)) = foldF ops (vs fun j => if j = i then r0 else u j) (fun j => (listed.setIfInBounds i true).getD j true) k a := by
          rw [← h8]; exact h7
         rw [← h9, hb]
         congr 1
         unfold foldF
         refine foldl_ext' _ _ _ _ fun b j hj => ?_
         by_cases hjl : listed.getD j true = true
         ·have hjp : j ≠ i := fun e => by rw [e, hun] at hjl; cases hjl
          have : vs u j = vs (fun j => if j = i then r0 else u j) j := by
           simp only [vs]; rw [if_neg hjp]
          rw [this]
         ·simp [hjl]
        ·have e : ST (fun j => if j = i then r0 else u j) (i :: is) = [(r0, .cells (al.getD (i - A.length) alD).2.2 (al.getD (i - A.length) alD).2.1 (al.getD (i - A.length) alD).2.2.length)] :: ST u is := by
          simp only [ST, List.map_cons, List.cons_append, if_true]
          congr 2
          apply List.map_congr_left
          intro j hj
          rw [if_neg (fun (e : j = i) => hni (e ▸ hj))]
         rw [e]; exact hr2
       ·have hip' : i < A.length := by omega
        have hph2 : is.Nodup ∧ ∀ j, j ∈ is ↔ A.length ≤ j ∧ j < k ∧ (listed.setIfInBounds i true).getD j true = true := ⟨hph.1, fun j => by
         rw [hph.2]
         by_cases e : j = i
         ·subst e; constructor <;> (intro h; omega)
         ·rw [hgj j e]⟩
        rcases hgives u _ (hST u is) i hip' o ho with ⟨hw1, hw2⟩ | ⟨hw1, hw2⟩
        ·rw [hwan] at hw1
         rw [if_pos hw1]
         left
         refine Oper.wp_mono ?_ (wp_transfer hev (by rw [hsz1, hsz2]) (by rw [hsz1]; exact hdo) hdf (hw2 w' hr'))
         rintro b' w'' ⟨rfl, hr''⟩
         exact hnext u is w'' _ hph2 (by rw [hb]; exact hputu u) hr''
        ·rw [hwan] at hw1
         rw [hw1]
         simp only [Bool.false_eq_true, if_false]
         have h9 := hputu u
         rw [hw2] at h9
         exact hnext u is w' _ hph2 (by rw [hb]; exact h9) hr'
   -- the moves first
   let r0 : Nat → Nat := fun _ => 0
   have phase0 : ∀ (Hr : List Nat) (listed : Array Bool) (b : Act) (w' : World), hoistB ops Hr listed = true → (∀ i ∈ Hr, i < k) → listed.size = ops.size →
     (∀ j o, ops[j]? = some o → listed.getD j true = true → ∀ e ∈ o.after, Region.binds .any e = true → listed.getD e.on true = true) → (∀ i ∈ Hs, listed.getD i true = true ∨ i ∈ Hr) →
     (∀ t, k ≤ t → t < ops.size → listed.getD t true = false) → (∀ j, A.length ≤ j → j < k → listed.getD j true = false) → b = foldF ops (vs r0) (fun j => listed.getD j true) k a → Rep w0 (ST r0 []) w' →
     wpAny P .any ops (fun e a' w' => e = .normal ∧ ∃ T' S', Sat n T' a' ∧ Rep w0 S' w' ∧ Q e T' S') (cnt (fun j => listed.getD j true) ops.size) listed b w' := by
    intro Hr
    induction Hr with
    | nil =>
     intro listed b w' _ _ hsz hcl hHl htl hnp hb hr'
     exact key _ listed b w' hsz hcl (fun i hi => (hHl i hi).resolve_right (by simp)) htl ⟨r0, [], ⟨List.nodup_nil, fun j => by simp only [List.not_mem_nil, false_iff]; rintro ⟨h1, h2, h3⟩; rw [hnp j h1 h2] at h3; cases h3⟩, hb, hr'⟩ rfl
    | cons i Hr ih =>
     intro listed b w' hh hlt hsz hcl hHl htl hnp hb hr'
     simp only [hoistB, Bool.and_eq_true] at hh
     obtain ⟨⟨⟨hho, hfree⟩, hready⟩, hrest⟩ := hh
     have hi : i ∈ Region.ready .any ops listed := by simpa using hready
     obtain ⟨hun, o, ho, hpre⟩ := mem_ready.1 hi
     have hilt : i < ops.size := (Array.getElem?_eq_some_iff.1 ho).1
     have hik : i < k := hlt i (by simp)
     have hgj : ∀ j, j ≠ i → (listed.setIfInBounds i true).getD j true = listed.getD j true := fun j hj => getD_set_ne true (Ne.symm hj)
     rw [hcntset listed i hsz hi hilt]
     simp only [hoistable?, ho, hoistable, Bool.and_eq_true] at hho
     obtain ⟨hgn, hmv⟩ := hho
     have hgn' : o.guard = none := by simpa using hgn
     have hwant : ∀ t : Array Value, Region.wanted o (yielded ops t) = true := fun t => by simp [Region.wanted, hgn']
     have hagree' := hagree r0 listed i o hcl hi ho hik
     rw [← hb] at hagree'
     have hdo : dstOk n o.dst = true := hdst i o hik ho
     have hsz1 : (runA ops (vs r0) 0 i a).tmps.size = n := by rw [← foldF_runA ops (vs r0) i k a (by omega), (foldF_size ops (vs r0) _ k a).1, hs.size]
     have hmove : ∃ x, (o.op = .move x ∨ o.op = .assign x) := by
      cases hop : o.op <;> rw [hop] at hmv <;> simp at hmv
      ·exact ⟨_, .inl rfl⟩
      ·exact ⟨_, .inr rfl⟩
     obtain ⟨x, hx⟩ := hmove
     have hip : i < A.length := by
      rcases Nat.lt_or_ge i A.length with h | h
      ·exact h
      ·exfalso
       have h6 := (hal i o hik (by omega) ho).1
       have h5 : cOp P o = some (.mov (cV x)) := by unfold cOp cOp0; rcases hx with hx | hx <;> simp [hx]
       rw [h5] at h6
       cases h6
     have hexec : ∀ ρ, execOp ρ o = pure (.value (ρ x)) := by
      intro ρ
      rcases hx with hx | hx <;> simp [execOp, hx]
     have hval : b.eval x = vs r0 i ∨ o.dst = none := by
      rcases hgives r0 _ (hST r0 []) i hip o ho with ⟨_, hw2⟩ | ⟨hw1, _⟩
      ·have := hw2 w' hr'
       unfold Oper.wp at this
       rw [hexec] at this
       simp only [Sem.run_pure, Oper.upon] at this
       have hev : (runA ops (vs r0) 0 i a).eval x = b.eval x := eval_agree fun t ht => hagree' t (looks_op (by rcases hx with hx | hx <;> simp [hx, Op.operands, ht]))
       cases hd : o.dst with
       | none => exact .inr rfl
       | some d =>
        left
        rw [hd] at this hdo
        have h3 := congrArg (fun c : Act => c.tmps[d]?) this.1
        have hdn : d < n := by simpa [dstOk] using hdo
        simp [Act.put, hsz1, hdn] at h3
        rw [← hev]; exact h3
      ·rw [hwant] at hw1; cases hw1
     refine wpAny_take (oi := o) (v := b.eval x) ho hsel hfree hready (fun c a w hq => by simp at hq) (.inl ⟨hwant _, fun w => by rw [hexec]; rfl⟩) ?_
     have hbput : b.put o.dst (b.eval x) = foldF ops (vs r0) (fun j => (listed.setIfInBounds i true).getD j true) k a := by
      rw [← hput r0 listed i o hsz hcl hi ho hik, ← hb]
      rcases hval with h | h
      ·rw [h]
      ·rw [h]; rfl
     rw [hbput]
     refine ih _ _ w' hrest (fun j hj => hlt j (by simp [hj])) (by simpa using hsz) (hclset listed i o hsz hcl hi ho) ?_ ?_ (fun j h1 h2 => by rw [hgj _ (by omega)]; exact hnp j h1 h2) rfl hr'
     ·intro j hj
      by_cases e : j = i
      ·subst e; exact .inl (hgetset listed j hsz hilt)
      ·rw [hgj j e]
       rcases hHl j hj with h | h
       ·exact .inl h
       ·rcases List.mem_cons.1 h with h | h
        ·exact absurd h e
        ·exact .inr h
     ·intro t h3 h4
      rw [hgj t (by omega)]
      exact htl t h3 h4
   have hcnt0 : cnt (fun j => (Array.replicate ops.size false).getD j true) ops.size = ops.size := by
    rw [cnt_congr (g := fun j => decide (j < 0)) ops.size (fun j hj => by simp [hj]), cnt_below]
    omega
   have := phase0 Hs (Array.replicate ops.size false) a { w with drawn := w.drawn + 1 } hhoist hHk (by simp) ?_ (fun i hi => .inr hi) ?_ (fun j h1 h2 => by have : j < ops.size := (by omega); simp [this]) ?_ ?_
   ·rwa [hcnt0] at this
   ·intro j o ho hj
    exfalso
    have hlt : j < ops.size := (Array.getElem?_eq_some_iff.1 ho).1
    simp [hlt] at hj
   ·intro t _ ht
    simp [ht]
   ·have : ∀ j, j < k → (Array.replicate ops.size false).getD j true = decide (j < 0) := by
     intro j hj
     have : j < ops.size := by omega
     simp [this]
    have h0 : foldF ops (vs r0) (fun j => (Array.replicate ops.size false).getD j true) k a = foldF ops (vs r0) (fun j => decide (j < 0)) k a := by
     unfold foldF
     refine foldl_ext' _ _ _ _ fun b j hj => ?_
     simp only [this j (List.mem_range.1 hj)]
    rw [h0, foldF_runA ops (vs r0) 0 k a (Nat.zero_le _)]
    rfl
   ·exact hr.same ((Below.refl _ w).drew) (fun _ _ => rfl)
 all_goals (first | (simp [cC] at hc; done) | (simp only [cC] at hc; split at hc <;> simp at hc; done))
theorem PW.quietAlK {k p : Nat} {l : List PI} {al : List AlOp} {Q : Exit → TT → SS → Prop} (hm : P.follows .mixedOrders = true) (hl : (l.take k).drop p = al.map alPI)
  (h : QKs P w0 n S ((l.take k).take p) T (fun T1 => ∀ rs : List Nat, rs.length = al.length → OL P w0 n (l.drop k) (bindA al rs T1) (segA al rs ++ S) (Q .normal))) : PW P w0 n (.quiet k l) T S Q := by
 obtain ⟨T1, va, h1, h2⟩ := h
 exact PW.quietAl (A := (l.take k).take p) hm (by rw [← hl, List.take_append_drop]) h1 h2
end
end Go.SL
