/- Rules of further operations. -/
import Derived.Test.YtbidjnjbiibdeaaDoorSl16
set_option linter.unusedVariables false
set_option linter.unusedSimpArgs false
namespace Go.SL
open Go.RowKit
section
variable {P : Program} {w0 : World} {n : Nat} {T : TT} {S : SS}
theorem Yields.neg {x : PV} {k : IntKind} {z : Int} (hx : x.val T = some (.int k z)) : Yields P w0 n (.more (.neg x)) T S (.int k (k.wrap (0 - z))) := by
  intro o a w hco hs hr
  obtain ⟨t, y, ho, rfl⟩ := cOp_spec P hco
  simp [execOp, ho, hs.eval hx, Op.unary, Op.intArith]
theorem constNil1 {y : Operand} (h : constNil y = 1) : y = .const .nilIface := by
  unfold constNil at h
  split at h
  · rfl
  · cases h
  · cases h
theorem constNil2 {y : Operand} (h : constNil y = 2) : y = .const (.slice none 0 0) := by
  unfold constNil at h
  split at h
  · cases h
  · rfl
  · cases h
theorem Yields.mkI {t : TypeId} {x : PV} {v : Value} (hx : x.val T = some v) : Yields P w0 n (.more (.mkI t x)) T S (.iface t v) := by
  intro o a w hco hs hr
  obtain ⟨y, d, ho, rfl, hu, hd⟩ := cOp_spec P hco
  have : (Instr.makeInterface t v).run P w = .ok (.iface t v) w := by
    unfold Instr.makeInterface
    simp only [Sem.run_bind, run_underlying hu, Result.andThen_ok]
    cases d <;> (first | rfl | exact absurd rfl (hd _))
  simp [execOp, ho, hs.eval hx, this]
def isNilI : Value → Option Bool
  | .nilIface => some true
  | .iface _ _ => some false
  | _ => none
/-- '==' of two interface values that hold plain integers -/
theorem Yields.eqJ {neg : Bool} {tys : List (TypeId × IntKind)} {x y : PV} {tx ty : TypeId} {k k' : IntKind} {a b : Int} {r : Bool} (hx : x.val T = some (.iface tx (.int k a))) (hy : y.val T = some (.iface ty (.int k' b)))
    (hr : (tx ≠ ty ∧ r = false) ∨ (tx = ty ∧ k = k' ∧ (tx, k) ∈ tys ∧ r = (a == b))) : Yields P w0 n (.more (.eqJ neg tys x y)) T S (.bool (if neg then !r else r)) := by
  intro o ac w hco hs hrep
  obtain ⟨t, p, q, u, ms, ho, rfl, rfl, rfl, hu⟩ := cOp_spec P hco
  have heq0 : ∀ d, (Op.equalIn (d + 2) t (.iface tx (.int k a)) (.iface ty (.int k' b))).run P w = .ok r w := by
    intro d
    rcases hr with ⟨hne, rfl⟩ | ⟨rfl, rfl, hm, rfl⟩
    · simp [Op.equalIn, run_underlying hu, hne]
    · obtain ⟨h1, i, h2, h3⟩ := intTys_mem hm
      simp [Op.equalIn, run_underlying hu, run_underlying h1, typeInfo, program, Sem.run, h2, h3]
  have heq : (Op.equal t (.iface tx (.int k a)) (.iface ty (.int k' b))).run P w = .ok r w := heq0 9998
  cases neg with
  | false =>
    simp only [execOp, ho, hs.eval hx, hs.eval hy, Bool.false_eq_true, if_false]
    simp [eqGuard, binOp, heq]
  | true =>
    simp only [execOp, ho, hs.eval hx, hs.eval hy, if_true]
    simp [eqGuard, binOp, heq]
theorem Yields.eqI {neg : Bool} {x : PV} {v : Value} {b : Bool} (hx : x.val T = some v) (hb : isNilI v = some b) : Yields P w0 n (.more (.eqI neg x)) T S (.bool (if neg then !b else b)) := by
  intro o a w hco hs hr
  obtain ⟨t, y, z, u, ms, ho, rfl, hz, hu⟩ := cOp_spec P hco
  obtain rfl := constNil1 hz
  have he : a.eval (.const .nilIface) = .nilIface := rfl
  have heq0 : ∀ d, (Op.equalIn (d + 1) t v .nilIface).run P w = .ok b w := by
    intro d
    unfold isNilI at hb
    split at hb <;> (first | cases hb | skip)
    · simp [Op.equalIn, run_underlying hu]
    · simp [Op.equalIn, run_underlying hu]
  have heq : (Op.equal t v .nilIface).run P w = .ok b w := heq0 9999
  have hg : ∀ op, (eqGuard op t y (.const .nilIface) v .nilIface).run P w = .ok () w := by
    intro op
    unfold isNilI at hb
    split at hb <;> (first | cases hb | skip)
    · cases op <;> simp [eqGuard]
    · cases op <;> simp [eqGuard]
  have hbin : ∀ op, op = BinOp.eql ∨ op = .neq → (binOp op t v .nilIface).run P w = .ok (.bool (if op == .neq then !b else b)) w := by
    intro op hop
    unfold isNilI at hb
    split at hb <;> (first | cases hb | skip)
    · rcases hop with rfl | rfl <;> simp [binOp, heq]
    · rcases hop with rfl | rfl <;> simp [binOp, heq]
  cases neg
  · simp only [execOp, ho, Bool.false_eq_true, if_false, hs.eval hx, he]
    simp [hg, hbin]
  · simp only [execOp, ho, if_true, hs.eval hx, he]
    simp [hg, hbin]
theorem Yields.slNil {neg : Bool} {x : PV} {A : Option Addr} {l c : Nat} (hx : x.val T = some (.slice A l c)) : Yields P w0 n (.more (.slNil neg x)) T S (.bool (if neg then A.isSome else A.isNone)) := by
  intro o a w hco hs hr
  obtain ⟨t, y, z, u, e, ho, rfl, hz, hu⟩ := cOp_spec P hco
  obtain rfl := constNil2 hz
  have he : a.eval (.const (.slice none 0 0)) = .slice none 0 0 := rfl
  have heq0 : ∀ d, (Op.equalIn (d + 1) t (.slice A l c) (.slice none 0 0)).run P w = .ok A.isNone w := by
    intro d
    cases A <;> simp [Op.equalIn, run_underlying hu]
  have heq : (Op.equal t (.slice A l c) (.slice none 0 0)).run P w = .ok A.isNone w := heq0 9999
  cases neg
  · simp only [execOp, ho, Bool.false_eq_true, if_false, hs.eval hx, he]
    simp [eqGuard, binOp, heq]
  · simp only [execOp, ho, if_true, hs.eval hx, he]
    simp [eqGuard, binOp, heq]
theorem Yields.slAr {len sz : Nat} {x : PV} {lo hi : Option PV} {a : Addr} {l h : Nat} {li hi' : Option Int} (hx : x.val T = some (.pointer (some a)))
    (hl : ovI lo T = some li) (hh : ovI hi T = some hi') (el : li = some (l : Int) ∨ (li = none ∧ l = 0)) (eh : hi' = some (h : Int) ∨ (hi' = none ∧ h = len)) (h1 : l ≤ h) (h2 : h ≤ len) :
    Yields P w0 n (.more (.slAr len sz x lo hi)) T S (.slice (some (if len = l then a else a.add (l * sz))) (h - l) (len - l)) := by
  intro o ac w hco hs hr
  obtain ⟨t, y, ol, oh, e, ie, ho, rfl, rfl, rfl, hu, hie, rfl⟩ := cOp_spec P hco
  have e1 : (∃ k, ol.map ac.eval = some (.int k (l : Int))) ∨ (ol.map ac.eval = none ∧ l = 0) := by
    rcases ovI_spec hs hl with ⟨h, h'⟩ | ⟨j, k, h, h'⟩
    · rw [h] at el; rcases el with el | el
      · cases el
      · exact .inr ⟨h', el.2⟩
    · rw [h] at el; rcases el with el | el
      · obtain rfl := Option.some.inj el; exact .inl ⟨k, h'⟩
      · cases el.1
  have e2 : (∃ k, oh.map ac.eval = some (.int k (h : Int))) ∨ (oh.map ac.eval = none ∧ h = len) := by
    rcases ovI_spec hs hh with ⟨h, h'⟩ | ⟨j, k, h, h'⟩
    · rw [h] at eh; rcases eh with eh | eh
      · cases eh
      · exact .inr ⟨h', eh.2⟩
    · rw [h] at eh; rcases eh with eh | eh
      · obtain rfl := Option.some.inj eh; exact .inl ⟨k, h'⟩
      · cases eh.1
  have hb := run_bounds (P := P) false len len (ol.map ac.eval) (oh.map ac.eval) l h e1 e2 h1 h2 w
  simp only [execOp, ho, hs.eval hx, Instr.sliceAt]
  simp [run_underlying hu, Instr.sureAddr, hb, sizeOf, typeInfo, program, Sem.run, hie]
theorem Yields.bldA {zero : List Value} {parts : List (Nat × Nat × PV)} {cs : List Value} (h : fillP T zero parts = some cs) : Yields P w0 n (.more (.bldA zero parts)) T S (.agg cs.toArray) := by
  intro o a w hco hs hr
  obtain ⟨t, qs, m, e, i, ie, z, ho, hu, hi, hie, hz, rfl, hpa⟩ := cOp_spec P hco
  have hfill := fill_spec hs (place := fun j => some (j * ie.size, ie.size)) (cells := z.cells) hpa h
  simp only [execOp, ho]
  have hb : P.built t (qs.map fun (i, x) => (i, a.eval x)).toList = some cs.toArray := by
    unfold Program.built
    simp only [hi, hu, hz, hie]
    simp only [Array.toList_map]
    exact hfill
  have := run_build (P := P) w t _ cs.toArray hb
  simp only [Sem.run_bind, this, Result.andThen_ok]
  rfl
/-- '[]byte("..")' of a constant: the row's bytes stay -/
theorem OW.cvS {x : PV} {b o l c k E tot : Nat} {cs : List Value} (hx : x.val T = some (.slice (some ⟨b, o, none⟩) l c)) (hk : S[k]? = some [(b, .cells cs E tot)]) :
    OW P w0 n (.more (.cvS x)) T S (fun v S' => v = .slice (some ⟨b, o, none⟩) l c ∧ S' = S.set k [(b, .ro cs)]) := by
  intro op a w Q hco hs hr
  obtain ⟨s, t, y, e, ho, rfl, rfl, hu, he⟩ := cOp_spec P hco
  obtain ⟨hge, C, hC, htot, hpre⟩ := hr.own (b, .cells cs E tot) (List.mem_flatten.2 ⟨_, List.mem_of_getElem? hk, by simp⟩)
  simp only at hge hC
  have hlt : b < w.heap.size := (Array.getElem?_eq_some_iff.1 hC).1
  have hrun : (execOp a.eval op).run P w = .ok (.value (.slice (some ⟨b, o, none⟩) l c)) (w.freeze ⟨b, C.size, none⟩ 1) := by
    simp only [execOp, ho, hs.eval hx, convert]
    have hsh : w.shape? b = some (E, C.size) := by simp [World.shape?, hC]
    simp [run_underlying hu, run_underlying he, markStringish, shape, freeze, Sem.run, hsh]
  unfold Oper.wp
  rw [hrun]
  refine ⟨_, _, rfl, ?_, rfl, rfl⟩
  have hheap : ∀ i, i ≠ b → (w.freeze ⟨b, C.size, none⟩ 1).heap[i]? = w.heap[i]? := by
    intro i hi
    simp [World.freeze, Array.getElem?_modify]
    intro e
    exact absurd e.symm hi
  refine hr.replace hk ⟨rfl, rfl, rfl, by simp [World.freeze], fun i hi => hheap i (by omega)⟩ (fun i _ hne => hheap i (by simpa using hne)) (by simp) ?_
  intro p hp
  simp only [List.mem_singleton] at hp
  subst hp
  refine ⟨hge, ?_, .inl (by simp)⟩
  refine ⟨C, E, (C.size, C.size + 1), ?_, hpre⟩
  simp [World.freeze, Array.getElem?_modify, hC]
/-! ### a text gone through, rune by rune -/
theorem OW.rngS {x : PV} {s : ByteArray} (hx : x.val T = some (.string s)) : OW P w0 n (.more (.rngS x)) T S (fun v S' => ∃ r, v = .pointer (some ⟨r, 0, none⟩) ∧ S' = [(r, .obj (.stringIter s 0))] :: S) := by
  intro op a w Q hco hs hr
  obtain ⟨t, y, ho, rfl, hu⟩ := cOp_spec P hco
  have hrun : (execOp a.eval op).run P w = .ok (.value (.pointer (some ⟨w.heap.size, 0, none⟩))) (w.alloc (.stringIter s 0)) := by
    simp [execOp, ho, hs.eval hx, Instr.range, run_underlying hu, newObj, Sem.run]
  unfold Oper.wp
  rw [hrun]
  refine ⟨_, _, rfl, ?_, w.heap.size, rfl, rfl⟩
  refine hr.push (below_alloc hr _) (fun i hi => alloc_heap_lt w _ i hi) (by simp) ?_
  intro p hp
  simp only [List.mem_singleton] at hp
  subst hp
  exact ⟨alloc_heap_new w _, Nat.le_refl _⟩
theorem iter_at {w : World} {k b : Nat} {o : Obj} (h : Rep w0 S w) (hk : S[k]? = some [(b, .obj o)]) : w0.heap.size ≤ b ∧ w.heap[b]? = some o :=
  h.own (b, .obj o) (List.mem_flatten.2 ⟨_, List.mem_of_getElem? hk, by simp⟩)
theorem OW.nxtS_end {x : PV} {s : ByteArray} {b k p : Nat} (hx : x.val T = some (.pointer (some ⟨b, 0, none⟩))) (hk : S[k]? = some [(b, .obj (.stringIter s p))]) (hp : ¬ p < s.size) :
    Yields P w0 n (.more (.nxtS x)) T S (.tuple #[.bool false]) := by
  intro op a w hco hs hr
  obtain ⟨y, ho, rfl⟩ := cOp_spec P hco
  obtain ⟨_, hw⟩ := iter_at hr hk
  simp [execOp, ho, hs.eval hx, Instr.next, getObj, Sem.run, hw, hp]
theorem OW.nxtS {x : PV} {s : ByteArray} {b k p : Nat} (hx : x.val T = some (.pointer (some ⟨b, 0, none⟩))) (hk : S[k]? = some [(b, .obj (.stringIter s p))]) (hp : p < s.size) :
    OW P w0 n (.more (.nxtS x)) T S (fun v S' => v = .tuple #[.bool true, .int .i64 (p : Int), .int .i32 ((Utf8.decode s p).1 : Int)] ∧ S' = S.set k [(b, .obj (.stringIter s (p + (Utf8.decode s p).2)))]) := by
  intro op a w Q hco hs hr
  obtain ⟨y, ho, rfl⟩ := cOp_spec P hco
  obtain ⟨hge, hw⟩ := iter_at hr hk
  have hlt : b < w.heap.size := (Array.getElem?_eq_some_iff.1 hw).1
  have hrun : (execOp a.eval op).run P w = .ok (.value (.tuple #[.bool true, .int .i64 (p : Int), .int .i32 ((Utf8.decode s p).1 : Int)])) { w with heap := w.heap.setIfInBounds b (.stringIter s (p + (Utf8.decode s p).2)) } := by
    simp [execOp, ho, hs.eval hx, Instr.next, getObj, setObj, Sem.run, hw, hp, goInt]
  unfold Oper.wp
  rw [hrun]
  refine ⟨_, _, rfl, ?_, rfl, rfl⟩
  refine hr.replace hk ⟨rfl, rfl, rfl, by simp, fun i hi => ?_⟩ (fun i hi hne => ?_) (by simp) ?_
  · have : b ≠ i := by omega
    simp [Array.getElem?_setIfInBounds_ne this]
  · have : b ≠ i := by simp at hne; omega
    simp [Array.getElem?_setIfInBounds_ne this]
  · intro q hq
    simp only [List.mem_singleton] at hq
    subst hq
    refine ⟨hge, ?_, .inl (by simp)⟩
    show ({ w with heap := w.heap.setIfInBounds b (.stringIter s (p + (Utf8.decode s p).2)) } : World).heap[b]? = some _
    simp [hlt]
/-! ### functions without a Go body -/
theorem ext_none {fn : Func} {name : String} (hn : fn.name = name) (ho : fn.origin = "") (h1 : (Extern.allNextRows.lookup name).isNone = true) (h2 : (Extern.allNextRows.lookup "").isNone = true) : Extern.findNext fn = none := by
  unfold Extern.findNext
  rw [hn, ho]
  simp only [Option.isNone_iff_eq_none] at h1 h2
  simp [h1, h2]
theorem Yields.xc {row : Nat} {args : List PV} {vs : List Value} {v : Value} {e : Array Value → Sem Value} (hv : valsP T args = some vs) (h1 : (Extern.allNextRows.lookup (rowOf row)).isNone = true) (h2 : (Extern.allNextRows.lookup "").isNone = true)
    (he : ∀ fn : Func, fn.name = rowOf row → Extern.find fn = some e) (hr : ∀ w, (e vs.toArray).run P w = .ok v w) : Yields P w0 n (.more (.xc row args)) T S v := by
  intro o a w hco hs hrep
  obtain ⟨c, f, fn, ho, hca, rfl, hf, hn, hor, hb, hng⟩ := cOp_spec P hco
  have hargs : c.args.map a.eval = vs.toArray := by
    apply Array.toList_inj.1
    simpa using valsP_spec hs hv
  have := run_callFunc_extern hf hng hb (ext_none hn hor h1 h2) (he fn hn) vs.toArray w
  rw [hr w] at this
  simp only [execOp, ho]
  simp [resolve, hca, Act.eval, Deferred.ofValue, invoke, hargs, this]
end
end Go.SL
