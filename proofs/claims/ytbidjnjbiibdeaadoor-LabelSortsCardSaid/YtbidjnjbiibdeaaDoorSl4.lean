/- Rules of operations that turn memory: stores, slices, rows that are made, append, calls. -/
import Derived.Test.YtbidjnjbiibdeaaDoorSl3
set_option linter.unusedVariables false
set_option linter.unusedSimpArgs false
namespace Go.SL
open Go.RowKit

section
variable {P : Program} {w0 : World} {n : Nat} {T : TT} {S : SS}

theorem split_at {S : SS} {k : Nat} {seg : Seg} (h : S[k]? = some seg) : ∃ A R, S = A ++ seg :: R ∧ A.length = k := by
  have hk : k < S.length := (List.getElem?_eq_some_iff.1 h).1
  refine ⟨S.take k, S.drop (k + 1), ?_, by simp; omega⟩
  have : S[k] = seg := (List.getElem?_eq_some_iff.1 h).2
  rw [← this]
  simp
theorem set_at {A R : SS} {seg seg' : Seg} {k : Nat} (h : A.length = k) : (A ++ seg :: R).set k seg' = A ++ seg' :: R := by
  subst h
  simp

/-- a segment gives way to another one: of the old blocks, or new ones -/
theorem Rep.replace {w w' : World} {k : Nat} {seg seg' : Seg} (h : Rep w0 S w) (hk : S[k]? = some seg) (hB : Below w0.heap.size w w')
    (hs : ∀ i, i < w.heap.size → i ∉ seg.map Prod.fst → w'.heap[i]? = w.heap[i]?) (hn : (seg'.map Prod.fst).Nodup)
    (hi : ∀ p ∈ seg', w0.heap.size ≤ p.1 ∧ Owns w' p.1 p.2 ∧ (p.1 ∈ seg.map Prod.fst ∨ w.heap.size ≤ p.1))
    (hd : w.drawn ≤ w'.drawn := by first | assumption | exact Nat.le_refl _ | exact Nat.le_succ _ | exact run_drawn _ (by assumption)) : Rep w0 (S.set k seg') w' := by
  obtain ⟨A, R, rfl, hA⟩ := split_at hk
  rw [set_at hA]
  have hnd := h.nodup
  simp only [List.flatten_append, List.flatten_cons, List.map_append, List.nodup_append, List.mem_append] at hnd
  obtain ⟨n1, ⟨n2, n3, n4⟩, n5⟩ := hnd
  have hown := h.own
  simp only [List.flatten_append, List.flatten_cons, List.mem_append] at hown
  have old : ∀ p, (p ∈ A.flatten ∨ p ∈ R.flatten) → p.1 < w.heap.size ∧ p.1 ∉ seg.map Prod.fst := by
    rintro p (hp | hp)
    · exact ⟨(hown p (.inl hp)).2.lt, fun hc => n5 _ (List.mem_map.2 ⟨p, hp, rfl⟩) _ (.inl hc) rfl⟩
    · exact ⟨(hown p (.inr (.inr hp))).2.lt, fun hc => n4 _ hc _ (List.mem_map.2 ⟨p, hp, rfl⟩) rfl⟩
  have apart : ∀ p, (p ∈ A.flatten ∨ p ∈ R.flatten) → ∀ q ∈ seg', p.1 ≠ q.1 := by
    intro p hp q hq e
    obtain ⟨h1, h2⟩ := old p hp
    rcases (hi q hq).2.2 with h3 | h3
    · exact h2 (e ▸ h3)
    · omega
  refine ⟨h.below.trans hB, ?_, ?_, h.drawn.imp_right fun h => Nat.le_trans h hd⟩
  · simp only [List.flatten_append, List.flatten_cons, List.map_append, List.nodup_append, List.mem_append]
    refine ⟨n1, ⟨hn, n3, ?_⟩, ?_⟩
    · rintro a ha b hb rfl
      obtain ⟨q, hq, rfl⟩ := List.mem_map.1 ha
      obtain ⟨p, hp, e⟩ := List.mem_map.1 hb
      exact apart p (.inr hp) q hq e
    · rintro a ha b hb rfl
      obtain ⟨p, hp, rfl⟩ := List.mem_map.1 ha
      rcases hb with hb | hb
      · obtain ⟨q, hq, e⟩ := List.mem_map.1 hb
        exact apart p (.inl hp) q hq e.symm
      · exact n5 _ ha _ (.inr hb) rfl
  · simp only [List.flatten_append, List.flatten_cons, List.mem_append]
    rintro p (hp | hp | hp)
    · obtain ⟨h1, h2⟩ := old p (.inl hp)
      exact ⟨(hown p (.inl hp)).1, (hown p (.inl hp)).2.congr (hs _ h1 h2)⟩
    · exact ⟨(hi p hp).1, (hi p hp).2.1⟩
    · obtain ⟨h1, h2⟩ := old p (.inr hp)
      exact ⟨(hown p (.inr (.inr hp))).1, (hown p (.inr (.inr hp))).2.congr (hs _ h1 h2)⟩
/-- new blocks: a new segment in front -/
theorem Rep.push {w w' : World} {seg : Seg} (h : Rep w0 S w) (hB : Below w0.heap.size w w') (hs : ∀ i, i < w.heap.size → w'.heap[i]? = w.heap[i]?)
    (hn : (seg.map Prod.fst).Nodup) (hi : ∀ p ∈ seg, Owns w' p.1 p.2 ∧ w.heap.size ≤ p.1)
    (hd : w.drawn ≤ w'.drawn := by first | assumption | exact Nat.le_refl _ | exact Nat.le_succ _ | exact run_drawn _ (by assumption)) : Rep w0 (seg :: S) w' := by
  have h0 : Rep w0 ([] :: S) w := h.sub (by simp) (by simpa using h.nodup)
  have := h0.replace (k := 0) (seg := []) (seg' := seg) rfl hB (fun i hi _ => hs i hi) hn (fun p hp => ⟨Nat.le_trans h.base (hi p hp).2, (hi p hp).1, .inr (hi p hp).2⟩) hd
  simpa using this
theorem Rep.same {w w' : World} (h : Rep w0 S w) (hB : Below w0.heap.size w w') (hs : ∀ i, i < w.heap.size → w'.heap[i]? = w.heap[i]?)
    (hd : w.drawn ≤ w'.drawn := by first | assumption | exact Nat.le_refl _ | exact Nat.le_succ _ | exact run_drawn _ (by assumption)) : Rep w0 S w' :=
  ⟨h.below.trans hB, h.nodup, fun p hp => ⟨(h.own p hp).1, (h.own p hp).2.congr (hs _ (h.own p hp).2.lt)⟩, h.drawn.imp_right fun h => Nat.le_trans h hd⟩
/-- a world of which the draws are not known, where that is allowed -/
theorem Rep.sameL {w w' : World} (hL : Loose) (h : Rep w0 S w) (hB : Below w0.heap.size w w') (hs : ∀ i, i < w.heap.size → w'.heap[i]? = w.heap[i]?) : Rep w0 S w' :=
  ⟨h.below.trans hB, h.nodup, fun p hp => ⟨(h.own p hp).1, (h.own p hp).2.congr (hs _ (h.own p hp).2.lt)⟩, .inl hL⟩
theorem Rep.nilseg {w : World} (h : Rep w0 S w) : Rep w0 ([] :: S) w := h.sub (by simp) (by simpa using h.nodup)

theorem OL.nilseg {l : List PI} {K : TT → SS → Prop} (h : OL P w0 n l T ([] :: S) K) : OL P w0 n l T S K :=
  fun ops is a w Q hc hs hr hk => h ops is a w Q hc hs hr.nilseg hk
theorem PW.nilseg {pc : PC} {Q : Exit → TT → SS → Prop} (h : PW P w0 n pc T ([] :: S) Q) : PW P w0 n pc T S Q :=
  fun c hc a w hs hr => h c hc a w hs hr.nilseg
theorem FC.nilseg {k : FuncId} {args : List Value} {post : Value → SS → Prop} (h : FC P w0 k args ([] :: S) post) : FC P w0 k args S post :=
  fun w hw => h w hw.nilseg
theorem FC.sel {k : FuncId} {args : List Value} {post : Value → SS → Prop} (is : List Nat) (m : Nat) (hi : (decide is.Nodup && is.all (· < m)) = true) (h : FC P w0 k args (SL.sel is m S) post) : FC P w0 k args S post :=
  fun w hw => h w (hw.sel is m hi)

/-! ### lists of cells -/
/-- cells laid over others from a place on -/
def setAt : List Value → Nat → List Value → List Value
  | c :: cs, 0, v :: vs => v :: setAt cs 0 vs
  | cs, 0, [] => cs
  | c :: cs, k + 1, vs => c :: setAt cs k vs
  | [], _, _ => []
theorem setAt_nil (cs : List Value) (k : Nat) : setAt cs k [] = cs := by
  induction cs generalizing k with
  | nil => cases k <;> simp [setAt]
  | cons c cs ih => cases k <;> simp [setAt, ih]
theorem setAt_eq (cs : List Value) (k : Nat) (vs : List Value) (h : k + vs.length ≤ cs.length) : setAt cs k vs = cs.take k ++ vs ++ cs.drop (k + vs.length) := by
  induction cs generalizing k vs with
  | nil =>
    simp at h
    obtain ⟨rfl, rfl⟩ := h
    simp [setAt]
  | cons c cs ih =>
    cases k with
    | zero =>
      cases vs with
      | nil => simp [setAt]
      | cons v vs =>
        simp only [setAt]
        rw [ih 0 vs (by simp at h ⊢; omega)]
        simp
    | succ k =>
      simp only [setAt]
      rw [ih k vs (by simp at h ⊢; omega)]
      simp [Nat.add_right_comm]
theorem setAt_length (cs : List Value) (k : Nat) (vs : List Value) : (setAt cs k vs).length = cs.length := by
  induction cs generalizing k vs with
  | nil => cases k <;> cases vs <;> simp [setAt]
  | cons c cs ih => cases k <;> cases vs <;> simp [setAt, ih]

/-! ### stores -/
theorem setRow_heap_other (w : World) (g i : Nat) (cs : Array Value) (h : i ≠ g) : (w.setRow g cs).heap[i]? = w.heap[i]? := by
  simp [World.setRow, Array.getElem?_modify]
  intro e
  exact absurd e.symm h

theorem below_setRow (w : World) (g : Nat) (cs : Array Value) (h : w0.heap.size ≤ g) : Below w0.heap.size w (w.setRow g cs) :=
  ⟨rfl, rfl, rfl, by simp [World.setRow], fun k hk => setRow_heap_other w g k cs (by omega)⟩

theorem take_lay (C : List Value) (k : Nat) (vs : List Value) (m : Nat) (h1 : k + vs.length ≤ m) (h2 : m ≤ C.length) :
    (C.take k ++ vs ++ C.drop (k + vs.length)).take m = (C.take m).take k ++ vs ++ (C.take m).drop (k + vs.length) := by
  rw [List.take_append, List.take_append, List.take_take, List.drop_take]
  have e1 : (C.take k).length = k := by simp; omega
  rw [e1, List.take_of_length_le (l := vs) (by omega), List.take_take]
  simp only [List.length_append, e1]
  rw [Nat.min_comm]
/-- a store into an owned row, within what is known of it -/
theorem OW.stU {sz : Nat} {x v : PV} {b o E tot k : Nat} {c : List Value} {u : Value} (hx : x.val T = some (.pointer (some ⟨b, o, none⟩))) (hv : v.val T = some u)
    (hk : S[k]? = some [(b, .cells c E tot)]) (hu : u.cells.size = sz) (hb : o + sz ≤ c.length) (h1 : u.cells.toList.all (·.oneCell') = true) :
    OW P w0 n (.st sz x v) T S (fun v' S' => v' = undef ∧ S' = S.set k [(b, .cells (setAt c o u.cells.toList) E tot)]) := by
  intro op a w Q hco hs hr
  obtain ⟨t, y, z, i, ho, rfl, rfl, hi, hsz⟩ := cOp_spec P hco
  obtain ⟨hge, C, hC, htot, hpre⟩ := hr.own (b, .cells c E tot) (List.mem_flatten.2 ⟨_, List.mem_of_getElem? hk, by simp⟩)
  simp only at hge hC
  have hlen : c.length ≤ C.size := by
    have := congrArg List.length hpre
    simp at this
    omega
  have hlu : u.cells.toList.length = sz := by simpa using hu
  have hst := run_storeCells_at P b o E u.cells.toList 0 C w hC (by omega) (fun v hv => (List.all_eq_true.1 h1) v hv)
  simp only [Nat.add_zero] at hst
  unfold Oper.wp
  have hrun : (execOp a.eval op).run P w = .ok .skip (w.setRow b (C.toList.take o ++ u.cells.toList ++ C.toList.drop (o + u.cells.toList.length)).toArray) := by
    simp only [execOp, ho, hs.eval hx, hs.eval hv, Instr.storeAt, Instr.sureAddr, storeVar]
    simp [sizeOf, typeInfo, program, Sem.run, hi, hsz, hu, hst]
  rw [hrun]
  refine ⟨undef, _, rfl, ?_, rfl, rfl⟩
  have hheap := setRow_heap w b C (C.toList.take o ++ u.cells.toList ++ C.toList.drop (o + u.cells.toList.length)).toArray E (0, 0) hC
  refine hr.replace hk (below_setRow w b _ hge) (fun i _ hne => setRow_heap_other w b i _ (by simpa using hne)) (by simp) ?_
  intro p hp
  simp only [List.mem_singleton] at hp
  subst hp
  refine ⟨hge, ⟨_, hheap, ?_, ?_⟩, .inl (by simp)⟩
  · simp only [List.size_toArray, List.length_append, List.length_take, List.length_drop, Array.length_toList]; omega
  · rw [setAt_length, setAt_eq c o _ (by omega)]
    have := take_lay C.toList o u.cells.toList c.length (by omega) (by simp; omega)
    rw [hpre] at this
    simpa using this

theorem OW.st {sz : Nat} {x v : PV} {b o E tot k : Nat} {c : List Value} {u : Value} (hx : x.val T = some (.pointer (some ⟨b, o, none⟩))) (hv : v.val T = some u)
    (hk : S[k]? = some [(b, .cells c E tot)]) (hu : u.cells.size = sz) (hb : o + sz ≤ c.length) (h1 : u.cells.toList.all (·.oneCell') = true) :
    OW P w0 n (.st sz x v) T S (fun _ S' => S' = S.set k [(b, .cells (setAt c o u.cells.toList) E tot)]) := by
  exact (OW.stU hx hv hk hu hb h1).mono fun _ _ h => h.2

/-! ### slices of slices and of strings -/
def ovI : Option PV → TT → Option (Option Int)
  | none, _ => some none
  | some x, T => match x.val T with | some (.int _ i) => some (some i) | _ => none
/-- a slice cut from l on, up to h -/
def cutV (A : Option Addr) (cap sz l h : Nat) : Value := .slice (if cap = l then A else A.map (·.add (l * sz))) (h - l) (cap - l)
theorem run_bounds (is : Bool) (len cap : Nat) (lo hi : Option Value) (l h : Nat) (hl : (∃ k, lo = some (.int k (l : Int))) ∨ (lo = none ∧ l = 0)) (hh : (∃ k, hi = some (.int k (h : Int))) ∨ (hi = none ∧ h = len))
    (h1 : l ≤ h) (h2 : h ≤ cap) (w : World) : (Instr.sliceBounds is len cap lo hi none).run P w = .ok (l, h, cap) w := by
  have h1' : (l : Int) ≤ (h : Int) := by omega
  have h2' : (h : Int) ≤ (cap : Int) := by omega
  rcases hl with ⟨k, rfl⟩ | ⟨rfl, rfl⟩ <;> rcases hh with ⟨k', rfl⟩ | ⟨rfl, rfl⟩ <;> simp [Instr.sliceBounds, Instr.sliceBound, asIntOf, h1, h2]
theorem ovI_spec {x : Option Operand} {a : Act} {i : Option Int} (hs : Sat n T a) (h : ovI (x.map cV) T = some i) : (i = none ∧ x.map a.eval = none) ∨ ∃ j k, i = some j ∧ x.map a.eval = some (.int k j) := by
  cases x with
  | none => simp [ovI] at h; exact .inl ⟨h.symm, rfl⟩
  | some y =>
    simp only [Option.map_some, ovI] at h
    split at h
    · rename_i k j hj
      simp at h
      exact .inr ⟨j, k, h.symm, by simp [hs.eval hj]⟩
    · simp at h
theorem Yields.slS {sz : Nat} {x : PV} {lo hi : Option PV} {A : Option Addr} {len cap l h : Nat} {li hi' : Option Int} (hx : x.val T = some (.slice A len cap))
    (hl : ovI lo T = some li) (hh : ovI hi T = some hi') (el : li = some (l : Int) ∨ (li = none ∧ l = 0)) (eh : hi' = some (h : Int) ∨ (hi' = none ∧ h = len)) (h1 : l ≤ h) (h2 : h ≤ cap) :
    Yields P w0 n (.slS sz x lo hi) T S (cutV A cap sz l h) := by
  intro o a w hco hs hr
  obtain ⟨t, y, l', h', e, ie, ho, rfl, rfl, rfl, hu, hie, rfl⟩ := cOp_spec P hco
  have hl2 := ovI_spec hs hl
  have hh2 := ovI_spec hs hh
  have hb : (Instr.sliceBounds true len cap (l'.map a.eval) (h'.map a.eval) none).run P w = .ok (l, h, cap) w := by
    refine run_bounds true len cap _ _ l h ?_ ?_ h1 h2 w
    · rcases hl2 with ⟨rfl, e1⟩ | ⟨j, k, rfl, e1⟩
      · rcases el with h | ⟨_, rfl⟩
        · simp at h
        · exact .inr ⟨e1, rfl⟩
      · rcases el with h | ⟨h, _⟩
        · simp at h; subst h; exact .inl ⟨k, e1⟩
        · simp at h
    · rcases hh2 with ⟨rfl, e1⟩ | ⟨j, k, rfl, e1⟩
      · rcases eh with h | ⟨_, rfl⟩
        · simp at h
        · exact .inr ⟨e1, rfl⟩
      · rcases eh with h | ⟨h, _⟩
        · simp at h; subst h; exact .inl ⟨k, e1⟩
        · simp at h
  simp only [execOp, ho, hs.eval hx, Instr.sliceAt, Option.map_none]
  simp [run_underlying hu, Instr.slice, hb, sizeOf, typeInfo, program, hie, Sem.run, cutV]
theorem Yields.slStr {x : PV} {lo hi : Option PV} {s : ByteArray} {l h : Nat} {li hi' : Option Int} (hx : x.val T = some (.string s))
    (hl : ovI lo T = some li) (hh : ovI hi T = some hi') (el : li = some (l : Int) ∨ (li = none ∧ l = 0)) (eh : hi' = some (h : Int) ∨ (hi' = none ∧ h = s.size)) (h1 : l ≤ h) (h2 : h ≤ s.size) :
    Yields P w0 n (.slStr x lo hi) T S (.string (s.extract l h)) := by
  intro o a w hco hs hr
  obtain ⟨t, y, l', h', ho, rfl, rfl, rfl, hu⟩ := cOp_spec P hco
  have hl2 := ovI_spec hs hl
  have hh2 := ovI_spec hs hh
  have hb : (Instr.sliceBounds false s.size s.size (l'.map a.eval) (h'.map a.eval) none).run P w = .ok (l, h, s.size) w := by
    refine run_bounds false s.size s.size _ _ l h ?_ ?_ h1 h2 w
    · rcases hl2 with ⟨rfl, e1⟩ | ⟨j, k, rfl, e1⟩
      · rcases el with h | ⟨_, rfl⟩
        · simp at h
        · exact .inr ⟨e1, rfl⟩
      · rcases el with h | ⟨h, _⟩
        · simp at h; subst h; exact .inl ⟨k, e1⟩
        · simp at h
    · rcases hh2 with ⟨rfl, e1⟩ | ⟨j, k, rfl, e1⟩
      · rcases eh with h | ⟨_, rfl⟩
        · simp at h
        · exact .inr ⟨e1, rfl⟩
      · rcases eh with h | ⟨h, _⟩
        · simp at h; subst h; exact .inl ⟨k, e1⟩
        · simp at h
  simp only [execOp, ho, hs.eval hx, Instr.sliceAt, Option.map_none]
  simp [run_underlying hu, Instr.slice, hb]

/-! ### rows that are made -/
theorem below_alloc {w : World} (h : Rep w0 S w) (o : Obj) : Below w0.heap.size w (w.alloc o) := (Below.refl _ w).alloc h.base o
theorem alloc_heap_lt (w : World) (o : Obj) (i : Nat) (h : i < w.heap.size) : (w.alloc o).heap[i]? = w.heap[i]? := Below.heap_alloc w o i h
theorem alloc_heap_new (w : World) (o : Obj) : (w.alloc o).heap[w.heap.size]? = some o := by simp only [World.alloc]; simp
theorem Rep.alloc {w : World} (h : Rep w0 S w) (C : Array Value) (E : TypeId) : Rep w0 ([(w.heap.size, .cells C.toList E C.size)] :: S) (w.alloc (.cells C E)) := by
  refine h.push (below_alloc h _) (fun i hi => alloc_heap_lt w _ i hi) (by simp) ?_
  intro p hp
  simp only [List.mem_singleton] at hp
  subst hp
  exact ⟨⟨C, alloc_heap_new w _, rfl, by rw [Array.length_toList, ← Array.length_toList, List.take_length]⟩, Nat.le_refl _⟩

def SlV (E sz : Nat) (v : Value) (m : Nat) (xs : List Value) (seg : Seg) : Prop :=
  xs.length = m * sz ∧ ((v = .slice none 0 0 ∧ m = 0 ∧ seg = []) ∨ ∃ r cap, v = .slice (some ⟨r, 0, none⟩) m cap ∧ seg = [(r, .cells xs E (cap * sz))] ∧ m ≤ cap ∧ cap ≤ maxLen)
theorem SlV.nil (E sz : Nat) : SlV E sz (.slice none 0 0) 0 [] [] := ⟨by simp, .inl ⟨rfl, rfl, rfl⟩⟩
theorem SlV.mk' {E sz m cap r : Nat} {xs : List Value} (hl : xs.length = m * sz) (h1 : m ≤ cap) (h2 : cap ≤ maxLen) : SlV E sz (.slice (some ⟨r, 0, none⟩) m cap) m xs [(r, .cells xs E (cap * sz))] :=
  ⟨hl, .inr ⟨r, cap, rfl, rfl, h1, h2⟩⟩

theorem Rep.owns {w : World} {k E sz m : Nat} {v : Value} {xs : List Value} {seg : Seg} (h : Rep w0 S w) (hk : S[k]? = some seg) (hv : SlV E sz v m xs seg) : w.ownsRow w0.heap.size E sz v m xs := by
  obtain ⟨hl, ⟨rfl, rfl, rfl⟩ | ⟨r, cap, rfl, rfl, h1, h2⟩⟩ := hv
  · exact ⟨hl, .inl ⟨rfl, rfl⟩⟩
  · obtain ⟨hge, C, hC, htot, hpre⟩ := h.own (r, .cells xs E (cap * sz)) (List.mem_flatten.2 ⟨_, List.mem_of_getElem? hk, by simp⟩)
    exact ⟨hl, .inr ⟨r, cap, C, rfl, hge, hC, h1, h2, htot, by rw [← hl]; exact hpre⟩⟩
theorem Rep.ofOwns {w w' : World} {k E sz m m' : Nat} {v v' : Value} {xs xs' : List Value} {seg : Seg} (h : Rep w0 S w) (hk : S[k]? = some seg) (hv : SlV E sz v m xs seg)
    (ho : w'.ownsRow w0.heap.size E sz v' m' xs') (hg : w.grownBy w' v.ownBlock) (hnew : ∀ r, v'.ownBlock = some r → v.ownBlock = some r ∨ w.heap.size ≤ r)
    (hd : w.drawn ≤ w'.drawn := by first | assumption | exact Nat.le_refl _ | exact Nat.le_succ _ | exact run_drawn _ (by assumption)) :
    ∃ seg', SlV E sz v' m' xs' seg' ∧ Rep w0 (S.set k seg') w' := by
  have hB : Below w0.heap.size w w' := (Below.refl _ w).grown hg h.base (fun j hj => by
    obtain ⟨_, ⟨rfl, _, _⟩ | ⟨r, cap, rfl, rfl, _⟩⟩ := hv
    · simp [Value.ownBlock] at hj
    · simp [Value.ownBlock] at hj
      subst hj
      exact (h.own (r, .cells xs E (cap * sz)) (List.mem_flatten.2 ⟨_, List.mem_of_getElem? hk, by simp⟩)).1)
  have hsame : ∀ i, i < w.heap.size → i ∉ seg.map Prod.fst → w'.heap[i]? = w.heap[i]? := by
    intro i hi hne
    refine hg.block i hi ?_
    obtain ⟨_, ⟨rfl, _, _⟩ | ⟨r, cap, rfl, rfl, _⟩⟩ := hv
    · simp [Value.ownBlock]
    · simp [Value.ownBlock] at *
      omega
  obtain ⟨hl, ⟨rfl, rfl⟩ | ⟨g, cap, cur, rfl, hge, hcur, h1, h2, h3, h4⟩⟩ := ho
  · refine ⟨[], ⟨hl, .inl ⟨rfl, rfl, rfl⟩⟩, h.replace hk hB hsame (by simp) (by simp)⟩
  · refine ⟨[(g, .cells xs' E (cap * sz))], ⟨hl, .inr ⟨g, cap, rfl, rfl, h1, h2⟩⟩, h.replace hk hB hsame (by simp) ?_⟩
    intro p hp
    simp only [List.mem_singleton] at hp
    subst hp
    refine ⟨hge, ⟨cur, hcur, h3, by rw [hl]; exact h4⟩, ?_⟩
    rcases hnew g (by simp [Value.ownBlock]) with hh | hh
    · left
      obtain ⟨_, ⟨rfl, _, _⟩ | ⟨r, cap', rfl, rfl, _⟩⟩ := hv
      · simp [Value.ownBlock] at hh
      · simpa [Value.ownBlock] using hh.symm
    · exact .inr hh


theorem oneCells {cs : List Value} (h : cs.all (·.oneCell') = true) : ∀ u ∈ cs, u.oneCell' = true := fun u hu => List.all_eq_true.1 h u hu
theorem app_new {w : World} (t ty e : TypeId) (i : TypeInfo) (z : Value) (ht : P.underlying t = some (.slice e)) (hi : P.info? e = some i) (hz : i.zero = some z) (hzs : z.cells.size = i.size) (hsz : 0 < i.size)
    {base : Nat} (v : Value) (m : Nat) (xs : List Value) (hown : w.ownsRow base e i.size v m xs) (a : Addr) (q c : Nat) (news : List Value) (hl : news.length = q * i.size) (hnews : ∀ j u, news[j]? = some u → w.cell? (a.add j) = some u) (h1 : ∀ u ∈ news, u.oneCell' = true)
    (h63 : m + q ≤ maxLen) (hbytes : (m + q) * i.bytes ≤ 140737488355328) (hbase : base ≤ w.heap.size) :
    ∃ v' w', (Builtin.append_ #[t, t] ty #[v, .slice (some a) q c]).run P w = .ok v' w' ∧ w'.ownsRow base e i.size v' (m + q) (xs ++ news) ∧ w.grownBy w' v.ownBlock ∧
      (∀ r, v'.ownBlock = some r → v.ownBlock = some r ∨ w.heap.size ≤ r) := by
  obtain ⟨v', w', hrun, ho, hg, hnil⟩ := run_append_own (P := P) w base t ty e i z i.size i.bytes ht hi hz rfl rfl hzs hsz v m xs hown a q c news hl hnews h1 h63 hbytes hbase
  refine ⟨v', w', hrun, ho, hg, fun r hr => ?_⟩
  have hsmall : m + q ≤ 9223372036854775807 := by simp only [maxLen] at h63; omega
  obtain ⟨hxl, ⟨rfl, rfl⟩ | ⟨g, cap, cur, rfl, hbg, hgc, hnc, hcm, hcs, htake⟩⟩ := hown
  · by_cases hm : q = 0
    · rw [hnil.2 ⟨rfl, hm⟩] at hr
      simp [Value.ownBlock] at hr
    · have h2 := run_append_nil (P := P) w t ty e i z ht hi hz a q c news hl hnews (by omega) (by omega) (by have hb := hbytes; simp only [Nat.zero_add] at hb; omega)
      rw [h2] at hrun
      injection hrun with e1 e2
      subst e1
      simp [Value.ownBlock] at hr
      exact .inr (by omega)
  · by_cases hroom : m + q ≤ cap
    · have hfit : m * i.size + news.length ≤ cur.size := by rw [hl, hcs, ← Nat.add_mul]; exact Nat.mul_le_mul_right _ hroom
      have h2 := run_append_room (P := P) w t ty e i ht hi g m cap cur hgc a q c news hl hnews h1 hroom hfit
      rw [h2] at hrun
      injection hrun with e1 e2
      subst e1
      exact .inl hr
    · have holds : ∀ j u, xs[j]? = some u → w.cell? ((⟨g, 0, none⟩ : Addr).add j) = some u := (show w.ownsRow base e i.size _ m xs from ⟨hxl, .inr ⟨g, cap, cur, rfl, hbg, hgc, hnc, hcm, hcs, htake⟩⟩).cells (g := g) rfl
      have h2 := run_append_grow (P := P) w t ty e i z ht hi hz ⟨g, 0, none⟩ m cap xs hxl holds a q c news hl hnews (by omega) (by omega) (growslice_fits (by omega) hbytes)
      rw [h2] at hrun
      injection hrun with e1 e2
      subst e1
      simp [Value.ownBlock] at hr
      exact .inr (by omega)

/-- append to a slice that is nil or the walk's own, of cells that can be read -/
theorem OW.app {t E sz bytes m q c k : Nat} {z v : Value} {s x : PV} {a : Addr} {xs news : List Value} {seg : Seg} (hs' : s.val T = some v) (hk : S[k]? = some seg) (hv : SlV E sz v m xs seg)
    (hx : x.val T = some (.slice (some a) q c)) (hl : news.length = q * sz) (hc : ∀ j u, news[j]? = some u → Cell w0 S (a.add j) u) (h1 : news.all (·.oneCell') = true)
    (hb : (m + q) * bytes ≤ 140737488355328) (h63 : m + q ≤ maxLen) :
    OW P w0 n (.app t E sz bytes z s x) T S (fun v' S' => ∃ seg', S' = S.set k seg' ∧ SlV E sz v' (m + q) (xs ++ news) seg') := by
  intro op ac w Q hco hs hr
  obtain ⟨y, y', cl, i, ho, hca, hat, har, rfl, rfl, hu, hi, hz, rfl, rfl, hzs, hsz⟩ := cOp_spec P hco
  obtain ⟨v', w', hrun, hown, hg, hnew⟩ := app_new (P := P) t op.type E i z hu hi hz hzs hsz v m xs (hr.owns hk hv) a q c news hl (fun j u hj => hr.cell (hc j u hj)) (oneCells h1) h63 hb hr.base
  obtain ⟨seg', hsl, hrep⟩ := hr.ofOwns hk hv hown hg hnew
  unfold Oper.wp
  have hrun' : (execOp ac.eval op).run P w = .ok (.value v') w' := by
    simp only [execOp, ho, resolve, hca, invoke, builtin, hat, har]
    simp [hs.eval hs', hs.eval hx, hrun]
  rw [hrun']
  exact ⟨v', _, rfl, hrep, seg', rfl, hsl⟩
theorem OW.app_none {t E sz bytes m k : Nat} {z v : Value} {s x : PV} {xs : List Value} {seg : Seg} (hs' : s.val T = some v) (hk : S[k]? = some seg) (hv : SlV E sz v m xs seg)
    (hx : x.val T = some (.slice none 0 0)) : Yields P w0 n (.app t E sz bytes z s x) T S v := by
  intro op ac w hco hs hr
  obtain ⟨y, y', cl, i, ho, hca, hat, har, rfl, rfl, hu, hi, hz, rfl, rfl, hzs, hsz⟩ := cOp_spec P hco
  have hrun := run_append_owned_none (P := P) w w0.heap.size t op.type E i i.size hu hi v m xs (hr.owns hk hv)
  simp only [execOp, ho, resolve, hca, invoke, builtin, hat, har]
  simp [hs.eval hs', hs.eval hx, hrun]

/-! ### make -/
theorem OW.mkS_full {t E sz bytes m : Nat} {z : Value} {l c : PV} {k k' : IntKind} (hl : l.val T = some (.int k (m : Int))) (hc : c.val T = some (.int k' (m : Int))) (hb : bytes * m ≤ 281474976710656) (h63 : m ≤ maxLen) :
    OW P w0 n (.mkS t E sz bytes z l c) T S (fun v S' => ∃ r, v = .slice (some ⟨r, 0, none⟩) m m ∧ S' = [(r, .cells (madeCells z.cells (m * sz)).toList E (m * sz))] :: S) := by
  intro op ac w Q hco hs hr
  obtain ⟨y, y', i, ho, rfl, rfl, hu, hi, hz, rfl, rfl, hzs, hsz⟩ := cOp_spec P hco
  obtain ⟨w', hrun, hown, hg⟩ := run_make_full (P := P) w w0.heap.size t E i z i.size hu hi hz rfl k k' m hb h63 hr.base
  obtain ⟨hxl, ⟨he, _⟩ | ⟨g, cap, cur, he, hge, hcur, h1, h2, h3, h4⟩⟩ := hown
  · simp at he
  · simp only [Value.slice.injEq, Option.some.injEq, Addr.mk.injEq, and_true, true_and] at he
    obtain ⟨rfl, rfl⟩ := he
    have hk' : k = k ∧ True := ⟨rfl, trivial⟩
    unfold Oper.wp
    have hrun' : (execOp ac.eval op).run P w = .ok (.value (.slice (some ⟨w.heap.size, 0, none⟩) m m)) w' := by
      simp only [execOp, ho, hs.eval hl, hs.eval hc]
      simp [hrun]
    rw [hrun']
    refine ⟨_, _, rfl, ?_, w.heap.size, rfl, rfl⟩
    refine hr.push ((Below.refl _ w).grown hg hr.base (by simp)) (fun i hi => hg.block i hi (by simp)) (by simp) ?_
    intro p hp
    simp only [List.mem_singleton] at hp
    subst hp
    exact ⟨⟨cur, hcur, h3, by rw [hxl]; exact h4⟩, Nat.le_refl _⟩
theorem OW.mkS_cap {t E sz bytes m : Nat} {z : Value} {l c : PV} {k k' : IntKind} (hl : l.val T = some (.int k 0)) (hc : c.val T = some (.int k' (m : Int))) (hb : bytes * m ≤ 281474976710656) (h63 : m ≤ maxLen) :
    OW P w0 n (.mkS t E sz bytes z l c) T S (fun v S' => ∃ r, v = .slice (some ⟨r, 0, none⟩) 0 m ∧ S' = [(r, .cells [] E (m * sz))] :: S) := by
  intro op ac w Q hco hs hr
  obtain ⟨y, y', i, ho, rfl, rfl, hu, hi, hz, rfl, rfl, hzs, hsz⟩ := cOp_spec P hco
  obtain ⟨w', hrun, hown, hg⟩ := run_make_own (P := P) w w0.heap.size t E i z i.size hu hi hz rfl k k' m hb h63 hr.base
  obtain ⟨hxl, ⟨he, _⟩ | ⟨g, cap, cur, he, hge, hcur, h1, h2, h3, h4⟩⟩ := hown
  · simp at he
  · simp only [Value.slice.injEq, Option.some.injEq, Addr.mk.injEq, and_true, true_and] at he
    obtain ⟨rfl, rfl⟩ := he
    unfold Oper.wp
    have hrun' : (execOp ac.eval op).run P w = .ok (.value (.slice (some ⟨w.heap.size, 0, none⟩) 0 m)) w' := by
      simp only [execOp, ho, hs.eval hl, hs.eval hc]
      simp [hrun]
    rw [hrun']
    refine ⟨_, _, rfl, ?_, w.heap.size, rfl, rfl⟩
    refine hr.push ((Below.refl _ w).grown hg hr.base (by simp)) (fun i hi => hg.block i hi (by simp)) (by simp) ?_
    intro p hp
    simp only [List.mem_singleton] at hp
    subst hp
    exact ⟨⟨cur, hcur, h3, by simp⟩, Nat.le_refl _⟩

/-! ### calls -/
def valsP (T : TT) : List PV → Option (List Value)
  | [] => some []
  | x :: r => match x.val T, valsP T r with | some v, some vs => some (v :: vs) | _, _ => none
theorem valsP_spec {a : Act} (hs : Sat n T a) {xs : List Operand} {vs : List Value} (h : valsP T (xs.map cV) = some vs) : xs.map a.eval = vs := by
  induction xs generalizing vs with
  | nil => simpa [valsP] using h
  | cons x xs ih =>
    simp only [List.map_cons, valsP] at h
    split at h
    · rename_i v vs' h1 h2
      obtain rfl := Option.some.inj h
      simp [hs.eval h1, ih h2]
    · simp at h
theorem OW.call {f : FuncId} {args : List PV} {vs : List Value} {post : Value → SS → Prop} (hv : valsP T args = some vs) (h : FC P w0 f vs S post) : OW P w0 n (.call f args) T S post := by
  intro op ac w Q hco hs hr
  obtain ⟨cl, ho, hca, rfl, hok⟩ := cOp_spec P hco
  have hargs : cl.args.map ac.eval = vs.toArray := by
    have := valsP_spec hs hv
    rw [← this, ← Array.toArray_toList (xs := cl.args.map ac.eval), Array.toList_map]
  have hrun : (execOp ac.eval op).run P w = .ok (.enter f vs.toArray) w := by
    unfold fnOk at hok
    split at hok
    · rename_i fn hfn
      simp only [Bool.and_eq_true, bne_iff_ne, ne_eq] at hok
      have hb : ¬ fn.body = none := by intro hh; simp [hh] at hok
      simp only [execOp, ho, resolve, hca, Act.eval, Deferred.ofValue]
      simp [invoke, callFunc, program, Sem.run, hfn, hok.1, hb, hargs]
    · simp at hok
  unfold Oper.wp
  rw [hrun]
  refine (h w hr).mono ?_
  rintro e w' ⟨v, S', rfl, hr', hp⟩
  exact ⟨v, S', rfl, hr', hp⟩

end
end Go.SL
