/- A round of a range over a function, and a call of its yield: the small code's rules in a round's frame. -/
import Derived.Test.YtbidjnjbiibdeaaDoorSl19
import Derived.RangeFuncLeaves
import Derived.RangeFuncRecord
import Derived.RangeFuncKeeps
import Derived.OrdersIn
set_option linter.unusedVariables false
set_option linter.unusedSimpArgs false
namespace Go.SL
open Go.RowKit

/-- a fence that lets all in: of an activation, or of the round of a loop -/
def fen : Option Nat → Fence
  | none => Fence.wide
  | some l => Fence.wide.inRound l
theorem fen_fn (r : Option Nat) (f : FuncId) : (fen r).fn f := by cases r <;> exact trivial
theorem fen_depth (r : Option Nat) : (fen r).depth.isSome = true → False := by cases r <;> simp [fen, Fence.wide]
theorem fen_room (r : Option Nat) (k : Nat) : (fen r).room k := by intro d h; cases r <;> simp [fen, Fence.wide] at h
theorem fen_round (r : Option Nat) : (fen r).round = r := by cases r <;> rfl
theorem fen_in (l : Nat) : (fen none).inRound l = fen (some l) := rfl
theorem fen_calls {r : Option Nat} {m : Nat} {P : Program} {f : FuncId} {args : Array Value} {w : World} {R : Ending → World → Prop} : CallsIn (fen r) m P f args w R ↔ Calls P f args w R := by
  have h0 := callsIn_wide (n := m) (P := P) (f := f) (args := args) (w := w) (R := R)
  cases r with
  | none => exact h0
  | some l => exact ⟨fun h => h0.1 h, fun h => h0.2 h⟩
theorem fen_steps {r : Option Nat} {P : Program} {m m' : Machine} : StepsIn (Machine.fenced P (fen r)) P m m' ↔ Steps P m m' := by
  cases r with
  | none => exact stepsIn_wide
  | some l => exact stepsIn_wide
theorem fen_rows {r : Option Nat} {m : Nat} {P : Program} {row : String} {args : Array Value} {w : World} {R : Value → World → Prop} (h : Rows P row args w R) : RowsIn (fen r) m P row args w R :=
  fun c cs _ => let ⟨v, w', hr, hs⟩ := h c cs; ⟨v, w', hr, fen_steps.2 hs⟩

theorem opIn_of_wp {r : Option Nat} {m : Nat} {P : Program} {o : Oper} {a : Act} {w : World} {K : Act → World → Prop} {Q : Exit → Act → World → Prop} (hd : ∀ c, o.op ≠ .defer c) (h : o.wp P a w K Q) : o.wpIn (fen r) m P a w K Q := by
  refine ⟨fun f _ => fen_fn r f, ?_⟩
  rw [Oper.semAt_eq _ _ _ hd]
  unfold Oper.wp at h
  generalize (execOp a.eval o).run P w = x at *
  cases x with
  | ok y w' =>
    cases y <;> simp only [Oper.upon, Oper.uponIn] at h ⊢ <;>
      first
        | exact h
        | exact ⟨fun e => (fen_depth r e).elim, fen_calls.2 h⟩
        | exact ⟨fun e => (fen_depth r e).elim, fen_rows h⟩
        | exact h.elim
  | halt y w' => cases y <;> simp only [Oper.upon, Oper.uponIn] at h ⊢ <;> exact h

section
variable {P : Program} {w0 : World} {n : Nat} {T : TT} {S : SS} {r : Option Nat} {m : Nat}
theorem cOp_defer {o : Oper} {po : PO} (h : cOp P o = some po) (hpo : po ≠ .more .other) : ∀ c, o.op ≠ .defer c := by
  intro c hc
  apply hpo
  unfold cOp at h
  have h0 : cOp0 P o = none := by unfold cOp0; rw [hc]
  rw [h0] at h
  simpa using h.symm
def OWi (P : Program) (w0 : World) (n : Nat) (r : Option Nat) (m : Nat) (po : PO) (T : TT) (S : SS) (K : Value → SS → Prop) : Prop :=
  ∀ o a w (Q : Exit → Act → World → Prop), cOp P o = some po → Sat n T a → Rep w0 S w → o.wpIn (fen r) m P a w (fun a' w' => ∃ v S', a' = a.put o.dst v ∧ Rep w0 S' w' ∧ K v S') Q
def OLi (P : Program) (w0 : World) (n : Nat) (r : Option Nat) (m : Nat) (l : List PI) (T : TT) (S : SS) (K : TT → SS → Prop) : Prop :=
  ∀ (ops : Array Oper) (is : List Nat) a w (Q : Exit → Act → World → Prop), cIs P n ops is = some l → Sat n T a → Rep w0 S w →
    (∀ a' w' T' S', Sat n T' a' → Rep w0 S' w' → K T' S' → Q .normal a' w') → wpOpsIn (fen r) m P ops Q is a w
def PWi (P : Program) (w0 : World) (n : Nat) (r : Option Nat) (m : Nat) (pc : PC) (T : TT) (S : SS) (Q : Exit → TT → SS → Prop) : Prop :=
  ∀ c, cC P n c = some pc → ∀ a w, Sat n T a → Rep w0 S w → c.wpIn (fen r) m P (fun e a' w' => ∃ T' S', Sat n T' a' ∧ Rep w0 S' w' ∧ Q e T' S') a w
theorem OWi.of {po : PO} {K : Value → SS → Prop} (hpo : po ≠ .more .other) (h : OW P w0 n po T S K) : OWi P w0 n r m po T S K :=
  fun o a w Q hc hs hr => opIn_of_wp (cOp_defer hc hpo) (h o a w Q hc hs hr)
theorem OLi.nil {K : TT → SS → Prop} (h : K T S) : OLi P w0 n r m [] T S K := by
  intro ops is a w Q hc hs hr hk
  cases is with
  | nil => exact hk a w T S hs hr h
  | cons i is =>
    simp only [cIs] at hc
    split at hc
    · simp at hc
    · simp at hc
theorem OLi.cons {po : PO} {d : Option Nat} {g : Option (Nat × Bool)} {rr : List PI} {K : TT → SS → Prop} {K' : Value → SS → Prop} (hgo : gOk T g) (h : OWi P w0 n r m po T S K') (hk : ∀ v S', K' v S' → OLi P w0 n r m rr (put d v T) S' K) : OLi P w0 n r m (⟨d, g, po⟩ :: rr) T S K := by
  intro ops is a w Q hc hs hr hq
  obtain ⟨i, is, rfl, hi, hrest⟩ := cIs_cons hc
  obtain ⟨o, ho, hpo, hd, hdst, hg⟩ := cI_spec hi
  have hw : Region.wanted o (yielded ops a.tmps) = true := by
    rcases hg with ⟨hg, _⟩ | ⟨j, b, s, hg, hj, he⟩
    · simp [Region.wanted, hg]
    · simp only at he
      subst he
      simp [Region.wanted, hg, hs.yielded hj hgo]
  rw [wpOpsIn_cons]
  unfold wpOpIn
  simp only [ho]
  rw [if_pos hw]
  refine Oper.wpIn_mono ?_ (h o a w Q hpo hs hr)
  rintro a' w' ⟨v, S', rfl, hr', hk'⟩
  simp only at hdst
  subst hdst
  exact hk v S' hk' ops is _ w' Q hrest (hs.put hd _) hr' hq
theorem OLi.off {po : PO} {d : Option Nat} {s : Nat} {b : Bool} {u : Value} {rr : List PI} {K : TT → SS → Prop} (hl : look T s = some u) (hc : (boolOf u == some b) = false) (h : OLi P w0 n r m rr (put d undef T) S K) : OLi P w0 n r m (⟨d, some (s, b), po⟩ :: rr) T S K := by
  intro ops is a w Q hcs hs hr hq
  obtain ⟨i, is, rfl, hi, hrest⟩ := cIs_cons hcs
  obtain ⟨o, ho, hpo, hd, hdst, hg⟩ := cI_spec hi
  have hw : Region.wanted o (yielded ops a.tmps) = false := by
    rcases hg with ⟨_, hg⟩ | ⟨j, b', s', hg, hj, he⟩
    · simp at hg
    · simp only [Option.some.injEq, Prod.mk.injEq] at he
      obtain ⟨rfl, rfl⟩ := he
      simp only [Region.wanted, hg, hs.yieldedV hj hl]; exact hc
  rw [wpOpsIn_cons]
  unfold wpOpIn
  simp only [ho]
  rw [hw]
  simp only [Bool.false_eq_true, if_false]
  simp only at hdst
  subst hdst
  exact ⟨fun f _ => fen_fn r f, h ops is _ w Q hrest (hs.put hd _) hr hq⟩
theorem OLi.det {po : PO} {d : Option Nat} {g : Option (Nat × Bool)} {rr : List PI} {K : TT → SS → Prop} {v : Value} (hpo : po ≠ .more .other) (hgo : gOk T g) (h : Yields P w0 n po T S v) (hk : OLi P w0 n r m rr (put d v T) S K) : OLi P w0 n r m (⟨d, g, po⟩ :: rr) T S K :=
  OLi.cons hgo (OWi.of hpo (OW.of_yields h)) (by rintro _ _ ⟨rfl, rfl⟩; exact hk)
theorem PWi.mono {pc : PC} {Q Q' : Exit → TT → SS → Prop} (h : PWi P w0 n r m pc T S Q) (hq : ∀ e T S, Q e T S → Q' e T S) : PWi P w0 n r m pc T S Q' :=
  fun c hc a w hs hr => wpIn_mono (h c hc a w hs hr) fun e a' w' ⟨T', S', hs', hr', q⟩ => ⟨T', S', hs', hr', hq _ _ _ q⟩
theorem PWi.keep {pc : PC} {T' : TT} {Q : Exit → TT → SS → Prop} (hk : Within T' T) (h : PWi P w0 n r m pc T' S Q) : PWi P w0 n r m pc T S Q :=
  fun c hc a w hs hr => h c hc a w (hs.keep hk.spec) hr
theorem PWi.ofPW {pc : PC} {Q : Exit → TT → SS → Prop} (h : PW P w0 n pc T S Q) : PWi P w0 n none m pc T S Q :=
  fun c hc a w hs hr => wpIn_wide.2 (h c hc a w hs hr)
theorem PWi.toPW {pc : PC} {Q : Exit → TT → SS → Prop} (h : PWi P w0 n none m pc T S Q) : PW P w0 n pc T S Q :=
  fun c hc a w hs hr => wpIn_wide.1 (h c hc a w hs hr)
theorem PWi.skip {Q : Exit → TT → SS → Prop} (h : Q .normal T S) : PWi P w0 n r m .skip T S Q := by
  intro c hc a w hs hr
  cases c
  case skip => exact wpIn_skip ⟨T, S, hs, hr, h⟩
  case region id ops dr => cases dr <;> simp [cC] at hc
  all_goals (first | (simp [cC] at hc; done) | (simp only [cC] at hc; split at hc <;> simp at hc; done))
theorem PWi.ret {Q : Exit → TT → SS → Prop} (h : Q .ret T S) : PWi P w0 n r m .ret T S Q := by
  intro c hc a w hs hr
  cases c
  case ret => exact wpIn_ret ⟨T, S, hs, hr, h⟩
  case region id ops dr => cases dr <;> simp [cC] at hc
  all_goals (first | (simp [cC] at hc; done) | (simp only [cC] at hc; split at hc <;> simp at hc; done))
theorem PWi.seq {x y : PC} {Q : Exit → TT → SS → Prop} (h : ∀ K : TT → SS → Prop, (∀ T' S', PWi P w0 n r m y T' S' Q → K T' S') → PWi P w0 n r m x T S (thenK K Q)) : PWi P w0 n r m (.seq x y) T S Q := by
  intro c hc a w hs hr
  cases c
  case seq c1 c2 =>
    simp only [cC] at hc
    split at hc
    · rename_i x' y' h1 h2
      simp only [Option.some.injEq, PC.seq.injEq] at hc
      obtain ⟨rfl, rfl⟩ := hc
      refine wpIn_seq (wpIn_mono (h (fun T' S' => PWi P w0 n r m y' T' S' Q) (fun _ _ h => h) c1 h1 a w hs hr) ?_)
      rintro e a' w' ⟨T', S', hs', hr', q⟩
      cases e with
      | normal => exact q c2 h2 a' w' hs' hr'
      | _ => exact ⟨T', S', hs', hr', q⟩
    · simp at hc
  case region id ops dr => cases dr <;> simp [cC] at hc
  all_goals (first | (simp [cC] at hc; done) | (simp only [cC] at hc; split at hc <;> simp at hc; done))
theorem PWi.cond {v : PV} {x y : PC} {Q : Exit → TT → SS → Prop} {b : Bool} (hv : v.val T = some (.bool b)) (ht : b = true → PWi P w0 n r m x T S Q) (hf : b = false → PWi P w0 n r m y T S Q) : PWi P w0 n r m (.cond v x y) T S Q := by
  intro c hc a w hs hr
  cases c
  case cond c c1 c2 =>
    simp only [cC] at hc
    split at hc
    · rename_i x' y' h1 h2
      simp only [Option.some.injEq, PC.cond.injEq] at hc
      obtain ⟨rfl, rfl, rfl⟩ := hc
      exact wpIn_cond_split (hs.eval hv) (fun e => ht e c1 h1 a w hs hr) (fun e => hf e c2 h2 a w hs hr)
    · simp at hc
  case region id ops dr => cases dr <;> simp [cC] at hc
  all_goals (first | (simp [cC] at hc; done) | (simp only [cC] at hc; split at hc <;> simp at hc; done))
theorem PWi.block {id : Nat} {x : PC} {Q : Exit → TT → SS → Prop} (h : PWi P w0 n r m x T S (inBlk id Q)) : PWi P w0 n r m (.block id x) T S Q := by
  intro c hc a w hs hr
  cases c
  case block id' c1 =>
    simp only [cC, Option.map_eq_some_iff] at hc
    obtain ⟨x', h1, he⟩ := hc
    simp only [PC.block.injEq] at he
    obtain ⟨rfl, rfl⟩ := he
    refine wpIn_block (wpIn_mono (h c1 h1 a w hs hr) ?_)
    rintro e a' w' ⟨T', S', hs', hr', q⟩
    cases e with
    | exit j =>
      simp only [Exit.inBlock, inBlk] at q ⊢
      split <;> rename_i hj
      · rw [if_pos hj] at q; exact ⟨T', S', hs', hr', q⟩
      · rw [if_neg hj] at q; exact ⟨T', S', hs', hr', q⟩
    | _ => exact ⟨T', S', hs', hr', q⟩
  case region id ops dr => cases dr <;> simp [cC] at hc
  all_goals (first | (simp [cC] at hc; done) | (simp only [cC] at hc; split at hc <;> simp at hc; done))
theorem PWi.ops {l : List PI} {Q : Exit → TT → SS → Prop} (h : OLi P w0 n r m l T S (Q .normal)) : PWi P w0 n r m (.ops l) T S Q := by
  intro c hc a w hs hr
  cases c
  case region id ops dr =>
    cases dr with
    | false =>
      simp only [cC, Option.map_eq_some_iff] at hc
      obtain ⟨l', h1, he⟩ := hc
      simp only [PC.ops.injEq] at he
      subst he
      exact wpIn_region (h ops _ a w _ h1 hs hr fun a' w' T' S' hs' hr' k => ⟨T', S', hs', hr', k⟩)
    | true =>
      simp only [cC] at hc
      split at hc
      · simp at hc
      · simp at hc
  all_goals (first | (simp [cC] at hc; done) | (simp only [cC] at hc; split at hc <;> simp at hc; done))
theorem PWi.seqOps {l : List PI} {y : PC} {Q : Exit → TT → SS → Prop} (h : OLi P w0 n r m l T S (fun T' S' => PWi P w0 n r m y T' S' Q)) : PWi P w0 n r m (.seq (.ops l) y) T S Q :=
  PWi.seq fun K hK => PWi.ops (by
    intro ops is a w Q' hc hs hr hk
    exact h ops is a w Q' hc hs hr fun a' w' T' S' h1 h2 h3 => hk a' w' T' S' h1 h2 (hK T' S' h3))
/-! ### the record of a loop -/
theorem Rep.putObj {l : Nat} {o o' : Obj} {w : World} (h : Rep w0 ([(l, .obj o)] :: S) w) (hc : o.isCells = false) (hw : o.isWalk = false) : Rep w0 ([(l, .obj o')] :: S) (w.putObj l o') := by
  obtain ⟨hge, hown⟩ := h.own (l, .obj o) (by simp)
  have hl : w.heap[l]? = some o := hown
  refine ⟨h.below.trans (belowK_b (w := w0) (Nat.le_refl _) w l o o' hge hl hc hw), by simpa using h.nodup, fun p hp => ?_, h.drawn⟩
  simp only [List.flatten_cons, List.singleton_append, List.mem_cons] at hp
  rcases hp with rfl | hp
  · exact ⟨hge, World.putObj_heap_same (h.lt (p := (l, .obj o)) (by simp))⟩
  · obtain ⟨h1, h2⟩ := h.own p (by simp [hp])
    refine ⟨h1, h2.congr (World.putObj_heap_other ?_)⟩
    intro e
    have := h.nodup
    simp only [List.flatten_cons, List.singleton_append, List.map_cons, List.nodup_cons] at this
    exact this.1 (e ▸ List.mem_map.2 ⟨p, hp, rfl⟩)
theorem OWi.yield {l : Nat} {L : Loop} {f : PV} {args : List PV} {vs : List Value} {K : Value → SS → Prop} (hf : f.val T = some (.func (.yield l) #[] #[])) (hv : valsP T args = some vs) (hm : (l, AO.obj (.loop L)) ∈ S.flatten) (hn : vs.length = L.params.size)
    (hround : ∀ w, Rep w0 S w → RoundIn (fen r) (m - 1) P l L.fn ((L.params.zip vs.toArray).foldl (fun tmps (t, a) => tmps.setIfInBounds t a) L.tmps) L.assign L.body w (fun e w' => ∃ v S', e = .returned v ∧ Rep w0 S' w' ∧ K v S')) : OWi P w0 n r m (.callv f args) T S K := by
  intro op ac w Q hco hs hr
  have hd := cOp_defer (P := P) hco (by simp)
  obtain ⟨cl, y, ho, hca, rfl, rfl⟩ := cOp_spec P hco
  have hargs : cl.args.map ac.eval = vs.toArray := by
    have := valsP_spec hs hv
    rw [← this, ← Array.toArray_toList (xs := cl.args.map ac.eval), Array.toList_map]
  have hL : w.heap[l]? = some (.loop L) := (hr.own _ hm).2
  have hrun : (execOp ac.eval op).run P w = .ok (.round l L.fn ((L.params.zip vs.toArray).foldl (fun tmps (t, a) => tmps.setIfInBounds t a) L.tmps) L.assign L.body) w := by
    rw [← run_yield (P := P) (args := vs.toArray) hL (by simpa using hn)]
    simp only [execOp, ho, resolve, hca, hs.eval hf, Deferred.ofValue]
    simp [invoke, Sem.run, hargs]
  refine ⟨fun f _ => fen_fn r f, ?_⟩
  rw [Oper.semAt_eq _ _ _ hd, hrun]
  refine ⟨fun e => (fen_depth r e).elim, (hround w hr).mono ?_⟩
  rintro e w' ⟨v, S', rfl, hr', hp⟩
  exact ⟨v, S', rfl, hr', hp⟩
/-- what is asked of a round's body, by the way it is left: off its end the record is ready again, by 'ret' it is done and that jump pending -/
def roundQ (l : Nat) (L : Loop) (K : Value → SS → Prop) : Exit → TT → SS → Prop
  | .normal, _, S => ∃ S1, S = [(l, .obj (.loop { L with state := .busy }))] :: S1 ∧ K (.bool true) ([(l, .obj (.loop { L with state := .ready, pending := none }))] :: S1)
  | .ret, _, S => ∃ S1, S = [(l, .obj (.loop { L with state := .busy }))] :: S1 ∧ K (.bool false) ([(l, .obj (.loop { L with state := .done, pending := some .ret }))] :: S1)
  | _, _, _ => False
theorem round_of {l : Nat} {L : Loop} {tmps : Array Value} {pa pb : PC} {w : World} {S1 : SS} {K : Value → SS → Prop} (hr0 : r = none) (hA : cC P n L.assign = some pa) (hB : cC P n L.body = some pb) (hrd : L.state = .ready)
    (hT : Sat n T { tmps := tmps, defers := [] }) (hr : Rep w0 ([(l, .obj (.loop L))] :: S1) w)
    (h : PWi P w0 n (some l) m pa T ([(l, .obj (.loop L))] :: S1) (thenK (fun T' S' => ∃ S2, S' = [(l, .obj (.loop L))] :: S2 ∧ PWi P w0 n (some l) m pb T' ([(l, .obj (.loop { L with state := .busy }))] :: S2) (roundQ l L K)) (fun _ _ _ => False))) :
    RoundIn (fen r) m P l L.fn tmps L.assign L.body w (fun e w' => ∃ v S', e = .returned v ∧ Rep w0 S' w' ∧ K v S') := by
  subst hr0
  refine roundIn_of_wpIn (fen_fn _ _) ?_
  rw [fen_in]
  refine wpIn_mono (h _ hA _ w hT hr) ?_
  rintro e a1 w1 ⟨T1, S', hs1, hr1, q⟩
  cases e with
  | normal =>
    obtain ⟨S2, rfl, q⟩ := q
    have hL : w1.heap[l]? = some (.loop L) := (hr1.own (l, .obj (.loop L)) (by simp)).2
    refine ⟨_, run_beginRound hL hrd, ?_⟩
    refine wpIn_mono (q _ hB a1 _ hs1 (Rep.putObj hr1 rfl rfl)) ?_
    rintro e a2 w2 ⟨T2, S3, hs2, hr2, q2⟩
    cases e with
    | normal =>
      obtain ⟨S4, rfl, q3⟩ := q2
      have hL2 : w2.heap[l]? = some (.loop { L with state := .busy }) := (hr2.own (l, .obj (.loop { L with state := .busy })) (by simp)).2
      exact ⟨_, _, run_endRound none hL2, _, _, rfl, Rep.putObj hr2 rfl rfl, q3⟩
    | ret =>
      obtain ⟨S4, rfl, q3⟩ := q2
      have hL2 : w2.heap[l]? = some (.loop { L with state := .busy }) := (hr2.own (l, .obj (.loop { L with state := .busy })) (by simp)).2
      exact ⟨_, _, run_endRound (some .ret) hL2, _, _, rfl, Rep.putObj hr2 rfl rfl, q3⟩
    | exit id => exact q2.elim
    | goto t => exact q2.elim
    | panic c => exact q2.elim
    | outgrown => exact q2.elim
  | ret => exact q.elim
  | exit id => exact q.elim
  | goto t => exact q.elim
  | panic c => exact q.elim
  | outgrown => exact q.elim
end
end Go.SL
