/- A function whose body ranges over a function once: its contract out of the iterator's. -/
import Derived.Test.YtbidjnjbiibdeaaDoorSl20
set_option linter.unusedVariables false
set_option linter.unusedSimpArgs false
namespace Go.SL
open Go.RowKit
section
variable {P : Program} {w0 : World} {n : Nat} {T : TT} {S : SS}
theorem eval_defers (a : Act) (ds : List Deferred) : Act.eval { a with defers := ds } = a.eval := by funext x; cases x <;> rfl
theorem put_defers (a : Act) (ds : List Deferred) (d : Option Nat) (v : Value) : Act.put { a with defers := ds } d v = { a.put d v with defers := ds } := by cases d <;> rfl
theorem wp_defers {o : Oper} {a : Act} {w : World} {K K' : Act → World → Prop} {Q Q' : Exit → Act → World → Prop} (ds : List Deferred) (hnd : ∀ d w', (execOp a.eval o).run P w ≠ .ok (.defer d) w') (hk : ∀ a w, K a w → K' { a with defers := ds } w) (hq : ∀ e a w, Q e a w → Q' e { a with defers := ds } w) (h : o.wp P a w K Q) : o.wp P { a with defers := ds } w K' Q' := by
  unfold Oper.wp at *
  rw [eval_defers]
  have hput := fun d v => put_defers a ds d v
  have hlo : LetsOut Q → LetsOut Q' := fun ⟨a0, w0, h⟩ => ⟨_, w0, hq _ _ _ h⟩
  generalize hx : (execOp a.eval o).run P w = x at *
  cases x with
  | ok y w' =>
    cases y <;> simp only [Oper.upon] at h ⊢ <;>
      first
        | (rw [hput]; exact hk _ _ h)
        | exact h.elim
        | (exact Calls.mono h (fun e w'' he => by cases e <;> first | (simp only at he ⊢; rw [hput]; exact hk _ _ he) | exact hq _ _ _ he | exact hlo he))
        | (exact Rows.mono h (fun v w'' he => by rw [hput]; exact hk _ _ he))
        | exact absurd rfl (hnd _ _)
  | halt y w' => cases y <;> simp only [Oper.upon] at h ⊢ <;> first | exact hq _ _ _ h | exact h.elim
def noDefer (P : Program) (po : PO) : Prop := ∀ o, cOp P o = some po → ∀ (ρ : Operand → Value) (w w' : World) d, (execOp ρ o).run P w ≠ .ok (.defer d) w'
def OLd (P : Program) (w0 : World) (n : Nat) (ds : List Deferred) (l : List PI) (T : TT) (S : SS) (K : TT → SS → Prop) : Prop :=
  ∀ (ops : Array Oper) (is : List Nat) a w (Q : Exit → Act → World → Prop), cIs P n ops is = some l → Sat n T a → Rep w0 S w →
    (∀ a' w' T' S', Sat n T' a' → Rep w0 S' w' → K T' S' → Q .normal { a' with defers := ds } w') → wpOps P ops Q is { a with defers := ds } w
theorem OLd.nil {ds : List Deferred} {K : TT → SS → Prop} (h : K T S) : OLd P w0 n ds [] T S K := by
  intro ops is a w Q hc hs hr hk
  cases is with
  | nil => exact hk a w T S hs hr h
  | cons i is =>
    simp only [cIs] at hc
    split at hc
    · simp at hc
    · simp at hc
theorem OLd.cons {ds : List Deferred} {po : PO} {d : Option Nat} {rr : List PI} {K : TT → SS → Prop} {K' : Value → SS → Prop} (hnd : noDefer P po) (h : OW P w0 n po T S K') (hk : ∀ v S', K' v S' → OLd P w0 n ds rr (put d v T) S' K) : OLd P w0 n ds (⟨d, none, po⟩ :: rr) T S K := by
  intro ops is a w Q hc hs hr hq
  obtain ⟨i, is, rfl, hi, hrest⟩ := cIs_cons hc
  obtain ⟨o, ho, hpo, hd, hdst, hg⟩ := cI_spec hi
  have hw : Region.wanted o (yielded ops a.tmps) = true := by
    rcases hg with ⟨hg, _⟩ | ⟨j, b, s, hg, hj, he⟩
    · simp [Region.wanted, hg]
    · simp at he
  rw [wpOps_cons]
  unfold wpOp
  simp only [ho]
  rw [if_pos hw]
  refine .inl (wp_defers (Q := fun e a w => Q e { a with defers := ds } w) ds (fun d w' => hnd o hpo _ _ _ _) ?_ (fun _ _ _ h => h) (h o a w _ hpo hs hr))
  rintro a' w' ⟨v, S', rfl, hr', hk'⟩
  simp only at hdst
  subst hdst
  exact hk v S' hk' ops is _ w' Q hrest (hs.put hd _) hr' hq
theorem noDefer_ld {x : PV} : noDefer P (.ld x) := by
  intro o hc ρ w w' d
  obtain ⟨t, y, ho, _⟩ := cOp_spec P hc
  intro h
  simp [execOp, ho, Sem.run_bind] at h
  generalize (Sem.run P _ w) = z at h
  cases z <;> simp [Result.andThen] at h
theorem noDefer_st {sz : Nat} {x v : PV} : noDefer P (.st sz x v) := by
  intro o hc ρ w w' d
  obtain ⟨t, y, u, i, ho, _⟩ := cOp_spec P hc
  intro h
  simp [execOp, ho, Sem.run_bind] at h
  generalize (Sem.run P _ w) = z at h
  cases z <;> simp [Result.andThen] at h
theorem OLd.of_eq {ds : List Deferred} {l l' : List PI} {K : TT → SS → Prop} (e : l = l') (h : OLd P w0 n ds l T S K) : OLd P w0 n ds l' T S K := e ▸ h
theorem Rep.allocObj {w : World} (h : Rep w0 S w) (o : Obj) : Rep w0 ([(w.heap.size, .obj o)] :: S) (w.alloc o) := by
  refine h.push (below_alloc h _) (fun i hi => alloc_heap_lt w _ i hi) (by simp) ?_
  intro p hp
  simp only [List.mem_singleton] at hp
  subst hp
  exact ⟨World.alloc_heap_new w o, Nat.le_refl _⟩
/-- the loop's record and its block ahead of what else is owned -/
def LS (l D : Nat) (L : Loop) (S : SS) : SS := [(l, .obj (.loop L))] :: [(D, .obj (.deferred (some [])))] :: S
theorem Rep.putD {l D : Nat} {L : Loop} {w : World} (h : Rep w0 (LS l D L S) w) : ∃ S', Rep w0 S' (w.putObj D (.deferred none)) ∧ S' = S := by
  have h2 : Rep w0 ([(D, .obj (.deferred (some [])))] :: S) w := h.sub (fun p hp => by unfold LS; simp only [List.flatten_cons, List.mem_append] at hp ⊢; exact .inr hp) (by have := h.nodup; unfold LS at this; simp only [List.flatten_cons, List.singleton_append, List.map_cons, List.nodup_cons] at this ⊢; exact this.2)
  have h3 := Rep.putObj (o' := .deferred none) h2 rfl rfl
  exact ⟨S, h3.sub (fun p hp => by simp only [List.flatten_cons, List.mem_append]; exact .inr hp) (by have := h3.nodup; simp only [List.flatten_cons, List.singleton_append, List.map_cons, List.nodup_cons] at this; exact this.2), rfl⟩
def resOk (P : Program) (w0 : World) (n : Nat) (fn : Func) (post : Value → SS → Prop) (T : TT) (S : SS) : Prop :=
  ∃ v, (∀ a w, Sat n T a → Rep w0 S w → (results fn a.tmps).run P w = .ok v w) ∧ post v S
theorem FC.range {k id : Nat} {fn : Func} {c0 c1 c7 A B : Code} {g : Operand} {ps : Array Nat} {l0 l1 l7 : List PI} {args : List Value} {post : Value → SS → Prop}
    (hf : P.funcs[k]? = some fn) (hb : fn.body = some (.seq c0 (.seq (.seq c1 (.block id (.rangeFunc g ps A B))) (.seq c7 .ret)))) (hnt : fn.ntmps = n)
    (hc0 : cC P n c0 = some (.ops l0)) (hc1 : cC P n c1 = some (.ops l1)) (hc7 : cC P n c7 = some (.ops l7)) (hn : args.length ≤ n)
    (h : OL P w0 n l0 (argT 0 args) S (fun T0 S0 => OL P w0 n l1 T0 S0 (fun T1 S1 => ∃ (f : Nat) (fi ca : List Value), (cV g).val T1 = some (.func (.func f) fi.toArray ca.toArray) ∧ fnOk P f = true ∧
      ∀ (l D fid : Nat) (tmps : Array Value), Sat n T1 { tmps := tmps, defers := [] } →
        FC P w0 f (fi ++ [.func (.yield l) #[] #[]] ++ ca) (LS l D { state := .ready, pending := none, fn := fid, tmps := tmps, params := ps, assign := A, body := B, defers := D } S1) (fun _ S' => ∃ (L : Loop) (S3 : SS), S' = LS l D L S3 ∧ L.state ≠ .busy ∧
          ((L.pending = none ∧ ∀ L' ds, OLd P w0 n ds l7 T1 (LS l D L' S3) (fun T7 S7 => ∃ S8, S7 = LS l D L' S8 ∧ resOk P w0 n fn post T7 S8)) ∨
           (L.pending = some .ret ∧ resOk P w0 n fn post T1 S3)))))) : FC P w0 k args S post := by
  intro w hw
  subst hnt
  refine (callsIn_wide (n := 1)).1 (callsIn_of_wp_marks hf hb trivial ?_)
  refine wpIn_seq (wpIn_mono (wpIn_wide.2 ((PW.ops (Q := thenK (fun T0 S0 => OL P w0 fn.ntmps l1 T0 S0 _) (fun _ _ _ => False)) h) c0 hc0 _ w (argT_sat hn) hw)) ?_)
  rintro e a w1 ⟨T0, S0, hs0, hr0, q⟩
  cases e <;> try exact q.elim
  refine wpIn_seq ?_
  refine wpIn_seq (wpIn_mono (wpIn_wide.2 ((PW.ops (Q := thenK (fun T1 S1 => _) (fun _ _ _ => False)) q) c1 hc1 _ w1 hs0 hr0)) ?_)
  rintro e a1 w2 ⟨T1, S1, hs1, hr1, q1⟩
  cases e <;> try exact q1.elim
  obtain ⟨f, fi, ca, hg, hok, hfc⟩ := q1
  refine wpIn_block ?_
  refine wpIn_rangeFunc ?_
  intro fid _
  obtain ⟨tmps, ds1⟩ := a1
  obtain rfl : ds1 = [] := hs1.defers
  have hev : Act.eval ⟨tmps, []⟩ g = .func (.func f) fi.toArray ca.toArray := hs1.eval hg
  have hrepD := Rep.allocObj hr1 (.deferred (some []))
  have hrepL := Rep.allocObj hrepD (.loop { state := .ready, pending := none, fn := fid, tmps := tmps, params := ps, assign := A, body := B, defers := w2.heap.size })
  rw [World.size_alloc] at hrepL
  have hcall := hfc (w2.heap.size + 1) w2.heap.size fid tmps hs1 _ hrepL
  obtain ⟨W, hW⟩ : ∃ W, (w2.alloc (.deferred (some []))).alloc (.loop { state := .ready, pending := none, fn := fid, tmps := tmps, params := ps, assign := A, body := B, defers := w2.heap.size }) = W := ⟨_, rfl⟩
  have henter : (Instr.enterLoop fid tmps ps A B none).run P w2 = .ok (w2.heap.size + 1, [{ target := .collected w2.heap.size, args := #[] }]) W := by rw [← hW]; exact run_enterLoop_outer fid tmps ps A B
  rw [hW] at hcall
  clear hrepL hrepD
  refine ⟨w2.heap.size + 1, [{ target := .collected w2.heap.size, args := #[] }], W, { target := .fn (.func f) ca.toArray, args := fi.toArray ++ #[Value.func (.yield (w2.heap.size + 1)) #[] #[]] }, W, f, (fi ++ [Value.func (.yield (w2.heap.size + 1)) #[] #[]] ++ ca).toArray, W, henter, ?_, fun _ _ => trivial, ?_, (fun e => by cases e), ?_⟩
  · simp only [resolve, rangeCall, hev, Deferred.ofValue]
    simp [Sem.run, Act.eval]
  · unfold fnOk at hok
    split at hok
    · rename_i fn' hfn
      simp only [Bool.and_eq_true, bne_iff_ne, ne_eq] at hok
      have hb : ¬ fn'.body = none := by intro hh; simp [hh] at hok
      simp [invoke, callFunc, program, Sem.run, hfn, hok.1, hb]
    · simp at hok
  · refine (fen_calls (r := none)).2 (hcall.mono ?_)
    rintro e w3 ⟨v, S', rfl, hr3, L, S3, rfl, hbusy, hq⟩
    have hL : w3.heap[w2.heap.size + 1]? = some (.loop L) := (hr3.own (w2.heap.size + 1, .obj (.loop L)) (by simp [LS])).2
    refine ⟨L.pending, _, run_endLoop hL hbusy, ?_⟩
    have hr4 : Rep w0 (LS (w2.heap.size + 1) w2.heap.size { L with state := .exhausted } S3) (w3.putObj (w2.heap.size + 1) (.loop { L with state := .exhausted })) := Rep.putObj hr3 rfl rfl
    generalize w3.putObj (w2.heap.size + 1) (.loop { L with state := .exhausted }) = w4 at hr4
    have fin : ∀ (T7 : TT) (S7 : SS) (L7 : Loop) (a7 : Act) (w7 : World), Sat fn.ntmps T7 a7 → Rep w0 (LS (w2.heap.size + 1) w2.heap.size L7 S7) w7 → resOk P w0 fn.ntmps fn post T7 S7 →
        LeavesInM Fence.wide 1 P fn a7.tmps (fun e w' => ∃ v S', e = .returned v ∧ Rep w0 S' w' ∧ post v S') [{ target := .collected w2.heap.size, args := #[] }] .returning w7 := by
      rintro T7 S7 L7 a7 w7 hs7 hr7 ⟨v7, hv7, hp7⟩
      have hD : w7.heap[w2.heap.size]? = some (.deferred (some [])) := (hr7.own (w2.heap.size, .obj (.deferred (some []))) (by simp [LS])).2
      obtain ⟨S9, hr9, rfl⟩ := Rep.putD hr7
      exact ⟨by simp, .inl ⟨_, _, rfl, run_takeDeferred hD, v7, hv7 a7 _ hs7 hr9, v7, _, rfl, hr9, hp7⟩⟩
    rcases hq with ⟨hp, hq⟩ | ⟨hp, hq⟩
    · rw [hp]
      show (Code.seq c7 .ret).wpIn _ _ _ _ _ _
      refine wpIn_seq ?_
      cases c7 with
      | region id7 ops7 dr7 =>
        cases dr7 with
        | false =>
          simp only [cC, Option.map_eq_some_iff] at hc7
          obtain ⟨l', hc7', he⟩ := hc7
          simp only [PC.ops.injEq] at he
          subst he
          refine wpIn_wide.2 (wp_region (hq _ _ ops7 _ ⟨tmps, []⟩ w4 _ hc7' hs1 hr4 ?_))
          rintro a7 w7 T7 S7 hs7 hr7 ⟨S8, rfl, hres⟩
          exact wpIn_ret (fin T7 S8 _ a7 w7 hs7 hr7 hres)
        | true =>
          simp only [cC] at hc7
          split at hc7
          · simp at hc7
          · simp at hc7
      | _ => (first | (simp [cC] at hc7; done) | (simp only [cC] at hc7; split at hc7 <;> simp at hc7; done))
    · rw [hp]
      show (Code.ret).wpIn _ _ _ _ _ _
      exact wpIn_ret (fin T1 S3 _ ⟨tmps, []⟩ w4 hs1 hr4 hq)
end
end Go.SL
