/- Walks and plain facts for the laws of this seat: what each function answers, for every input. -/
import Derived.Test.YtbidjnjbiibdeaaDoorPart7
import Derived.Test.YtbidjnjbiibdeaaDoorProg

set_option linter.unusedVariables false
set_option linter.unusedSimpArgs false
namespace Go.SL
open Go.RowKit
inductive EC where
  | skip
  | ops (l : List PI)
  | drawn (b : List Nat) (k : Nat) (l : List PI)
  | seq (a b : EC)
  | cond (x : PV) (a b : EC)
  | block (id : Nat) (c : EC)
  | loop (live : List Nat) (c : EC)
  | exit (id : Nat)
  | ret
/-- without the hints -/
def EC.strip : EC → EC
  | .seq a b => .seq a.strip b.strip
  | .cond x a b => .cond x a.strip b.strip
  | .block id c => .block id c.strip
  | .loop _ c => .loop [] c.strip
  | c => c
def cE (P : Program) (n : Nat) : Code → Option EC
  | .skip => some .skip
  | .region _ ops false => (cIs P n ops (List.range ops.size)).map .ops
  | .region _ ops true => if apartB ops && backB ops && Region.noSelect ops && hoistB ops ((hoists ops).filter (· < quietAt ops)) (Array.replicate ops.size false) then (cIs P n ops (List.range ops.size)).map (.drawn (reach ops) (quietAt ops)) else none
  | .seq a b => match cE P n a, cE P n b with | some x, some y => some (.seq x y) | _, _ => none
  | .cond c x y => match cE P n x, cE P n y with | some x, some y => some (.cond (cV c) x y) | _, _ => none
  | .block id c => (cE P n c).map (.block id)
  | .loop c => (cE P n c).map (.loop [])
  | .exit id => some (.exit id)
  | .ret => some .ret
  | _ => none
inductive EX where
  | normal
  | ret
  | exit (id : Nat)
def EX.to : EX → Exit
  | .normal => .normal
  | .ret => .ret
  | .exit id => .exit id
def slim (T : TT) : List Nat → TT
  | [] => []
  | i :: r => match look T i with | some v => (i, v) :: slim T r | none => slim T r
def evC (call : CallE) : Nat → EC → TT → EH → Option (EX × TT × EH)
  | 0, _, _, _ => none
  | f + 1, c, T, H => match c with
    | .skip => some (.normal, T, H)
    | .ops l => (match evL call l T H with | some (T', H') => some (.normal, T', H') | none => none)
    | .drawn b k l => (match evD call b k l T H with | some (T', H') => some (.normal, T', H') | none => none)
    | .seq a b => (match evC call f a T H with | some (.normal, T', H') => evC call f b T' H' | r => r)
    | .cond x a b => (match x.ev T with | some (.bool true) => evC call f a T H | some (.bool false) => evC call f b T H | _ => none)
    | .block id c => (match evC call f c T H with | some (.exit j, T', H') => (bif Nat.beq j id then some (.normal, T', H') else some (.exit j, T', H')) | r => r)
    | .loop live c => (match evC call f c (slim T live) H with | some (.normal, T', H') => evC call f (.loop live c) T' H' | r => r)
    | .exit id => some (.exit id, T, H)
    | .ret => some (.ret, T, H)
inductive RV where
  | tmp (t : Nat)
  | cell (t : Nat) (m : Option Nat)
structure EFn where
  ec : EC
  n : Nat
  rs : List RV
def resC (P : Program) : List ResultVar → Option (List RV)
  | [] => some []
  | .tmp t :: r => (resC P r).map (.tmp t :: ·)
  | .cell a t :: r => match aggOf P t, resC P r with | some m, some l => some (.cell a m :: l) | _, _ => none
def resE (T : TT) (H : EH) : List RV → Option (List Value)
  | [] => some []
  | .tmp t :: r => match look T t, resE T H r with | some v, some l => some (v :: l) | _, _ => none
  | .cell t none :: r => match look T t, resE T H r with | some (.pointer (some a)), some l => (match H.cell a with | some v => some (v :: l) | none => none) | _, _ => none
  | .cell t (some m) :: r => match look T t, resE T H r with | some (.pointer (some a)), some l => (match H.row a m with | some c => some (.agg c.toArray :: l) | none => none) | _, _ => none
def oneOf : List Value → Value
  | [v] => v
  | l => .tuple l.toArray
def evF (tbl : FuncId → Option EFn) (fuel : Nat) : Nat → CallE
  | 0, _, _, _ => none
  | d + 1, k, vs, H => match tbl k with
    | some fn => bif Nat.ble vs.length fn.n then (match evC (evF tbl fuel d) fuel fn.ec (argT 0 vs) H with
      | some (.normal, T', H') => (match resE T' H' fn.rs with | some l => some (oneOf l, H') | none => none)
      | some (.ret, T', H') => (match resE T' H' fn.rs with | some l => some (oneOf l, H') | none => none)
      | _ => none) else none
    | none => none
def KnownE (P : Program) (k : FuncId) (e : EFn) : Prop :=
  ∃ fn c, P.funcs[k]? = some fn ∧ fn.body = some c ∧ cE P fn.ntmps c = some e.ec.strip ∧ fn.ntmps = e.n ∧ resC P fn.results.toList = some e.rs ∧ fnOk P k = true
section
variable {P : Program} {w0 : World} {n : Nat} {S : SS}
theorem slim_look {T : TT} {i : Nat} {v : Value} : ∀ {l : List Nat}, look (slim T l) i = some v → look T i = some v
  | [], h => by simp [slim, look] at h
  | j :: l, h => by
    simp only [slim] at h
    split at h
    · rename_i u hu
      by_cases e : j = i
      · subst e
        rw [look_put_same] at h
        rw [hu]; exact h
      · rw [look_cons_ne _ _ e] at h
        exact slim_look h
    · exact slim_look h
theorem cE_region {c : Code} {l : List PI} (h : cE P n c = some (.ops l)) : ∃ id ops, c = .region id ops false ∧ cIs P n ops (List.range ops.size) = some l := by
  cases c
  case region id ops dr =>
    cases dr with
    | false =>
      simp only [cE, Option.map_eq_some_iff, EC.ops.injEq] at h
      obtain ⟨l', h1, rfl⟩ := h
      exact ⟨id, ops, rfl, h1⟩
    | true =>
      simp only [cE] at h
      split at h
      · simp at h
      · cases h
  all_goals (simp only [cE] at h)
  all_goals (first | (cases h; done) | (split at h <;> simp at h; done) | (simp at h; done))
theorem cE_drawn {c : Code} {b : List Nat} {k : Nat} {l : List PI} (h : cE P n c = some (.drawn b k l)) : ∃ id ops, c = .region id ops true ∧ (apartB ops && backB ops && Region.noSelect ops && hoistB ops ((hoists ops).filter (· < quietAt ops)) (Array.replicate ops.size false)) = true ∧ cIs P n ops (List.range ops.size) = some l ∧ reach ops = b ∧ quietAt ops = k := by
  cases c
  case region id ops dr =>
    cases dr with
    | false => simp [cE] at h
    | true =>
      simp only [cE] at h
      split at h
      · rename_i hc
        simp only [Option.map_eq_some_iff, EC.drawn.injEq] at h
        obtain ⟨l', h1, h2, h3, rfl⟩ := h
        exact ⟨id, ops, rfl, hc, h1, h2, h3⟩
      · cases h
  all_goals (simp only [cE] at h)
  all_goals (first | (cases h; done) | (split at h <;> simp at h; done) | (simp at h; done))
theorem cE_seq {c : Code} {a b : EC} (h : cE P n c = some (.seq a b)) : ∃ c1 c2, c = .seq c1 c2 ∧ cE P n c1 = some a ∧ cE P n c2 = some b := by
  cases c
  case region id ops dr => cases dr <;> simp [cE] at h
  case seq c1 c2 =>
    simp only [cE] at h
    split at h
    · rename_i x y h1 h2
      simp only [Option.some.injEq, EC.seq.injEq] at h
      obtain ⟨rfl, rfl⟩ := h
      exact ⟨c1, c2, rfl, h1, h2⟩
    · cases h
  all_goals (simp only [cE] at h)
  all_goals (first | (cases h; done) | (split at h <;> simp at h; done) | (simp at h; done))
theorem cE_cond {c : Code} {x : PV} {a b : EC} (h : cE P n c = some (.cond x a b)) : ∃ y c1 c2, c = .cond y c1 c2 ∧ x = cV y ∧ cE P n c1 = some a ∧ cE P n c2 = some b := by
  cases c
  case region id ops dr => cases dr <;> simp [cE] at h
  case cond y c1 c2 =>
    simp only [cE] at h
    split at h
    · rename_i x y h1 h2
      simp only [Option.some.injEq, EC.cond.injEq] at h
      obtain ⟨rfl, rfl, rfl⟩ := h
      exact ⟨_, c1, c2, rfl, rfl, h1, h2⟩
    · cases h
  all_goals (simp only [cE] at h)
  all_goals (first | (cases h; done) | (split at h <;> simp at h; done) | (simp at h; done))
theorem cE_block {c : Code} {id : Nat} {a : EC} (h : cE P n c = some (.block id a)) : ∃ c1, c = .block id c1 ∧ cE P n c1 = some a := by
  cases c
  case region id ops dr => cases dr <;> simp [cE] at h
  case block id' c1 =>
    simp only [cE, Option.map_eq_some_iff, EC.block.injEq] at h
    obtain ⟨x, h1, rfl, rfl⟩ := h
    exact ⟨c1, rfl, h1⟩
  all_goals (simp only [cE] at h)
  all_goals (first | (cases h; done) | (split at h <;> simp at h; done) | (simp at h; done))
theorem cE_loop {c : Code} {lv : List Nat} {a : EC} (h : cE P n c = some (.loop lv a)) : ∃ c1, c = .loop c1 ∧ cE P n c1 = some a := by
  cases c
  case region id ops dr => cases dr <;> simp [cE] at h
  case loop c1 =>
    simp only [cE, Option.map_eq_some_iff, EC.loop.injEq] at h
    obtain ⟨x, h1, _, rfl⟩ := h
    exact ⟨c1, rfl, h1⟩
  all_goals (simp only [cE] at h)
  all_goals (first | (cases h; done) | (split at h <;> simp at h; done) | (simp at h; done))
theorem cE_skip {c : Code} (h : cE P n c = some .skip) : c = .skip := by
  cases c
  case region id ops dr => cases dr <;> simp [cE] at h
  case skip => rfl
  all_goals (simp only [cE] at h)
  all_goals (first | (cases h; done) | (split at h <;> simp at h; done) | (simp at h; done))
theorem cE_ret {c : Code} (h : cE P n c = some .ret) : c = .ret := by
  cases c
  case region id ops dr => cases dr <;> simp [cE] at h
  case ret => rfl
  all_goals (simp only [cE] at h)
  all_goals (first | (cases h; done) | (split at h <;> simp at h; done) | (simp at h; done))
theorem cE_exit {c : Code} {id : Nat} (h : cE P n c = some (.exit id)) : c = .exit id := by
  cases c
  case region id ops dr => cases dr <;> simp [cE] at h
  case exit id' => simp only [cE, Option.some.injEq, EC.exit.injEq] at h; rw [h]
  all_goals (simp only [cE] at h)
  all_goals (first | (cases h; done) | (split at h <;> simp at h; done) | (simp at h; done))
/-- what code owes -/
def EW (P : Program) (w0 : World) (n : Nat) (ec : EC) (Tc : TT) (Sc : SS) (Q : Exit → TT → SS → Prop) : Prop :=
  ∀ c, cE P n c = some ec.strip → ∀ a w, Sat n Tc a → Rep w0 Sc w → c.wp P (fun e a' w' => ∃ T' S', Sat n T' a' ∧ Rep w0 S' w' ∧ Q e T' S') a w
theorem EW.mono {ec : EC} {Tc : TT} {Sc : SS} {Q Q' : Exit → TT → SS → Prop} (h : EW P w0 n ec Tc Sc Q) (hq : ∀ e T S, Q e T S → Q' e T S) : EW P w0 n ec Tc Sc Q' :=
  fun c hc a w hs hr => wp_mono (h c hc a w hs hr) fun e a' w' ⟨T', S', hs', hr', q⟩ => ⟨T', S', hs', hr', hq _ _ _ q⟩
theorem StR.mono {ρ ρ' : Rho} {T : TT} {H : EH} {T2 : TT} {S2 : SS} (hp : ρ <+: ρ') (h : StR w0 ρ' S T H T2 S2) : StR w0 ρ S T H T2 S2 := let ⟨r, L, a, b⟩ := h; ⟨r, L, hp.trans a, b⟩
set_option maxHeartbeats 1000000 in
theorem evC_snd {call : CallE} (hm : P.follows .mixedOrders = true) (hcall : CallOk P w0 call) (F : Nat) : ∀ {ec : EC} {T Tc : TT} {ρ : Rho} {H : EH} {L : LL} {ex : EX} {T' : TT} {H' : EH}, TR ρ T Tc → HR w0 ρ H L → evC call F ec T H = some (ex, T', H') →
    EW P w0 n ec Tc (cs L S) (fun e T2 S2 => e = ex.to ∧ StR w0 ρ S T' H' T2 S2) := by
  induction F using Nat.strongRecOn with
  | _ F IH =>
    intro ec T Tc ρ H L ex T' H' hT hH h
    cases F with
    | zero => cases h
    | succ f =>
    have ih := fun {ec : EC} {T Tc : TT} {ρ : Rho} {H : EH} {L : LL} {ex : EX} {T' : TT} {H' : EH} => @IH f (Nat.lt_succ_self f) ec T Tc ρ H L ex T' H'
    intro c hc a w hs hr
    cases ec with
    | skip =>
      simp only [evC, Option.some.injEq, Prod.mk.injEq] at h
      obtain ⟨rfl, rfl, rfl⟩ := h
      obtain rfl := cE_skip hc
      exact wp_skip ⟨Tc, _, hs, hr, rfl, ρ, L, List.prefix_refl _, hT, rfl, hH⟩
    | ret =>
      simp only [evC, Option.some.injEq, Prod.mk.injEq] at h
      obtain ⟨rfl, rfl, rfl⟩ := h
      obtain rfl := cE_ret hc
      exact wp_ret ⟨Tc, _, hs, hr, rfl, ρ, L, List.prefix_refl _, hT, rfl, hH⟩
    | exit id =>
      simp only [evC, Option.some.injEq, Prod.mk.injEq] at h
      obtain ⟨rfl, rfl, rfl⟩ := h
      obtain rfl := cE_exit hc
      exact wp_exit ⟨Tc, _, hs, hr, rfl, ρ, L, List.prefix_refl _, hT, rfl, hH⟩
    | ops l =>
      simp only [evC] at h
      split at h
      · rename_i T1 H1 h1
        simp only [Option.some.injEq, Prod.mk.injEq] at h
        obtain ⟨rfl, rfl, rfl⟩ := h
        obtain ⟨id, ops, rfl, h2⟩ := cE_region hc
        exact wp_region (evL_ol hcall hT hH h1 ops _ a w _ h2 hs hr fun a' w' T2 S2 h3 h4 h5 => ⟨T2, S2, h3, h4, rfl, h5⟩)
      · cases h
    | drawn b k l =>
      simp only [evC] at h
      split at h
      · rename_i T1 H1 h1
        simp only [Option.some.injEq, Prod.mk.injEq] at h
        obtain ⟨rfl, rfl, rfl⟩ := h
        obtain ⟨id, ops, rfl, h2, h3, rfl, h5⟩ := cE_drawn hc
        exact wp_mono (drawn_wp hm hcall h2 h3 h5 hT hH h1 a w hs hr) fun e a' w' ⟨he, T2, S2, q1, q2, q3⟩ => ⟨T2, S2, q1, q2, he, q3⟩
      · cases h
    | seq c1 c2 =>
      simp only [evC] at h
      obtain ⟨d1, d2, rfl, h1, h2⟩ := cE_seq hc
      cases hev : evC call f c1 T H with
      | none => rw [hev] at h; cases h
      | some r =>
        obtain ⟨ex1, T1, H1⟩ := r
        rw [hev] at h
        have i1 := ih hT hH hev d1 h1 a w hs hr
        refine wp_seq (wp_mono i1 ?_)
        rintro e a' w' ⟨T2, S2, q1, q2, rfl, ρ2, L2, p1, p2, rfl, p4⟩
        cases ex1 with
        | normal => exact wp_mono (ih p2 p4 h d2 h2 a' w' q1 q2) fun e a' w' ⟨T3, S3, r1, r2, r3, r4⟩ => ⟨T3, S3, r1, r2, r3, r4.mono p1⟩
        | ret =>
          simp only [Option.some.injEq, Prod.mk.injEq] at h
          obtain ⟨rfl, rfl, rfl⟩ := h
          exact ⟨T2, _, q1, q2, rfl, ρ2, L2, p1, p2, rfl, p4⟩
        | exit j =>
          simp only [Option.some.injEq, Prod.mk.injEq] at h
          obtain ⟨rfl, rfl, rfl⟩ := h
          exact ⟨T2, _, q1, q2, rfl, ρ2, L2, p1, p2, rfl, p4⟩
    | cond x c1 c2 =>
      simp only [evC] at h
      obtain ⟨y, d1, d2, rfl, rfl, h1, h2⟩ := cE_cond hc
      split at h
      · rename_i hx
        obtain ⟨u, g1, g2⟩ := hT.ev hx
        obtain rfl := g2.bool_inv
        exact wp_cond_split (hs.eval g1) (fun _ => ih hT hH h d1 h1 a w hs hr) (fun e => by cases e)
      · rename_i hx
        obtain ⟨u, g1, g2⟩ := hT.ev hx
        obtain rfl := g2.bool_inv
        exact wp_cond_split (hs.eval g1) (fun e => by cases e) (fun _ => ih hT hH h d2 h2 a w hs hr)
      · cases h
    | block id c1 =>
      simp only [evC] at h
      obtain ⟨d1, rfl, h1⟩ := cE_block hc
      cases hev : evC call f c1 T H with
      | none => rw [hev] at h; cases h
      | some r =>
        obtain ⟨ex1, T1, H1⟩ := r
        rw [hev] at h
        have i1 := ih hT hH hev d1 h1 a w hs hr
        refine wp_block (wp_mono i1 ?_)
        rintro e a' w' ⟨T2, S2, q1, q2, rfl, p⟩
        cases ex1 with
        | normal =>
          simp only [Option.some.injEq, Prod.mk.injEq] at h
          obtain ⟨rfl, rfl, rfl⟩ := h
          exact ⟨T2, _, q1, q2, rfl, p⟩
        | ret =>
          simp only [Option.some.injEq, Prod.mk.injEq] at h
          obtain ⟨rfl, rfl, rfl⟩ := h
          exact ⟨T2, _, q1, q2, rfl, p⟩
        | exit j =>
          simp only at h
          simp only [EX.to, Exit.inBlock]
          rcases beq_cases j id with ⟨rfl, e⟩ | ⟨hne, e⟩
          · rw [e] at h
            simp only [cond_true, Option.some.injEq, Prod.mk.injEq] at h
            obtain ⟨rfl, rfl, rfl⟩ := h
            rw [if_pos rfl]
            exact ⟨T2, _, q1, q2, rfl, p⟩
          · rw [e] at h
            simp only [cond_false, Option.some.injEq, Prod.mk.injEq] at h
            obtain ⟨rfl, rfl, rfl⟩ := h
            rw [if_neg hne]
            exact ⟨T2, _, q1, q2, rfl, p⟩
    | loop lv c1 =>
      obtain ⟨d1, rfl, h1⟩ := cE_loop hc
      refine wp_loop_rounds (f + 1) ?_
      have key : ∀ g, g ≤ f + 1 → ∀ {T Tc : TT} {ρ2 : Rho} {H : EH} {L : LL} {a : Act} {w : World}, ρ <+: ρ2 → TR ρ2 T Tc → HR w0 ρ2 H L → Sat n Tc a → Rep w0 (cs L S) w → evC call g (.loop lv c1) T H = some (ex, T', H') →
          Code.rounds P d1 (fun e a' w' => ∃ T2 S2, Sat n T2 a' ∧ Rep w0 S2 w' ∧ e = ex.to ∧ StR w0 ρ S T' H' T2 S2) g a w := by
        intro g
        induction g with
        | zero => intro _ T Tc ρ2 H L a w _ _ _ _ _ h; cases h
        | succ g ihg =>
          intro hg T Tc ρ2 H L a w hp hT hH hs hr h
          simp only [evC] at h
          cases hev : evC call g c1 (slim T lv) H with
          | none => rw [hev] at h; cases h
          | some r =>
            obtain ⟨ex1, T1, H1⟩ := r
            rw [hev] at h
            have i1 := IH g (by omega) (Tc := Tc) (fun i v hv => hT i v (slim_look hv)) hH hev d1 h1 a w hs hr
            refine wp_mono i1 ?_
            rintro e a' w' ⟨T2, S2, q1, q2, rfl, ρ3, L2, p1, p2, rfl, p4⟩
            cases ex1 with
            | normal => exact ihg (by omega) (hp.trans p1) p2 p4 q1 q2 h
            | ret =>
              simp only [Option.some.injEq, Prod.mk.injEq] at h
              obtain ⟨rfl, rfl, rfl⟩ := h
              exact ⟨T2, _, q1, q2, rfl, ρ3, L2, hp.trans p1, p2, rfl, p4⟩
            | exit j =>
              simp only [Option.some.injEq, Prod.mk.injEq] at h
              obtain ⟨rfl, rfl, rfl⟩ := h
              exact ⟨T2, _, q1, q2, rfl, ρ3, L2, hp.trans p1, p2, rfl, p4⟩
      exact key (f + 1) (Nat.le_refl _) (List.prefix_refl _) hT hH hs hr h
def resM (tmps : Array Value) : ResultVar → Sem Value
  | .tmp t => pure (tmps.getD t undef)
  | .cell a t => do loadVar t (← asAddr (tmps.getD a undef))
theorem results_eq (fn : Func) (tmps : Array Value) : results fn tmps = (do let vs ← fn.results.mapM (resM tmps); pure (if h : vs.size = 1 then vs[0] else .tuple vs)) := by
  unfold results
  refine congrArg (fun f => (fn.results.mapM f >>= fun vs => pure (if h : vs.size = 1 then vs[0] else Value.tuple vs) : Sem Value)) ?_
  funext x
  cases x <;> rfl
theorem resE_run {T : TT} {H : EH} {Tc : TT} {ρ : Rho} {L : LL} (hT : TR ρ T Tc) (hH : HR w0 ρ H L) {tmps : Array Value} {w : World} (ht : ∀ i v, look Tc i = some v → tmps[i]? = some v) (hr : Rep w0 (cs L S) w) :
    ∀ {rv : List ResultVar} {rs : List RV} {l : List Value}, resC P rv = some rs → resE T H rs = some l → ∃ us, VRL ρ l us ∧ (rv.mapM (resM tmps)).run P w = .ok us w
  | [], rs, l, h1, h2 => by
    simp only [resC, Option.some.injEq] at h1
    subst h1
    simp only [resE, Option.some.injEq] at h2
    subst h2
    exact ⟨[], .nil, by simp⟩
  | .tmp t :: rv, rs, l, h1, h2 => by
    simp only [resC, Option.map_eq_some_iff] at h1
    obtain ⟨rs', h3, rfl⟩ := h1
    simp only [resE] at h2
    split at h2
    · rename_i v l' hv hl
      obtain rfl := Option.some.inj h2
      obtain ⟨us, h4, h5⟩ := resE_run hT hH ht hr h3 hl
      obtain ⟨u, h6, h7⟩ := hT t v hv
      have h8 : (resM tmps (.tmp t)).run P w = .ok u w := by simp [resM, ht t u h6]
      exact ⟨u :: us, VRL.cons h7 h4, by simp [h5, h8]⟩
    · cases h2
  | .cell a t :: rv, rs, l, h1, h2 => by
    simp only [resC] at h1
    split at h1
    · rename_i m rs' hm h3
      obtain rfl := Option.some.inj h1
      cases m with
      | none =>
        simp only [resE] at h2
        split at h2
        · rename_i ad l' hv hl
          split at h2
          · rename_i v hc
            obtain rfl := Option.some.inj h2
            obtain ⟨us, h4, h5⟩ := resE_run hT hH ht hr h3 hl
            obtain ⟨u, h6, h7⟩ := hT a _ hv
            obtain ⟨a', rfl, h8⟩ := h7.ptr_inv
            obtain ⟨u, h9, h10⟩ := hH.cell (S := S) h8 hc
            obtain ⟨d, hu, hd⟩ := aggOf_none hm
            have hcell := hr.cell h9
            have hload : (loadVar t a').run P w = .ok u w := by
              simp only [loadVar]
              simp [run_isAgg hu, hd, load, Sem.run, hcell]
            refine ⟨u :: us, VRL.cons h10 h4, ?_⟩
            have h11 : (resM tmps (.cell a t)).run P w = .ok u w := by
              have e := ht a _ h6
              simp [resM, e, asAddr, hload]
            simp [h5, h11]
          · cases h2
        · cases h2
      | some m =>
        simp only [resE] at h2
        split at h2
        · rename_i ad l' hv hl
          split at h2
          · rename_i c hc
            obtain rfl := Option.some.inj h2
            obtain ⟨us, h4, h5⟩ := resE_run hT hH ht hr h3 hl
            obtain ⟨u, h6, h7⟩ := hT a _ hv
            obtain ⟨a', rfl, h8⟩ := h7.ptr_inv
            obtain ⟨hlen, cs', h9, h10⟩ := hH.row (S := S) h8 hc
            obtain ⟨d, i, hu, hd, hi, hsz⟩ := aggOf_some hm
            have hload0 := run_loadCells_list (P := P) w a' cs' (fun j v hv => hr.cell (h10 j v hv))
            have hload : (loadVar t a').run P w = .ok (.agg cs'.toArray) w := by
              rw [← h9.1, hlen] at hload0
              simp only [loadVar]
              simp [run_isAgg hu, hd, sizeOf, typeInfo, program, hi, hsz, hload0, Sem.run]
            refine ⟨_ :: us, VRL.cons (.agg h9.1 h9.2) h4, ?_⟩
            have h11 : (resM tmps (.cell a t)).run P w = .ok (.agg cs'.toArray) w := by
              have e := ht a _ h6
              simp [resM, e, asAddr, hload]
            simp [h5, h11]
          · cases h2
        · cases h2
    · cases h1
theorem VR.flat_inv {ρ : Rho} {v u : Value} (h : VR ρ v u) (hv : flatV v = true) : u = v := by
  cases h with
  | flat _ => rfl
  | ptr h => simp only [flatV, Bool.and_eq_true] at hv; have := hv.1; rw [Nat.blt_eq] at this; omega
  | _ => simp [flatV] at hv
theorem oneOf_VR {ρ : Rho} {l us : List Value} (h : VRL ρ l us) : VR ρ (oneOf l) (oneOf us) := by
  rcases l with _ | ⟨v, _ | ⟨v2, l⟩⟩
  · obtain rfl := h.nil_left; exact .tuple h.1 (by simp)
  · obtain ⟨u, us, rfl, h1, h2⟩ := h.cons_left
    obtain rfl := h2.nil_left
    exact h1
  · obtain ⟨u, us, rfl, h1, h2⟩ := h.cons_left
    obtain ⟨u2, us, rfl, h3, h4⟩ := h2.cons_left
    exact .tuple h.1 h.2
theorem argT_VR {ρ : Rho} : ∀ {vs us : List Value} (i : Nat), VRL ρ vs us → TR ρ (argT i vs) (argT i us)
  | [], us, i, h => fun j v hj => by simp [argT, look] at hj
  | v :: vs, us, i, h => by
    obtain ⟨u, us, rfl, h1, h2⟩ := h.cons_left
    exact TR.put (argT_VR (i + 1) h2) h1 (some i)
def TblOk (P : Program) (tbl : FuncId → Option EFn) : Prop := ∀ k e, tbl k = some e → KnownE P k e
theorem evF_ok {tbl : FuncId → Option EFn} {fuel : Nat} (hm : P.follows .mixedOrders = true) (ht : TblOk P tbl) : ∀ d, CallOk P w0 (evF tbl fuel d)
  | 0, k, vs, H, r, h => by cases h
  | d + 1, k, vs, H, r, h => by
    simp only [evF] at h
    split at h
    case h_2 => cases h
    rename_i e he
    obtain ⟨fn, c, hf, hb, hc, hn, hres, hok⟩ := ht k e he
    refine ⟨hok, fun ρ L S us hvs hH => ?_⟩
    obtain ⟨hle, h⟩ := bif_some h
    have hle := Nat.le_of_ble_eq_true hle
    have ihd := evF_ok (fuel := fuel) hm ht d
    have fin : ∀ (ex : EX) (T' : TT) (H' : EH), (ex = .normal ∨ ex = .ret) → evC (evF tbl fuel d) fuel e.ec (argT 0 vs) H = some (ex, T', H') → (match resE T' H' e.rs with | some l => some (oneOf l, H') | none => none) = some r →
        FC P w0 k us (cs L S) (fun u S' => ∃ ρ' L', ρ <+: ρ' ∧ VR ρ' r.1 u ∧ S' = cs L' S ∧ HR w0 ρ' r.2 L') := by
      intro ex T' H' hex hev hr2
      split at hr2
      case h_2 => cases hr2
      rename_i l hl
      obtain rfl := Option.some.inj hr2
      intro w hw
      have i1 := evC_snd (S := S) (n := fn.ntmps) hm ihd fuel (argT_VR 0 hvs) hH hev c hc _ w (argT_sat (by rw [hn, ← hvs.1]; exact hle)) hw
      refine calls_of_wp hf hb (wp_mono i1 ?_)
      rintro ee a' w' ⟨T2, S2, q1, q2, rfl, ρ2, L2, p1, p2, rfl, p4⟩
      obtain ⟨us', h4, h5⟩ := resE_run (P := P) p2 p4 q1.get q2 hres hl
      have hrun : (results fn a'.tmps).run P w' = .ok (oneOf us') w' := by
        rw [results_eq]
        have e1 : fn.results = fn.results.toList.toArray := by simp
        rw [e1, List.mapM_toArray]
        rw [map_eq_pure_bind]
        simp only [Sem.run_bind, Sem.run_pure, h5, Result.andThen_ok]
        rcases us' with _ | ⟨u, _ | ⟨u2, us'⟩⟩ <;> simp [oneOf]
      rcases hex with rfl | rfl
      · exact ⟨q1.defers, _, hrun, _, _, rfl, q2, ρ2, L2, p1, oneOf_VR h4, rfl, p4⟩
      · exact ⟨q1.defers, _, hrun, _, _, rfl, q2, ρ2, L2, p1, oneOf_VR h4, rfl, p4⟩
    split at h
    · rename_i T' H' hev; exact fin _ _ _ (.inl rfl) hev h
    · rename_i T' H' hev; exact fin _ _ _ (.inr rfl) hev h
    · cases h
def lk : List (FuncId × EFn) → FuncId → Option EFn
  | [], _ => none
  | p :: r, k => bif Nat.beq p.1 k then some p.2 else lk r k
def AllK (P : Program) : List (FuncId × EFn) → Prop
  | [] => True
  | p :: r => KnownE P p.1 p.2 ∧ AllK P r
theorem lk_ok : ∀ {l : List (FuncId × EFn)}, AllK P l → TblOk P (lk l)
  | [], _, k, e, h => by cases h
  | p :: r, hl, k, e, h => by
    simp only [lk] at h
    rcases beq_cases p.1 k with ⟨e1, e2⟩ | ⟨e1, e2⟩
    · rw [e2] at h
      simp only [cond_true, Option.some.injEq] at h
      subst e1; subst h
      exact hl.1
    · rw [e2] at h
      exact lk_ok hl.2 k e h
/-- a closed call -/
theorem ev_fc {tbl : FuncId → Option EFn} {fuel d : Nat} {k : FuncId} {v : Value} {H' : EH} (hm : P.follows .mixedOrders = true) (ht : TblOk P tbl) (hv : flatV v = true) {vs : List Value} (hvs : vs.all flatV = true)
    (h : evF tbl fuel d k vs ⟨0, .leaf, []⟩ = some (v, H')) : FC P w0 k vs S (fun u S' => u = v ∧ S' = S) := by
  have hH : HR w0 [] ⟨0, .leaf, []⟩ [] := ⟨rfl, Nat.zero_le _, by simp, by simp, (fun i o hi => by rw [Tr.get_leaf] at hi; cases hi), by simp⟩
  have := (evF_ok (w0 := w0) (fuel := fuel) hm ht d k vs _ _ h).2 [] [] S vs (VRL.flat hvs) hH
  intro w hw
  refine (this w hw).mono ?_
  rintro e w' ⟨u, S', rfl, hr, ρ', L', _, hvr, rfl, _⟩
  refine ⟨u, S, rfl, ?_, ?_, rfl⟩
  · refine hr.sub (fun p hp => ?_) ?_
    · simp only [cs, List.flatten_append, List.mem_append]; exact .inr hp
    · have := hr.nodup
      simp only [cs, List.flatten_append, List.map_append, List.nodup_append] at this
      exact this.2.1
  · exact hvr.flat_inv hv
def evT (x : Option (Value × EH)) : Bool := match x with | some (.bool true, _) => true | _ => false
theorem ev_true {tbl : List (FuncId × EFn)} {fuel d : Nat} {k : FuncId} (hm : P.follows .mixedOrders = true) (ht : AllK P tbl) {vs : List Value} (hvs : vs.all flatV = true)
    (h : evT (evF (lk tbl) fuel d k vs ⟨0, .leaf, []⟩) = true) : FC P w0 k vs S (fun u S' => u = .bool true ∧ S' = S) := by
  unfold evT at h
  split at h
  · rename_i H' he
    exact ev_fc hm (lk_ok ht) rfl hvs he
  · cases h
end
end Go.SL

set_option linter.unusedVariables false
set_option linter.unusedSimpArgs false
namespace Go.SL
open Go.RowKit
section
variable {P : Program} {w0 : World} {S : SS}
end
end Go.SL

set_option maxRecDepth 100000
namespace Go.Proofs
open Go.SL
/-- redwax/label.Check -/
def Tryd.ec18 : EFn := ⟨(.seq (.ops [⟨some 1, none, .bx 24 (.t 0)⟩, ⟨some 2, none, .mov (.v (.int .i64 0))⟩])
  (.seq (.seq (.ops [⟨some 3, none, .fa 0 (.t 1)⟩, ⟨some 4, none, .ld (.t 3)⟩, ⟨some 5, none, .bin .lss (.t 4) (.v (.int .i64 0))⟩, ⟨some 6, none, .mov (.t 5)⟩, ⟨some 7, (some (6, false)), .fa 0 (.t 1)⟩, ⟨some 8, (some (6, false)), .ld (.t 7)⟩, ⟨some 9, (some (6, false)), .bin .gtr (.t 8) (.v (.int .i64 15))⟩, ⟨some 10, none, .pick (.t 6) (.v (.bool true)) (.t 9)⟩])
  (.cond (.t 10) (.seq (.ops [⟨some 2, none, .mov (.v (.int .i64 2))⟩])
   .ret) .skip))
  (.seq (.ops [⟨some 2, none, .mov (.v (.int .i64 0))⟩])
  .ret))), 11, [.tmp 2]⟩
theorem Tryd.ek18 : KnownE Tryd.prog 18 Tryd.ec18 := ⟨Tryd.f18, _, Tryd.func18, rfl, by kernel_rfl, rfl, by kernel_rfl, by kernel_rfl⟩
/-- redwax/paths.Check -/
def Tryd.ec29 : EFn := ⟨(.seq (.ops [⟨some 2, none, .mov (.v (.int .i64 0))⟩])
  (.seq (.seq (.ops [⟨some 3, none, .mov (.t 0)⟩, ⟨some 4, none, .call 63 [(.t 3)]⟩, ⟨some 5, none, .not (.t 4)⟩])
  (.cond (.t 5) (.seq (.ops [⟨some 2, none, .mov (.v (.int .i64 15))⟩])
   .ret) .skip))
  (.seq (.ops [⟨some 2, none, .mov (.v (.int .i64 0))⟩])
  .ret))), 6, [.tmp 2]⟩
theorem Tryd.ek29 : KnownE Tryd.prog 29 Tryd.ec29 := ⟨Tryd.f29, _, Tryd.func29, rfl, by kernel_rfl, rfl, by kernel_rfl, by kernel_rfl⟩
/-- redwax/paths.Prefix -/
def Tryd.ec31 : EFn := ⟨(.seq (.ops [⟨some 2, none, .mov (.v (.int .i64 0))⟩])
  (.seq (.seq (.ops [⟨some 3, none, .mov (.t 0)⟩, ⟨some 4, none, .bin .eql (.t 3) (.v (.string ⟨#[]⟩))⟩])
  (.cond (.t 4) (.seq (.ops [⟨some 2, none, .mov (.v (.int .i64 0))⟩])
   .ret) .skip))
  (.seq (.ops [⟨some 5, none, .mov (.t 0)⟩, ⟨some 6, none, .call 29 [(.t 5)]⟩, ⟨some 2, none, .mov (.t 6)⟩])
  .ret))), 7, [.tmp 2]⟩
theorem Tryd.ek31 : KnownE Tryd.prog 31 Tryd.ec31 := ⟨Tryd.f31, _, Tryd.func31, rfl, by kernel_rfl, rfl, by kernel_rfl, by kernel_rfl⟩
/-- redwax/paths.Under -/
def Tryd.ec36 : EFn := ⟨(.seq (.ops [⟨some 4, none, .mov (.v (.bool false))⟩])
  (.seq (.seq (.ops [⟨some 5, none, .mov (.t 1)⟩, ⟨some 6, none, .call 63 [(.t 5)]⟩, ⟨some 7, none, .not (.t 6)⟩, ⟨some 8, none, .mov (.t 7)⟩, ⟨some 9, (some (8, false)), .mov (.t 0)⟩, ⟨some 10, (some (8, false)), .call 31 [(.t 9)]⟩, ⟨some 11, (some (8, false)), .bin .neq (.t 10) (.v (.int .i64 0))⟩, ⟨some 12, none, .pick (.t 8) (.v (.bool true)) (.t 11)⟩])
  (.cond (.t 12) (.seq (.ops [⟨some 4, none, .mov (.v (.bool false))⟩])
   .ret) .skip))
  (.seq (.ops [⟨some 13, none, .mov (.t 0)⟩, ⟨some 14, none, .bin .eql (.t 13) (.v (.string ⟨#[]⟩))⟩, ⟨some 15, none, .mov (.t 14)⟩, ⟨some 16, (some (15, false)), .mov (.t 0)⟩, ⟨some 17, (some (15, false)), .mov (.t 1)⟩, ⟨some 18, (some (15, false)), .bin .eql (.t 16) (.t 17)⟩, ⟨some 19, none, .pick (.t 15) (.v (.bool true)) (.t 18)⟩, ⟨some 20, none, .mov (.t 19)⟩, ⟨some 21, (some (20, false)), .mov (.t 1)⟩, ⟨some 22, (some (20, false)), .mov (.t 0)⟩, ⟨some 23, (some (20, false)), .bin .add (.t 22) (.v (.string ⟨#[47]⟩))⟩, ⟨some 24, (some (20, false)), .call 66 [(.t 21), (.t 23)]⟩, ⟨some 25, none, .pick (.t 20) (.v (.bool true)) (.t 24)⟩, ⟨some 4, none, .mov (.t 25)⟩])
  .ret))), 26, [.tmp 4]⟩
theorem Tryd.ek36 : KnownE Tryd.prog 36 Tryd.ec36 := ⟨Tryd.f36, _, Tryd.func36, rfl, by kernel_rfl, rfl, by kernel_rfl, by kernel_rfl⟩
/-- redwax/redwaxlaw07.awake -/
def Tryd.ec41 : EFn := ⟨(.seq (.ops [⟨some 0, none, .mov (.v (.bool false))⟩])
  (.seq (.ops [⟨some 2, none, .call 68 []⟩, ⟨some 1, none, .al 45 [.int .i64 0, .slice none 0 0]⟩, ⟨none, none, .st 2 (.t 1) (.t 2)⟩])
  (.seq (.ops [⟨some 3, none, .ldA 2 (.t 1)⟩, ⟨some 4, none, .call 47 [(.t 3)]⟩, ⟨some 5, none, .bin .eql (.t 4) (.v (.int .i64 0))⟩, ⟨some 6, none, .mov (.t 5)⟩, ⟨some 7, (some (6, true)), .ldA 2 (.t 1)⟩, ⟨some 8, (some (6, true)), .call 49 [(.t 7), (.v (.string ⟨#[120]⟩))]⟩, ⟨some 9, (some (6, true)), .call 69 [(.v (.int .i64 1)), (.v (.int .u64 0))]⟩, ⟨some 10, (some (6, true)), .eqA false 24 [.int .i64, .int .u64] (.t 8) (.t 9)⟩, ⟨some 11, none, .pick (.t 6) (.t 10) (.v (.bool false))⟩, ⟨some 12, none, .mov (.t 11)⟩, ⟨some 13, (some (12, true)), .ldA 2 (.t 1)⟩, ⟨some 14, (some (12, true)), .call 49 [(.t 13), (.v (.string ⟨#[97, 98]⟩))]⟩, ⟨some 15, (some (12, true)), .call 69 [(.v (.int .i64 1)), (.v (.int .u64 0))]⟩, ⟨some 16, (some (12, true)), .eqA false 24 [.int .i64, .int .u64] (.t 14) (.t 15)⟩, ⟨some 17, none, .pick (.t 12) (.t 16) (.v (.bool false))⟩, ⟨some 18, none, .mov (.t 17)⟩, ⟨some 19, (some (18, true)), .ldA 2 (.t 1)⟩, ⟨some 20, (some (18, true)), .call 49 [(.t 19), (.v (.string ⟨#[97, 47, 99]⟩))]⟩, ⟨some 21, (some (18, true)), .call 69 [(.v (.int .i64 2)), (.v (.int .u64 1))]⟩, ⟨some 22, (some (18, true)), .eqA false 24 [.int .i64, .int .u64] (.t 20) (.t 21)⟩, ⟨some 23, none, .pick (.t 18) (.t 22) (.v (.bool false))⟩, ⟨some 24, none, .mov (.t 23)⟩, ⟨some 25, (some (24, true)), .ldA 2 (.t 1)⟩, ⟨some 26, (some (24, true)), .call 49 [(.t 25), (.v (.string ⟨#[97, 47, 98, 47, 99]⟩))]⟩, ⟨some 27, (some (24, true)), .call 69 [(.v (.int .i64 0)), (.v (.int .u64 0))]⟩, ⟨some 28, (some (24, true)), .eqA false 24 [.int .i64, .int .u64] (.t 26) (.t 27)⟩, ⟨some 29, none, .pick (.t 24) (.t 28) (.v (.bool false))⟩, ⟨some 0, none, .mov (.t 29)⟩])
  .ret))), 30, [.tmp 0]⟩
theorem Tryd.ek41 : KnownE Tryd.prog 41 Tryd.ec41 := ⟨Tryd.f41, _, Tryd.func41, rfl, by kernel_rfl, rfl, by kernel_rfl, by kernel_rfl⟩
/-- redwax/rules.Check -/
def Tryd.ec47 : EFn := ⟨(.seq (.ops [⟨some 1, none, .bx 45 (.t 0)⟩, ⟨some 2, none, .mov (.v (.int .i64 0))⟩])
  (.seq (.seq (.ops [⟨some 5, none, .fa 1 (.t 1)⟩, ⟨some 6, none, .ld (.t 5)⟩, ⟨some 7, none, .lenS (.t 6)⟩, ⟨some 8, none, .bin .gtr (.t 7) (.v (.int .i64 32))⟩, ⟨some 9, none, .mov (.t 8)⟩, ⟨some 10, (some (9, false)), .fa 0 (.t 1)⟩, ⟨some 11, (some (9, false)), .ld (.t 10)⟩, ⟨some 12, (some (9, false)), .fa 1 (.t 1)⟩, ⟨some 13, (some (9, false)), .ld (.t 12)⟩, ⟨some 14, (some (9, false)), .lenS (.t 13)⟩, ⟨some 15, (some (9, false)), .bin .lss (.t 11) (.t 14)⟩, ⟨some 16, none, .pick (.t 9) (.v (.bool true)) (.t 15)⟩])
  (.cond (.t 16) (.seq (.ops [⟨some 2, none, .mov (.v (.int .i64 2))⟩])
   .ret) .skip))
  (.seq (.seq (.ops [⟨some 17, none, .fa 1 (.t 1)⟩, ⟨some 18, none, .ld (.t 17)⟩, ⟨some 19, none, .lenS (.t 18)⟩, ⟨some 20, none, .mov (.v (.int .i64 0))⟩])
  (.block 0 (.loop [1, 18, 19, 20] (.seq (.ops [⟨some 21, none, .bin .lss (.t 20) (.t 19)⟩])
    (.seq (.cond (.t 21) .skip (.exit 0))
    (.seq (.block 1 (.seq (.ops [⟨some 22, none, .mov (.t 20)⟩, ⟨some 23, none, .ixS 3 (.t 18) (.t 20)⟩, ⟨some 24, none, .ldA 3 (.t 23)⟩, ⟨some 4, none, .al 56 [.string ⟨#[]⟩, .int .i64 0, .int .u64 0]⟩, ⟨some 3, none, .mov (.t 22)⟩, ⟨none, none, .st 3 (.t 4) (.t 24)⟩])
     (.seq (.drawn [0, 1, 3, 7, 15, 7, 39, 127, 255, 511, 7, 1031, 4095, 8191, 16383, 32767, 65535, 131071, 262143, 524287, 1048575, 2097151, 4194303, 8388607, 16777215, 33554431] 12 [⟨some 25, none, .mov (.t 3)⟩, ⟨some 26, none, .bin .gtr (.t 25) (.v (.int .i64 0))⟩, ⟨some 27, none, .mov (.t 26)⟩, ⟨some 28, (some (27, true)), .fa 1 (.t 1)⟩, ⟨some 29, (some (27, true)), .ld (.t 28)⟩, ⟨some 30, (some (27, true)), .mov (.t 3)⟩, ⟨some 31, (some (27, true)), .bin .sub (.t 30) (.v (.int .i64 1))⟩, ⟨some 32, (some (27, true)), .ixS 3 (.t 29) (.t 31)⟩, ⟨some 33, (some (27, true)), .fa 0 (.t 32)⟩, ⟨some 34, (some (27, true)), .ld (.t 33)⟩, ⟨some 35, (some (27, true)), .fa 0 (.t 4)⟩, ⟨some 36, (some (27, true)), .ld (.t 35)⟩, ⟨some 37, (some (27, true)), .bin .geq (.t 34) (.t 36)⟩, ⟨some 38, none, .pick (.t 27) (.t 37) (.v (.bool false))⟩, ⟨some 39, none, .mov (.t 38)⟩, ⟨some 40, (some (39, false)), .fa 0 (.t 4)⟩, ⟨some 41, (some (39, false)), .ld (.t 40)⟩, ⟨some 42, (some (39, false)), .call 70 [(.t 41)]⟩, ⟨some 43, (some (39, false)), .not (.t 42)⟩, ⟨some 44, none, .pick (.t 39) (.v (.bool true)) (.t 43)⟩, ⟨some 45, none, .mov (.t 44)⟩, ⟨some 46, (some (45, false)), .fa 1 (.t 4)⟩, ⟨some 47, (some (45, false)), .ldA 2 (.t 46)⟩, ⟨some 48, (some (45, false)), .call 18 [(.t 47)]⟩, ⟨some 49, (some (45, false)), .bin .neq (.t 48) (.v (.int .i64 0))⟩, ⟨some 50, none, .pick (.t 45) (.v (.bool true)) (.t 49)⟩])
     (.cond (.t 50) (.seq (.ops [⟨some 2, none, .mov (.v (.int .i64 2))⟩])
      .ret) .skip))))
    (.ops [⟨some 51, none, .bin .add (.t 20) (.v (.int .i64 1))⟩, ⟨some 20, none, .mov (.t 51)⟩])))))))
  (.seq (.ops [⟨some 2, none, .mov (.v (.int .i64 0))⟩])
  .ret)))), 52, [.tmp 2]⟩
theorem Tryd.ek47 : KnownE Tryd.prog 47 Tryd.ec47 := ⟨Tryd.f47, _, Tryd.func47, rfl, by kernel_rfl, rfl, by kernel_rfl, by kernel_rfl⟩
/-- redwax/rules.Find -/
def Tryd.ec49 : EFn := ⟨(.seq (.ops [⟨some 2, none, .bx 45 (.t 0)⟩, ⟨some 4, none, .al 24 [.int .i64 0, .int .u64 0]⟩])
  (.seq (.ops [⟨some 5, none, .mov (.v (.int .i64 (-1)))⟩])
  (.seq (.seq (.ops [⟨some 8, none, .fa 1 (.t 2)⟩, ⟨some 9, none, .ld (.t 8)⟩, ⟨some 10, none, .lenS (.t 9)⟩, ⟨some 11, none, .mov (.v (.int .i64 0))⟩])
  (.block 0 (.loop [1, 4, 5, 9, 10, 11] (.seq (.ops [⟨some 12, none, .bin .lss (.t 11) (.t 10)⟩])
    (.seq (.cond (.t 12) .skip (.exit 0))
    (.seq (.block 1 (.seq (.ops [⟨some 13, none, .ixS 3 (.t 9) (.t 11)⟩, ⟨some 14, none, .ldA 3 (.t 13)⟩, ⟨some 7, none, .al 56 [.string ⟨#[]⟩, .int .i64 0, .int .u64 0]⟩, ⟨none, none, .st 3 (.t 7) (.t 14)⟩])
     (.seq (.ops [⟨some 15, none, .fa 0 (.t 7)⟩, ⟨some 16, none, .ld (.t 15)⟩, ⟨some 17, none, .lenStr (.t 16)⟩, ⟨some 18, none, .mov (.t 5)⟩, ⟨some 19, none, .bin .gtr (.t 17) (.t 18)⟩, ⟨some 20, none, .mov (.t 19)⟩, ⟨some 21, (some (20, true)), .fa 0 (.t 7)⟩, ⟨some 22, (some (20, true)), .ld (.t 21)⟩, ⟨some 23, (some (20, true)), .mov (.t 1)⟩, ⟨some 24, (some (20, true)), .call 77 [(.t 22), (.t 23)]⟩, ⟨some 25, none, .pick (.t 20) (.t 24) (.v (.bool false))⟩])
     (.cond (.t 25) (.drawn [0, 1, 3, 0, 8, 7, 63] 6 [⟨some 26, none, .fa 0 (.t 7)⟩, ⟨some 27, none, .ld (.t 26)⟩, ⟨some 28, none, .lenStr (.t 27)⟩, ⟨some 29, none, .fa 1 (.t 7)⟩, ⟨some 30, none, .ldA 2 (.t 29)⟩, ⟨some 5, none, .mov (.t 28)⟩, ⟨none, none, .st 2 (.t 4) (.t 30)⟩]) .skip))))
    (.ops [⟨some 31, none, .bin .add (.t 11) (.v (.int .i64 1))⟩, ⟨some 11, none, .mov (.t 31)⟩])))))))
  (.seq (.ops [⟨some 32, none, .ldA 2 (.t 4)⟩, ⟨none, none, .st 2 (.t 4) (.t 32)⟩])
  .ret)))), 33, [.cell 4 (some 2)]⟩
theorem Tryd.ek49 : KnownE Tryd.prog 49 Tryd.ec49 := ⟨Tryd.f49, _, Tryd.func49, rfl, by kernel_rfl, rfl, by kernel_rfl, by kernel_rfl⟩
/-- redwax/paths.is -/
def Tryd.ec63 : EFn := ⟨(.seq (.ops [⟨some 2, none, .mov (.v (.bool false))⟩])
  (.seq (.seq (.ops [⟨some 4, none, .mov (.t 0)⟩, ⟨some 5, none, .lenStr (.t 4)⟩, ⟨some 6, none, .bin .gtr (.t 5) (.v (.int .i64 60))⟩])
  (.cond (.t 6) (.seq (.ops [⟨some 2, none, .mov (.v (.bool false))⟩])
   .ret) .skip))
  (.seq (.ops [⟨some 7, none, .mov (.t 0)⟩, ⟨some 8, none, .call 64 [(.t 7), (.v (.string ⟨#[47]⟩))]⟩, ⟨some 3, none, .mov (.t 8)⟩])
  (.seq (.ops [⟨some 9, none, .mov (.t 3)⟩, ⟨some 10, none, .lenS (.t 9)⟩, ⟨some 11, none, .bin .leq (.t 10) (.v (.int .i64 8))⟩, ⟨some 12, none, .mov (.t 11)⟩, ⟨some 13, (some (12, true)), .mov (.t 3)⟩, ⟨some 14, (some (12, true)), .call 88 [(.t 13), (.v (.func (.func 89) #[] #[]))]⟩, ⟨some 15, (some (12, true)), .not (.t 14)⟩, ⟨some 16, none, .pick (.t 12) (.t 15) (.v (.bool false))⟩, ⟨some 2, none, .mov (.t 16)⟩])
  .ret)))), 17, [.tmp 2]⟩
theorem Tryd.ek63 : KnownE Tryd.prog 63 Tryd.ec63 := ⟨Tryd.f63, _, Tryd.func63, rfl, by kernel_rfl, rfl, by kernel_rfl, by kernel_rfl⟩
/-- strings.Split -/
def Tryd.ec64 : EFn := ⟨(.seq (.ops [⟨some 4, none, .mov (.v (.slice none 0 0))⟩])
  (.seq (.ops [⟨some 5, none, .mov (.t 0)⟩, ⟨some 6, none, .mov (.t 1)⟩, ⟨some 7, none, .call 91 [(.t 5), (.t 6), (.v (.int .i64 0)), (.v (.int .i64 (-1)))]⟩, ⟨some 4, none, .mov (.t 7)⟩])
  .ret)), 8, [.tmp 4]⟩
theorem Tryd.ek64 : KnownE Tryd.prog 64 Tryd.ec64 := ⟨Tryd.f64, _, Tryd.func64, rfl, by kernel_rfl, rfl, by kernel_rfl, by kernel_rfl⟩
/-- strings.HasPrefix -/
def Tryd.ec66 : EFn := ⟨(.seq (.ops [⟨some 4, none, .mov (.v (.bool false))⟩])
  (.seq (.ops [⟨some 5, none, .mov (.t 0)⟩, ⟨some 6, none, .mov (.t 1)⟩, ⟨some 7, none, .call 93 [(.t 5), (.t 6)]⟩, ⟨some 4, none, .mov (.t 7)⟩])
  .ret)), 8, [.tmp 4]⟩
theorem Tryd.ek66 : KnownE Tryd.prog 66 Tryd.ec66 := ⟨Tryd.f66, _, Tryd.func66, rfl, by kernel_rfl, rfl, by kernel_rfl, by kernel_rfl⟩
/-- redwax/redwaxlaw07.given -/
def Tryd.ec68 : EFn := ⟨(.seq (.ops [⟨some 0, none, .al 45 [.int .i64 0, .slice none 0 0]⟩])
  (.seq (.ops [⟨some 1, none, .call 69 [(.v (.int .i64 1)), (.v (.int .u64 0))]⟩, ⟨some 2, none, .build [.string ⟨#[]⟩, .int .i64 0, .int .u64 0] [(1, 2, (.t 1))]⟩, ⟨some 3, none, .call 69 [(.v (.int .i64 2)), (.v (.int .u64 1))]⟩, ⟨some 4, none, .build [.string ⟨#[]⟩, .int .i64 0, .int .u64 0] [(0, 1, (.v (.string ⟨#[97]⟩))), (1, 2, (.t 3))]⟩, ⟨some 5, none, .build [.string ⟨#[]⟩, .int .i64 0, .int .u64 0] [(0, 1, (.v (.string ⟨#[97, 47, 98]⟩)))]⟩, ⟨some 6, none, .bsl 56 [.string ⟨#[]⟩, .int .i64 0, .int .u64 0, .string ⟨#[]⟩, .int .i64 0, .int .u64 0, .string ⟨#[]⟩, .int .i64 0, .int .u64 0] 3 [(0, 3, (.t 2)), (3, 3, (.t 4)), (6, 3, (.t 5))]⟩, ⟨some 7, none, .build [.int .i64 0, .slice none 0 0] [(0, 1, (.v (.int .i64 3))), (1, 1, (.t 6))]⟩, ⟨none, none, .st 2 (.t 0) (.t 7)⟩])
  .ret)), 8, [.cell 0 (some 2)]⟩
theorem Tryd.ek68 : KnownE Tryd.prog 68 Tryd.ec68 := ⟨Tryd.f68, _, Tryd.func68, rfl, by kernel_rfl, rfl, by kernel_rfl, by kernel_rfl⟩
/-- redwax/redwaxlaw07.label -/
def Tryd.ec69 : EFn := ⟨(.seq (.ops [⟨some 4, none, .al 24 [.int .i64 0, .int .u64 0]⟩])
  (.seq (.ops [⟨some 5, none, .mov (.t 0)⟩, ⟨some 6, none, .mov (.t 1)⟩, ⟨some 7, none, .build [.int .i64 0, .int .u64 0] [(0, 1, (.t 5)), (1, 1, (.t 6))]⟩, ⟨none, none, .st 2 (.t 4) (.t 7)⟩])
  .ret)), 8, [.cell 4 (some 2)]⟩
theorem Tryd.ek69 : KnownE Tryd.prog 69 Tryd.ec69 := ⟨Tryd.f69, _, Tryd.func69, rfl, by kernel_rfl, rfl, by kernel_rfl, by kernel_rfl⟩
/-- redwax/rules.prefix -/
def Tryd.ec70 : EFn := ⟨(.seq (.ops [⟨some 2, none, .mov (.v (.bool false))⟩])
  (.seq (.ops [⟨some 3, none, .mov (.t 0)⟩, ⟨some 4, none, .bin .eql (.t 3) (.v (.string ⟨#[]⟩))⟩, ⟨some 5, none, .mov (.t 4)⟩, ⟨some 6, (some (5, false)), .mov (.t 0)⟩, ⟨some 7, (some (5, false)), .call 29 [(.t 6)]⟩, ⟨some 8, (some (5, false)), .bin .eql (.t 7) (.v (.int .i64 0))⟩, ⟨some 9, none, .pick (.t 5) (.v (.bool true)) (.t 8)⟩, ⟨some 2, none, .mov (.t 9)⟩])
  .ret)), 10, [.tmp 2]⟩
theorem Tryd.ek70 : KnownE Tryd.prog 70 Tryd.ec70 := ⟨Tryd.f70, _, Tryd.func70, rfl, by kernel_rfl, rfl, by kernel_rfl, by kernel_rfl⟩
/-- redwax/rules.over -/
def Tryd.ec77 : EFn := ⟨(.seq (.ops [⟨some 4, none, .mov (.v (.bool false))⟩])
  (.seq (.ops [⟨some 5, none, .mov (.t 0)⟩, ⟨some 6, none, .mov (.t 1)⟩, ⟨some 7, none, .bin .eql (.t 5) (.t 6)⟩, ⟨some 8, none, .mov (.t 7)⟩, ⟨some 9, (some (8, false)), .mov (.t 0)⟩, ⟨some 10, (some (8, false)), .mov (.t 1)⟩, ⟨some 11, (some (8, false)), .call 36 [(.t 9), (.t 10)]⟩, ⟨some 12, none, .pick (.t 8) (.v (.bool true)) (.t 11)⟩, ⟨some 4, none, .mov (.t 12)⟩])
  .ret)), 13, [.tmp 4]⟩
theorem Tryd.ek77 : KnownE Tryd.prog 77 Tryd.ec77 := ⟨Tryd.f77, _, Tryd.func77, rfl, by kernel_rfl, rfl, by kernel_rfl, by kernel_rfl⟩
/-- slices.ContainsFunc[[]string,string] -/
def Tryd.ec88 : EFn := ⟨(.seq (.ops [⟨some 4, none, .mov (.v (.bool false))⟩])
  (.seq (.ops [⟨some 5, none, .mov (.t 0)⟩, ⟨some 6, none, .mov (.t 1)⟩, ⟨some 7, none, .call 105 [(.t 5), (.t 6)]⟩, ⟨some 8, none, .bin .geq (.t 7) (.v (.int .i64 0))⟩, ⟨some 4, none, .mov (.t 8)⟩])
  .ret)), 9, [.tmp 4]⟩
theorem Tryd.ek88 : KnownE Tryd.prog 88 Tryd.ec88 := ⟨Tryd.f88, _, Tryd.func88, rfl, by kernel_rfl, rfl, by kernel_rfl, by kernel_rfl⟩
/-- redwax/paths.is$1 -/
def Tryd.ec89 : EFn := ⟨(.seq (.ops [⟨some 2, none, .mov (.v (.bool false))⟩])
  (.seq (.ops [⟨some 3, none, .mov (.t 0)⟩, ⟨some 4, none, .call 90 [(.t 3)]⟩, ⟨some 5, none, .not (.t 4)⟩, ⟨some 2, none, .mov (.t 5)⟩])
  .ret)), 6, [.tmp 2]⟩
theorem Tryd.ek89 : KnownE Tryd.prog 89 Tryd.ec89 := ⟨Tryd.f89, _, Tryd.func89, rfl, by kernel_rfl, rfl, by kernel_rfl, by kernel_rfl⟩
/-- redwax/paths.part -/
def Tryd.ec90 : EFn := ⟨(.seq (.ops [⟨some 2, none, .mov (.v (.bool false))⟩])
  (.seq (.ops [⟨some 3, none, .mov (.v (.int .i64 0))⟩])
  (.seq (.seq (.ops [⟨some 6, none, .mov (.t 0)⟩, ⟨some 7, none, .more (.rngS (.t 6))⟩])
  (.block 0 (.loop [0, 3, 7] (.seq (.ops [⟨some 8, none, .more (.nxtS (.t 7))⟩, ⟨some 9, none, .ext 0 (.t 8)⟩])
    (.seq (.cond (.t 9) .skip (.exit 0))
    (.block 1 (.seq (.ops [⟨some 10, none, .ext 2 (.t 8)⟩, ⟨some 5, none, .mov (.t 10)⟩])
     (.seq (.seq (.ops [⟨some 11, none, .mov (.t 5)⟩, ⟨some 12, none, .call 106 [(.t 11)]⟩, ⟨some 13, none, .not (.t 12)⟩])
     (.cond (.t 13) (.seq (.ops [⟨some 2, none, .mov (.v (.bool false))⟩])
      .ret) .skip))
     (.seq (.ops [⟨some 14, none, .mov (.t 5)⟩, ⟨some 15, none, .bin .eql (.t 14) (.v (.int .i32 46))⟩])
     (.cond (.t 15) (.ops [⟨some 16, none, .mov (.t 3)⟩, ⟨some 17, none, .bin .add (.t 16) (.v (.int .i64 1))⟩, ⟨some 3, none, .mov (.t 17)⟩]) .skip))))))))))
  (.seq (.ops [⟨some 18, none, .mov (.t 3)⟩, ⟨some 19, none, .mov (.t 0)⟩, ⟨some 20, none, .lenStr (.t 19)⟩, ⟨some 21, none, .bin .lss (.t 18) (.t 20)⟩, ⟨some 2, none, .mov (.t 21)⟩])
  .ret)))), 22, [.tmp 2]⟩
theorem Tryd.ek90 : KnownE Tryd.prog 90 Tryd.ec90 := ⟨Tryd.f90, _, Tryd.func90, rfl, by kernel_rfl, rfl, by kernel_rfl, by kernel_rfl⟩
/-- strings.genSplit -/
def Tryd.ec91 : EFn := ⟨(.seq (.ops [⟨some 8, none, .mov (.v (.slice none 0 0))⟩])
  (.seq (.seq (.ops [⟨some 12, none, .mov (.t 3)⟩, ⟨some 13, none, .bin .eql (.t 12) (.v (.int .i64 0))⟩])
  (.cond (.t 13) (.seq (.ops [⟨some 8, none, .mov (.v (.slice none 0 0))⟩])
   .ret) .skip))
  (.seq (.seq (.ops [⟨some 14, none, .mov (.t 1)⟩, ⟨some 15, none, .bin .eql (.t 14) (.v (.string ⟨#[]⟩))⟩])
  (.cond (.t 15) (.seq (.ops [⟨some 16, none, .mov (.t 0)⟩, ⟨some 17, none, .mov (.t 3)⟩, ⟨some 18, none, .call 107 [(.t 16), (.t 17)]⟩, ⟨some 8, none, .mov (.t 18)⟩])
   .ret) .skip))
  (.seq (.seq (.ops [⟨some 19, none, .mov (.t 3)⟩, ⟨some 20, none, .bin .lss (.t 19) (.v (.int .i64 0))⟩])
  (.cond (.t 20) (.ops [⟨some 21, none, .mov (.t 0)⟩, ⟨some 22, none, .mov (.t 1)⟩, ⟨some 23, none, .call 108 [(.t 21), (.t 22)]⟩, ⟨some 24, none, .bin .add (.t 23) (.v (.int .i64 1))⟩, ⟨some 3, none, .mov (.t 24)⟩]) .skip))
  (.seq (.ops [⟨some 25, none, .mov (.t 3)⟩, ⟨some 26, none, .mov (.t 0)⟩, ⟨some 27, none, .lenStr (.t 26)⟩, ⟨some 28, none, .bin .add (.t 27) (.v (.int .i64 1))⟩, ⟨some 29, none, .mnx false [(.t 25), (.t 28)]⟩, ⟨some 3, none, .mov (.t 29)⟩])
  (.seq (.ops [⟨some 30, none, .mov (.t 3)⟩, ⟨some 31, none, .mkS 35 9 1 16 (.string ⟨#[]⟩) (.t 30) (.t 30)⟩, ⟨some 9, none, .mov (.t 31)⟩])
  (.seq (.ops [⟨some 32, none, .mov (.t 3)⟩, ⟨some 33, none, .bin .sub (.t 32) (.v (.int .i64 1))⟩, ⟨some 3, none, .mov (.t 33)⟩])
  (.seq (.ops [⟨some 10, none, .mov (.v (.int .i64 0))⟩])
  (.seq (.block 0 (.loop [0, 1, 2, 3, 9, 10] (.seq (.seq (.ops [⟨some 34, none, .mov (.t 10)⟩, ⟨some 35, none, .mov (.t 3)⟩, ⟨some 36, none, .bin .lss (.t 34) (.t 35)⟩])
    (.cond (.t 36) .skip (.exit 0)))
    (.block 1 (.seq (.ops [⟨some 37, none, .mov (.t 0)⟩, ⟨some 38, none, .mov (.t 1)⟩, ⟨some 39, none, .call 109 [(.t 37), (.t 38)]⟩, ⟨some 11, none, .mov (.t 39)⟩])
     (.seq (.seq (.ops [⟨some 40, none, .mov (.t 11)⟩, ⟨some 41, none, .bin .lss (.t 40) (.v (.int .i64 0))⟩])
     (.cond (.t 41) (.exit 0) .skip))
     (.seq (.ops [⟨some 42, none, .mov (.t 9)⟩, ⟨some 43, none, .mov (.t 10)⟩, ⟨some 44, none, .mov (.t 0)⟩, ⟨some 45, none, .mov (.t 11)⟩, ⟨some 46, none, .mov (.t 2)⟩, ⟨some 47, none, .bin .add (.t 45) (.t 46)⟩, ⟨some 48, none, .slStr (.t 44) none (some (.t 47))⟩, ⟨some 49, none, .ixS 1 (.t 42) (.t 43)⟩, ⟨none, none, .st 1 (.t 49) (.t 48)⟩])
     (.seq (.ops [⟨some 50, none, .mov (.t 0)⟩, ⟨some 51, none, .mov (.t 11)⟩, ⟨some 52, none, .mov (.t 1)⟩, ⟨some 53, none, .lenStr (.t 52)⟩, ⟨some 54, none, .bin .add (.t 51) (.t 53)⟩, ⟨some 55, none, .slStr (.t 50) (some (.t 54)) none⟩, ⟨some 0, none, .mov (.t 55)⟩])
     (.ops [⟨some 56, none, .mov (.t 10)⟩, ⟨some 57, none, .bin .add (.t 56) (.v (.int .i64 1))⟩, ⟨some 10, none, .mov (.t 57)⟩])))))))))
  (.seq (.ops [⟨some 58, none, .mov (.t 9)⟩, ⟨some 59, none, .mov (.t 10)⟩, ⟨some 60, none, .mov (.t 0)⟩, ⟨some 61, none, .ixS 1 (.t 58) (.t 59)⟩, ⟨none, none, .st 1 (.t 61) (.t 60)⟩])
  (.seq (.ops [⟨some 62, none, .mov (.t 9)⟩, ⟨some 63, none, .mov (.t 10)⟩, ⟨some 64, none, .bin .add (.t 63) (.v (.int .i64 1))⟩, ⟨some 65, none, .slS 1 (.t 62) none (some (.t 64))⟩, ⟨some 8, none, .mov (.t 65)⟩])
  .ret))))))))))), 66, [.tmp 8]⟩
theorem Tryd.ek91 : KnownE Tryd.prog 91 Tryd.ec91 := ⟨Tryd.f91, _, Tryd.func91, rfl, by kernel_rfl, rfl, by kernel_rfl, by kernel_rfl⟩
/-- internal/stringslite.HasPrefix -/
def Tryd.ec93 : EFn := ⟨(.seq (.ops [⟨some 4, none, .mov (.v (.bool false))⟩])
  (.seq (.ops [⟨some 5, none, .mov (.t 0)⟩, ⟨some 6, none, .lenStr (.t 5)⟩, ⟨some 7, none, .mov (.t 1)⟩, ⟨some 8, none, .lenStr (.t 7)⟩, ⟨some 9, none, .bin .geq (.t 6) (.t 8)⟩, ⟨some 10, none, .mov (.t 9)⟩, ⟨some 11, (some (10, true)), .mov (.t 0)⟩, ⟨some 12, (some (10, true)), .mov (.t 1)⟩, ⟨some 13, (some (10, true)), .lenStr (.t 12)⟩, ⟨some 14, (some (10, true)), .slStr (.t 11) none (some (.t 13))⟩, ⟨some 15, (some (10, true)), .mov (.t 1)⟩, ⟨some 16, (some (10, true)), .bin .eql (.t 14) (.t 15)⟩, ⟨some 17, none, .pick (.t 10) (.t 16) (.v (.bool false))⟩, ⟨some 4, none, .mov (.t 17)⟩])
  .ret)), 18, [.tmp 4]⟩
theorem Tryd.ek93 : KnownE Tryd.prog 93 Tryd.ec93 := ⟨Tryd.f93, _, Tryd.func93, rfl, by kernel_rfl, rfl, by kernel_rfl, by kernel_rfl⟩
/-- slices.IndexFunc[[]string,string] -/
def Tryd.ec105 : EFn := ⟨(.seq (.ops [⟨some 4, none, .mov (.v (.int .i64 0))⟩])
  (.seq (.seq (.ops [⟨some 6, none, .mov (.t 0)⟩, ⟨some 7, none, .lenS (.t 6)⟩, ⟨some 8, none, .mov (.v (.int .i64 0))⟩])
  (.block 0 (.loop [0, 1, 7, 8] (.seq (.ops [⟨some 9, none, .bin .lss (.t 8) (.t 7)⟩])
    (.seq (.cond (.t 9) .skip (.exit 0))
    (.seq (.block 1 (.seq (.ops [⟨some 10, none, .mov (.t 8)⟩, ⟨some 5, none, .mov (.t 10)⟩])
     (.seq (.ops [⟨some 11, none, .mov (.t 1)⟩, ⟨some 12, none, .mov (.t 0)⟩, ⟨some 13, none, .mov (.t 5)⟩, ⟨some 14, none, .ixS 1 (.t 12) (.t 13)⟩, ⟨some 15, none, .ld (.t 14)⟩, ⟨some 16, none, .callv (.t 11) [(.t 15)]⟩])
     (.cond (.t 16) (.seq (.ops [⟨some 17, none, .mov (.t 5)⟩, ⟨some 4, none, .mov (.t 17)⟩])
      .ret) .skip))))
    (.ops [⟨some 18, none, .bin .add (.t 8) (.v (.int .i64 1))⟩, ⟨some 8, none, .mov (.t 18)⟩])))))))
  (.seq (.ops [⟨some 4, none, .mov (.v (.int .i64 (-1)))⟩])
  .ret))), 19, [.tmp 4]⟩
theorem Tryd.ek105 : KnownE Tryd.prog 105 Tryd.ec105 := ⟨Tryd.f105, _, Tryd.func105, rfl, by kernel_rfl, rfl, by kernel_rfl, by kernel_rfl⟩
/-- redwax/paths.may -/
def Tryd.ec106 : EFn := ⟨(.seq (.ops [⟨some 2, none, .mov (.v (.bool false))⟩])
  (.seq (.ops [⟨some 3, none, .mov (.t 0)⟩, ⟨some 4, none, .bin .geq (.t 3) (.v (.int .i32 97))⟩, ⟨some 5, none, .mov (.t 4)⟩, ⟨some 6, (some (5, true)), .mov (.t 0)⟩, ⟨some 7, (some (5, true)), .bin .leq (.t 6) (.v (.int .i32 122))⟩, ⟨some 8, none, .pick (.t 5) (.t 7) (.v (.bool false))⟩, ⟨some 9, none, .mov (.t 8)⟩, ⟨some 10, (some (9, false)), .mov (.t 0)⟩, ⟨some 11, (some (9, false)), .bin .geq (.t 10) (.v (.int .i32 65))⟩, ⟨some 12, (some (9, false)), .mov (.t 11)⟩, ⟨some 13, (some (12, true)), .mov (.t 0)⟩, ⟨some 14, (some (12, true)), .bin .leq (.t 13) (.v (.int .i32 90))⟩, ⟨some 15, (some (9, false)), .pick (.t 12) (.t 14) (.v (.bool false))⟩, ⟨some 16, none, .pick (.t 9) (.v (.bool true)) (.t 15)⟩, ⟨some 17, none, .mov (.t 16)⟩, ⟨some 18, (some (17, false)), .mov (.t 0)⟩, ⟨some 19, (some (17, false)), .bin .geq (.t 18) (.v (.int .i32 48))⟩, ⟨some 20, (some (17, false)), .mov (.t 19)⟩, ⟨some 21, (some (20, true)), .mov (.t 0)⟩, ⟨some 22, (some (20, true)), .bin .leq (.t 21) (.v (.int .i32 57))⟩, ⟨some 23, (some (17, false)), .pick (.t 20) (.t 22) (.v (.bool false))⟩, ⟨some 24, none, .pick (.t 17) (.v (.bool true)) (.t 23)⟩, ⟨some 25, none, .mov (.t 24)⟩, ⟨some 26, (some (25, false)), .mov (.t 0)⟩, ⟨some 27, (some (25, false)), .bin .eql (.t 26) (.v (.int .i32 95))⟩, ⟨some 28, none, .pick (.t 25) (.v (.bool true)) (.t 27)⟩, ⟨some 29, none, .mov (.t 28)⟩, ⟨some 30, (some (29, false)), .mov (.t 0)⟩, ⟨some 31, (some (29, false)), .bin .eql (.t 30) (.v (.int .i32 45))⟩, ⟨some 32, none, .pick (.t 29) (.v (.bool true)) (.t 31)⟩, ⟨some 33, none, .mov (.t 32)⟩, ⟨some 34, (some (33, false)), .mov (.t 0)⟩, ⟨some 35, (some (33, false)), .bin .eql (.t 34) (.v (.int .i32 46))⟩, ⟨some 36, none, .pick (.t 33) (.v (.bool true)) (.t 35)⟩, ⟨some 2, none, .mov (.t 36)⟩])
  .ret)), 37, [.tmp 2]⟩
theorem Tryd.ek106 : KnownE Tryd.prog 106 Tryd.ec106 := ⟨Tryd.f106, _, Tryd.func106, rfl, by kernel_rfl, rfl, by kernel_rfl, by kernel_rfl⟩
/-- strings.explode -/
def Tryd.ec107 : EFn := ⟨(.seq (.ops [⟨some 4, none, .mov (.v (.slice none 0 0))⟩])
  (.seq (.ops [⟨some 10, none, .mov (.t 0)⟩, ⟨some 11, none, .call 135 [(.t 10)]⟩, ⟨some 5, none, .mov (.t 11)⟩])
  (.seq (.seq (.ops [⟨some 12, none, .mov (.t 1)⟩, ⟨some 13, none, .bin .lss (.t 12) (.v (.int .i64 0))⟩, ⟨some 14, none, .mov (.t 13)⟩, ⟨some 15, (some (14, false)), .mov (.t 1)⟩, ⟨some 16, (some (14, false)), .mov (.t 5)⟩, ⟨some 17, (some (14, false)), .bin .gtr (.t 15) (.t 16)⟩, ⟨some 18, none, .pick (.t 14) (.v (.bool true)) (.t 17)⟩])
  (.cond (.t 18) (.ops [⟨some 19, none, .mov (.t 5)⟩, ⟨some 1, none, .mov (.t 19)⟩]) .skip))
  (.seq (.ops [⟨some 20, none, .mov (.t 1)⟩, ⟨some 21, none, .mkS 35 9 1 16 (.string ⟨#[]⟩) (.t 20) (.t 20)⟩, ⟨some 6, none, .mov (.t 21)⟩])
  (.seq (.seq (.ops [⟨some 7, none, .mov (.v (.int .i64 0))⟩])
  (.block 0 (.loop [0, 1, 6, 7] (.seq (.seq (.ops [⟨some 22, none, .mov (.t 7)⟩, ⟨some 23, none, .mov (.t 1)⟩, ⟨some 24, none, .bin .sub (.t 23) (.v (.int .i64 1))⟩, ⟨some 25, none, .bin .lss (.t 22) (.t 24)⟩])
    (.cond (.t 25) .skip (.exit 0)))
    (.seq (.block 1 (.seq (.ops [⟨some 29, none, .mov (.t 0)⟩, ⟨some 30, none, .call 136 [(.t 29)]⟩, ⟨some 28, none, .mov (.t 30)⟩, ⟨some 31, none, .ext 0 (.t 28)⟩, ⟨some 32, none, .ext 1 (.t 28)⟩, ⟨some 8, none, .mov (.t 31)⟩, ⟨some 9, none, .mov (.t 32)⟩])
     (.seq (.ops [⟨some 33, none, .mov (.t 6)⟩, ⟨some 34, none, .mov (.t 7)⟩, ⟨some 35, none, .mov (.t 0)⟩, ⟨some 36, none, .mov (.t 9)⟩, ⟨some 37, none, .slStr (.t 35) none (some (.t 36))⟩, ⟨some 38, none, .ixS 1 (.t 33) (.t 34)⟩, ⟨none, none, .st 1 (.t 38) (.t 37)⟩])
     (.ops [⟨some 39, none, .mov (.t 0)⟩, ⟨some 40, none, .mov (.t 9)⟩, ⟨some 41, none, .slStr (.t 39) (some (.t 40)) none⟩, ⟨some 0, none, .mov (.t 41)⟩]))))
    (.ops [⟨some 26, none, .mov (.t 7)⟩, ⟨some 27, none, .bin .add (.t 26) (.v (.int .i64 1))⟩, ⟨some 7, none, .mov (.t 27)⟩]))))))
  (.seq (.seq (.ops [⟨some 42, none, .mov (.t 1)⟩, ⟨some 43, none, .bin .gtr (.t 42) (.v (.int .i64 0))⟩])
  (.cond (.t 43) (.ops [⟨some 44, none, .mov (.t 6)⟩, ⟨some 45, none, .mov (.t 1)⟩, ⟨some 46, none, .bin .sub (.t 45) (.v (.int .i64 1))⟩, ⟨some 47, none, .mov (.t 0)⟩, ⟨some 48, none, .ixS 1 (.t 44) (.t 46)⟩, ⟨none, none, .st 1 (.t 48) (.t 47)⟩]) .skip))
  (.seq (.ops [⟨some 49, none, .mov (.t 6)⟩, ⟨some 4, none, .mov (.t 49)⟩])
  .ret))))))), 50, [.tmp 4]⟩
theorem Tryd.ek107 : KnownE Tryd.prog 107 Tryd.ec107 := ⟨Tryd.f107, _, Tryd.func107, rfl, by kernel_rfl, rfl, by kernel_rfl, by kernel_rfl⟩
/-- strings.Count -/
def Tryd.ec108 : EFn := ⟨(.seq (.ops [⟨some 4, none, .mov (.v (.int .i64 0))⟩])
  (.seq (.seq (.ops [⟨some 7, none, .mov (.t 1)⟩, ⟨some 8, none, .lenStr (.t 7)⟩, ⟨some 9, none, .bin .eql (.t 8) (.v (.int .i64 0))⟩])
  (.cond (.t 9) (.seq (.ops [⟨some 10, none, .mov (.t 0)⟩, ⟨some 11, none, .call 135 [(.t 10)]⟩, ⟨some 12, none, .bin .add (.t 11) (.v (.int .i64 1))⟩, ⟨some 4, none, .mov (.t 12)⟩])
   .ret) .skip))
  (.seq (.seq (.ops [⟨some 13, none, .mov (.t 1)⟩, ⟨some 14, none, .lenStr (.t 13)⟩, ⟨some 15, none, .bin .eql (.t 14) (.v (.int .i64 1))⟩])
  (.cond (.t 15) (.seq (.ops [⟨some 16, none, .mov (.t 0)⟩, ⟨some 17, none, .mov (.t 1)⟩, ⟨some 18, none, .ixStr (.t 17) (.v (.int .i64 0))⟩, ⟨some 19, none, .more (.xc 1 [(.t 16), (.t 18)])⟩, ⟨some 4, none, .mov (.t 19)⟩])
   .ret) .skip))
  (.seq (.ops [⟨some 5, none, .mov (.v (.int .i64 0))⟩])
  (.block 0 (.loop [0, 1, 5] (.block 1 (.seq (.ops [⟨some 20, none, .mov (.t 0)⟩, ⟨some 21, none, .mov (.t 1)⟩, ⟨some 22, none, .call 109 [(.t 20), (.t 21)]⟩, ⟨some 6, none, .mov (.t 22)⟩])
     (.seq (.seq (.ops [⟨some 23, none, .mov (.t 6)⟩, ⟨some 24, none, .bin .eql (.t 23) (.v (.int .i64 (-1)))⟩])
     (.cond (.t 24) (.seq (.ops [⟨some 25, none, .mov (.t 5)⟩, ⟨some 4, none, .mov (.t 25)⟩])
      .ret) .skip))
     (.seq (.ops [⟨some 26, none, .mov (.t 5)⟩, ⟨some 27, none, .bin .add (.t 26) (.v (.int .i64 1))⟩, ⟨some 5, none, .mov (.t 27)⟩])
     (.ops [⟨some 28, none, .mov (.t 0)⟩, ⟨some 29, none, .mov (.t 6)⟩, ⟨some 30, none, .mov (.t 1)⟩, ⟨some 31, none, .lenStr (.t 30)⟩, ⟨some 32, none, .bin .add (.t 29) (.t 31)⟩, ⟨some 33, none, .slStr (.t 28) (some (.t 32)) none⟩, ⟨some 0, none, .mov (.t 33)⟩]))))))))))), 34, [.tmp 4]⟩
theorem Tryd.ek108 : KnownE Tryd.prog 108 Tryd.ec108 := ⟨Tryd.f108, _, Tryd.func108, rfl, by kernel_rfl, rfl, by kernel_rfl, by kernel_rfl⟩
/-- strings.Index -/
def Tryd.ec109 : EFn := ⟨(.seq (.ops [⟨some 4, none, .mov (.v (.int .i64 0))⟩])
  (.seq (.ops [⟨some 5, none, .mov (.t 0)⟩, ⟨some 6, none, .mov (.t 1)⟩, ⟨some 7, none, .call 122 [(.t 5), (.t 6)]⟩, ⟨some 4, none, .mov (.t 7)⟩])
  .ret)), 8, [.tmp 4]⟩
theorem Tryd.ek109 : KnownE Tryd.prog 109 Tryd.ec109 := ⟨Tryd.f109, _, Tryd.func109, rfl, by kernel_rfl, rfl, by kernel_rfl, by kernel_rfl⟩
/-- internal/stringslite.Index -/
def Tryd.ec122 : EFn := ⟨(.seq (.ops [⟨some 4, none, .mov (.v (.int .i64 0))⟩])
  (.seq (.ops [⟨some 14, none, .mov (.t 1)⟩, ⟨some 15, none, .lenStr (.t 14)⟩, ⟨some 5, none, .mov (.t 15)⟩])
  (.seq (.block 0 (.seq (.ops [⟨some 17, none, .mov (.t 5)⟩, ⟨some 18, none, .bin .eql (.t 17) (.v (.int .i64 0))⟩, ⟨some 19, none, .mov (.t 18)⟩, ⟨some 20, (some (19, false)), .mov (.t 1)⟩, ⟨some 21, (some (19, false)), .mov (.t 0)⟩, ⟨some 22, (some (19, false)), .bin .eql (.t 20) (.t 21)⟩, ⟨some 23, none, .pick (.t 19) (.v (.bool true)) (.t 22)⟩, ⟨some 16, none, .mov (.t 23)⟩])
   (.cond (.t 16) (.seq (.ops [⟨some 4, none, .mov (.v (.int .i64 0))⟩])
    .ret) (.seq (.ops [⟨some 25, none, .mov (.t 5)⟩, ⟨some 26, none, .bin .eql (.t 25) (.v (.int .i64 1))⟩, ⟨some 24, none, .mov (.t 26)⟩])
    (.cond (.t 24) (.seq (.ops [⟨some 27, none, .mov (.t 0)⟩, ⟨some 28, none, .mov (.t 1)⟩, ⟨some 29, none, .ixStr (.t 28) (.v (.int .i64 0))⟩, ⟨some 30, none, .call 144 [(.t 27), (.t 29)]⟩, ⟨some 4, none, .mov (.t 30)⟩])
     .ret) (.seq (.ops [⟨some 32, none, .mov (.t 5)⟩, ⟨some 33, none, .mov (.t 0)⟩, ⟨some 34, none, .lenStr (.t 33)⟩, ⟨some 35, none, .bin .geq (.t 32) (.t 34)⟩, ⟨some 31, none, .mov (.t 35)⟩])
     (.cond (.t 31) (.seq (.ops [⟨some 4, none, .mov (.v (.int .i64 (-1)))⟩])
      .ret) (.seq (.ops [⟨some 37, none, .mov (.t 5)⟩, ⟨some 38, none, .ld (.v (.pointer (some ⟨0, 0, none⟩)))⟩, ⟨some 39, none, .bin .leq (.t 37) (.t 38)⟩, ⟨some 40, none, .mov (.t 39)⟩, ⟨some 41, (some (40, true)), .mov (.t 0)⟩, ⟨some 42, (some (40, true)), .lenStr (.t 41)⟩, ⟨some 43, (some (40, true)), .bin .leq (.t 42) (.v (.int .i64 64))⟩, ⟨some 44, none, .pick (.t 40) (.t 43) (.v (.bool false))⟩, ⟨some 36, none, .mov (.t 44)⟩])
      (.cond (.t 36) (.seq (.ops [⟨some 45, none, .mov (.t 0)⟩, ⟨some 46, none, .mov (.t 1)⟩, ⟨some 47, none, .more (.other (.xf 145 [(.t 45), (.t 46)]))⟩, ⟨some 4, none, .mov (.t 47)⟩])
       .ret) .skip)))))))))
  (.seq (.ops [⟨some 48, none, .mov (.t 1)⟩, ⟨some 49, none, .ixStr (.t 48) (.v (.int .i64 0))⟩, ⟨some 6, none, .mov (.t 49)⟩])
  (.seq (.ops [⟨some 50, none, .mov (.t 1)⟩, ⟨some 51, none, .ixStr (.t 50) (.v (.int .i64 1))⟩, ⟨some 7, none, .mov (.t 51)⟩])
  (.seq (.ops [⟨some 8, none, .mov (.v (.int .i64 0))⟩])
  (.seq (.ops [⟨some 52, none, .mov (.t 0)⟩, ⟨some 53, none, .lenStr (.t 52)⟩, ⟨some 54, none, .mov (.t 5)⟩, ⟨some 55, none, .bin .sub (.t 53) (.t 54)⟩, ⟨some 56, none, .bin .add (.t 55) (.v (.int .i64 1))⟩, ⟨some 9, none, .mov (.t 56)⟩])
  (.seq (.ops [⟨some 10, none, .mov (.v (.int .i64 0))⟩])
  (.seq (.block 1 (.loop [0, 1, 5, 6, 7, 8, 9, 10] (.seq (.seq (.ops [⟨some 57, none, .mov (.t 8)⟩, ⟨some 58, none, .mov (.t 9)⟩, ⟨some 59, none, .bin .lss (.t 57) (.t 58)⟩])
    (.cond (.t 59) .skip (.exit 1)))
    (.block 2 (.seq (.seq (.ops [⟨some 60, none, .mov (.t 0)⟩, ⟨some 61, none, .mov (.t 8)⟩, ⟨some 62, none, .ixStr (.t 60) (.t 61)⟩, ⟨some 63, none, .mov (.t 6)⟩, ⟨some 64, none, .bin .neq (.t 62) (.t 63)⟩])
     (.cond (.t 64) (.seq (.ops [⟨some 65, none, .mov (.t 0)⟩, ⟨some 66, none, .mov (.t 8)⟩, ⟨some 67, none, .bin .add (.t 66) (.v (.int .i64 1))⟩, ⟨some 68, none, .mov (.t 9)⟩, ⟨some 69, none, .slStr (.t 65) (some (.t 67)) (some (.t 68))⟩, ⟨some 70, none, .mov (.t 6)⟩, ⟨some 71, none, .call 144 [(.t 69), (.t 70)]⟩, ⟨some 11, none, .mov (.t 71)⟩])
      (.seq (.seq (.ops [⟨some 72, none, .mov (.t 11)⟩, ⟨some 73, none, .bin .lss (.t 72) (.v (.int .i64 0))⟩])
      (.cond (.t 73) (.seq (.ops [⟨some 4, none, .mov (.v (.int .i64 (-1)))⟩])
       .ret) .skip))
      (.ops [⟨some 74, none, .mov (.t 8)⟩, ⟨some 75, none, .mov (.t 11)⟩, ⟨some 76, none, .bin .add (.t 75) (.v (.int .i64 1))⟩, ⟨some 77, none, .bin .add (.t 74) (.t 76)⟩, ⟨some 8, none, .mov (.t 77)⟩]))) .skip))
     (.seq (.seq (.ops [⟨some 78, none, .mov (.t 0)⟩, ⟨some 79, none, .mov (.t 8)⟩, ⟨some 80, none, .bin .add (.t 79) (.v (.int .i64 1))⟩, ⟨some 81, none, .ixStr (.t 78) (.t 80)⟩, ⟨some 82, none, .mov (.t 7)⟩, ⟨some 83, none, .bin .eql (.t 81) (.t 82)⟩, ⟨some 84, none, .mov (.t 83)⟩, ⟨some 85, (some (84, true)), .mov (.t 0)⟩, ⟨some 86, (some (84, true)), .mov (.t 8)⟩, ⟨some 87, (some (84, true)), .mov (.t 8)⟩, ⟨some 88, (some (84, true)), .mov (.t 5)⟩, ⟨some 89, (some (84, true)), .bin .add (.t 87) (.t 88)⟩, ⟨some 90, (some (84, true)), .slStr (.t 85) (some (.t 86)) (some (.t 89))⟩, ⟨some 91, (some (84, true)), .mov (.t 1)⟩, ⟨some 92, (some (84, true)), .bin .eql (.t 90) (.t 91)⟩, ⟨some 93, none, .pick (.t 84) (.t 92) (.v (.bool false))⟩])
     (.cond (.t 93) (.seq (.ops [⟨some 94, none, .mov (.t 8)⟩, ⟨some 4, none, .mov (.t 94)⟩])
      .ret) .skip))
     (.seq (.ops [⟨some 95, none, .mov (.t 8)⟩, ⟨some 96, none, .bin .add (.t 95) (.v (.int .i64 1))⟩, ⟨some 8, none, .mov (.t 96)⟩])
     (.seq (.ops [⟨some 97, none, .mov (.t 10)⟩, ⟨some 98, none, .bin .add (.t 97) (.v (.int .i64 1))⟩, ⟨some 10, none, .mov (.t 98)⟩])
     (.seq (.ops [⟨some 99, none, .mov (.t 5)⟩, ⟨some 100, none, .ld (.v (.pointer (some ⟨0, 0, none⟩)))⟩, ⟨some 101, none, .bin .leq (.t 99) (.t 100)⟩, ⟨some 102, none, .mov (.t 101)⟩, ⟨some 103, (some (102, true)), .mov (.t 10)⟩, ⟨some 104, (some (102, true)), .mov (.t 8)⟩, ⟨some 105, (some (102, true)), .call 146 [(.t 104)]⟩, ⟨some 106, (some (102, true)), .bin .gtr (.t 103) (.t 105)⟩, ⟨some 107, none, .pick (.t 102) (.t 106) (.v (.bool false))⟩])
     (.cond (.t 107) (.seq (.ops [⟨some 108, none, .mov (.t 0)⟩, ⟨some 109, none, .mov (.t 8)⟩, ⟨some 110, none, .slStr (.t 108) (some (.t 109)) none⟩, ⟨some 111, none, .mov (.t 1)⟩, ⟨some 112, none, .more (.other (.xf 145 [(.t 110), (.t 111)]))⟩, ⟨some 12, none, .mov (.t 112)⟩])
      (.seq (.seq (.ops [⟨some 113, none, .mov (.t 12)⟩, ⟨some 114, none, .bin .geq (.t 113) (.v (.int .i64 0))⟩])
      (.cond (.t 114) (.seq (.ops [⟨some 115, none, .mov (.t 12)⟩, ⟨some 116, none, .mov (.t 8)⟩, ⟨some 117, none, .bin .add (.t 115) (.t 116)⟩, ⟨some 4, none, .mov (.t 117)⟩])
       .ret) .skip))
      (.seq (.ops [⟨some 4, none, .mov (.v (.int .i64 (-1)))⟩])
      .ret))) (.seq (.ops [⟨some 118, none, .mov (.t 5)⟩, ⟨some 119, none, .ld (.v (.pointer (some ⟨0, 0, none⟩)))⟩, ⟨some 120, none, .bin .gtr (.t 118) (.t 119)⟩, ⟨some 121, none, .mov (.t 120)⟩, ⟨some 122, (some (121, true)), .mov (.t 10)⟩, ⟨some 123, (some (121, true)), .mov (.t 8)⟩, ⟨some 124, (some (121, true)), .bin .shr (.t 123) (.v (.int .u64 4))⟩, ⟨some 125, (some (121, true)), .bin .add (.v (.int .i64 4)) (.t 124)⟩, ⟨some 126, (some (121, true)), .bin .geq (.t 122) (.t 125)⟩, ⟨some 127, none, .pick (.t 121) (.t 126) (.v (.bool false))⟩, ⟨some 128, none, .mov (.t 127)⟩, ⟨some 129, (some (128, true)), .mov (.t 8)⟩, ⟨some 130, (some (128, true)), .mov (.t 9)⟩, ⟨some 131, (some (128, true)), .bin .lss (.t 129) (.t 130)⟩, ⟨some 132, none, .pick (.t 128) (.t 131) (.v (.bool false))⟩])
      (.cond (.t 132) (.seq (.ops [⟨some 133, none, .mov (.t 0)⟩, ⟨some 134, none, .mov (.t 8)⟩, ⟨some 135, none, .slStr (.t 133) (some (.t 134)) none⟩, ⟨some 136, none, .mov (.t 1)⟩, ⟨some 137, none, .call 147 [(.t 135), (.t 136)]⟩, ⟨some 13, none, .mov (.t 137)⟩])
       (.seq (.seq (.ops [⟨some 138, none, .mov (.t 13)⟩, ⟨some 139, none, .bin .lss (.t 138) (.v (.int .i64 0))⟩])
       (.cond (.t 139) (.seq (.ops [⟨some 4, none, .mov (.v (.int .i64 (-1)))⟩])
        .ret) .skip))
       (.seq (.ops [⟨some 140, none, .mov (.t 8)⟩, ⟨some 141, none, .mov (.t 13)⟩, ⟨some 142, none, .bin .add (.t 140) (.t 141)⟩, ⟨some 4, none, .mov (.t 142)⟩])
       .ret))) .skip))))))))))))
  (.seq (.ops [⟨some 4, none, .mov (.v (.int .i64 (-1)))⟩])
  .ret)))))))))), 143, [.tmp 4]⟩
theorem Tryd.ek122 : KnownE Tryd.prog 122 Tryd.ec122 := ⟨Tryd.f122, _, Tryd.func122, rfl, by kernel_rfl, rfl, by kernel_rfl, by kernel_rfl⟩
/-- unicode/utf8.RuneCountInString -/
def Tryd.ec135 : EFn := ⟨(.seq (.ops [⟨some 2, none, .mov (.v (.int .i64 0))⟩])
  (.seq (.seq (.ops [⟨some 3, none, .mov (.t 0)⟩, ⟨some 4, none, .more (.rngS (.t 3))⟩])
  (.block 0 (.loop [2, 4] (.seq (.ops [⟨some 5, none, .more (.nxtS (.t 4))⟩, ⟨some 6, none, .ext 0 (.t 5)⟩])
    (.seq (.cond (.t 6) .skip (.exit 0))
    (.block 1 (.ops [⟨some 7, none, .mov (.t 2)⟩, ⟨some 8, none, .bin .add (.t 7) (.v (.int .i64 1))⟩, ⟨some 2, none, .mov (.t 8)⟩])))))))
  (.seq (.ops [⟨some 9, none, .mov (.t 2)⟩, ⟨some 2, none, .mov (.t 9)⟩])
  .ret))), 10, [.tmp 2]⟩
theorem Tryd.ek135 : KnownE Tryd.prog 135 Tryd.ec135 := ⟨Tryd.f135, _, Tryd.func135, rfl, by kernel_rfl, rfl, by kernel_rfl, by kernel_rfl⟩
/-- unicode/utf8.DecodeRuneInString -/
def Tryd.ec136 : EFn := ⟨(.seq (.ops [⟨some 2, none, .mov (.v (.int .i32 0))⟩, ⟨some 3, none, .mov (.v (.int .i64 0))⟩])
  (.seq (.seq (.ops [⟨some 4, none, .mov (.t 0)⟩, ⟨some 5, none, .bin .neq (.t 4) (.v (.string ⟨#[]⟩))⟩, ⟨some 6, none, .mov (.t 5)⟩, ⟨some 7, (some (6, true)), .mov (.t 0)⟩, ⟨some 8, (some (6, true)), .ixStr (.t 7) (.v (.int .i64 0))⟩, ⟨some 9, (some (6, true)), .bin .lss (.t 8) (.v (.int .u8 128))⟩, ⟨some 10, none, .pick (.t 6) (.t 9) (.v (.bool false))⟩])
  (.cond (.t 10) (.seq (.ops [⟨some 11, none, .mov (.t 0)⟩, ⟨some 12, none, .ixStr (.t 11) (.v (.int .i64 0))⟩, ⟨some 13, none, .cvt .i32 (.t 12)⟩, ⟨some 2, none, .mov (.t 13)⟩, ⟨some 3, none, .mov (.v (.int .i64 1))⟩])
   .ret) (.ops [⟨some 15, none, .mov (.t 0)⟩, ⟨some 16, none, .call 154 [(.t 15)]⟩, ⟨some 14, none, .mov (.t 16)⟩, ⟨some 17, none, .ext 0 (.t 14)⟩, ⟨some 18, none, .ext 1 (.t 14)⟩, ⟨some 2, none, .mov (.t 17)⟩, ⟨some 3, none, .mov (.t 18)⟩])))
  .ret)), 19, [.tmp 2, .tmp 3]⟩
theorem Tryd.ek136 : KnownE Tryd.prog 136 Tryd.ec136 := ⟨Tryd.f136, _, Tryd.func136, rfl, by kernel_rfl, rfl, by kernel_rfl, by kernel_rfl⟩
/-- internal/stringslite.IndexByte -/
def Tryd.ec144 : EFn := ⟨(.seq (.ops [⟨some 4, none, .mov (.v (.int .i64 0))⟩])
  (.seq (.ops [⟨some 5, none, .mov (.t 0)⟩, ⟨some 6, none, .mov (.t 1)⟩, ⟨some 7, none, .more (.xc 0 [(.t 5), (.t 6)])⟩, ⟨some 4, none, .mov (.t 7)⟩])
  .ret)), 8, [.tmp 4]⟩
theorem Tryd.ek144 : KnownE Tryd.prog 144 Tryd.ec144 := ⟨Tryd.f144, _, Tryd.func144, rfl, by kernel_rfl, rfl, by kernel_rfl, by kernel_rfl⟩
/-- internal/bytealg.Cutover -/
def Tryd.ec146 : EFn := ⟨(.seq (.ops [⟨some 2, none, .mov (.v (.int .i64 0))⟩])
  (.seq (.ops [⟨some 3, none, .mov (.t 0)⟩, ⟨some 4, none, .bin .add (.t 3) (.v (.int .i64 16))⟩, ⟨some 5, none, .bin .quo (.t 4) (.v (.int .i64 8))⟩, ⟨some 2, none, .mov (.t 5)⟩])
  .ret)), 6, [.tmp 2]⟩
theorem Tryd.ek146 : KnownE Tryd.prog 146 Tryd.ec146 := ⟨Tryd.f146, _, Tryd.func146, rfl, by kernel_rfl, rfl, by kernel_rfl, by kernel_rfl⟩
/-- internal/bytealg.IndexRabinKarp[string] -/
def Tryd.ec147 : EFn := ⟨(.seq (.ops [⟨some 4, none, .mov (.v (.int .i64 0))⟩])
  (.seq (.ops [⟨some 12, none, .mov (.t 1)⟩, ⟨some 13, none, .call 157 [(.t 12)]⟩, ⟨some 11, none, .mov (.t 13)⟩, ⟨some 14, none, .ext 0 (.t 11)⟩, ⟨some 15, none, .ext 1 (.t 11)⟩, ⟨some 5, none, .mov (.t 14)⟩, ⟨some 6, none, .mov (.t 15)⟩])
  (.seq (.ops [⟨some 16, none, .mov (.t 1)⟩, ⟨some 17, none, .lenStr (.t 16)⟩, ⟨some 7, none, .mov (.t 17)⟩])
  (.seq (.ops [⟨some 8, none, .mov (.v (.int .u32 0))⟩])
  (.seq (.seq (.ops [⟨some 9, none, .mov (.v (.int .i64 0))⟩])
  (.block 0 (.loop [0, 1, 5, 6, 7, 8, 9] (.seq (.seq (.ops [⟨some 18, none, .mov (.t 9)⟩, ⟨some 19, none, .mov (.t 7)⟩, ⟨some 20, none, .bin .lss (.t 18) (.t 19)⟩])
    (.cond (.t 20) .skip (.exit 0)))
    (.seq (.block 1 (.ops [⟨some 23, none, .mov (.t 8)⟩, ⟨some 24, none, .bin .mul (.t 23) (.v (.int .u32 16777619))⟩, ⟨some 25, none, .mov (.t 0)⟩, ⟨some 26, none, .mov (.t 9)⟩, ⟨some 27, none, .ixStr (.t 25) (.t 26)⟩, ⟨some 28, none, .cvt .u32 (.t 27)⟩, ⟨some 29, none, .bin .add (.t 24) (.t 28)⟩, ⟨some 8, none, .mov (.t 29)⟩]))
    (.ops [⟨some 21, none, .mov (.t 9)⟩, ⟨some 22, none, .bin .add (.t 21) (.v (.int .i64 1))⟩, ⟨some 9, none, .mov (.t 22)⟩]))))))
  (.seq (.seq (.ops [⟨some 30, none, .mov (.t 8)⟩, ⟨some 31, none, .mov (.t 5)⟩, ⟨some 32, none, .bin .eql (.t 30) (.t 31)⟩, ⟨some 33, none, .mov (.t 32)⟩, ⟨some 34, (some (33, true)), .mov (.t 0)⟩, ⟨some 35, (some (33, true)), .mov (.t 7)⟩, ⟨some 36, (some (33, true)), .slStr (.t 34) none (some (.t 35))⟩, ⟨some 37, (some (33, true)), .mov (.t 1)⟩, ⟨some 38, (some (33, true)), .bin .eql (.t 36) (.t 37)⟩, ⟨some 39, none, .pick (.t 33) (.t 38) (.v (.bool false))⟩])
  (.cond (.t 39) (.seq (.ops [⟨some 4, none, .mov (.v (.int .i64 0))⟩])
   .ret) .skip))
  (.seq (.seq (.ops [⟨some 40, none, .mov (.t 7)⟩, ⟨some 10, none, .mov (.t 40)⟩])
  (.block 2 (.loop [0, 1, 5, 6, 7, 8, 10] (.seq (.seq (.ops [⟨some 41, none, .mov (.t 10)⟩, ⟨some 42, none, .mov (.t 0)⟩, ⟨some 43, none, .lenStr (.t 42)⟩, ⟨some 44, none, .bin .lss (.t 41) (.t 43)⟩])
    (.cond (.t 44) .skip (.exit 2)))
    (.block 3 (.seq (.ops [⟨some 45, none, .mov (.t 8)⟩, ⟨some 46, none, .bin .mul (.t 45) (.v (.int .u32 16777619))⟩, ⟨some 8, none, .mov (.t 46)⟩])
     (.seq (.ops [⟨some 47, none, .mov (.t 8)⟩, ⟨some 48, none, .mov (.t 0)⟩, ⟨some 49, none, .mov (.t 10)⟩, ⟨some 50, none, .ixStr (.t 48) (.t 49)⟩, ⟨some 51, none, .cvt .u32 (.t 50)⟩, ⟨some 52, none, .bin .add (.t 47) (.t 51)⟩, ⟨some 8, none, .mov (.t 52)⟩])
     (.seq (.ops [⟨some 53, none, .mov (.t 8)⟩, ⟨some 54, none, .mov (.t 6)⟩, ⟨some 55, none, .mov (.t 0)⟩, ⟨some 56, none, .mov (.t 10)⟩, ⟨some 57, none, .mov (.t 7)⟩, ⟨some 58, none, .bin .sub (.t 56) (.t 57)⟩, ⟨some 59, none, .ixStr (.t 55) (.t 58)⟩, ⟨some 60, none, .cvt .u32 (.t 59)⟩, ⟨some 61, none, .bin .mul (.t 54) (.t 60)⟩, ⟨some 62, none, .bin .sub (.t 53) (.t 61)⟩, ⟨some 8, none, .mov (.t 62)⟩])
     (.seq (.ops [⟨some 63, none, .mov (.t 10)⟩, ⟨some 64, none, .bin .add (.t 63) (.v (.int .i64 1))⟩, ⟨some 10, none, .mov (.t 64)⟩])
     (.seq (.ops [⟨some 65, none, .mov (.t 8)⟩, ⟨some 66, none, .mov (.t 5)⟩, ⟨some 67, none, .bin .eql (.t 65) (.t 66)⟩, ⟨some 68, none, .mov (.t 67)⟩, ⟨some 69, (some (68, true)), .mov (.t 0)⟩, ⟨some 70, (some (68, true)), .mov (.t 10)⟩, ⟨some 71, (some (68, true)), .mov (.t 7)⟩, ⟨some 72, (some (68, true)), .bin .sub (.t 70) (.t 71)⟩, ⟨some 73, (some (68, true)), .mov (.t 10)⟩, ⟨some 74, (some (68, true)), .slStr (.t 69) (some (.t 72)) (some (.t 73))⟩, ⟨some 75, (some (68, true)), .mov (.t 1)⟩, ⟨some 76, (some (68, true)), .bin .eql (.t 74) (.t 75)⟩, ⟨some 77, none, .pick (.t 68) (.t 76) (.v (.bool false))⟩])
     (.cond (.t 77) (.seq (.ops [⟨some 78, none, .mov (.t 10)⟩, ⟨some 79, none, .mov (.t 7)⟩, ⟨some 80, none, .bin .sub (.t 78) (.t 79)⟩, ⟨some 4, none, .mov (.t 80)⟩])
      .ret) .skip)))))))))))
  (.seq (.ops [⟨some 4, none, .mov (.v (.int .i64 (-1)))⟩])
  .ret)))))))), 81, [.tmp 4]⟩
theorem Tryd.ek147 : KnownE Tryd.prog 147 Tryd.ec147 := ⟨Tryd.f147, _, Tryd.func147, rfl, by kernel_rfl, rfl, by kernel_rfl, by kernel_rfl⟩
/-- unicode/utf8.decodeRuneInStringSlow -/
def Tryd.ec154 : EFn := ⟨(.seq (.ops [⟨some 2, none, .mov (.v (.int .i32 0))⟩, ⟨some 3, none, .mov (.v (.int .i64 0))⟩])
  (.seq (.ops [⟨some 13, none, .mov (.t 0)⟩, ⟨some 14, none, .lenStr (.t 13)⟩, ⟨some 4, none, .mov (.t 14)⟩])
  (.seq (.seq (.ops [⟨some 15, none, .mov (.t 4)⟩, ⟨some 16, none, .bin .lss (.t 15) (.v (.int .i64 1))⟩])
  (.cond (.t 16) (.seq (.ops [⟨some 2, none, .mov (.v (.int .i32 65533))⟩, ⟨some 3, none, .mov (.v (.int .i64 0))⟩])
   .ret) .skip))
  (.seq (.ops [⟨some 17, none, .mov (.t 0)⟩, ⟨some 18, none, .ixStr (.t 17) (.v (.int .i64 0))⟩, ⟨some 5, none, .mov (.t 18)⟩])
  (.seq (.ops [⟨some 19, none, .mov (.t 5)⟩, ⟨some 20, none, .ixA 256 1 (.v (.pointer (some ⟨4, 0, none⟩))) (.t 19)⟩, ⟨some 21, none, .ld (.t 20)⟩, ⟨some 6, none, .mov (.t 21)⟩])
  (.seq (.seq (.ops [⟨some 22, none, .mov (.t 6)⟩, ⟨some 23, none, .bin .geq (.t 22) (.v (.int .u8 240))⟩])
  (.cond (.t 23) (.seq (.ops [⟨some 24, none, .mov (.t 6)⟩, ⟨some 25, none, .cvt .i32 (.t 24)⟩, ⟨some 26, none, .bin .shl (.t 25) (.v (.int .u64 31))⟩, ⟨some 27, none, .bin .shr (.t 26) (.v (.int .u64 31))⟩, ⟨some 7, none, .mov (.t 27)⟩])
   (.seq (.ops [⟨some 28, none, .mov (.t 0)⟩, ⟨some 29, none, .ixStr (.t 28) (.v (.int .i64 0))⟩, ⟨some 30, none, .cvt .i32 (.t 29)⟩, ⟨some 31, none, .mov (.t 7)⟩, ⟨some 32, none, .bin .andNot (.t 30) (.t 31)⟩, ⟨some 33, none, .mov (.t 7)⟩, ⟨some 34, none, .bin .and (.v (.int .i32 65533)) (.t 33)⟩, ⟨some 35, none, .bin .or (.t 32) (.t 34)⟩, ⟨some 2, none, .mov (.t 35)⟩, ⟨some 3, none, .mov (.v (.int .i64 1))⟩])
   .ret)) .skip))
  (.seq (.ops [⟨some 36, none, .mov (.t 6)⟩, ⟨some 37, none, .bin .and (.t 36) (.v (.int .u8 7))⟩, ⟨some 38, none, .cvt .i64 (.t 37)⟩, ⟨some 8, none, .mov (.t 38)⟩])
  (.seq (.ops [⟨some 39, none, .mov (.t 6)⟩, ⟨some 40, none, .bin .shr (.t 39) (.v (.int .u64 4))⟩, ⟨some 41, none, .ixA 16 2 (.v (.pointer (some ⟨5, 0, none⟩))) (.t 40)⟩, ⟨some 42, none, .ldA 2 (.t 41)⟩, ⟨some 9, none, .al 161 [.int .u8 0, .int .u8 0]⟩, ⟨none, none, .st 2 (.t 9) (.t 42)⟩])
  (.seq (.seq (.ops [⟨some 43, none, .mov (.t 4)⟩, ⟨some 44, none, .mov (.t 8)⟩, ⟨some 45, none, .bin .lss (.t 43) (.t 44)⟩])
  (.cond (.t 45) (.seq (.ops [⟨some 2, none, .mov (.v (.int .i32 65533))⟩, ⟨some 3, none, .mov (.v (.int .i64 1))⟩])
   .ret) .skip))
  (.seq (.ops [⟨some 46, none, .mov (.t 0)⟩, ⟨some 47, none, .ixStr (.t 46) (.v (.int .i64 1))⟩, ⟨some 10, none, .mov (.t 47)⟩])
  (.seq (.seq (.ops [⟨some 48, none, .mov (.t 10)⟩, ⟨some 49, none, .fa 0 (.t 9)⟩, ⟨some 50, none, .ld (.t 49)⟩, ⟨some 51, none, .bin .lss (.t 48) (.t 50)⟩, ⟨some 52, none, .mov (.t 51)⟩, ⟨some 53, (some (52, false)), .fa 1 (.t 9)⟩, ⟨some 54, (some (52, false)), .ld (.t 53)⟩, ⟨some 55, (some (52, false)), .mov (.t 10)⟩, ⟨some 56, (some (52, false)), .bin .lss (.t 54) (.t 55)⟩, ⟨some 57, none, .pick (.t 52) (.v (.bool true)) (.t 56)⟩])
  (.cond (.t 57) (.seq (.ops [⟨some 2, none, .mov (.v (.int .i32 65533))⟩, ⟨some 3, none, .mov (.v (.int .i64 1))⟩])
   .ret) .skip))
  (.seq (.seq (.ops [⟨some 58, none, .mov (.t 8)⟩, ⟨some 59, none, .bin .leq (.t 58) (.v (.int .i64 2))⟩])
  (.cond (.t 59) (.seq (.ops [⟨some 60, none, .mov (.t 5)⟩, ⟨some 61, none, .bin .and (.t 60) (.v (.int .u8 31))⟩, ⟨some 62, none, .cvt .i32 (.t 61)⟩, ⟨some 63, none, .bin .shl (.t 62) (.v (.int .u64 6))⟩, ⟨some 64, none, .mov (.t 10)⟩, ⟨some 65, none, .bin .and (.t 64) (.v (.int .u8 63))⟩, ⟨some 66, none, .cvt .i32 (.t 65)⟩, ⟨some 67, none, .bin .or (.t 63) (.t 66)⟩, ⟨some 2, none, .mov (.t 67)⟩, ⟨some 3, none, .mov (.v (.int .i64 2))⟩])
   .ret) .skip))
  (.seq (.ops [⟨some 68, none, .mov (.t 0)⟩, ⟨some 69, none, .ixStr (.t 68) (.v (.int .i64 2))⟩, ⟨some 11, none, .mov (.t 69)⟩])
  (.seq (.seq (.ops [⟨some 70, none, .mov (.t 11)⟩, ⟨some 71, none, .bin .lss (.t 70) (.v (.int .u8 128))⟩, ⟨some 72, none, .mov (.t 71)⟩, ⟨some 73, (some (72, false)), .mov (.t 11)⟩, ⟨some 74, (some (72, false)), .bin .lss (.v (.int .u8 191)) (.t 73)⟩, ⟨some 75, none, .pick (.t 72) (.v (.bool true)) (.t 74)⟩])
  (.cond (.t 75) (.seq (.ops [⟨some 2, none, .mov (.v (.int .i32 65533))⟩, ⟨some 3, none, .mov (.v (.int .i64 1))⟩])
   .ret) .skip))
  (.seq (.seq (.ops [⟨some 76, none, .mov (.t 8)⟩, ⟨some 77, none, .bin .leq (.t 76) (.v (.int .i64 3))⟩])
  (.cond (.t 77) (.seq (.ops [⟨some 78, none, .mov (.t 5)⟩, ⟨some 79, none, .bin .and (.t 78) (.v (.int .u8 15))⟩, ⟨some 80, none, .cvt .i32 (.t 79)⟩, ⟨some 81, none, .bin .shl (.t 80) (.v (.int .u64 12))⟩, ⟨some 82, none, .mov (.t 10)⟩, ⟨some 83, none, .bin .and (.t 82) (.v (.int .u8 63))⟩, ⟨some 84, none, .cvt .i32 (.t 83)⟩, ⟨some 85, none, .bin .shl (.t 84) (.v (.int .u64 6))⟩, ⟨some 86, none, .bin .or (.t 81) (.t 85)⟩, ⟨some 87, none, .mov (.t 11)⟩, ⟨some 88, none, .bin .and (.t 87) (.v (.int .u8 63))⟩, ⟨some 89, none, .cvt .i32 (.t 88)⟩, ⟨some 90, none, .bin .or (.t 86) (.t 89)⟩, ⟨some 2, none, .mov (.t 90)⟩, ⟨some 3, none, .mov (.v (.int .i64 3))⟩])
   .ret) .skip))
  (.seq (.ops [⟨some 91, none, .mov (.t 0)⟩, ⟨some 92, none, .ixStr (.t 91) (.v (.int .i64 3))⟩, ⟨some 12, none, .mov (.t 92)⟩])
  (.seq (.seq (.ops [⟨some 93, none, .mov (.t 12)⟩, ⟨some 94, none, .bin .lss (.t 93) (.v (.int .u8 128))⟩, ⟨some 95, none, .mov (.t 94)⟩, ⟨some 96, (some (95, false)), .mov (.t 12)⟩, ⟨some 97, (some (95, false)), .bin .lss (.v (.int .u8 191)) (.t 96)⟩, ⟨some 98, none, .pick (.t 95) (.v (.bool true)) (.t 97)⟩])
  (.cond (.t 98) (.seq (.ops [⟨some 2, none, .mov (.v (.int .i32 65533))⟩, ⟨some 3, none, .mov (.v (.int .i64 1))⟩])
   .ret) .skip))
  (.seq (.ops [⟨some 99, none, .mov (.t 5)⟩, ⟨some 100, none, .bin .and (.t 99) (.v (.int .u8 7))⟩, ⟨some 101, none, .cvt .i32 (.t 100)⟩, ⟨some 102, none, .bin .shl (.t 101) (.v (.int .u64 18))⟩, ⟨some 103, none, .mov (.t 10)⟩, ⟨some 104, none, .bin .and (.t 103) (.v (.int .u8 63))⟩, ⟨some 105, none, .cvt .i32 (.t 104)⟩, ⟨some 106, none, .bin .shl (.t 105) (.v (.int .u64 12))⟩, ⟨some 107, none, .bin .or (.t 102) (.t 106)⟩, ⟨some 108, none, .mov (.t 11)⟩, ⟨some 109, none, .bin .and (.t 108) (.v (.int .u8 63))⟩, ⟨some 110, none, .cvt .i32 (.t 109)⟩, ⟨some 111, none, .bin .shl (.t 110) (.v (.int .u64 6))⟩, ⟨some 112, none, .bin .or (.t 107) (.t 111)⟩, ⟨some 113, none, .mov (.t 12)⟩, ⟨some 114, none, .bin .and (.t 113) (.v (.int .u8 63))⟩, ⟨some 115, none, .cvt .i32 (.t 114)⟩, ⟨some 116, none, .bin .or (.t 112) (.t 115)⟩, ⟨some 2, none, .mov (.t 116)⟩, ⟨some 3, none, .mov (.v (.int .i64 4))⟩])
  .ret)))))))))))))))))), 117, [.tmp 2, .tmp 3]⟩
theorem Tryd.ek154 : KnownE Tryd.prog 154 Tryd.ec154 := ⟨Tryd.f154, _, Tryd.func154, rfl, by kernel_rfl, rfl, by kernel_rfl, by kernel_rfl⟩
/-- internal/bytealg.hashStr[string] -/
def Tryd.ec157 : EFn := ⟨(.seq (.ops [⟨some 2, none, .mov (.v (.int .u32 0))⟩, ⟨some 3, none, .mov (.v (.int .u32 0))⟩])
  (.seq (.ops [⟨some 4, none, .mov (.v (.int .u32 0))⟩])
  (.seq (.seq (.ops [⟨some 5, none, .mov (.v (.int .i64 0))⟩])
  (.block 0 (.loop [0, 4, 5] (.seq (.seq (.ops [⟨some 9, none, .mov (.t 5)⟩, ⟨some 10, none, .mov (.t 0)⟩, ⟨some 11, none, .lenStr (.t 10)⟩, ⟨some 12, none, .bin .lss (.t 9) (.t 11)⟩])
    (.cond (.t 12) .skip (.exit 0)))
    (.seq (.block 1 (.ops [⟨some 15, none, .mov (.t 4)⟩, ⟨some 16, none, .bin .mul (.t 15) (.v (.int .u32 16777619))⟩, ⟨some 17, none, .mov (.t 0)⟩, ⟨some 18, none, .mov (.t 5)⟩, ⟨some 19, none, .ixStr (.t 17) (.t 18)⟩, ⟨some 20, none, .cvt .u32 (.t 19)⟩, ⟨some 21, none, .bin .add (.t 16) (.t 20)⟩, ⟨some 4, none, .mov (.t 21)⟩]))
    (.ops [⟨some 13, none, .mov (.t 5)⟩, ⟨some 14, none, .bin .add (.t 13) (.v (.int .i64 1))⟩, ⟨some 5, none, .mov (.t 14)⟩]))))))
  (.seq (.ops [⟨some 6, none, .mov (.v (.int .u32 1))⟩, ⟨some 7, none, .mov (.v (.int .u32 16777619))⟩])
  (.seq (.seq (.ops [⟨some 22, none, .mov (.t 0)⟩, ⟨some 23, none, .lenStr (.t 22)⟩, ⟨some 8, none, .mov (.t 23)⟩])
  (.block 2 (.loop [4, 6, 7, 8] (.seq (.seq (.ops [⟨some 24, none, .mov (.t 8)⟩, ⟨some 25, none, .bin .gtr (.t 24) (.v (.int .i64 0))⟩])
    (.cond (.t 25) .skip (.exit 2)))
    (.seq (.block 3 (.seq (.seq (.ops [⟨some 28, none, .mov (.t 8)⟩, ⟨some 29, none, .bin .and (.t 28) (.v (.int .i64 1))⟩, ⟨some 30, none, .bin .neq (.t 29) (.v (.int .i64 0))⟩])
     (.cond (.t 30) (.ops [⟨some 31, none, .mov (.t 6)⟩, ⟨some 32, none, .mov (.t 7)⟩, ⟨some 33, none, .bin .mul (.t 31) (.t 32)⟩, ⟨some 6, none, .mov (.t 33)⟩]) .skip))
     (.ops [⟨some 34, none, .mov (.t 7)⟩, ⟨some 35, none, .mov (.t 7)⟩, ⟨some 36, none, .bin .mul (.t 34) (.t 35)⟩, ⟨some 7, none, .mov (.t 36)⟩])))
    (.ops [⟨some 26, none, .mov (.t 8)⟩, ⟨some 27, none, .bin .shr (.t 26) (.v (.int .u64 1))⟩, ⟨some 8, none, .mov (.t 27)⟩]))))))
  (.seq (.ops [⟨some 37, none, .mov (.t 4)⟩, ⟨some 38, none, .mov (.t 6)⟩, ⟨some 2, none, .mov (.t 37)⟩, ⟨some 3, none, .mov (.t 38)⟩])
  .ret)))))), 39, [.tmp 2, .tmp 3]⟩
theorem Tryd.ek157 : KnownE Tryd.prog 157 Tryd.ec157 := ⟨Tryd.f157, _, Tryd.func157, rfl, by kernel_rfl, rfl, by kernel_rfl, by kernel_rfl⟩
def Tryd.etab : List (FuncId × EFn) := [(18, Tryd.ec18), (29, Tryd.ec29), (31, Tryd.ec31), (36, Tryd.ec36), (41, Tryd.ec41), (47, Tryd.ec47), (49, Tryd.ec49), (63, Tryd.ec63), (64, Tryd.ec64), (66, Tryd.ec66), (68, Tryd.ec68), (69, Tryd.ec69), (70, Tryd.ec70), (77, Tryd.ec77), (88, Tryd.ec88), (89, Tryd.ec89), (90, Tryd.ec90), (91, Tryd.ec91), (93, Tryd.ec93), (105, Tryd.ec105), (106, Tryd.ec106), (107, Tryd.ec107), (108, Tryd.ec108), (109, Tryd.ec109), (122, Tryd.ec122), (135, Tryd.ec135), (136, Tryd.ec136), (144, Tryd.ec144), (146, Tryd.ec146), (147, Tryd.ec147), (154, Tryd.ec154), (157, Tryd.ec157)]
theorem Tryd.etab_ok : AllK Tryd.prog Tryd.etab := ⟨Tryd.ek18, Tryd.ek29, Tryd.ek31, Tryd.ek36, Tryd.ek41, Tryd.ek47, Tryd.ek49, Tryd.ek63, Tryd.ek64, Tryd.ek66, Tryd.ek68, Tryd.ek69, Tryd.ek70, Tryd.ek77, Tryd.ek88, Tryd.ek89, Tryd.ek90, Tryd.ek91, Tryd.ek93, Tryd.ek105, Tryd.ek106, Tryd.ek107, Tryd.ek108, Tryd.ek109, Tryd.ek122, Tryd.ek135, Tryd.ek136, Tryd.ek144, Tryd.ek146, Tryd.ek147, Tryd.ek154, Tryd.ek157, trivial⟩
end Go.Proofs

set_option maxRecDepth 100000
namespace Go.Proofs
open Go.SL
theorem Tryd.mixedR : Tryd.prog.follows .mixedOrders = true := by kernel_rfl
theorem rawake_fc {w0 : World} {S : SS} : FC Tryd.prog w0 41 [] S (fun v S' => v = .bool true ∧ S' = S) :=
  ev_true (fuel := 5000) (d := 60) Tryd.mixedR Tryd.etab_ok rfl (by decide +kernel)
end Go.Proofs

set_option linter.unusedVariables false
set_option linter.unusedSimpArgs false
namespace Go.Proofs.Rl
open Go.SL Go.RowKit Go.Proofs Go.Proofs.Lb
set_option maxHeartbeats 1000000
theorem slice_eq {A B : Option Addr} {n m c d : Nat} (h : Value.slice A n c = .slice B m d) : A = B ∧ n = m ∧ c = d := by cases h; exact ⟨rfl, rfl, rfl⟩
theorem rulesWith_fc {w0 : World} {A : Option Addr} {c : Nat} {tv : Int} {l : List RuleB} {s : ByteArray} {x : LabB} (hx : Rd w0 [] A (ruls l)) (hw : ∀ x ∈ l, x.1.size ≤ maxLen) (hs : s.size ≤ maxLen) (hl : l.length ≤ maxLen) (hc : A = none → c = 0) :
    FC Tryd.prog w0 10 [tabV tv A l.length c, .string s, labB x] [] (fun v _ => v = .bool true) := by
  refine FC.of Tryd.known10 (by simp) ?_
  unfold Tryd.pc10
  simp only [argT]
  refine PW.seqOps ?_
  refine OL.cons trivial (OW.bx rfl) ?_
  rintro _ _ ⟨r3, rfl, rfl⟩
  change OL _ _ _ _ _ (tseg r3 tv A l.length c :: []) _
  refine OL.cons trivial (OW.bx rfl) ?_
  rintro _ _ ⟨r5, rfl, rfl⟩
  change OL _ _ _ _ _ (lseg r5 x :: tseg r3 tv A l.length c :: []) _
  refine OL.det trivial (Yields.pure rfl) ?_
  refine OL.nil ?_
  refine PW.keep (T' := [(1, _), (3, _), (5, _)]) ⟨rfl, rfl, rfl, trivial⟩ ?_
  refine PW.seq fun K1 hK1 => ?_
  refine PW.seqOps ?_
  refine OL.det trivial (Yields.ldA rfl (cs := [.int .i64 tv, .slice A l.length c]) rfl (tab_at (tv := tv) (A := A) (n := l.length) (c := c) (r := r3) (List.mem_flatten.2 ⟨_, .tail _ (.head _), List.mem_singleton.2 rfl⟩))) ?_
  refine OL.det trivial (Yields.pure rfl) ?_
  refine OL.call trivial rfl (large_fc hx.cons.cons hw hs hl) ?_
  rintro _ Sx ⟨b16, rfl, hSx, hb16⟩
  rw [hSx]
  clear hSx
  refine OL.nil ?_
  refine PW.keep (T' := [(1, _), (3, _), (5, _), (16, _)]) ⟨rfl, rfl, rfl, rfl, trivial⟩ ?_
  refine PW.cond rfl (fun c16 => ?_) (fun c16 => ?_)
  · try simp only [decide_eq_true_eq, decide_eq_false_iff_not, beq_iff_eq, bne_iff_ne, beq_eq_false_iff_ne, bne_eq_false_iff_eq, Bool.not_eq_true', Bool.not_eq_false', Bool.not_eq_true, ne_eq, Decidable.not_not] at c16
    refine PW.seqOps ?_
    refine OL.call trivial rfl (rawake_fc) ?_
    rintro _ _ ⟨rfl, _⟩
    refine OL.det trivial (Yields.pure rfl) ?_
    refine OL.nil ?_
    refine PW.keep (T' := [(6, _)]) ⟨rfl, trivial⟩ ?_
    refine PW.ret ?_
    change (Exit.ret = Exit.normal ∨ Exit.ret = Exit.ret) ∧ ∃ v, resV _ _ = some v ∧ _
    exact ⟨.inr rfl, _, rfl, rfl⟩
  · try simp only [decide_eq_true_eq, decide_eq_false_iff_not, beq_iff_eq, bne_iff_ne, beq_eq_false_iff_ne, bne_eq_false_iff_eq, Bool.not_eq_true', Bool.not_eq_false', Bool.not_eq_true, ne_eq, Decidable.not_not] at c16
    obtain ⟨hl60, hs200, hw200, htv1, htv2⟩ := hb16 c16
    have hw9 : ∀ x ∈ l, x.1.size ≤ 1000000000 := fun x h => by have := hw200 x h; omega
    have hs9 : s.size ≤ 1000000000 := by omega
    have hl9 : l.length ≤ 1000000000 := by omega
    refine PW.skip ?_
    refine hK1 _ _ ?_
    refine PW.keep (T' := [(1, _), (3, _), (5, _)]) ⟨rfl, rfl, rfl, trivial⟩ ?_
    refine PW.seqOps ?_
    refine OL.det trivial (Yields.ldA rfl (cs := [.int .i64 tv, .slice A l.length c]) rfl (tab_at (tv := tv) (A := A) (n := l.length) (c := c) (r := r3) (List.mem_flatten.2 ⟨_, .tail _ (.head _), List.mem_singleton.2 rfl⟩))) ?_
    refine OL.call trivial rfl (copied_fc hx.cons.cons hl9 hc) ?_
    rintro _ _ ⟨AO, cO, segO, rfl, rfl, hslO⟩
    obtain ⟨AO2, cO2, eO, _, _, hrdO⟩ := slv_rdL (w0 := w0) hslO
    obtain ⟨rfl, _, rfl⟩ := slice_eq eO
    refine OL.cons trivial OW.al ?_
    rintro _ _ ⟨r7, rfl, rfl⟩
    refine OL.cons trivial (OW.st (k := 0) (u := tabV tv AO l.length cO) rfl rfl rfl rfl (Nat.le_refl 2) rfl) ?_
    rintro _ _ rfl
    change OL _ _ _ _ _ (tseg r7 tv AO l.length cO :: segO :: lseg r5 x :: tseg r3 tv A l.length c :: []) _
    refine OL.nil ?_
    refine PW.keep (T' := [(1, _), (3, _), (5, _), (7, _)]) ⟨rfl, rfl, rfl, rfl, trivial⟩ ?_
    refine PW.seqOps ?_
    refine OL.det trivial (Yields.ldA rfl (cs := [.int .i64 tv, .slice AO l.length cO]) rfl (tab_at (tv := tv) (A := AO) (n := l.length) (c := cO) (r := r7) (List.mem_flatten.2 ⟨_, .head _, List.mem_singleton.2 rfl⟩))) ?_
    refine OL.det trivial (Yields.pure rfl) ?_
    refine OL.det trivial (Yields.ldA rfl rfl (lab_at (a := x) (r := r5) (List.mem_flatten.2 ⟨_, .tail _ (.tail _ (.head _)), List.mem_singleton.2 rfl⟩))) ?_
    refine OL.call trivial rfl (with_fc (hrdO _).cons hw9 hs9 hl9 (by omega) (by omega)) ?_
    rintro _ _ ⟨AA, cA, segA, rfl, rfl, hslA⟩
    have hRl := with_len l tv s x
    have heq := with_eq l tv s x
    generalize hR : withT l tv s x = R at *
    refine OL.det trivial (Yields.pure rfl) ?_
    refine OL.det trivial (Yields.pure rfl) ?_
    refine OL.det trivial (Yields.pure rfl) ?_
    refine OL.cons trivial OW.al ?_
    rintro _ _ ⟨r8, rfl, rfl⟩
    refine OL.cons trivial (OW.st (k := 0) (u := tabV R.2.1 AA R.2.2.length cA) rfl rfl rfl rfl (Nat.le_refl 2) rfl) ?_
    rintro _ _ rfl
    change OL _ _ _ _ _ (tseg r8 R.2.1 AA R.2.2.length cA :: segA :: tseg r7 tv AO l.length cO :: segO :: lseg r5 x :: tseg r3 tv A l.length c :: []) _
    refine OL.det trivial (Yields.pure rfl) ?_
    refine OL.nil ?_
    refine PW.keep (T' := [(1, _), (3, _), (5, _), (7, _), (8, _), (9, _)]) ⟨rfl, rfl, rfl, rfl, rfl, rfl, trivial⟩ ?_
    refine PW.seq fun K2 hK2 => ?_
    refine PW.quietRFK (m := 6) (ks := [(0, .loud), (1, .dep), (2, .dep), (3, .dep), (4, .free), (5, .loud)]) (hp := [(4, .loud), (5, .dep), (6, .dep), (7, .dep), (8, .free), (9, .loud)]) (base := (tseg r8 R.2.1 AA R.2.2.length cA :: segA :: tseg r7 tv AO l.length cO :: segO :: lseg r5 x :: tseg r3 tv A l.length c :: [])) Tryd.mixed (by decide) (by decide) (Over.refl _) ?_
    refine QN.det trivial (fun Sx hSx => Yields.ldA rfl (cs := [.int .i64 tv, .slice A l.length c]) rfl (tab_at (tv := tv) (A := A) (n := l.length) (c := c) (r := r3) (hSx _ (List.mem_flatten.2 ⟨_, .tail _ (.tail _ (.tail _ (.tail _ (.tail _ (.head _))))), List.mem_singleton.2 rfl⟩)))) ?_
    refine QN.call trivial rfl (fun Sx hSx => of_fc) ?_
    refine QN.det trivial (fun Sx hSx => Yields.pure rfl) ?_
    refine QN.det trivial (fun Sx hSx => Yields.ldA rfl rfl (lab_at (a := x) (r := r5) (hSx _ (List.mem_flatten.2 ⟨_, .tail _ (.tail _ (.tail _ (.tail _ (.head _)))), List.mem_singleton.2 rfl⟩)))) ?_
    refine QN.hole ?_
    refine QN.hole ?_
    refine QN.hole ?_
    refine QN.hole ?_
    refine QN.hole ?_
    refine QN.hole ?_
    refine QN.nil ⟨rfl, rfl, rfl, rfl, rfl, ?_⟩
    refine ⟨rfl, fun F => OW.mono (OW.frameCall (K := fun v S1 => ∃ AB cB segB, v = .tuple #[tabV R.2.1 AB R.2.2.length cB, .int .i64 R.1] ∧ S1 = segB :: tseg r8 R.2.1 AA R.2.2.length cA :: segA :: tseg r7 tv AO l.length cO :: segO :: lseg r5 x :: tseg r3 tv A l.length c :: [] ∧ SlV 56 3 (.slice AB R.2.2.length cB) R.2.2.length (ruls R.2.2) segB) rfl (FC.mono (rwith_fc (hx.mono (fun p hp => absurd hp (by simp))) hw9 hs9 hl9 (by omega) (by omega)) (fun v S' h => by obtain ⟨A', c', seg, e1, e2, e3⟩ := h; exact ⟨seg, e2, A', c', seg, by rw [e1, ← heq], rfl, by rw [← heq] at e3; exact e3⟩))) ?_⟩
    rintro _ _ ⟨S1, hperm, AB, cB, segB, rfl, rfl, hslB⟩
    refine ⟨_, hperm, (Over.refl _).cons, ?_⟩
    refine ⟨rfl, _, rfl, ?_⟩
    refine ⟨rfl, _, rfl, ?_⟩
    refine ⟨rfl, _, rfl, ?_⟩
    refine ⟨rfl, _, _, rfl, fun r10 => ?_⟩
    refine ⟨rfl, fun F => OW.mono (OW.frameSt (k := 0) (u := tabV R.2.1 AB R.2.2.length cB) rfl rfl rfl rfl (Nat.le_refl 2) rfl) ?_⟩
    rintro _ _ ⟨S1, hperm, rfl⟩
    refine ⟨_, hperm, (fun q hq => by simp only [List.set_cons_zero, List.flatten_cons, List.mem_append]; right; right; simpa using hq), ?_⟩
    obtain ⟨_, _, eA, _, _, hrdA⟩ := slv_rdL (w0 := w0) hslA
    obtain ⟨rfl, _, rfl⟩ := slice_eq eA
    obtain ⟨_, _, eB, _, _, hrdB⟩ := slv_rdL (w0 := w0) hslB
    obtain ⟨rfl, _, rfl⟩ := slice_eq eB
    change OL _ _ _ _ _ (tsegR r10 R.2.1 AB R.2.2.length cB :: segB :: tseg r8 R.2.1 AA R.2.2.length cA :: segA :: tseg r7 tv AO l.length cO :: segO :: lseg r5 x :: tseg r3 tv A l.length c :: []) _
    change OL _ _ _ [_] _ _ _
    refine OL.det trivial (Yields.pure rfl) ?_
    refine OL.nil ?_
    refine hK2 _ _ ?_
    refine PW.keep (T' := [(3, _), (7, _), (8, _), (9, _), (10, _), (11, _)]) ⟨rfl, rfl, rfl, rfl, rfl, rfl, trivial⟩ ?_
    refine PW.seq fun K3 hK3 => ?_
    refine PW.quietRK Tryd.mixed ?_
    refine QK.det trivial (Yields.pure rfl) ?_
    refine QK.det trivial (Yields.pure rfl) ?_
    refine QK.det trivial (Yields.pure rfl) ?_
    refine QK.bool trivial (Yields.pure rfl) (fun g38 => ?_) (fun g38 => ?_)
    · try simp only [decide_eq_true_eq, decide_eq_false_iff_not, beq_iff_eq, bne_iff_ne, beq_eq_false_iff_ne, bne_eq_false_iff_eq, Bool.not_eq_true', Bool.not_eq_false', Bool.not_eq_true, ne_eq, Decidable.not_not] at g38
      refine QK.det rfl (Yields.ldA rfl (cs := [.int .i64 R.2.1, .slice AA R.2.2.length cA]) rfl (tab_at (tv := R.2.1) (A := AA) (n := R.2.2.length) (c := cA) (r := r8) (List.mem_flatten.2 ⟨_, .tail _ (.tail _ (.head _)), List.mem_singleton.2 rfl⟩))) ?_
      refine QK.call rfl rfl (of_fc) ?_
      refine QK.det rfl (Yields.ldA rfl (cs := [.int .i64 R.2.1, .slice AB R.2.2.length cB]) rfl (tabR_at (tv := R.2.1) (A := AB) (n := R.2.2.length) (c := cB) (r := r10) (List.mem_flatten.2 ⟨_, .head _, List.mem_singleton.2 rfl⟩))) ?_
      refine QK.call rfl rfl (sameT_fc (hrdA _).cons.cons.cons (hrdB _).cons (by omega) (by omega)) ?_
      refine QK.det trivial (Yields.pure rfl) ?_
      refine QK.bool trivial (Yields.pure rfl) (fun g44 => ?_) (fun g44 => ?_)
      · try simp only [decide_eq_true_eq, decide_eq_false_iff_not, beq_iff_eq, bne_iff_ne, beq_eq_false_iff_ne, bne_eq_false_iff_eq, Bool.not_eq_true', Bool.not_eq_false', Bool.not_eq_true, ne_eq, Decidable.not_not] at g44
        refine QK.det rfl (Yields.ldA rfl (cs := [.int .i64 tv, .slice AO l.length cO]) rfl (tab_at (tv := tv) (A := AO) (n := l.length) (c := cO) (r := r7) (List.mem_flatten.2 ⟨_, .tail _ (.tail _ (.tail _ (.tail _ (.head _)))), List.mem_singleton.2 rfl⟩))) ?_
        refine QK.call rfl rfl (of_fc) ?_
        refine QK.det rfl (Yields.ldA rfl (cs := [.int .i64 tv, .slice A l.length c]) rfl (tab_at (tv := tv) (A := A) (n := l.length) (c := c) (r := r3) (List.mem_flatten.2 ⟨_, .tail _ (.tail _ (.tail _ (.tail _ (.tail _ (.tail _ (.tail _ (.head _))))))), List.mem_singleton.2 rfl⟩))) ?_
        refine QK.nil ?_
        change OL _ _ _ [_, _, _, _] _ _ _
        refine OL.call rfl rfl (of_fc) ?_
        rintro _ Sx ⟨rfl, hSx⟩
        rw [hSx]
        clear hSx
        refine OL.call rfl rfl (sameT_fc (hrdO _).cons.cons.cons.cons.cons (hx.mono (fun p hp => absurd hp (by simp))) hl9 hl9) ?_
        rintro _ Sx ⟨rfl, hSx⟩
        rw [hSx]
        clear hSx
        rw [sameT_refl]
        refine OL.det trivial (Yields.pure rfl) ?_
        refine OL.det trivial (Yields.pure rfl) ?_
        refine OL.nil ?_
        refine hK3 _ _ ?_
        refine PW.keep (T' := [(3, _), (7, _), (8, _), (12, _)]) ⟨rfl, rfl, rfl, rfl, trivial⟩ ?_
        refine PW.seq fun K4 hK4 => ?_
        refine PW.seqOps ?_
        refine OL.subS (Sub.drop (Sub.drop (Sub.refl _))) ?_
        refine OL.det trivial (Yields.pure rfl) ?_
        refine OL.nil ?_
        refine PW.keep (T' := [(3, _), (7, _), (8, _), (12, _), (13, _)]) ⟨rfl, rfl, rfl, rfl, rfl, trivial⟩ ?_
        refine PW.block ?_
        refine PW.keep (T' := [(3, _), (7, _), (8, _), (12, _), (13, _)]) ⟨rfl, rfl, rfl, rfl, rfl, trivial⟩ ?_
        refine PW.loopK (I := fun m T S' => ∃ (k : Nat) (lA : List RuleB) (segX : Seg), (k ≤ R.2.2.length ∧ m = R.2.2.length - k ∧ lA.length = R.2.2.length ∧ SlV 56 3 (.slice AA lA.length cA) lA.length (ruls lA) segX) ∧ T = ([(3, .pointer (some ⟨r3, 0, none⟩)), (7, .pointer (some ⟨r7, 0, none⟩)), (8, .pointer (some ⟨r8, 0, none⟩)), (12, .bool true), (13, .int .i64 k)] : TT) ∧ S' = tseg r8 R.2.1 AA R.2.2.length cA :: segX :: tseg r7 tv AO l.length cO :: segO :: lseg r5 x :: tseg r3 tv A l.length c :: []) (m := R.2.2.length) ⟨0, R.2.2, segA, ⟨by omega, by omega, rfl, hslA⟩, rfl, rfl⟩ ?_
        rintro m _ _ ⟨k, lA, segX, ⟨hk, hm, hlA, hslX⟩, rfl, rfl⟩
        refine PW.seq fun K5 hK5 => ?_
        refine PW.seqOps ?_
        refine OL.det trivial (Yields.pure rfl) ?_
        refine OL.det trivial (Yields.pure rfl) ?_
        refine OL.det trivial (Yields.ld rfl (own_at (j := 1) (c := [.int .i64 R.2.1, .slice AA R.2.2.length cA]) (E := 45) (tot := 2) (List.mem_flatten.2 ⟨_, .head _, List.mem_singleton.2 rfl⟩) rfl)) ?_
        refine OL.det trivial (Yields.pure rfl) ?_
        refine OL.det trivial (Yields.pure rfl) ?_
        refine OL.nil ?_
        refine PW.keep (T' := [(3, _), (7, _), (8, _), (12, _), (13, _), (55, _)]) ⟨rfl, rfl, rfl, rfl, rfl, rfl, trivial⟩ ?_
        refine PW.cond rfl (fun c55 => ?_) (fun c55 => ?_)
        · try simp only [decide_eq_true_eq, decide_eq_false_iff_not, beq_iff_eq, bne_iff_ne, beq_eq_false_iff_ne, bne_eq_false_iff_eq, Bool.not_eq_true', Bool.not_eq_false', Bool.not_eq_true, ne_eq, Decidable.not_not] at c55
          have hkl : k < lA.length := by omega
          obtain ⟨rX, cX, e8, rfl, hcX, hmX⟩ := slv_nil_len hslX (by omega)
          obtain ⟨rfl, _, rfl⟩ := slice_eq e8
          refine PW.skip ?_
          refine hK5 _ _ ?_
          refine PW.keep (T' := [(3, _), (7, _), (8, _), (12, _), (13, _)]) ⟨rfl, rfl, rfl, rfl, rfl, trivial⟩ ?_
          refine PW.seq fun K6 hK6 => ?_
          refine PW.block ?_
          refine PW.ops ?_
          refine OL.det trivial (Yields.pure rfl) ?_
          refine OL.det trivial (Yields.ld rfl (own_at (j := 1) (c := [.int .i64 R.2.1, .slice (some ⟨rX, 0, none⟩) R.2.2.length cA]) (E := 45) (tot := 2) (List.mem_flatten.2 ⟨_, .head _, List.mem_singleton.2 rfl⟩) rfl)) ?_
          refine OL.det trivial (Yields.pure rfl) ?_
          refine OL.det trivial (Yields.ixO rfl rfl rfl (by omega)) ?_
          refine OL.det trivial (Yields.pure rfl) ?_
          refine OL.cons trivial (OW.st (k := 1) (c := ruls lA) (u := .string ⟨#[63]⟩) rfl rfl rfl rfl (by rw [ruls_len]; show k * 3 + 1 ≤ _; omega) rfl) ?_
          rintro _ _ rfl
          change OL _ _ _ _ _ (tseg r8 R.2.1 (some ⟨rX, 0, none⟩) R.2.2.length cA :: [(rX, .cells (setAt (ruls lA) (k * 3) [.string ⟨#[63]⟩]) 56 (cA * 3))] :: tseg r7 tv AO l.length cO :: segO :: lseg r5 x :: tseg r3 tv A l.length c :: []) _
          rw [ruls_setpre hkl]
          have hslY : SlV 56 3 (.slice (some ⟨rX, 0, none⟩) (lA.set k (⟨#[63]⟩, lA[k].2)).length cA) (lA.set k (⟨#[63]⟩, lA[k].2)).length (ruls (lA.set k (⟨#[63]⟩, lA[k].2))) [(rX, .cells (ruls (lA.set k (⟨#[63]⟩, lA[k].2))) 56 (cA * 3))] := SlV.mk' (by rw [ruls_len]) (by simp; omega) hmX
          refine OL.nil ?_
          refine hK6 _ _ ?_
          refine PW.keep (T' := [(3, _), (7, _), (8, _), (12, _), (13, _)]) ⟨rfl, rfl, rfl, rfl, rfl, trivial⟩ ?_
          refine PW.ops ?_
          refine OL.det trivial (Yields.pure rfl) ?_
          refine OL.det trivial (Yields.add64 rfl rfl (by omega) (by omega)) ?_
          refine OL.det trivial (Yields.pure rfl) ?_
          refine OL.nil ?_
          repeat rw [inBlk_n]
          rw [thenK_n]
          refine LoopEnd.mk (T'' := [(3, _), (7, _), (8, _), (12, _), (13, _)]) ⟨rfl, rfl, rfl, rfl, rfl, trivial⟩ ?_
          exact ⟨R.2.2.length - (k + 1), by omega, k + 1, lA.set k (⟨#[63]⟩, lA[k].2), _, ⟨by omega, rfl, by simp [hlA], hslY⟩, rfl, rfl⟩
        · try simp only [decide_eq_true_eq, decide_eq_false_iff_not, beq_iff_eq, bne_iff_ne, beq_eq_false_iff_ne, bne_eq_false_iff_eq, Bool.not_eq_true', Bool.not_eq_false', Bool.not_eq_true, ne_eq, Decidable.not_not] at c55
          refine PW.exit ?_
          refine hK4 _ _ ?_
          refine PW.keep (T' := [(3, _), (7, _), (12, _)]) ⟨rfl, rfl, rfl, trivial⟩ ?_
          refine PW.seq fun K7 hK7 => ?_
          refine PW.quietK Tryd.mixed ?_
          refine QK.det trivial (Yields.pure rfl) ?_
          refine QK.bool trivial (Yields.pure rfl) (fun g64 => ?_) (fun g64 => ?_)
          · try simp only [decide_eq_true_eq, decide_eq_false_iff_not, beq_iff_eq, bne_iff_ne, beq_eq_false_iff_ne, bne_eq_false_iff_eq, Bool.not_eq_true', Bool.not_eq_false', Bool.not_eq_true, ne_eq, Decidable.not_not] at g64
            refine QK.det rfl (Yields.ldA rfl (cs := [.int .i64 tv, .slice AO l.length cO]) rfl (tab_at (tv := tv) (A := AO) (n := l.length) (c := cO) (r := r7) (List.mem_flatten.2 ⟨_, .tail _ (.tail _ (.head _)), List.mem_singleton.2 rfl⟩))) ?_
            refine QK.call rfl rfl (of_fc) ?_
            refine QK.det rfl (Yields.ldA rfl (cs := [.int .i64 tv, .slice A l.length c]) rfl (tab_at (tv := tv) (A := A) (n := l.length) (c := c) (r := r3) (List.mem_flatten.2 ⟨_, .tail _ (.tail _ (.tail _ (.tail _ (.tail _ (.head _))))), List.mem_singleton.2 rfl⟩))) ?_
            refine QK.nil ?_
            change OL _ _ _ [_, _, _, _, _, _, _] _ _ _
            refine OL.call rfl rfl (of_fc) ?_
            rintro _ Sx ⟨rfl, hSx⟩
            rw [hSx]
            clear hSx
            refine OL.call rfl rfl (sameT_fc (hrdO _).cons.cons.cons (hx.mono (fun p hp => absurd hp (by simp))) hl9 hl9) ?_
            rintro _ Sx ⟨rfl, hSx⟩
            rw [hSx]
            clear hSx
            rw [sameT_refl]
            refine OL.det trivial (Yields.pure rfl) ?_
            refine OL.bool trivial (Yields.pure rfl) (fun g71 => ?_) (fun g71 => ?_)
            · try simp only [decide_eq_true_eq, decide_eq_false_iff_not, beq_iff_eq, bne_iff_ne, beq_eq_false_iff_ne, bne_eq_false_iff_eq, Bool.not_eq_true', Bool.not_eq_false', Bool.not_eq_true, ne_eq, Decidable.not_not] at g71
              refine OL.call rfl rfl (rawake_fc) ?_
              rintro _ _ ⟨rfl, _⟩
              refine OL.det trivial (Yields.pure rfl) ?_
              refine OL.det trivial (Yields.pure rfl) ?_
              refine OL.nil ?_
              refine hK7 _ _ ?_
              refine PW.keep (T' := [(6, _)]) ⟨rfl, trivial⟩ ?_
              refine PW.ret ?_
              change (Exit.ret = Exit.normal ∨ Exit.ret = Exit.ret) ∧ ∃ v, resV _ _ = some v ∧ _
              exact ⟨.inr rfl, _, rfl, rfl⟩
            · try simp only [decide_eq_true_eq, decide_eq_false_iff_not, beq_iff_eq, bne_iff_ne, beq_eq_false_iff_ne, bne_eq_false_iff_eq, Bool.not_eq_true', Bool.not_eq_false', Bool.not_eq_true, ne_eq, Decidable.not_not] at g71
              exfalso; revert g71; simp
              -- done
          · try simp only [decide_eq_true_eq, decide_eq_false_iff_not, beq_iff_eq, bne_iff_ne, beq_eq_false_iff_ne, bne_eq_false_iff_eq, Bool.not_eq_true', Bool.not_eq_false', Bool.not_eq_true, ne_eq, Decidable.not_not] at g64
            exfalso; revert g64; simp
            -- done
      · try simp only [decide_eq_true_eq, decide_eq_false_iff_not, beq_iff_eq, bne_iff_ne, beq_eq_false_iff_ne, bne_eq_false_iff_eq, Bool.not_eq_true', Bool.not_eq_false', Bool.not_eq_true, ne_eq, Decidable.not_not] at g44
        rw [sameT_refl] at g44; cases g44
        -- done
    · try simp only [decide_eq_true_eq, decide_eq_false_iff_not, beq_iff_eq, bne_iff_ne, beq_eq_false_iff_ne, bne_eq_false_iff_eq, Bool.not_eq_true', Bool.not_eq_false', Bool.not_eq_true, ne_eq, Decidable.not_not] at g38
      exact absurd trivial g38
      -- done
end Go.Proofs.Rl
