/- Code and functions told. -/
import Derived.Test.YtbidjnjbiibdeaaDoorE12
set_option linter.unusedVariables false
set_option linter.unusedSimpArgs false
namespace Go.SL
open Go.RowKit

inductive EC where
  | skip
  | ops (l : List PI)
  | drawn (b : List Nat) (k : Nat) (l : List PI)
  | seq (a b : EC)
  | cond (x : PV) (a b : EC)
  | block (id : Nat) (c : EC)
  | loop (live : List Nat) (c : EC)
  | exit (id : Nat)
  | ret
/-- without the hints -/
def EC.strip : EC → EC
  | .seq a b => .seq a.strip b.strip
  | .cond x a b => .cond x a.strip b.strip
  | .block id c => .block id c.strip
  | .loop _ c => .loop [] c.strip
  | c => c
def cE (P : Program) (n : Nat) : Code → Option EC
  | .skip => some .skip
  | .region _ ops false => (cIs P n ops (List.range ops.size)).map .ops
  | .region _ ops true => if apartB ops && backB ops && Region.noSelect ops && hoistB ops ((hoists ops).filter (· < quietAt ops)) (Array.replicate ops.size false) then (cIs P n ops (List.range ops.size)).map (.drawn (reach ops) (quietAt ops)) else none
  | .seq a b => match cE P n a, cE P n b with | some x, some y => some (.seq x y) | _, _ => none
  | .cond c x y => match cE P n x, cE P n y with | some x, some y => some (.cond (cV c) x y) | _, _ => none
  | .block id c => (cE P n c).map (.block id)
  | .loop c => (cE P n c).map (.loop [])
  | .exit id => some (.exit id)
  | .ret => some .ret
  | _ => none

inductive EX where
  | normal
  | ret
  | exit (id : Nat)
def EX.to : EX → Exit
  | .normal => .normal
  | .ret => .ret
  | .exit id => .exit id
def slim (T : TT) : List Nat → TT
  | [] => []
  | i :: r => match look T i with | some v => (i, v) :: slim T r | none => slim T r
def evC (call : CallE) : Nat → EC → TT → EH → Option (EX × TT × EH)
  | 0, _, _, _ => none
  | f + 1, c, T, H => match c with
    | .skip => some (.normal, T, H)
    | .ops l => (match evL call l T H with | some (T', H') => some (.normal, T', H') | none => none)
    | .drawn b k l => (match evD call b k l T H with | some (T', H') => some (.normal, T', H') | none => none)
    | .seq a b => (match evC call f a T H with | some (.normal, T', H') => evC call f b T' H' | r => r)
    | .cond x a b => (match x.ev T with | some (.bool true) => evC call f a T H | some (.bool false) => evC call f b T H | _ => none)
    | .block id c => (match evC call f c T H with | some (.exit j, T', H') => (bif Nat.beq j id then some (.normal, T', H') else some (.exit j, T', H')) | r => r)
    | .loop live c => (match evC call f c (slim T live) H with | some (.normal, T', H') => evC call f (.loop live c) T' H' | r => r)
    | .exit id => some (.exit id, T, H)
    | .ret => some (.ret, T, H)
inductive RV where
  | tmp (t : Nat)
  | cell (t : Nat) (m : Option Nat)
structure EFn where
  ec : EC
  n : Nat
  rs : List RV
def resC (P : Program) : List ResultVar → Option (List RV)
  | [] => some []
  | .tmp t :: r => (resC P r).map (.tmp t :: ·)
  | .cell a t :: r => match aggOf P t, resC P r with | some m, some l => some (.cell a m :: l) | _, _ => none
def resE (T : TT) (H : EH) : List RV → Option (List Value)
  | [] => some []
  | .tmp t :: r => match look T t, resE T H r with | some v, some l => some (v :: l) | _, _ => none
  | .cell t none :: r => match look T t, resE T H r with | some (.pointer (some a)), some l => (match H.cell a with | some v => some (v :: l) | none => none) | _, _ => none
  | .cell t (some m) :: r => match look T t, resE T H r with | some (.pointer (some a)), some l => (match H.row a m with | some c => some (.agg c.toArray :: l) | none => none) | _, _ => none
def oneOf : List Value → Value
  | [v] => v
  | l => .tuple l.toArray
def evF (tbl : FuncId → Option EFn) (fuel : Nat) : Nat → CallE
  | 0, _, _, _ => none
  | d + 1, k, vs, H => match tbl k with
    | some fn => bif Nat.ble vs.length fn.n then (match evC (evF tbl fuel d) fuel fn.ec (argT 0 vs) H with
      | some (.normal, T', H') => (match resE T' H' fn.rs with | some l => some (oneOf l, H') | none => none)
      | some (.ret, T', H') => (match resE T' H' fn.rs with | some l => some (oneOf l, H') | none => none)
      | _ => none) else none
    | none => none
def KnownE (P : Program) (k : FuncId) (e : EFn) : Prop :=
  ∃ fn c, P.funcs[k]? = some fn ∧ fn.body = some c ∧ cE P fn.ntmps c = some e.ec.strip ∧ fn.ntmps = e.n ∧ resC P fn.results.toList = some e.rs ∧ fnOk P k = true

section
variable {P : Program} {w0 : World} {n : Nat} {S : SS}
theorem slim_look {T : TT} {i : Nat} {v : Value} : ∀ {l : List Nat}, look (slim T l) i = some v → look T i = some v
  | [], h => by simp [slim, look] at h
  | j :: l, h => by
    simp only [slim] at h
    split at h
    · rename_i u hu
      by_cases e : j = i
      · subst e
        rw [look_put_same] at h
        rw [hu]; exact h
      · rw [look_cons_ne _ _ e] at h
        exact slim_look h
    · exact slim_look h
theorem cE_region {c : Code} {l : List PI} (h : cE P n c = some (.ops l)) : ∃ id ops, c = .region id ops false ∧ cIs P n ops (List.range ops.size) = some l := by
  cases c
  case region id ops dr =>
    cases dr with
    | false =>
      simp only [cE, Option.map_eq_some_iff, EC.ops.injEq] at h
      obtain ⟨l', h1, rfl⟩ := h
      exact ⟨id, ops, rfl, h1⟩
    | true =>
      simp only [cE] at h
      split at h
      · simp at h
      · cases h
  all_goals (simp only [cE] at h)
  all_goals (first | (cases h; done) | (split at h <;> simp at h; done) | (simp at h; done))
theorem cE_drawn {c : Code} {b : List Nat} {k : Nat} {l : List PI} (h : cE P n c = some (.drawn b k l)) : ∃ id ops, c = .region id ops true ∧ (apartB ops && backB ops && Region.noSelect ops && hoistB ops ((hoists ops).filter (· < quietAt ops)) (Array.replicate ops.size false)) = true ∧ cIs P n ops (List.range ops.size) = some l ∧ reach ops = b ∧ quietAt ops = k := by
  cases c
  case region id ops dr =>
    cases dr with
    | false => simp [cE] at h
    | true =>
      simp only [cE] at h
      split at h
      · rename_i hc
        simp only [Option.map_eq_some_iff, EC.drawn.injEq] at h
        obtain ⟨l', h1, h2, h3, rfl⟩ := h
        exact ⟨id, ops, rfl, hc, h1, h2, h3⟩
      · cases h
  all_goals (simp only [cE] at h)
  all_goals (first | (cases h; done) | (split at h <;> simp at h; done) | (simp at h; done))
theorem cE_seq {c : Code} {a b : EC} (h : cE P n c = some (.seq a b)) : ∃ c1 c2, c = .seq c1 c2 ∧ cE P n c1 = some a ∧ cE P n c2 = some b := by
  cases c
  case region id ops dr => cases dr <;> simp [cE] at h
  case seq c1 c2 =>
    simp only [cE] at h
    split at h
    · rename_i x y h1 h2
      simp only [Option.some.injEq, EC.seq.injEq] at h
      obtain ⟨rfl, rfl⟩ := h
      exact ⟨c1, c2, rfl, h1, h2⟩
    · cases h
  all_goals (simp only [cE] at h)
  all_goals (first | (cases h; done) | (split at h <;> simp at h; done) | (simp at h; done))
theorem cE_cond {c : Code} {x : PV} {a b : EC} (h : cE P n c = some (.cond x a b)) : ∃ y c1 c2, c = .cond y c1 c2 ∧ x = cV y ∧ cE P n c1 = some a ∧ cE P n c2 = some b := by
  cases c
  case region id ops dr => cases dr <;> simp [cE] at h
  case cond y c1 c2 =>
    simp only [cE] at h
    split at h
    · rename_i x y h1 h2
      simp only [Option.some.injEq, EC.cond.injEq] at h
      obtain ⟨rfl, rfl, rfl⟩ := h
      exact ⟨_, c1, c2, rfl, rfl, h1, h2⟩
    · cases h
  all_goals (simp only [cE] at h)
  all_goals (first | (cases h; done) | (split at h <;> simp at h; done) | (simp at h; done))
theorem cE_block {c : Code} {id : Nat} {a : EC} (h : cE P n c = some (.block id a)) : ∃ c1, c = .block id c1 ∧ cE P n c1 = some a := by
  cases c
  case region id ops dr => cases dr <;> simp [cE] at h
  case block id' c1 =>
    simp only [cE, Option.map_eq_some_iff, EC.block.injEq] at h
    obtain ⟨x, h1, rfl, rfl⟩ := h
    exact ⟨c1, rfl, h1⟩
  all_goals (simp only [cE] at h)
  all_goals (first | (cases h; done) | (split at h <;> simp at h; done) | (simp at h; done))
theorem cE_loop {c : Code} {lv : List Nat} {a : EC} (h : cE P n c = some (.loop lv a)) : ∃ c1, c = .loop c1 ∧ cE P n c1 = some a := by
  cases c
  case region id ops dr => cases dr <;> simp [cE] at h
  case loop c1 =>
    simp only [cE, Option.map_eq_some_iff, EC.loop.injEq] at h
    obtain ⟨x, h1, _, rfl⟩ := h
    exact ⟨c1, rfl, h1⟩
  all_goals (simp only [cE] at h)
  all_goals (first | (cases h; done) | (split at h <;> simp at h; done) | (simp at h; done))
theorem cE_skip {c : Code} (h : cE P n c = some .skip) : c = .skip := by
  cases c
  case region id ops dr => cases dr <;> simp [cE] at h
  case skip => rfl
  all_goals (simp only [cE] at h)
  all_goals (first | (cases h; done) | (split at h <;> simp at h; done) | (simp at h; done))
theorem cE_ret {c : Code} (h : cE P n c = some .ret) : c = .ret := by
  cases c
  case region id ops dr => cases dr <;> simp [cE] at h
  case ret => rfl
  all_goals (simp only [cE] at h)
  all_goals (first | (cases h; done) | (split at h <;> simp at h; done) | (simp at h; done))
theorem cE_exit {c : Code} {id : Nat} (h : cE P n c = some (.exit id)) : c = .exit id := by
  cases c
  case region id ops dr => cases dr <;> simp [cE] at h
  case exit id' => simp only [cE, Option.some.injEq, EC.exit.injEq] at h; rw [h]
  all_goals (simp only [cE] at h)
  all_goals (first | (cases h; done) | (split at h <;> simp at h; done) | (simp at h; done))

/-- what code owes -/
def EW (P : Program) (w0 : World) (n : Nat) (ec : EC) (Tc : TT) (Sc : SS) (Q : Exit → TT → SS → Prop) : Prop :=
  ∀ c, cE P n c = some ec.strip → ∀ a w, Sat n Tc a → Rep w0 Sc w → c.wp P (fun e a' w' => ∃ T' S', Sat n T' a' ∧ Rep w0 S' w' ∧ Q e T' S') a w
theorem EW.mono {ec : EC} {Tc : TT} {Sc : SS} {Q Q' : Exit → TT → SS → Prop} (h : EW P w0 n ec Tc Sc Q) (hq : ∀ e T S, Q e T S → Q' e T S) : EW P w0 n ec Tc Sc Q' :=
  fun c hc a w hs hr => wp_mono (h c hc a w hs hr) fun e a' w' ⟨T', S', hs', hr', q⟩ => ⟨T', S', hs', hr', hq _ _ _ q⟩
theorem StR.mono {ρ ρ' : Rho} {T : TT} {H : EH} {T2 : TT} {S2 : SS} (hp : ρ <+: ρ') (h : StR w0 ρ' S T H T2 S2) : StR w0 ρ S T H T2 S2 := let ⟨r, L, a, b⟩ := h; ⟨r, L, hp.trans a, b⟩
set_option maxHeartbeats 1000000 in
theorem evC_snd {call : CallE} (hm : P.follows .mixedOrders = true) (hcall : CallOk P w0 call) (F : Nat) : ∀ {ec : EC} {T Tc : TT} {ρ : Rho} {H : EH} {L : LL} {ex : EX} {T' : TT} {H' : EH}, TR ρ T Tc → HR w0 ρ H L → evC call F ec T H = some (ex, T', H') →
    EW P w0 n ec Tc (cs L S) (fun e T2 S2 => e = ex.to ∧ StR w0 ρ S T' H' T2 S2) := by
  induction F using Nat.strongRecOn with
  | _ F IH =>
    intro ec T Tc ρ H L ex T' H' hT hH h
    cases F with
    | zero => cases h
    | succ f =>
    have ih := fun {ec : EC} {T Tc : TT} {ρ : Rho} {H : EH} {L : LL} {ex : EX} {T' : TT} {H' : EH} => @IH f (Nat.lt_succ_self f) ec T Tc ρ H L ex T' H'
    intro c hc a w hs hr
    cases ec with
    | skip =>
      simp only [evC, Option.some.injEq, Prod.mk.injEq] at h
      obtain ⟨rfl, rfl, rfl⟩ := h
      obtain rfl := cE_skip hc
      exact wp_skip ⟨Tc, _, hs, hr, rfl, ρ, L, List.prefix_refl _, hT, rfl, hH⟩
    | ret =>
      simp only [evC, Option.some.injEq, Prod.mk.injEq] at h
      obtain ⟨rfl, rfl, rfl⟩ := h
      obtain rfl := cE_ret hc
      exact wp_ret ⟨Tc, _, hs, hr, rfl, ρ, L, List.prefix_refl _, hT, rfl, hH⟩
    | exit id =>
      simp only [evC, Option.some.injEq, Prod.mk.injEq] at h
      obtain ⟨rfl, rfl, rfl⟩ := h
      obtain rfl := cE_exit hc
      exact wp_exit ⟨Tc, _, hs, hr, rfl, ρ, L, List.prefix_refl _, hT, rfl, hH⟩
    | ops l =>
      simp only [evC] at h
      split at h
      · rename_i T1 H1 h1
        simp only [Option.some.injEq, Prod.mk.injEq] at h
        obtain ⟨rfl, rfl, rfl⟩ := h
        obtain ⟨id, ops, rfl, h2⟩ := cE_region hc
        exact wp_region (evL_ol hcall hT hH h1 ops _ a w _ h2 hs hr fun a' w' T2 S2 h3 h4 h5 => ⟨T2, S2, h3, h4, rfl, h5⟩)
      · cases h
    | drawn b k l =>
      simp only [evC] at h
      split at h
      · rename_i T1 H1 h1
        simp only [Option.some.injEq, Prod.mk.injEq] at h
        obtain ⟨rfl, rfl, rfl⟩ := h
        obtain ⟨id, ops, rfl, h2, h3, rfl, h5⟩ := cE_drawn hc
        exact wp_mono (drawn_wp hm hcall h2 h3 h5 hT hH h1 a w hs hr) fun e a' w' ⟨he, T2, S2, q1, q2, q3⟩ => ⟨T2, S2, q1, q2, he, q3⟩
      · cases h
    | seq c1 c2 =>
      simp only [evC] at h
      obtain ⟨d1, d2, rfl, h1, h2⟩ := cE_seq hc
      cases hev : evC call f c1 T H with
      | none => rw [hev] at h; cases h
      | some r =>
        obtain ⟨ex1, T1, H1⟩ := r
        rw [hev] at h
        have i1 := ih hT hH hev d1 h1 a w hs hr
        refine wp_seq (wp_mono i1 ?_)
        rintro e a' w' ⟨T2, S2, q1, q2, rfl, ρ2, L2, p1, p2, rfl, p4⟩
        cases ex1 with
        | normal => exact wp_mono (ih p2 p4 h d2 h2 a' w' q1 q2) fun e a' w' ⟨T3, S3, r1, r2, r3, r4⟩ => ⟨T3, S3, r1, r2, r3, r4.mono p1⟩
        | ret =>
          simp only [Option.some.injEq, Prod.mk.injEq] at h
          obtain ⟨rfl, rfl, rfl⟩ := h
          exact ⟨T2, _, q1, q2, rfl, ρ2, L2, p1, p2, rfl, p4⟩
        | exit j =>
          simp only [Option.some.injEq, Prod.mk.injEq] at h
          obtain ⟨rfl, rfl, rfl⟩ := h
          exact ⟨T2, _, q1, q2, rfl, ρ2, L2, p1, p2, rfl, p4⟩
    | cond x c1 c2 =>
      simp only [evC] at h
      obtain ⟨y, d1, d2, rfl, rfl, h1, h2⟩ := cE_cond hc
      split at h
      · rename_i hx
        obtain ⟨u, g1, g2⟩ := hT.ev hx
        obtain rfl := g2.bool_inv
        exact wp_cond_split (hs.eval g1) (fun _ => ih hT hH h d1 h1 a w hs hr) (fun e => by cases e)
      · rename_i hx
        obtain ⟨u, g1, g2⟩ := hT.ev hx
        obtain rfl := g2.bool_inv
        exact wp_cond_split (hs.eval g1) (fun e => by cases e) (fun _ => ih hT hH h d2 h2 a w hs hr)
      · cases h
    | block id c1 =>
      simp only [evC] at h
      obtain ⟨d1, rfl, h1⟩ := cE_block hc
      cases hev : evC call f c1 T H with
      | none => rw [hev] at h; cases h
      | some r =>
        obtain ⟨ex1, T1, H1⟩ := r
        rw [hev] at h
        have i1 := ih hT hH hev d1 h1 a w hs hr
        refine wp_block (wp_mono i1 ?_)
        rintro e a' w' ⟨T2, S2, q1, q2, rfl, p⟩
        cases ex1 with
        | normal =>
          simp only [Option.some.injEq, Prod.mk.injEq] at h
          obtain ⟨rfl, rfl, rfl⟩ := h
          exact ⟨T2, _, q1, q2, rfl, p⟩
        | ret =>
          simp only [Option.some.injEq, Prod.mk.injEq] at h
          obtain ⟨rfl, rfl, rfl⟩ := h
          exact ⟨T2, _, q1, q2, rfl, p⟩
        | exit j =>
          simp only at h
          simp only [EX.to, Exit.inBlock]
          rcases beq_cases j id with ⟨rfl, e⟩ | ⟨hne, e⟩
          · rw [e] at h
            simp only [cond_true, Option.some.injEq, Prod.mk.injEq] at h
            obtain ⟨rfl, rfl, rfl⟩ := h
            rw [if_pos rfl]
            exact ⟨T2, _, q1, q2, rfl, p⟩
          · rw [e] at h
            simp only [cond_false, Option.some.injEq, Prod.mk.injEq] at h
            obtain ⟨rfl, rfl, rfl⟩ := h
            rw [if_neg hne]
            exact ⟨T2, _, q1, q2, rfl, p⟩
    | loop lv c1 =>
      obtain ⟨d1, rfl, h1⟩ := cE_loop hc
      refine wp_loop_rounds (f + 1) ?_
      have key : ∀ g, g ≤ f + 1 → ∀ {T Tc : TT} {ρ2 : Rho} {H : EH} {L : LL} {a : Act} {w : World}, ρ <+: ρ2 → TR ρ2 T Tc → HR w0 ρ2 H L → Sat n Tc a → Rep w0 (cs L S) w → evC call g (.loop lv c1) T H = some (ex, T', H') →
          Code.rounds P d1 (fun e a' w' => ∃ T2 S2, Sat n T2 a' ∧ Rep w0 S2 w' ∧ e = ex.to ∧ StR w0 ρ S T' H' T2 S2) g a w := by
        intro g
        induction g with
        | zero => intro _ T Tc ρ2 H L a w _ _ _ _ _ h; cases h
        | succ g ihg =>
          intro hg T Tc ρ2 H L a w hp hT hH hs hr h
          simp only [evC] at h
          cases hev : evC call g c1 (slim T lv) H with
          | none => rw [hev] at h; cases h
          | some r =>
            obtain ⟨ex1, T1, H1⟩ := r
            rw [hev] at h
            have i1 := IH g (by omega) (Tc := Tc) (fun i v hv => hT i v (slim_look hv)) hH hev d1 h1 a w hs hr
            refine wp_mono i1 ?_
            rintro e a' w' ⟨T2, S2, q1, q2, rfl, ρ3, L2, p1, p2, rfl, p4⟩
            cases ex1 with
            | normal => exact ihg (by omega) (hp.trans p1) p2 p4 q1 q2 h
            | ret =>
              simp only [Option.some.injEq, Prod.mk.injEq] at h
              obtain ⟨rfl, rfl, rfl⟩ := h
              exact ⟨T2, _, q1, q2, rfl, ρ3, L2, hp.trans p1, p2, rfl, p4⟩
            | exit j =>
              simp only [Option.some.injEq, Prod.mk.injEq] at h
              obtain ⟨rfl, rfl, rfl⟩ := h
              exact ⟨T2, _, q1, q2, rfl, ρ3, L2, hp.trans p1, p2, rfl, p4⟩
      exact key (f + 1) (Nat.le_refl _) (List.prefix_refl _) hT hH hs hr h
/-! ### functions -/
def resM (tmps : Array Value) : ResultVar → Sem Value
  | .tmp t => pure (tmps.getD t undef)
  | .cell a t => do loadVar t (← asAddr (tmps.getD a undef))
theorem results_eq (fn : Func) (tmps : Array Value) : results fn tmps = (do let vs ← fn.results.mapM (resM tmps); pure (if h : vs.size = 1 then vs[0] else .tuple vs)) := by
  unfold results
  refine congrArg (fun f => (fn.results.mapM f >>= fun vs => pure (if h : vs.size = 1 then vs[0] else Value.tuple vs) : Sem Value)) ?_
  funext x
  cases x <;> rfl
theorem resE_run {T : TT} {H : EH} {Tc : TT} {ρ : Rho} {L : LL} (hT : TR ρ T Tc) (hH : HR w0 ρ H L) {tmps : Array Value} {w : World} (ht : ∀ i v, look Tc i = some v → tmps[i]? = some v) (hr : Rep w0 (cs L S) w) :
    ∀ {rv : List ResultVar} {rs : List RV} {l : List Value}, resC P rv = some rs → resE T H rs = some l → ∃ us, VRL ρ l us ∧ (rv.mapM (resM tmps)).run P w = .ok us w
  | [], rs, l, h1, h2 => by
    simp only [resC, Option.some.injEq] at h1
    subst h1
    simp only [resE, Option.some.injEq] at h2
    subst h2
    exact ⟨[], .nil, by simp⟩
  | .tmp t :: rv, rs, l, h1, h2 => by
    simp only [resC, Option.map_eq_some_iff] at h1
    obtain ⟨rs', h3, rfl⟩ := h1
    simp only [resE] at h2
    split at h2
    · rename_i v l' hv hl
      obtain rfl := Option.some.inj h2
      obtain ⟨us, h4, h5⟩ := resE_run hT hH ht hr h3 hl
      obtain ⟨u, h6, h7⟩ := hT t v hv
      have h8 : (resM tmps (.tmp t)).run P w = .ok u w := by simp [resM, ht t u h6]
      exact ⟨u :: us, VRL.cons h7 h4, by simp [h5, h8]⟩
    · cases h2
  | .cell a t :: rv, rs, l, h1, h2 => by
    simp only [resC] at h1
    split at h1
    · rename_i m rs' hm h3
      obtain rfl := Option.some.inj h1
      cases m with
      | none =>
        simp only [resE] at h2
        split at h2
        · rename_i ad l' hv hl
          split at h2
          · rename_i v hc
            obtain rfl := Option.some.inj h2
            obtain ⟨us, h4, h5⟩ := resE_run hT hH ht hr h3 hl
            obtain ⟨u, h6, h7⟩ := hT a _ hv
            obtain ⟨a', rfl, h8⟩ := h7.ptr_inv
            obtain ⟨u, h9, h10⟩ := hH.cell (S := S) h8 hc
            obtain ⟨d, hu, hd⟩ := aggOf_none hm
            have hcell := hr.cell h9
            have hload : (loadVar t a').run P w = .ok u w := by
              simp only [loadVar]
              simp [run_isAgg hu, hd, load, Sem.run, hcell]
            refine ⟨u :: us, VRL.cons h10 h4, ?_⟩
            have h11 : (resM tmps (.cell a t)).run P w = .ok u w := by
              have e := ht a _ h6
              simp [resM, e, asAddr, hload]
            simp [h5, h11]
          · cases h2
        · cases h2
      | some m =>
        simp only [resE] at h2
        split at h2
        · rename_i ad l' hv hl
          split at h2
          · rename_i c hc
            obtain rfl := Option.some.inj h2
            obtain ⟨us, h4, h5⟩ := resE_run hT hH ht hr h3 hl
            obtain ⟨u, h6, h7⟩ := hT a _ hv
            obtain ⟨a', rfl, h8⟩ := h7.ptr_inv
            obtain ⟨hlen, cs', h9, h10⟩ := hH.row (S := S) h8 hc
            obtain ⟨d, i, hu, hd, hi, hsz⟩ := aggOf_some hm
            have hload0 := run_loadCells_list (P := P) w a' cs' (fun j v hv => hr.cell (h10 j v hv))
            have hload : (loadVar t a').run P w = .ok (.agg cs'.toArray) w := by
              rw [← h9.1, hlen] at hload0
              simp only [loadVar]
              simp [run_isAgg hu, hd, sizeOf, typeInfo, program, hi, hsz, hload0, Sem.run]
            refine ⟨_ :: us, VRL.cons (.agg h9.1 h9.2) h4, ?_⟩
            have h11 : (resM tmps (.cell a t)).run P w = .ok (.agg cs'.toArray) w := by
              have e := ht a _ h6
              simp [resM, e, asAddr, hload]
            simp [h5, h11]
          · cases h2
        · cases h2
    · cases h1
theorem VR.flat_inv {ρ : Rho} {v u : Value} (h : VR ρ v u) (hv : flatV v = true) : u = v := by
  cases h with
  | flat _ => rfl
  | ptr h => simp only [flatV, Bool.and_eq_true] at hv; have := hv.1; rw [Nat.blt_eq] at this; omega
  | _ => simp [flatV] at hv
theorem oneOf_VR {ρ : Rho} {l us : List Value} (h : VRL ρ l us) : VR ρ (oneOf l) (oneOf us) := by
  rcases l with _ | ⟨v, _ | ⟨v2, l⟩⟩
  · obtain rfl := h.nil_left; exact .tuple h.1 (by simp)
  · obtain ⟨u, us, rfl, h1, h2⟩ := h.cons_left
    obtain rfl := h2.nil_left
    exact h1
  · obtain ⟨u, us, rfl, h1, h2⟩ := h.cons_left
    obtain ⟨u2, us, rfl, h3, h4⟩ := h2.cons_left
    exact .tuple h.1 h.2
theorem argT_VR {ρ : Rho} : ∀ {vs us : List Value} (i : Nat), VRL ρ vs us → TR ρ (argT i vs) (argT i us)
  | [], us, i, h => fun j v hj => by simp [argT, look] at hj
  | v :: vs, us, i, h => by
    obtain ⟨u, us, rfl, h1, h2⟩ := h.cons_left
    exact TR.put (argT_VR (i + 1) h2) h1 (some i)
def TblOk (P : Program) (tbl : FuncId → Option EFn) : Prop := ∀ k e, tbl k = some e → KnownE P k e
theorem evF_ok {tbl : FuncId → Option EFn} {fuel : Nat} (hm : P.follows .mixedOrders = true) (ht : TblOk P tbl) : ∀ d, CallOk P w0 (evF tbl fuel d)
  | 0, k, vs, H, r, h => by cases h
  | d + 1, k, vs, H, r, h => by
    simp only [evF] at h
    split at h
    case h_2 => cases h
    rename_i e he
    obtain ⟨fn, c, hf, hb, hc, hn, hres, hok⟩ := ht k e he
    refine ⟨hok, fun ρ L S us hvs hH => ?_⟩
    obtain ⟨hle, h⟩ := bif_some h
    have hle := Nat.le_of_ble_eq_true hle
    have ihd := evF_ok (fuel := fuel) hm ht d
    have fin : ∀ (ex : EX) (T' : TT) (H' : EH), (ex = .normal ∨ ex = .ret) → evC (evF tbl fuel d) fuel e.ec (argT 0 vs) H = some (ex, T', H') → (match resE T' H' e.rs with | some l => some (oneOf l, H') | none => none) = some r →
        FC P w0 k us (cs L S) (fun u S' => ∃ ρ' L', ρ <+: ρ' ∧ VR ρ' r.1 u ∧ S' = cs L' S ∧ HR w0 ρ' r.2 L') := by
      intro ex T' H' hex hev hr2
      split at hr2
      case h_2 => cases hr2
      rename_i l hl
      obtain rfl := Option.some.inj hr2
      intro w hw
      have i1 := evC_snd (S := S) (n := fn.ntmps) hm ihd fuel (argT_VR 0 hvs) hH hev c hc _ w (argT_sat (by rw [hn, ← hvs.1]; exact hle)) hw
      refine calls_of_wp hf hb (wp_mono i1 ?_)
      rintro ee a' w' ⟨T2, S2, q1, q2, rfl, ρ2, L2, p1, p2, rfl, p4⟩
      obtain ⟨us', h4, h5⟩ := resE_run (P := P) p2 p4 q1.get q2 hres hl
      have hrun : (results fn a'.tmps).run P w' = .ok (oneOf us') w' := by
        rw [results_eq]
        have e1 : fn.results = fn.results.toList.toArray := by simp
        rw [e1, List.mapM_toArray]
        rw [map_eq_pure_bind]
        simp only [Sem.run_bind, Sem.run_pure, h5, Result.andThen_ok]
        rcases us' with _ | ⟨u, _ | ⟨u2, us'⟩⟩ <;> simp [oneOf]
      rcases hex with rfl | rfl
      · exact ⟨q1.defers, _, hrun, _, _, rfl, q2, ρ2, L2, p1, oneOf_VR h4, rfl, p4⟩
      · exact ⟨q1.defers, _, hrun, _, _, rfl, q2, ρ2, L2, p1, oneOf_VR h4, rfl, p4⟩
    split at h
    · rename_i T' H' hev; exact fin _ _ _ (.inl rfl) hev h
    · rename_i T' H' hev; exact fin _ _ _ (.inr rfl) hev h
    · cases h
def lk : List (FuncId × EFn) → FuncId → Option EFn
  | [], _ => none
  | p :: r, k => bif Nat.beq p.1 k then some p.2 else lk r k
def AllK (P : Program) : List (FuncId × EFn) → Prop
  | [] => True
  | p :: r => KnownE P p.1 p.2 ∧ AllK P r
theorem lk_ok : ∀ {l : List (FuncId × EFn)}, AllK P l → TblOk P (lk l)
  | [], _, k, e, h => by cases h
  | p :: r, hl, k, e, h => by
    simp only [lk] at h
    rcases beq_cases p.1 k with ⟨e1, e2⟩ | ⟨e1, e2⟩
    · rw [e2] at h
      simp only [cond_true, Option.some.injEq] at h
      subst e1; subst h
      exact hl.1
    · rw [e2] at h
      exact lk_ok hl.2 k e h
/-- a closed call -/
theorem ev_fc {tbl : FuncId → Option EFn} {fuel d : Nat} {k : FuncId} {v : Value} {H' : EH} (hm : P.follows .mixedOrders = true) (ht : TblOk P tbl) (hv : flatV v = true) {vs : List Value} (hvs : vs.all flatV = true)
    (h : evF tbl fuel d k vs ⟨0, .leaf, []⟩ = some (v, H')) : FC P w0 k vs S (fun u S' => u = v ∧ S' = S) := by
  have hH : HR w0 [] ⟨0, .leaf, []⟩ [] := ⟨rfl, Nat.zero_le _, by simp, by simp, (fun i o hi => by rw [Tr.get_leaf] at hi; cases hi), by simp⟩
  have := (evF_ok (w0 := w0) (fuel := fuel) hm ht d k vs _ _ h).2 [] [] S vs (VRL.flat hvs) hH
  intro w hw
  refine (this w hw).mono ?_
  rintro e w' ⟨u, S', rfl, hr, ρ', L', _, hvr, rfl, _⟩
  refine ⟨u, S, rfl, ?_, ?_, rfl⟩
  · refine hr.sub (fun p hp => ?_) ?_
    · simp only [cs, List.flatten_append, List.mem_append]; exact .inr hp
    · have := hr.nodup
      simp only [cs, List.flatten_append, List.map_append, List.nodup_append] at this
      exact this.2.1
  · exact hvr.flat_inv hv
def evT (x : Option (Value × EH)) : Bool := match x with | some (.bool true, _) => true | _ => false
theorem ev_true {tbl : List (FuncId × EFn)} {fuel d : Nat} {k : FuncId} (hm : P.follows .mixedOrders = true) (ht : AllK P tbl) {vs : List Value} (hvs : vs.all flatV = true)
    (h : evT (evF (lk tbl) fuel d k vs ⟨0, .leaf, []⟩) = true) : FC P w0 k vs S (fun u S' => u = .bool true ∧ S' = S) := by
  unfold evT at h
  split at h
  · rename_i H' he
    exact ev_fc hm (lk_ok ht) rfl hvs he
  · cases h
end
end Go.SL
