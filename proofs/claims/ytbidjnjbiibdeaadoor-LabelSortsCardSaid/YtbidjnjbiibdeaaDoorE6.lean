/- Operations on memory: what the evaluator tells is so (first part: the rules that they need). -/
import Derived.Test.YtbidjnjbiibdeaaDoorE5
set_option linter.unusedVariables false
set_option linter.unusedSimpArgs false
namespace Go.SL
open Go.RowKit
section
variable {P : Program} {w0 : World} {n : Nat} {T Tc : TT} {S : SS} {ρ : Rho} {H : EH} {L : LL}
/-! ### append to the first cells of what is known -/
theorem Rep.weak {w : World} (h : Rep w0 S w) {k r E tot l : Nat} {c : List Value} (hk : S[k]? = some [(r, .cells c E tot)]) : Rep w0 (S.set k [(r, .cells (c.take l) E tot)]) w := by
  obtain ⟨A, R, rfl, hA⟩ := split_at hk
  rw [set_at hA]
  refine ⟨h.below, by have := h.nodup; simpa using this, fun p hp => ?_, h.drawn⟩
  simp only [List.flatten_append, List.flatten_cons, List.mem_append] at hp
  rcases hp with hp | hp | hp
  · exact h.own p (by simp [hp])
  · simp only [List.mem_singleton] at hp
    subst hp
    obtain ⟨h1, C, h2, h3, h4⟩ := h.own (r, .cells c E tot) (by simp)
    refine ⟨h1, C, h2, h3, ?_⟩
    have h5 := congrArg (List.take l) h4
    rw [List.take_take] at h5
    rw [List.length_take]
    exact h5
  · exact h.own p (by simp [hp])
theorem set_set {k : Nat} {a b : Seg} : (S.set k a).set k b = S.set k b := by simp
/-- the owned slice, of a block of which more may be known -/
def OwnS (S : SS) (E sz : Nat) (v : Value) (m : Nat) (xs : List Value) (k : Nat) (seg0 : Seg) : Prop :=
  SlV E sz v m xs seg0 ∧ (S[k]? = some seg0 ∨ ∃ r c tot l, S[k]? = some [(r, .cells c E tot)] ∧ seg0 = [(r, .cells (c.take l) E tot)])
theorem OwnS.rep {w : World} {E sz m k : Nat} {v : Value} {xs : List Value} {seg0 : Seg} (h : Rep w0 S w) (ho : OwnS S E sz v m xs k seg0) : ∃ S', Rep w0 S' w ∧ S'[k]? = some seg0 ∧ ∀ seg, S'.set k seg = S.set k seg := by
  rcases ho.2 with hk | ⟨r, c, tot, l, hk, rfl⟩
  · exact ⟨S, h, hk, fun _ => rfl⟩
  · refine ⟨_, h.weak (l := l) hk, ?_, fun seg => by simp⟩
    rw [List.getElem?_set_self (List.getElem?_eq_some_iff.1 hk).1]
theorem OW.appG {t E sz bytes m q c k : Nat} {z v : Value} {s x : PV} {a : Addr} {xs news : List Value} {seg : Seg} (hs' : s.val T = some v) (hv : OwnS S E sz v m xs k seg)
    (hx : x.val T = some (.slice (some a) q c)) (hl : news.length = q * sz) (hc : ∀ (j : Nat) (u : Value), news[j]? = some u → Cell w0 S (a.add j) u) (h1 : news.all (·.oneCell') = true)
    (hb : (m + q) * bytes ≤ 140737488355328) (h63 : m + q ≤ maxLen) :
    OW P w0 n (.app t E sz bytes z s x) T S (fun v' S' => ∃ seg', S' = S.set k seg' ∧ SlV E sz v' (m + q) (xs ++ news) seg') := by
  intro op ac w Q hco hs hr
  obtain ⟨y, y', cl, i, ho, hca, hat, har, rfl, rfl, hu, hi, hz, rfl, rfl, hzs, hsz⟩ := cOp_spec P hco
  obtain ⟨S2, hr2, hk2, hset⟩ := hv.rep hr
  obtain ⟨v', w', hrun, hown, hg, hnew⟩ := app_new (P := P) t op.type E i z hu hi hz hzs hsz v m xs (hr2.owns hk2 hv.1) a q c news hl (fun j u hj => hr.cell (hc j u hj)) (oneCells h1) h63 hb hr.base
  obtain ⟨seg', hsl, hrep⟩ := hr2.ofOwns hk2 hv.1 hown hg hnew
  unfold Oper.wp
  have hrun' : (execOp ac.eval op).run P w = .ok (.value v') w' := by
    simp only [execOp, ho, resolve, hca, invoke, builtin, hat, har]
    simp [hs.eval hs', hs.eval hx, hrun]
  rw [hrun']
  rw [hset] at hrep
  exact ⟨v', _, rfl, hrep, seg', rfl, hsl⟩
theorem OW.appStrG {t u E m k : Nat} {v : Value} {s x : PV} {xs : List Value} {seg : Seg} {st : ByteArray} (hs' : s.val T = some v) (hv : OwnS S E 1 v m xs k seg)
    (hx : x.val T = some (.string st)) (hb : m + st.size ≤ 140737488355328) :
    OW P w0 n (.appStr t u E 1 (.int .u8 0) s x) T S (fun v' S' => ∃ seg', S' = S.set k seg' ∧ SlV E 1 v' (m + st.size) (xs ++ bytesC st.data.toList) seg') := by
  intro op ac w Q hco hs hr
  obtain ⟨y, y', cl, i, ho, hca, hat, har, rfl, rfl, ht, hu, hi, hz, hby, hzs, hsz⟩ := cOp_spec P hco
  obtain ⟨S2, hr2, hk2, hset⟩ := hv.rep hr
  obtain ⟨v', w', hrun, hown, hg, hnew⟩ := app_new_str (P := P) t u op.type E i ht hu hi hz hsz hby v m xs (hr2.owns hk2 hv.1) st hb hr.base
  rw [strCells_bytesC] at hown
  obtain ⟨seg', hsl, hrep⟩ := hr2.ofOwns hk2 hv.1 hown hg hnew
  unfold Oper.wp
  have hrun' : (execOp ac.eval op).run P w = .ok (.value v') w' := by
    simp only [execOp, ho, resolve, hca, invoke, builtin, hat, har]
    simp [hs.eval hs', hs.eval hx, hrun]
  rw [hrun']
  rw [hset] at hrep
  exact ⟨v', _, rfl, hrep, seg', rfl, hsl⟩
/-- nothing put behind -/
theorem Yields.app0 {t E sz bytes m c c' : Nat} {z : Value} {s x : PV} {A B : Option Addr} (hs' : s.val T = some (.slice A m c)) (hx : x.val T = some (.slice B 0 c')) (hm : m ≤ c) : Yields P w0 n (.app t E sz bytes z s x) T S (.slice A m c) := by
  intro op ac w hco hs hr
  obtain ⟨y, y', cl, i, ho, hca, hat, har, rfl, rfl, hu, hi, hz, rfl, rfl, hzs, hsz⟩ := cOp_spec P hco
  have hl0 : ∀ a : Addr, (loadCells a 0).run P w = .ok #[] w := fun a => by
    have := run_loadCells_list (P := P) w a [] (by simp)
    simpa using this
  have hs0 : ∀ a : Addr, (storeCells a []).run P w = .ok () w := fun a => by simp [storeCells, Sem.run, Pure.pure]
  simp only [execOp, ho, resolve, hca, invoke, builtin, hat, har]
  cases A <;> cases B <;> simp [hs.eval hs', hs.eval hx, Builtin.append_, run_underlying hu, sizeOf, typeInfo, program, Sem.run, hi, Builtin.lenOf, hm, Builtin.firstCells, hl0, hs0]
theorem OW.nilseg {po : PO} {K : Value → SS → Prop} (h : OW P w0 n po T ([] :: S) K) : OW P w0 n po T S K :=
  fun o a w Q hc hs hr => h o a w Q hc hs hr.nilseg

/-! ### parts, bytes, maps -/
theorem fillE_spec (hT : TR ρ T Tc) : ∀ {parts : List (Nat × Nat × PV)} {c d c' : List Value}, fillE T c parts = some d → VRL ρ c c' → ∃ d', fillP Tc c' parts = some d' ∧ VRL ρ d d'
  | [], c, d, c', h, hc => by simp [fillE] at h; subst h; exact ⟨c', rfl, hc⟩
  | (off, size, x) :: r, c, d, c', h, hc => by
    simp only [fillE] at h
    cases hx : x.ev T with
    | none => rw [hx] at h; simp at h
    | some v =>
      rw [hx] at h
      simp only at h
      cases hb : Nat.beq v.cells.toList.length size && Nat.ble (off + size) c.length with
      | false => rw [hb] at h; simp at h
      | true =>
        rw [hb] at h
        simp only [cond_true] at h
        simp only [Bool.and_eq_true] at hb
        have h1 := Nat.eq_of_beq_eq_true hb.1
        have h2 := Nat.le_of_ble_eq_true hb.2
        obtain ⟨u, h3, h4⟩ := hT.ev hx
        have h5 := h4.cells
        obtain ⟨d', h6, h7⟩ := fillE_spec hT h (hc.setAt off h5)
        refine ⟨d', ?_, h7⟩
        simp only [fillP, h3]
        rw [if_pos ⟨by have := h5.1; simp at this h1; omega, by rw [← hc.1]; exact h2⟩]
        exact h6
theorem toB_spec : ∀ {c us : List Value} {l : List UInt8}, VRL ρ c us → toB c = some l → us = bytesC l
  | [], us, l, h, hb => by simp [toB] at hb; subst hb; exact h.nil_left
  | v :: c, us, l, h, hb => by
    obtain ⟨u, us', rfl, h1, h2⟩ := h.cons_left
    unfold toB at hb
    split at hb
    · rename_i h0; cases h0
    · rename_i z r h0
      cases h0
      split at hb
      · rename_i hz
        cases hr : toB c with
        | none => rw [hr] at hb; simp at hb
        | some l' =>
          rw [hr] at hb
          simp at hb
          subst hb
          obtain rfl := h1.int_inv
          rw [toB_spec h2 hr]
          have : ((UInt8.ofNat z.toNat).toNat : Int) = z := by simp; omega
          unfold bytesC
          rw [List.map_cons, this]
      · cases hb
    · cases hb
theorem strEq_eq (a b : ByteArray) : strEq a b = (a == b) := by
  unfold strEq
  have h1 : (strL a == strL b) = true ↔ a = b := by
    rw [beq_iff_eq]
    constructor
    · intro h
      apply ByteArray.ext
      exact Array.toList_inj.1 h
    · intro h; rw [h]
  have h2 : (a == b) = true ↔ a = b := Go.MapKept.bytes_beq a b
  cases e1 : (strL a == strL b) <;> cases e2 : (a == b) <;> simp_all
theorem mgetE_spec {s : ByteArray} : ∀ {es es' : List (ByteArray × Value)}, mapR ρ es es' → match mgetE es s with | some v => ∃ u, mget es' s = some u ∧ VR ρ v u | none => mget es' s = none
  | [], es', h => by
    cases es' with
    | nil => rfl
    | cons p r => exact absurd h.1 (by simp)
  | (k, v) :: r, es', h => by
    cases es' with
    | nil => exact absurd h.1 (by simp)
    | cons p r' =>
      obtain ⟨k', v'⟩ := p
      obtain ⟨h1, h2⟩ := h
      simp only [List.map_cons, List.cons.injEq] at h1
      obtain ⟨rfl, h1⟩ := h1
      obtain ⟨h3, h4⟩ := h2.tail
      simp only [mgetE, mget, List.find?_cons]
      rw [strEq_eq]
      cases hk : (s == k) with
      | true => simp only [cond_true, Option.map_some]; exact ⟨v', rfl, h3⟩
      | false => simp only [cond_false]; exact mgetE_spec ⟨h1, h4⟩
theorem mputE_spec {s : ByteArray} {v u : Value} (hv : VR ρ v u) : ∀ {es es' : List (ByteArray × Value)}, mapR ρ es es' → mapR ρ (mputE es s v) (mputAt es' s u)
  | [], es', h => by
    cases es' with
    | nil => exact ⟨rfl, VRL.cons hv .nil⟩
    | cons p r => exact absurd h.1 (by simp)
  | (k, x) :: r, es', h => by
    cases es' with
    | nil => exact absurd h.1 (by simp)
    | cons p r' =>
      obtain ⟨k', x'⟩ := p
      obtain ⟨h1, h2⟩ := h
      simp only [List.map_cons, List.cons.injEq] at h1
      obtain ⟨rfl, h1⟩ := h1
      obtain ⟨h3, h4⟩ := h2.tail
      simp only [mputE, mputAt]
      rw [strEq_eq]
      cases hk : (s == k) with
      | true => simp only [cond_true, if_true]; exact ⟨by simp [h1], VRL.cons hv h4⟩
      | false =>
        obtain ⟨h5, h6⟩ := mputE_spec hv (es := r) (es' := r') ⟨h1, h4⟩
        simp only [cond_false, Bool.false_eq_true, if_false]
        exact ⟨by simp [h5], VRL.cons h3 h6⟩
theorem madeL_eq {z : Array Value} (h : 0 < z.size) (k : Nat) : (madeCells z k).toList = madeL z.toList k := by
  simp only [madeCells, madeL, Array.toList_map, Array.toList_range]
  apply List.map_congr_left
  intro i _
  have : i % z.size < z.size := Nat.mod_lt _ h
  rw [getElem!_pos z (i % z.size) this]
  simp [List.getD_eq_getElem?_getD, this]
theorem EH.obj_spec {b : Nat} {o : EO} (h : H.obj b = some o) : ∃ i, b = ownB + i ∧ b - ownB = i ∧ H.tr.get i = some o := by
  unfold EH.obj at h
  rcases ownB_ble (b := b) with ⟨e, h1⟩ | ⟨e, h1⟩
  · rw [e] at h; simp only [cond_true] at h; exact ⟨b - ownB, by omega, rfl, h⟩
  · rw [e] at h; simp at h
theorem room_lt (h : H.room = true) : H.nx < bigN := by unfold EH.room at h; rwa [Nat.blt_eq] at h
/-- what a slice shows -/
theorem shown_spec (hH : HR w0 ρ H L) {v u : Value} {sz q : Nat} {c : List Value} (hv : VR ρ v u) (h : H.shown sz v = some (q, c)) : ∃ A cp us, u = .slice A q cp ∧ c.length = q * sz ∧ VRL ρ c us ∧ Rd w0 (cs L S) A us ∧ (A = none → q = 0 ∧ cp = 0) := by
  unfold EH.shown at h
  split at h
  · obtain ⟨rfl, rfl, rfl⟩ := hv.slice_nil_inv
    simp only [Option.some.injEq, Prod.mk.injEq] at h
    obtain ⟨rfl, rfl⟩ := h
    exact ⟨none, 0, [], rfl, by simp, .nil, Rd.nil, fun _ => ⟨rfl, rfl⟩⟩
  · rename_i a q' e
    rcases hv.slice_inv with ⟨i, b, t, ha, rfl, hi, hf, hc⟩ | ⟨rfl, rfl, rfl, a', cp, rfl⟩
    · have key : ∀ c', H.row a (q' * sz) = some c' → some (q', c') = some (q, c) → ∃ A cp us, Value.slice (some ⟨b, a.off, none⟩) q' (capOf t a.off e) = .slice A q cp ∧ c.length = q * sz ∧ VRL ρ c us ∧ Rd w0 (cs L S) A us ∧ (A = none → q = 0 ∧ cp = 0) := by
        intro c' hrow he
        simp only [Option.some.injEq, Prod.mk.injEq] at he
        obtain ⟨rfl, rfl⟩ := he
        have h1 := congrArg Addr.spot ha
        have h2 := congrArg Addr.block ha
        obtain ⟨h3, us, h4, h5⟩ := hH.row (S := S) (a' := ⟨b, a.off, none⟩) ⟨h1, rfl, rfl, .inr ⟨i, t, h2, hi⟩⟩ hrow
        exact ⟨_, _, us, rfl, h3, h4, fun j v hj => ⟨_, rfl, h5 j v hj⟩, fun e => nomatch e⟩
      rcases beq_cases e 3 with ⟨rfl, e3⟩ | ⟨_, e3⟩
      · rw [e3] at h
        simp only [cond_true, Option.some.injEq, Prod.mk.injEq] at h
        obtain ⟨rfl, rfl⟩ := h
        exact absurd rfl hf.1
      · rw [e3] at h
        simp only [cond_false] at h
        cases hr : H.row a (q' * sz) with
        | none => rw [hr] at h; simp at h
        | some c' => rw [hr] at h; exact key c' hr h
    · simp only [show Nat.beq 3 3 = true from rfl, cond_true, Option.some.injEq, Prod.mk.injEq] at h
      obtain ⟨rfl, rfl⟩ := h
      exact ⟨some a', cp, [], rfl, by simp, .nil, Rd.nil, fun e => nomatch e⟩
  · cases h
end
end Go.SL
