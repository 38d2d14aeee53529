/- Walks and plain facts for the laws of this seat: what each function answers, for every input. -/
import Derived.Test.YtbidjnjbiibdeaaDoorLbW9
set_option linter.unusedVariables false
set_option linter.unusedSimpArgs false
namespace Go.Proofs
open Go.SL Go.RowKit
set_option maxHeartbeats 1000000

theorem slv_rdL {w0 : World} {E sz m : Nat} {v : Value} {xs : List Value} {seg : Seg} (hv : SlV E sz v m xs seg) : ∃ A cap, v = .slice A m cap ∧ (A = none → cap = 0) ∧ m ≤ cap ∧ ∀ S, Rd w0 (seg :: S) A xs := by
  obtain ⟨hl, ⟨rfl, rfl, rfl⟩ | ⟨r, cap, rfl, rfl, h1, h2⟩⟩ := hv
  · have : xs = [] := List.eq_nil_of_length_eq_zero (by simpa using hl)
    subst this
    exact ⟨none, 0, rfl, fun _ => rfl, Nat.le_refl _, fun _ => Rd.nil⟩
  · exact ⟨_, cap, rfl, (fun h => nomatch h), h1, fun S => Rd.own (List.mem_flatten.2 ⟨_, List.mem_cons_self .., List.mem_singleton.2 rfl⟩)⟩
theorem OW_appL {P : Program} {w0 : World} {n : Nat} {T : TT} {S : SS} {t E m q c k : Nat} {z v : Value} {s x : PV} {A : Option Addr} {xs : List Value} {l : List LabB} {seg : Seg} (hs' : s.val T = some v) (hk : S[k]? = some seg) (hv : SlV E 2 v m xs seg)
    (hx : x.val T = some (.slice A q c)) (hq : l.length = q) (hrd : Rd w0 S A (labs l)) (hc : A = none → c = 0) (hb : m + q ≤ 1000000000000) :
    OW P w0 n (.app t E 2 16 z s x) T S (fun v' S' => ∃ seg', S' = S.set k seg' ∧ SlV E 2 v' (m + q) (xs ++ labs l) seg') := by
  cases A with
  | none =>
    obtain rfl := hc rfl
    have : l = [] := by
      cases l with
      | nil => rfl
      | cons b l => obtain ⟨_, e⟩ := labs_some hrd (by simp); cases e
    subst this
    subst hq
    have := OW.of_yields (OW.app_none (P := P) (w0 := w0) (n := n) (t := t) (bytes := 16) (z := z) hs' hk hv hx)
    refine this.mono ?_
    rintro v' S' ⟨rfl, rfl⟩
    refine ⟨seg, ?_, by simpa [labs] using hv⟩
    obtain ⟨A, R, rfl, rfl⟩ := split_at hk
    exact (set_at rfl).symm
  | some a =>
    exact OW.app hs' hk hv hx (by rw [labs_len, hq]) (fun j u hj => hrd.at hj) (labs_one l) (by omega) (by unfold maxLen; omega)
theorem labs_app (a b : List LabB) : labs (a ++ b) = labs a ++ labs b := by unfold labs; rw [List.flatMap_append]
theorem cut_rd {w0 : World} {S : SS} {A : Option Addr} {cap i : Nat} {l : List LabB} (h : Rd w0 S A (labs l)) (hi : i ≤ l.length) (hc : A = none → cap = 0) (hl : l.length ≤ cap) :
    ∃ A' c', cutV A cap 2 i l.length = .slice A' (l.drop i).length c' ∧ Rd w0 S A' (labs (l.drop i)) ∧ (A' = none → c' = 0) := by
  unfold cutV
  rw [List.length_drop]
  split
  · rename_i e
    exact ⟨A, cap - i, rfl, by rw [List.drop_of_length_le (by omega)]; exact Rd.nil, fun _ => by omega⟩
  · rename_i e
    refine ⟨_, _, rfl, ?_, fun h => ?_⟩
    · intro j v hj
      have hlt := (List.getElem?_eq_some_iff.1 hj).1
      rw [labs_len, List.length_drop] at hlt
      obtain ⟨a, rfl⟩ := labs_some h (by omega)
      refine ⟨_, rfl, ?_⟩
      rw [addr_add_add]
      refine h.at ?_
      have hd : labs l = labs (l.take i) ++ labs (l.drop i) := by rw [← labs_app, List.take_append_drop]
      rw [hd, List.getElem?_append_right (by rw [labs_len, List.length_take]; omega), labs_len, List.length_take, show i * 2 + j - min i l.length * 2 = j from by omega]
      exact hj
    · cases A with
      | none => rw [hc rfl]; simp
      | some a => cases h
theorem pre_rd {w0 : World} {S : SS} {A : Option Addr} {i : Nat} {l : List LabB} (h : Rd w0 S A (labs l)) : Rd w0 S A (labs (l.take i)) :=
  h.pre (by rw [← List.take_append_drop i l, labs_app, List.take_append_drop]; exact List.prefix_append _ _)
/-! the document's insertion -/
def insP (a : LabB) : List LabB → List LabB
  | [] => [a]
  | x :: l => if orZ x a < 0 then x :: insP a l else if x = a then x :: l else a :: x :: l
def refS (l : List LabB) : List LabB := l.foldl (fun acc a => insP a acc) []
theorem refS_take {l : List LabB} {k : Nat} (hk : k < l.length) : refS (l.take (k + 1)) = insP l[k] (refS (l.take k)) := by
  rw [take_snoc hk]; unfold refS; rw [List.foldl_append]; rfl
theorem insP_len (a : LabB) : ∀ l, (insP a l).length ≤ l.length + 1
  | [] => by simp [insP]
  | x :: l => by
    have := insP_len a l
    unfold insP
    repeat' split
    all_goals simp; try omega
theorem refS_len {l : List LabB} : ∀ (k : Nat), k ≤ l.length → (refS (l.take k)).length ≤ k
  | 0, _ => by simp [refS]
  | k + 1, h => by
    rw [refS_take (by omega)]
    have := refS_len (l := l) k (by omega)
    have := insP_len l[k] (refS (l.take k))
    omega
theorem insP_at (a : LabB) : ∀ (out : List LabB) (i : Nat), i ≤ out.length → (∀ x ∈ out.take i, orZ x a < 0) → (∀ x, out[i]? = some x → ¬ orZ x a < 0) → insP a out = if out[i]? = some a then out else out.take i ++ a :: out.drop i
  | [], i, hi, _, _ => by simp [insP]
  | x :: l, 0, hi, _, h2 => by
    have := h2 x rfl
    unfold insP
    rw [if_neg this]
    simp
  | x :: l, i + 1, hi, h1, h2 => by
    unfold insP
    rw [if_pos (h1 x (by simp)), insP_at a l i (by simpa using hi) (fun y hy => h1 y (by simp [hy])) (fun y hy => h2 y (by simpa using hy))]
    simp only [List.getElem?_cons_succ, List.take_succ_cons, List.drop_succ_cons]
    split <;> simp
theorem compact_nil {w0 : World} {S : SS} : FC Tryd.prog w0 80 [.slice none 0 0] S (fun v S' => v = .slice none 0 0 ∧ S' = S) := by
  refine FC.of Tryd.known80 (by simp) ?_
  unfold Tryd.pc80
  simp only [argT]
  refine PW.seqOps ?_
  refine OL.det trivial (Yields.pure rfl) ?_
  refine OL.nil ?_
  refine PW.keep (T' := [(0, _)]) ⟨rfl, trivial⟩ ?_
  refine PW.seq fun K1 hK1 => ?_
  refine PW.seqOps ?_
  refine OL.det trivial (Yields.pure rfl) ?_
  refine OL.det trivial (Yields.pure rfl) ?_
  refine OL.det trivial (Yields.pure rfl) ?_
  refine OL.nil ?_
  refine PW.keep (T' := [(0, _), (8, _)]) ⟨rfl, rfl, trivial⟩ ?_
  refine PW.cond rfl (fun c8 => ?_) (fun c8 => ?_)
  · try simp only [decide_eq_true_eq, decide_eq_false_iff_not, beq_iff_eq, bne_iff_ne, beq_eq_false_iff_ne, bne_eq_false_iff_eq, Bool.not_eq_true', Bool.not_eq_false', Bool.not_eq_true, ne_eq, Decidable.not_not] at c8
    refine PW.seqOps ?_
    refine OL.det trivial (Yields.pure rfl) ?_
    refine OL.det trivial (Yields.pure rfl) ?_
    refine OL.nil ?_
    refine PW.keep (T' := [(2, _)]) ⟨rfl, trivial⟩ ?_
    refine PW.ret ?_
    change (Exit.ret = Exit.normal ∨ Exit.ret = Exit.ret) ∧ ∃ v, resV _ _ = some v ∧ _
    exact ⟨.inr rfl, _, rfl, rfl, rfl⟩
  · try simp only [decide_eq_true_eq, decide_eq_false_iff_not, beq_iff_eq, bne_iff_ne, beq_eq_false_iff_ne, bne_eq_false_iff_eq, Bool.not_eq_true', Bool.not_eq_false', Bool.not_eq_true, ne_eq, Decidable.not_not] at c8
    exfalso; revert c8; decide
    -- done

theorem compact_fc {w0 : World} {S : SS} {v : Value} {seg : Seg} {l : List LabB} (hv : SlV 24 2 v l.length (labs l) seg) (hb : l.length ≤ 1000000000000) :
    FC Tryd.prog w0 80 [v] (seg :: S) (fun v' S' => ∃ seg' l', S' = seg' :: S ∧ Cut v' (dd l).length l' seg' ∧ l'.take (dd l).length = dd l ∧ l'.length = l.length) := by
  obtain ⟨hl, ⟨rfl, h0, rfl⟩ | ⟨r, cap, rfl, rfl, h1, h2⟩⟩ := hv
  · obtain rfl : l = [] := List.length_eq_zero_iff.1 h0
    refine (compact_nil (S := [] :: S)).mono ?_
    rintro v' S' ⟨rfl, rfl⟩
    exact ⟨[], [], rfl, .inl ⟨rfl, rfl, rfl, rfl⟩, rfl, rfl⟩
  · refine (compact_own (S := S) hb h1).mono ?_
    rintro v' S' ⟨l', rfl, rfl, h3, h4⟩
    have h5 : (dd l).length ≤ l'.length := by
      have := dd_len (l := l) l.length (Nat.le_refl _)
      rw [List.take_length] at this
      omega
    exact ⟨_, l', rfl, .inr ⟨r, cap, rfl, rfl, h5, by omega, h2⟩, h3, h4⟩
theorem sortL_len (l : List LabB) : (sortL l).length = l.length := by simp [sortL]
theorem sorted_fc {w0 : World} {S : SS} {A : Option Addr} {c : Nat} {l : List LabB} (hx : Rd w0 S A (labs l)) (hb : l.length ≤ 1000000000000) :
    FC Tryd.prog w0 50 [.slice A l.length c] S (fun v S' => ∃ seg l', S' = seg :: S ∧ Cut v (dd (sortL l)).length l' seg ∧ l'.take (dd (sortL l)).length = dd (sortL l) ∧ l'.length = l.length) := by
  refine FC.of Tryd.known50 (by simp) ?_
  unfold Tryd.pc50
  simp only [argT]
  refine PW.seqOps ?_
  refine OL.det trivial (Yields.pure rfl) ?_
  refine OL.nil ?_
  refine PW.keep (T' := [(0, _)]) ⟨rfl, trivial⟩ ?_
  refine PW.seqOps ?_
  refine OL.det trivial (Yields.pure rfl) ?_
  refine OL.call trivial rfl (clone_fc hx hb) ?_
  rintro v5 _ ⟨seg5, rfl, hsl5⟩
  refine OL.det trivial (Yields.pure rfl) ?_
  refine OL.nil ?_
  refine PW.keep (T' := [(3, _)]) ⟨rfl, trivial⟩ ?_
  refine PW.seqOps ?_
  refine OL.det trivial (Yields.pure rfl) ?_
  refine OL.call trivial rfl (sort_fc (k := 0) rfl hsl5 (by omega)) ?_
  rintro _ _ ⟨rfl, seg7, hsl7, rfl⟩
  change OL _ _ _ _ _ (seg7 :: S) _
  rw [← sortL_len] at hsl7
  refine OL.nil ?_
  refine PW.keep (T' := [(3, _)]) ⟨rfl, trivial⟩ ?_
  refine PW.seqOps ?_
  refine OL.det trivial (Yields.pure rfl) ?_
  refine OL.call trivial rfl (compact_fc hsl7 (by rw [sortL_len]; omega)) ?_
  rintro v9 _ ⟨seg9, l9, rfl, hcut9, ht9, hl9⟩
  refine OL.det trivial (Yields.pure rfl) ?_
  refine OL.nil ?_
  refine PW.keep (T' := [(2, _)]) ⟨rfl, trivial⟩ ?_
  refine PW.ret ?_
  change (Exit.ret = Exit.normal ∨ Exit.ret = Exit.ret) ∧ ∃ v, resV _ _ = some v ∧ _
  exact ⟨.inr rfl, _, rfl, seg9, l9, rfl, hcut9, ht9, by rw [hl9, sortL_len]⟩
theorem rsorted_fc {w0 : World} {S : SS} {B : Option Addr} {c : Nat} {l : List LabB} (hx : Rd w0 S B (labs l)) (hb : l.length ≤ 100000000000) :
    FC Tryd.prog w0 52 [.slice B l.length c] S (fun v S' => ∃ seg, S' = seg :: S ∧ SlV 24 2 v (refS l).length (labs (refS l)) seg) := by
  refine FC.of Tryd.known52 (by simp) ?_
  unfold Tryd.pc52
  simp only [argT]
  refine PW.seqOps ?_
  refine OL.det trivial (Yields.pure rfl) ?_
  refine OL.nil ?_
  refine PW.keep (T' := [(0, _)]) ⟨rfl, trivial⟩ ?_
  refine PW.seqOps ?_
  refine OL.det trivial (Yields.pure rfl) ?_
  refine OL.nil ?_
  refine PW.keep (T' := [(0, _), (3, _)]) ⟨rfl, rfl, trivial⟩ ?_
  refine PW.seq fun K1 hK1 => ?_
  refine PW.seqOps ?_
  refine OL.nilseg ?_
  refine OL.det trivial (Yields.pure rfl) ?_
  refine OL.nil ?_
  refine PW.keep (T' := [(0, _), (3, _), (4, _)]) ⟨rfl, rfl, rfl, trivial⟩ ?_
  refine PW.block ?_
  refine PW.keep (T' := [(0, _), (3, _), (4, _)]) ⟨rfl, rfl, rfl, trivial⟩ ?_
  refine PW.loopK (I := fun m T S' => ∃ (k : Nat) (v : Value) (seg : Seg), (k ≤ l.length ∧ m = l.length - k ∧ SlV 24 2 v (refS (l.take k)).length (labs (refS (l.take k))) seg) ∧ T = ([(0, .slice B l.length c), (3, v), (4, .int .i64 k)] : TT) ∧ S' = seg :: S) (m := l.length) ⟨0, _, [], ⟨by omega, by omega, SlV.nil 24 2⟩, rfl, rfl⟩ ?_
  rintro m _ _ ⟨k, v, seg, ⟨hk, hm, hsl⟩, rfl, rfl⟩
  have hrl := refS_len (l := l) k hk
  obtain ⟨A, co, rfl, hA, hlc, hrd⟩ := slv_rdL (w0 := w0) hsl
  refine PW.seq fun K2 hK2 => ?_
  refine PW.seqOps ?_
  refine OL.det trivial (Yields.pure rfl) ?_
  refine OL.det trivial (Yields.pure rfl) ?_
  refine OL.det trivial (Yields.pure rfl) ?_
  refine OL.det trivial (Yields.pure rfl) ?_
  refine OL.nil ?_
  refine PW.keep (T' := [(0, _), (3, _), (4, _), (10, _)]) ⟨rfl, rfl, rfl, rfl, trivial⟩ ?_
  refine PW.cond rfl (fun c10 => ?_) (fun c10 => ?_)
  · try simp only [decide_eq_true_eq, decide_eq_false_iff_not, beq_iff_eq, bne_iff_ne, beq_eq_false_iff_ne, bne_eq_false_iff_eq, Bool.not_eq_true', Bool.not_eq_false', Bool.not_eq_true, ne_eq, Decidable.not_not] at c10
    have hkl : k < l.length := by omega
    obtain ⟨b0, rfl⟩ := labs_some hx (by omega)
    have hx0 : ∀ s, Rd w0 (s :: S) (some b0) (labs l) := fun s => hx.cons
    refine PW.skip ?_
    refine hK2 _ _ ?_
    refine PW.keep (T' := [(0, _), (3, _), (4, _)]) ⟨rfl, rfl, rfl, trivial⟩ ?_
    refine PW.seq fun K3 hK3 => ?_
    refine PW.block ?_
    refine PW.seqOps ?_
    refine OL.det trivial (Yields.pure rfl) ?_
    refine OL.nil ?_
    refine PW.keep (T' := [(0, _), (3, _), (4, _), (5, _)]) ⟨rfl, rfl, rfl, rfl, trivial⟩ ?_
    refine PW.seq fun K4 hK4 => ?_
    refine PW.block ?_
    refine PW.keep (T' := [(0, _), (3, _), (4, _), (5, _)]) ⟨rfl, rfl, rfl, rfl, trivial⟩ ?_
    refine PW.loopK (I := fun m T S' => ∃ (i : Nat), (i ≤ (refS (l.take k)).length ∧ m = (refS (l.take k)).length - i ∧ ∀ x ∈ (refS (l.take k)).take i, orZ x l[k] < 0) ∧ T = ([(0, .slice (some b0) l.length c), (3, .slice A (refS (l.take k)).length co), (4, .int .i64 k), (5, .int .i64 i)] : TT) ∧ S' = seg :: S) (m := (refS (l.take k)).length) ⟨0, ⟨by omega, by omega, fun x hx => by simp at hx⟩, rfl, rfl⟩ ?_
    rintro m _ _ ⟨i, ⟨hi, hm2, hall⟩, rfl, rfl⟩
    refine PW.seq fun K5 hK5 => ?_
    refine PW.seq fun K6 hK6 => ?_
    refine PW.quietK Tryd.mixed ?_
    refine QK.det trivial (Yields.pure rfl) ?_
    refine QK.det trivial (Yields.pure rfl) ?_
    refine QK.det trivial (Yields.pure rfl) ?_
    refine QK.det trivial (Yields.pure rfl) ?_
    refine QK.bool trivial (Yields.pure rfl) (fun g17 => ?_) (fun g17 => ?_)
    · try simp only [decide_eq_true_eq, decide_eq_false_iff_not, beq_iff_eq, bne_iff_ne, beq_eq_false_iff_ne, bne_eq_false_iff_eq, Bool.not_eq_true', Bool.not_eq_false', Bool.not_eq_true, ne_eq, Decidable.not_not] at g17
      have hil : i < (refS (l.take k)).length := by omega
      obtain ⟨a1, rfl⟩ := labs_some (hrd S) (by omega)
      refine QK.det rfl (Yields.pure rfl) ?_
      refine QK.det rfl (Yields.pure rfl) ?_
      refine QK.det rfl (Yields.ixN rfl rfl rfl (by omega)) ?_
      refine QK.det rfl (Yields.ldA rfl rfl (labs_at (hrd _) hil)) ?_
      refine QK.det rfl (Yields.pure rfl) ?_
      refine QK.det rfl (Yields.pure rfl) ?_
      refine QK.det rfl (Yields.ixN rfl rfl rfl (by omega)) ?_
      refine QK.det rfl (Yields.ldA rfl rfl (labs_at (hx0 _) hkl)) ?_
      refine QK.nil ?_
      change OL _ _ _ [_, _, _] _ _ _
      refine OL.call rfl rfl (rorder_l (a := (refS (l.take k))[i]) (b := l[k])) ?_
      rintro _ Sx ⟨rfl, hSx⟩
      rw [hSx]
      clear hSx
      refine OL.det rfl (Yields.pure rfl) ?_
      refine OL.det trivial (Yields.pure rfl) ?_
      refine OL.nil ?_
      refine hK6 _ _ ?_
      refine PW.keep (T' := [(0, _), (3, _), (4, _), (5, _), (28, _)]) ⟨rfl, rfl, rfl, rfl, rfl, trivial⟩ ?_
      refine PW.cond rfl (fun c28 => ?_) (fun c28 => ?_)
      · try simp only [decide_eq_true_eq, decide_eq_false_iff_not, beq_iff_eq, bne_iff_ne, beq_eq_false_iff_ne, bne_eq_false_iff_eq, Bool.not_eq_true', Bool.not_eq_false', Bool.not_eq_true, ne_eq, Decidable.not_not] at c28
        refine PW.skip ?_
        refine hK5 _ _ ?_
        refine PW.keep (T' := [(0, _), (3, _), (4, _), (5, _)]) ⟨rfl, rfl, rfl, rfl, trivial⟩ ?_
        refine PW.block ?_
        refine PW.ops ?_
        refine OL.det trivial (Yields.pure rfl) ?_
        refine OL.det trivial (Yields.add64 rfl rfl (by omega) (by omega)) ?_
        refine OL.det trivial (Yields.pure rfl) ?_
        refine OL.nil ?_
        repeat rw [inBlk_n]
        rw [thenK_n]
        refine LoopEnd.mk (T'' := [(0, _), (3, _), (4, _), (5, _)]) ⟨rfl, rfl, rfl, rfl, trivial⟩ ?_
        refine ⟨(refS (l.take k)).length - (i + 1), by omega, i + 1, ⟨by omega, rfl, fun x hx => ?_⟩, rfl, rfl⟩
        rw [take_snoc hil, List.mem_append, List.mem_singleton] at hx
        rcases hx with hx | rfl
        · exact hall x hx
        · omega
      · try simp only [decide_eq_true_eq, decide_eq_false_iff_not, beq_iff_eq, bne_iff_ne, beq_eq_false_iff_ne, bne_eq_false_iff_eq, Bool.not_eq_true', Bool.not_eq_false', Bool.not_eq_true, ne_eq, Decidable.not_not] at c28
        refine PW.exit ?_
        refine hK4 _ _ ?_
        refine PW.keep (T' := [(0, _), (3, _), (4, _), (5, _)]) ⟨rfl, rfl, rfl, rfl, trivial⟩ ?_
        refine PW.seq fun K7 hK7 => ?_
        refine PW.seq fun K8 hK8 => ?_
        refine PW.quietK Tryd.mixed ?_
        refine QK.det trivial (Yields.pure rfl) ?_
        refine QK.det trivial (Yields.pure rfl) ?_
        refine QK.det trivial (Yields.pure rfl) ?_
        refine QK.det trivial (Yields.pure rfl) ?_
        refine QK.bool trivial (Yields.pure rfl) (fun g35 => ?_) (fun g35 => ?_)
        · try simp only [decide_eq_true_eq, decide_eq_false_iff_not, beq_iff_eq, bne_iff_ne, beq_eq_false_iff_ne, bne_eq_false_iff_eq, Bool.not_eq_true', Bool.not_eq_false', Bool.not_eq_true, ne_eq, Decidable.not_not] at g35
          refine QK.det rfl (Yields.pure rfl) ?_
          refine QK.det rfl (Yields.pure rfl) ?_
          refine QK.det rfl (Yields.ixN rfl rfl rfl (by omega)) ?_
          refine QK.det rfl (Yields.ldA rfl rfl (labs_at (hrd _) hil)) ?_
          refine QK.det rfl (Yields.pure rfl) ?_
          refine QK.det rfl (Yields.pure rfl) ?_
          refine QK.det rfl (Yields.ixN rfl rfl rfl (by omega)) ?_
          refine QK.det rfl (Yields.ldA rfl rfl (labs_at (hx0 _) hkl)) ?_
          refine QK.nil ?_
          change OL _ _ _ [_, _] _ _ _
          refine OL.det rfl (Yields.eqA rfl rfl (eq_lab (refS (l.take k))[i] l[k])) ?_
          refine OL.det trivial (Yields.pure rfl) ?_
          refine OL.nil ?_
          refine hK8 _ _ ?_
          refine PW.keep (T' := [(0, _), (3, _), (4, _), (5, _), (45, _)]) ⟨rfl, rfl, rfl, rfl, rfl, trivial⟩ ?_
          refine PW.cond rfl (fun c45 => ?_) (fun c45 => ?_)
          · try simp only [decide_eq_true_eq, decide_eq_false_iff_not, beq_iff_eq, bne_iff_ne, beq_eq_false_iff_ne, bne_eq_false_iff_eq, Bool.not_eq_true', Bool.not_eq_false', Bool.not_eq_true, ne_eq, Decidable.not_not] at c45
            refine PW.exit ?_
            refine hK3 _ _ ?_
            refine PW.keep (T' := [(0, _), (3, _), (4, _)]) ⟨rfl, rfl, rfl, trivial⟩ ?_
            refine PW.ops ?_
            refine OL.det trivial (Yields.pure rfl) ?_
            refine OL.det trivial (Yields.add64 rfl rfl (by omega) (by omega)) ?_
            refine OL.det trivial (Yields.pure rfl) ?_
            refine OL.nil ?_
            repeat rw [inBlk_n]
            rw [thenK_n]
            refine LoopEnd.mkS ((by first | exact Sub.cons (Sub.drop (Sub.refl _)) | exact Sub.refl _)) (T'' := [(0, _), (3, _), (4, _)]) ⟨rfl, rfl, rfl, trivial⟩ ?_
            refine ⟨l.length - (k + 1), by omega, k + 1, .slice (some a1) (refS (l.take k)).length co, seg, ⟨by omega, rfl, ?_⟩, by simp, rfl⟩
            have e : refS (l.take (k + 1)) = (refS (l.take k)) := by
              rw [refS_take hkl, insP_at l[k] (refS (l.take k)) i hi hall ?_, if_pos ?_]
              · rw [List.getElem?_eq_getElem hil]; congr 1; simpa using c45
              · intro x hx; rw [List.getElem?_eq_getElem hil] at hx; cases hx; omega
            rw [e]; exact hsl
          · try simp only [decide_eq_true_eq, decide_eq_false_iff_not, beq_iff_eq, bne_iff_ne, beq_eq_false_iff_ne, bne_eq_false_iff_eq, Bool.not_eq_true', Bool.not_eq_false', Bool.not_eq_true, ne_eq, Decidable.not_not] at c45
            refine PW.skip ?_
            refine hK7 _ _ ?_
            refine PW.keep (T' := [(0, _), (3, _), (4, _), (5, _)]) ⟨rfl, rfl, rfl, rfl, trivial⟩ ?_
            refine PW.seqOps ?_
            refine OL.nilseg ?_
            refine OL.det trivial (Yields.pure rfl) ?_
            refine OL.nil ?_
            refine PW.keep (T' := [(0, _), (3, _), (4, _), (5, _), (6, _)]) ⟨rfl, rfl, rfl, rfl, rfl, trivial⟩ ?_
            refine PW.seqOps ?_
            refine OL.det trivial (Yields.pure rfl) ?_
            refine OL.det trivial (Yields.pure rfl) ?_
            refine OL.det trivial (Yields.pure rfl) ?_
            refine OL.det trivial (Yields.to (v' := .slice _ i co) (Yields.slS (l := 0) (h := i) rfl rfl rfl (.inr ⟨rfl, rfl⟩) (.inl rfl) (by omega) (by omega)) (cutV0 _ _ _ _)) ?_
            refine OL.cons trivial (OW_appL (k := 0) (m := 0) (xs := []) (l := (refS (l.take k)).take i) rfl rfl (SlV.nil 24 2) rfl (by rw [List.length_take]; omega) (pre_rd (hrd _).cons) hA (by omega)) ?_
            rintro v50 _ ⟨seg50, rfl, hsl50⟩
            change OL _ _ _ _ _ (seg50 :: seg :: S) _
            refine OL.det trivial (Yields.pure rfl) ?_
            refine OL.nil ?_
            refine PW.keep (T' := [(0, _), (3, _), (4, _), (5, _), (6, _)]) ⟨rfl, rfl, rfl, rfl, rfl, trivial⟩ ?_
            refine PW.seqOps ?_
            refine OL.det trivial (Yields.pure rfl) ?_
            refine OL.det trivial (Yields.pure rfl) ?_
            refine OL.det trivial (Yields.pure rfl) ?_
            refine OL.det trivial (Yields.ixN rfl rfl rfl (by omega)) ?_
            refine OL.det trivial (Yields.ldA rfl rfl (labs_at (hx0 _).cons hkl)) ?_
            apply OL.app1 (k := 0)
            · rfl
            · rfl
            · rfl
            · rfl
            · rfl
            · rfl
            · exact hsl50
            · rfl
            · omega
            · unfold maxLen; omega
            intro v57 seg57 hsl57
            change OL _ _ _ _ _ (seg57 :: seg :: S) _
            refine OL.det trivial (Yields.pure rfl) ?_
            refine OL.nil ?_
            refine PW.keep (T' := [(0, _), (3, _), (4, _), (5, _), (6, _)]) ⟨rfl, rfl, rfl, rfl, rfl, trivial⟩ ?_
            refine PW.ops ?_
            refine OL.det trivial (Yields.pure rfl) ?_
            refine OL.det trivial (Yields.pure rfl) ?_
            refine OL.det trivial (Yields.pure rfl) ?_
            obtain ⟨A61, c61, e61, hrd61, hA61⟩ := cut_rd ((hrd S).cons (s := seg57)) hi hA hlc
            refine OL.det trivial (Yields.to (v' := .slice A61 ((refS (l.take k)).drop i).length c61) (Yields.slS (l := i) (h := (refS (l.take k)).length) rfl rfl rfl (.inl rfl) (.inr ⟨rfl, rfl⟩) hi hlc) e61) ?_
            refine OL.cons trivial (OW_appL (k := 0) rfl rfl hsl57 rfl rfl hrd61 hA61 (by rw [List.length_drop]; omega)) ?_
            rintro v62 _ ⟨seg62, rfl, hsl62⟩
            change OL _ _ _ _ _ (seg62 :: seg :: S) _
            refine OL.det trivial (Yields.pure rfl) ?_
            refine OL.nil ?_
            refine hK3 _ _ ?_
            refine PW.keep (T' := [(0, _), (3, _), (4, _)]) ⟨rfl, rfl, rfl, trivial⟩ ?_
            refine PW.ops ?_
            refine OL.det trivial (Yields.pure rfl) ?_
            refine OL.det trivial (Yields.add64 rfl rfl (by omega) (by omega)) ?_
            refine OL.det trivial (Yields.pure rfl) ?_
            refine OL.nil ?_
            repeat rw [inBlk_n]
            rw [thenK_n]
            refine LoopEnd.mkS ((by first | exact Sub.cons (Sub.drop (Sub.refl _)) | exact Sub.refl _)) (T'' := [(0, _), (3, _), (4, _)]) ⟨rfl, rfl, rfl, trivial⟩ ?_
            have e : refS (l.take (k + 1)) = (refS (l.take k)).take i ++ l[k] :: (refS (l.take k)).drop i := by
              rw [refS_take hkl, insP_at l[k] (refS (l.take k)) i hi hall ?_, if_neg ?_]
              · rw [List.getElem?_eq_getElem hil]; intro h; have := Option.some.inj h; simp [this] at c45
              · intro x hx; rw [List.getElem?_eq_getElem hil] at hx; cases hx; omega
            have hL : ((refS (l.take k)).take i ++ l[k] :: (refS (l.take k)).drop i).length = 0 + i + 1 + ((refS (l.take k)).drop i).length := by simp; omega
            have hX : labs ((refS (l.take k)).take i ++ l[k] :: (refS (l.take k)).drop i) = [] ++ labs ((refS (l.take k)).take i) ++ [.int .i64 l[k].1, .int .u64 (l[k].2.toNat : Int)] ++ labs ((refS (l.take k)).drop i) := by rw [labs_app]; simp [labs, labC]
            refine ⟨l.length - (k + 1), by omega, k + 1, v62, seg62, ⟨by omega, rfl, ?_⟩, by simp, rfl⟩
            rw [e, hL, hX]
            exact hsl62
        · (try simp only [decide_eq_true_eq, decide_eq_false_iff_not, beq_iff_eq, bne_iff_ne, beq_eq_false_iff_ne, bne_eq_false_iff_eq, Bool.not_eq_true', Bool.not_eq_false', Bool.not_eq_true, ne_eq, Decidable.not_not] at g35) <;> (exfalso; first | omega | (simp at g35; done) | (revert g35; simp; done))
    · try simp only [decide_eq_true_eq, decide_eq_false_iff_not, beq_iff_eq, bne_iff_ne, beq_eq_false_iff_ne, bne_eq_false_iff_eq, Bool.not_eq_true', Bool.not_eq_false', Bool.not_eq_true, ne_eq, Decidable.not_not] at g17
      refine QK.off rfl rfl ?_
      refine QK.off rfl rfl ?_
      refine QK.off rfl rfl ?_
      refine QK.off rfl rfl ?_
      refine QK.off rfl rfl ?_
      refine QK.off rfl rfl ?_
      refine QK.off rfl rfl ?_
      refine QK.off rfl rfl ?_
      refine QK.nil ?_
      change OL _ _ _ [_, _, _] _ _ _
      refine OL.off rfl rfl ?_
      refine OL.off rfl rfl ?_
      refine OL.det trivial (Yields.pure rfl) ?_
      refine OL.nil ?_
      refine hK6 _ _ ?_
      refine PW.keep (T' := [(0, _), (3, _), (4, _), (5, _), (28, _)]) ⟨rfl, rfl, rfl, rfl, rfl, trivial⟩ ?_
      refine PW.ite (b := false) rfl ?_
      rw [if_neg Bool.false_ne_true]
      refine PW.exit ?_
      refine hK4 _ _ ?_
      refine PW.keep (T' := [(0, _), (3, _), (4, _), (5, _)]) ⟨rfl, rfl, rfl, rfl, trivial⟩ ?_
      refine PW.seq fun K9 hK9 => ?_
      refine PW.seq fun K10 hK10 => ?_
      refine PW.quietK Tryd.mixed ?_
      refine QK.det trivial (Yields.pure rfl) ?_
      refine QK.det trivial (Yields.pure rfl) ?_
      refine QK.det trivial (Yields.pure rfl) ?_
      refine QK.det trivial (Yields.pure rfl) ?_
      refine QK.bool trivial (Yields.pure rfl) (fun g35 => ?_) (fun g35 => ?_)
      · (try simp only [decide_eq_true_eq, decide_eq_false_iff_not, beq_iff_eq, bne_iff_ne, beq_eq_false_iff_ne, bne_eq_false_iff_eq, Bool.not_eq_true', Bool.not_eq_false', Bool.not_eq_true, ne_eq, Decidable.not_not] at g35) <;> (exfalso; first | omega | (simp at g35; done) | (revert g35; simp; done))
      · try simp only [decide_eq_true_eq, decide_eq_false_iff_not, beq_iff_eq, bne_iff_ne, beq_eq_false_iff_ne, bne_eq_false_iff_eq, Bool.not_eq_true', Bool.not_eq_false', Bool.not_eq_true, ne_eq, Decidable.not_not] at g35
        refine QK.off rfl rfl ?_
        refine QK.off rfl rfl ?_
        refine QK.off rfl rfl ?_
        refine QK.off rfl rfl ?_
        refine QK.off rfl rfl ?_
        refine QK.off rfl rfl ?_
        refine QK.off rfl rfl ?_
        refine QK.off rfl rfl ?_
        refine QK.nil ?_
        change OL _ _ _ [_, _] _ _ _
        refine OL.off rfl rfl ?_
        refine OL.det trivial (Yields.pure rfl) ?_
        refine OL.nil ?_
        refine hK10 _ _ ?_
        refine PW.keep (T' := [(0, _), (3, _), (4, _), (5, _), (45, _)]) ⟨rfl, rfl, rfl, rfl, rfl, trivial⟩ ?_
        refine PW.ite (b := false) rfl ?_
        rw [if_neg Bool.false_ne_true]
        refine PW.skip ?_
        refine hK9 _ _ ?_
        refine PW.keep (T' := [(0, _), (3, _), (4, _), (5, _)]) ⟨rfl, rfl, rfl, rfl, trivial⟩ ?_
        refine PW.seqOps ?_
        refine OL.nilseg ?_
        refine OL.det trivial (Yields.pure rfl) ?_
        refine OL.nil ?_
        refine PW.keep (T' := [(0, _), (3, _), (4, _), (5, _), (6, _)]) ⟨rfl, rfl, rfl, rfl, rfl, trivial⟩ ?_
        refine PW.seqOps ?_
        refine OL.det trivial (Yields.pure rfl) ?_
        refine OL.det trivial (Yields.pure rfl) ?_
        refine OL.det trivial (Yields.pure rfl) ?_
        refine OL.det trivial (Yields.to (v' := .slice _ i co) (Yields.slS (l := 0) (h := i) rfl rfl rfl (.inr ⟨rfl, rfl⟩) (.inl rfl) (by omega) (by omega)) (cutV0 _ _ _ _)) ?_
        refine OL.cons trivial (OW_appL (k := 0) (m := 0) (xs := []) (l := (refS (l.take k)).take i) rfl rfl (SlV.nil 24 2) rfl (by rw [List.length_take]; omega) (pre_rd (hrd _).cons) hA (by omega)) ?_
        rintro v50 _ ⟨seg50, rfl, hsl50⟩
        change OL _ _ _ _ _ (seg50 :: seg :: S) _
        refine OL.det trivial (Yields.pure rfl) ?_
        refine OL.nil ?_
        refine PW.keep (T' := [(0, _), (3, _), (4, _), (5, _), (6, _)]) ⟨rfl, rfl, rfl, rfl, rfl, trivial⟩ ?_
        refine PW.seqOps ?_
        refine OL.det trivial (Yields.pure rfl) ?_
        refine OL.det trivial (Yields.pure rfl) ?_
        refine OL.det trivial (Yields.pure rfl) ?_
        refine OL.det trivial (Yields.ixN rfl rfl rfl (by omega)) ?_
        refine OL.det trivial (Yields.ldA rfl rfl (labs_at (hx0 _).cons hkl)) ?_
        apply OL.app1 (k := 0)
        · rfl
        · rfl
        · rfl
        · rfl
        · rfl
        · rfl
        · exact hsl50
        · rfl
        · omega
        · unfold maxLen; omega
        intro v57 seg57 hsl57
        change OL _ _ _ _ _ (seg57 :: seg :: S) _
        refine OL.det trivial (Yields.pure rfl) ?_
        refine OL.nil ?_
        refine PW.keep (T' := [(0, _), (3, _), (4, _), (5, _), (6, _)]) ⟨rfl, rfl, rfl, rfl, rfl, trivial⟩ ?_
        refine PW.ops ?_
        refine OL.det trivial (Yields.pure rfl) ?_
        refine OL.det trivial (Yields.pure rfl) ?_
        refine OL.det trivial (Yields.pure rfl) ?_
        obtain ⟨A61, c61, e61, hrd61, hA61⟩ := cut_rd ((hrd S).cons (s := seg57)) hi hA hlc
        refine OL.det trivial (Yields.to (v' := .slice A61 ((refS (l.take k)).drop i).length c61) (Yields.slS (l := i) (h := (refS (l.take k)).length) rfl rfl rfl (.inl rfl) (.inr ⟨rfl, rfl⟩) hi hlc) e61) ?_
        refine OL.cons trivial (OW_appL (k := 0) rfl rfl hsl57 rfl rfl hrd61 hA61 (by rw [List.length_drop]; omega)) ?_
        rintro v62 _ ⟨seg62, rfl, hsl62⟩
        change OL _ _ _ _ _ (seg62 :: seg :: S) _
        refine OL.det trivial (Yields.pure rfl) ?_
        refine OL.nil ?_
        refine hK3 _ _ ?_
        refine PW.keep (T' := [(0, _), (3, _), (4, _)]) ⟨rfl, rfl, rfl, trivial⟩ ?_
        refine PW.ops ?_
        refine OL.det trivial (Yields.pure rfl) ?_
        refine OL.det trivial (Yields.add64 rfl rfl (by omega) (by omega)) ?_
        refine OL.det trivial (Yields.pure rfl) ?_
        refine OL.nil ?_
        repeat rw [inBlk_n]
        rw [thenK_n]
        refine LoopEnd.mkS ((by first | exact Sub.cons (Sub.drop (Sub.refl _)) | exact Sub.refl _)) (T'' := [(0, _), (3, _), (4, _)]) ⟨rfl, rfl, rfl, trivial⟩ ?_
        have e : refS (l.take (k + 1)) = (refS (l.take k)).take i ++ l[k] :: (refS (l.take k)).drop i := by
          rw [refS_take hkl, insP_at l[k] (refS (l.take k)) i hi hall ?_, if_neg ?_]
          · rw [List.getElem?_eq_none (by omega)]; intro h; cases h
          · intro x hx; rw [List.getElem?_eq_none (by omega)] at hx; cases hx
        have hL : ((refS (l.take k)).take i ++ l[k] :: (refS (l.take k)).drop i).length = 0 + i + 1 + ((refS (l.take k)).drop i).length := by simp; omega
        have hX : labs ((refS (l.take k)).take i ++ l[k] :: (refS (l.take k)).drop i) = [] ++ labs ((refS (l.take k)).take i) ++ [.int .i64 l[k].1, .int .u64 (l[k].2.toNat : Int)] ++ labs ((refS (l.take k)).drop i) := by rw [labs_app]; simp [labs, labC]
        refine ⟨l.length - (k + 1), by omega, k + 1, v62, seg62, ⟨by omega, rfl, ?_⟩, by simp, rfl⟩
        rw [e, hL, hX]
        exact hsl62
  · try simp only [decide_eq_true_eq, decide_eq_false_iff_not, beq_iff_eq, bne_iff_ne, beq_eq_false_iff_ne, bne_eq_false_iff_eq, Bool.not_eq_true', Bool.not_eq_false', Bool.not_eq_true, ne_eq, Decidable.not_not] at c10
    refine PW.exit ?_
    refine hK1 _ _ ?_
    refine PW.keep (T' := [(3, _)]) ⟨rfl, trivial⟩ ?_
    refine PW.seqOps ?_
    refine OL.det trivial (Yields.pure rfl) ?_
    refine OL.det trivial (Yields.pure rfl) ?_
    refine OL.nil ?_
    refine PW.keep (T' := [(2, _)]) ⟨rfl, trivial⟩ ?_
    refine PW.ret ?_
    change (Exit.ret = Exit.normal ∨ Exit.ret = Exit.ret) ∧ ∃ v, resV _ _ = some v ∧ _
    obtain rfl : k = l.length := by omega
    rw [List.take_length] at hsl ⊢
    exact ⟨.inr rfl, _, rfl, seg, rfl, hsl⟩

end Go.Proofs
