/- Walks and plain facts for the laws of this seat: what each function answers, for every input. -/
import Derived.Test.YteidpegjehdneaaLnW14
set_option linter.unusedVariables false
set_option linter.unusedSimpArgs false
namespace Go.Proofs
open Go.SL Go.RowKit
set_option maxHeartbeats 1000000

theorem OW_appS {P : Program} {w0 : World} {n : Nat} {T : TT} {S : SS} {t E m q c k : Nat} {z v : Value} {s x : PV} {A : Option Addr} {xs : List Value} {l : List ByteArray} {seg : Seg} (hs' : s.val T = some v) (hk : S[k]? = some seg) (hv : SlV E 1 v m xs seg)
    (hx : x.val T = some (.slice A q c)) (hq : l.length = q) (hrd : Rd w0 S A (strs l)) (hc : A = none → c = 0) (hb : m + q ≤ 1000000000000) :
    OW P w0 n (.app t E 1 16 z s x) T S (fun v' S' => ∃ seg', S' = S.set k seg' ∧ SlV E 1 v' (m + q) (xs ++ strs l) seg') := by
  cases A with
  | none =>
    obtain rfl := hc rfl
    have : l = [] := by
      cases l with
      | nil => rfl
      | cons b l => obtain ⟨_, e, _⟩ := hrd 0 _ rfl; cases e
    subst this
    subst hq
    have := OW.of_yields (OW.app_none (P := P) (w0 := w0) (n := n) (t := t) (bytes := 16) (z := z) hs' hk hv hx)
    refine this.mono ?_
    rintro v' S' ⟨rfl, rfl⟩
    refine ⟨seg, ?_, by simpa [strs] using hv⟩
    obtain ⟨A, R, rfl, rfl⟩ := split_at hk
    exact (set_at rfl).symm
  | some a =>
    exact OW.app hs' hk hv hx (by simpa [strs] using hq) (fun j u hj => hrd.at hj) (by unfold strs; rw [List.all_map]; simp [Value.oneCell']) (by omega) (by unfold maxLen; omega)
theorem join_bounds : ∀ {ls : List ByteArray}, ls.length ≤ (joinL ls).length ∧ ∀ s ∈ ls, s.size ≤ (joinL ls).length
  | [] => by simp
  | x :: ls => by
    obtain ⟨h1, h2⟩ := join_bounds (ls := ls)
    have e : (joinL (x :: ls)).length = x.size + 1 + (joinL ls).length := by
      have : x.data.toList.length = x.size := by simp
      simp only [joinL, List.flatMap_cons, List.length_append, List.length_cons, List.length_nil]
      omega
    refine ⟨by simp only [List.length_cons]; omega, fun s hs => ?_⟩
    rcases List.mem_cons.1 hs with rfl | hs
    · omega
    · have := h2 s hs; omega
theorem bytes_fc {w0 : World} {S : SS} {A : Option Addr} {cap : Nat} {ls : List ByteArray} (hx : Rd w0 S A (strs ls)) (hb : ls.length ≤ 1000000000000000) (hs : ∀ s ∈ ls, s.size ≤ 1000000000000000) :
    FC Try.prog w0 13 [.slice A ls.length cap] S (fun v S' => ∃ z : Int, v = .int .i64 z ∧ (z ≤ 20000 → (joinL ls).length ≤ 20000) ∧ S' = S) := by
  refine FC.of Try.known13 (by simp) ?_
  unfold Try.pc13
  simp only [argT]
  refine PW.seqOps ?_
  refine OL.det trivial (Yields.pure rfl) ?_
  refine OL.nil ?_
  refine PW.keep (T' := [(0, _)]) ⟨rfl, trivial⟩ ?_
  refine PW.seqOps ?_
  refine OL.det trivial (Yields.pure rfl) ?_
  refine OL.det trivial (Yields.pure rfl) ?_
  refine OL.det trivial (Yields.pure rfl) ?_
  refine OL.nil ?_
  refine PW.keep (T' := [(0, _), (3, _)]) ⟨rfl, rfl, trivial⟩ ?_
  refine PW.seq fun K1 hK1 => ?_
  refine PW.seqOps ?_
  refine OL.det trivial (Yields.pure rfl) ?_
  refine OL.nil ?_
  refine PW.keep (T' := [(0, _), (3, _), (4, _)]) ⟨rfl, rfl, rfl, trivial⟩ ?_
  refine PW.block ?_
  refine PW.keep (T' := [(0, _), (3, _), (4, _)]) ⟨rfl, rfl, rfl, trivial⟩ ?_
  refine PW.loopK (I := fun m T S' => ∃ (k nn : Nat), (k ≤ ls.length ∧ m = ls.length - k ∧ nn + k = (joinL (ls.take k)).length + ls.length ∧ (nn ≤ 20000 ∨ nn ≤ 2000000000000000)) ∧ T = ([(0, .slice A ls.length cap), (3, .int .i64 (nn : Int)), (4, .int .i64 k)] : TT) ∧ S' = S) (m := ls.length) ⟨0, ls.length, ⟨by omega, by omega, by simp [joinL], .inr (by omega)⟩, rfl, rfl⟩ ?_
  rintro m _ _ ⟨k, nn, ⟨hk, hm, hn, hnb⟩, rfl, rfl⟩
  refine PW.seq fun K2 hK2 => ?_
  refine PW.seqOps ?_
  refine OL.det trivial (Yields.pure rfl) ?_
  refine OL.det trivial (Yields.pure rfl) ?_
  refine OL.det trivial (Yields.pure rfl) ?_
  refine OL.det trivial (Yields.pure rfl) ?_
  refine OL.bool trivial (Yields.pure rfl) (fun g11 => ?_) (fun g11 => ?_)
  · try simp only [decide_eq_true_eq, decide_eq_false_iff_not, beq_iff_eq, bne_iff_ne, beq_eq_false_iff_ne, bne_eq_false_iff_eq, Bool.not_eq_true', Bool.not_eq_false', Bool.not_eq_true, ne_eq, Decidable.not_not] at g11
    refine OL.det rfl (Yields.pure rfl) ?_
    refine OL.det rfl (Yields.pure rfl) ?_
    refine OL.det trivial (Yields.pure rfl) ?_
    refine OL.nil ?_
    refine PW.keep (T' := [(0, _), (3, _), (4, _), (14, _)]) ⟨rfl, rfl, rfl, rfl, trivial⟩ ?_
    refine PW.cond rfl (fun c14 => ?_) (fun c14 => ?_)
    · try simp only [decide_eq_true_eq, decide_eq_false_iff_not, beq_iff_eq, bne_iff_ne, beq_eq_false_iff_ne, bne_eq_false_iff_eq, Bool.not_eq_true', Bool.not_eq_false', Bool.not_eq_true, ne_eq, Decidable.not_not] at c14
      have hkl : k < ls.length := by omega
      obtain ⟨b0, rfl⟩ := hx.some (strs_ne (by omega))
      have hsk := hs _ (List.getElem_mem hkl)
      refine PW.skip ?_
      refine hK2 _ _ ?_
      refine PW.keep (T' := [(0, _), (3, _), (4, _)]) ⟨rfl, rfl, rfl, trivial⟩ ?_
      refine PW.seq fun K3 hK3 => ?_
      refine PW.block ?_
      refine PW.ops ?_
      refine OL.det trivial (Yields.pure rfl) ?_
      refine OL.det trivial (Yields.pure rfl) ?_
      refine OL.det trivial (Yields.pure rfl) ?_
      refine OL.det trivial (Yields.ixN1 rfl rfl rfl (by omega)) ?_
      refine OL.det trivial (Yields.ld rfl (strs_at hx hkl)) ?_
      refine OL.det trivial (Yields.pure rfl) ?_
      refine OL.det trivial (Yields.add64 rfl rfl (by omega) (by omega)) ?_
      refine OL.det trivial (Yields.pure rfl) ?_
      refine OL.nil ?_
      refine hK3 _ _ ?_
      refine PW.keep (T' := [(0, _), (3, _), (4, _)]) ⟨rfl, rfl, rfl, trivial⟩ ?_
      refine PW.ops ?_
      refine OL.det trivial (Yields.pure rfl) ?_
      refine OL.det trivial (Yields.add64 rfl rfl (by omega) (by omega)) ?_
      refine OL.det trivial (Yields.pure rfl) ?_
      refine OL.nil ?_
      repeat rw [inBlk_n]
      rw [thenK_n]
      refine LoopEnd.mk (T'' := [(0, _), (3, _), (4, _)]) ⟨rfl, rfl, rfl, trivial⟩ ?_
      refine ⟨ls.length - (k + 1), by omega, k + 1, nn + ls[k].size, ⟨by omega, rfl, ?_, .inr (by omega)⟩, by simp, rfl⟩
      rw [join_take hkl, List.length_append, List.length_append]
      have : ls[k].data.toList.length = ls[k].size := by simp
      simp only [List.length_cons, List.length_nil]
      omega
    · try simp only [decide_eq_true_eq, decide_eq_false_iff_not, beq_iff_eq, bne_iff_ne, beq_eq_false_iff_ne, bne_eq_false_iff_eq, Bool.not_eq_true', Bool.not_eq_false', Bool.not_eq_true, ne_eq, Decidable.not_not] at c14
      refine PW.exit ?_
      refine hK1 _ _ ?_
      refine PW.keep (T' := [(3, _)]) ⟨rfl, trivial⟩ ?_
      refine PW.seqOps ?_
      refine OL.det trivial (Yields.pure rfl) ?_
      refine OL.det trivial (Yields.pure rfl) ?_
      refine OL.nil ?_
      refine PW.keep (T' := [(2, _)]) ⟨rfl, trivial⟩ ?_
      refine PW.ret ?_
      change (Exit.ret = Exit.normal ∨ Exit.ret = Exit.ret) ∧ ∃ v, resV _ _ = some v ∧ _
      refine ⟨.inr rfl, _, rfl, _, rfl, fun hz => ?_, rfl⟩
      obtain rfl : k = ls.length := by omega
      rw [List.take_length] at hn; omega
  · try simp only [decide_eq_true_eq, decide_eq_false_iff_not, beq_iff_eq, bne_iff_ne, beq_eq_false_iff_ne, bne_eq_false_iff_eq, Bool.not_eq_true', Bool.not_eq_false', Bool.not_eq_true, ne_eq, Decidable.not_not] at g11
    refine OL.off rfl rfl ?_
    refine OL.off rfl rfl ?_
    refine OL.det trivial (Yields.pure rfl) ?_
    refine OL.nil ?_
    refine PW.keep (T' := [(0, _), (3, _), (4, _), (14, _)]) ⟨rfl, rfl, rfl, rfl, trivial⟩ ?_
    refine PW.ite (b := false) rfl ?_
    rw [if_neg Bool.false_ne_true]
    refine PW.exit ?_
    refine hK1 _ _ ?_
    refine PW.keep (T' := [(3, _)]) ⟨rfl, trivial⟩ ?_
    refine PW.seqOps ?_
    refine OL.det trivial (Yields.pure rfl) ?_
    refine OL.det trivial (Yields.pure rfl) ?_
    refine OL.nil ?_
    refine PW.keep (T' := [(2, _)]) ⟨rfl, trivial⟩ ?_
    refine PW.ret ?_
    change (Exit.ret = Exit.normal ∨ Exit.ret = Exit.ret) ∧ ∃ v, resV _ _ = some v ∧ _
    refine ⟨.inr rfl, _, rfl, _, rfl, fun hz => ?_, rfl⟩
    obtain rfl : k = ls.length := by omega
    rw [List.take_length] at hn; omega
theorem linesCheck_fc {w0 : World} {S : SS} {A : Option Addr} {cap : Nat} {ls : List ByteArray} (hx : Rd w0 S A (strs ls)) (hc : A = none → cap = 0) (hb : ls.length ≤ 1000000000000000) (hs : ∀ s ∈ ls, s.size ≤ 1000000000000000) :
    FC Try.prog w0 4 [.slice A ls.length cap] S (fun v S' => v = .bool true) := by
  refine FC.ofD Try.known4 (by simp) ?_
  unfold Try.pc4
  simp only [argT]
  refine PW.seqOps ?_
  refine OL.det trivial (Yields.pure rfl) ?_
  refine OL.nil ?_
  refine PW.keep (T' := [(0, _)]) ⟨rfl, trivial⟩ ?_
  refine PW.seq fun K1 hK1 => ?_
  refine PW.seqOps ?_
  refine OL.det trivial (Yields.pure rfl) ?_
  refine OL.call trivial rfl (bytes_fc hx hb hs) ?_
  rintro _ Sx ⟨z, rfl, hz, hSx⟩
  rw [hSx]
  clear hSx
  refine OL.det trivial (Yields.pure rfl) ?_
  refine OL.nil ?_
  refine PW.keep (T' := [(0, _), (7, _)]) ⟨rfl, rfl, trivial⟩ ?_
  refine PW.cond rfl (fun c7 => ?_) (fun c7 => ?_)
  · try simp only [decide_eq_true_eq, decide_eq_false_iff_not, beq_iff_eq, bne_iff_ne, beq_eq_false_iff_ne, bne_eq_false_iff_eq, Bool.not_eq_true', Bool.not_eq_false', Bool.not_eq_true, ne_eq, Decidable.not_not] at c7
    refine PW.seqOps ?_
    refine OL.call trivial rfl (awake_fc) ?_
    rintro _ Sx ⟨rfl, hSx⟩
    rw [hSx]
    clear hSx
    refine OL.det trivial (Yields.pure rfl) ?_
    refine OL.nil ?_
    refine PW.keep (T' := [(2, _)]) ⟨rfl, trivial⟩ ?_
    refine PW.ret ?_
    change (Exit.ret = Exit.normal ∨ Exit.ret = Exit.ret) ∧ ∃ v, resV _ _ = some v ∧ _
    exact ⟨.inr rfl, _, rfl, _, Sub.refl _, rfl⟩
  · try simp only [decide_eq_true_eq, decide_eq_false_iff_not, beq_iff_eq, bne_iff_ne, beq_eq_false_iff_ne, bne_eq_false_iff_eq, Bool.not_eq_true', Bool.not_eq_false', Bool.not_eq_true, ne_eq, Decidable.not_not] at c7
    have hj := hz (by omega)
    have hjb := join_bounds (ls := ls)
    have hsz : ∀ s ∈ ls, s.size ≤ 1000000000 := fun s h => by have := hjb.2 s h; omega
    refine PW.skip ?_
    refine hK1 _ _ ?_
    refine PW.keep (T' := [(0, _)]) ⟨rfl, trivial⟩ ?_
    refine PW.seqOps ?_
    refine OL.cons trivial OW.bsl0 ?_
    rintro _ _ ⟨r9, rfl, rfl⟩
    refine OL.det trivial (Yields.pure rfl) ?_
    refine OL.cons trivial (OW_appS (k := 0) (m := 0) (xs := []) rfl rfl (SlV.mk' (cap := 0) rfl (Nat.le_refl 0) (by decide)) rfl rfl hx.cons hc (by omega)) ?_
    rintro v11 _ ⟨seg11, rfl, hsl11⟩
    change OL _ _ _ _ _ (seg11 :: S) _
    rw [Nat.zero_add, List.nil_append] at hsl11
    obtain ⟨Ao, co, rfl, _, _⟩ := hsl11.rd (w0 := w0) (S := [seg11]) (k := 0) rfl
    have hro : Rd w0 (seg11 :: S) Ao (strs ls) := by obtain ⟨A', c', e, h2, _⟩ := hsl11.rd (w0 := w0) (S := seg11 :: S) (k := 0) rfl; cases e; exact h2
    refine OL.det trivial (Yields.pure rfl) ?_
    refine OL.nil ?_
    refine PW.keep (T' := [(0, _), (3, _)]) ⟨rfl, rfl, trivial⟩ ?_
    refine PW.seq fun K2 hK2 => ?_
    refine PW.seqOps ?_
    refine OL.det trivial (Yields.pure rfl) ?_
    refine OL.nil ?_
    refine PW.keep (T' := [(0, _), (3, _), (4, _)]) ⟨rfl, rfl, rfl, trivial⟩ ?_
    refine PW.block ?_
    refine PW.keep (T' := [(0, _), (3, _), (4, _)]) ⟨rfl, rfl, rfl, trivial⟩ ?_
    refine PW.loopK (I := fun m T S' => ∃ (k : Nat), (k ≤ ls.length ∧ m = ls.length - k) ∧ T = ([(0, .slice A ls.length cap), (3, .slice Ao ls.length co), (4, .int .i64 k)] : TT) ∧ S' = seg11 :: S) (m := ls.length) ⟨0, ⟨by omega, by omega⟩, rfl, rfl⟩ ?_
    rintro m _ _ ⟨k, ⟨hk, hm⟩, rfl, rfl⟩
    refine PW.seq fun K3 hK3 => ?_
    refine PW.seqOps ?_
    refine OL.det trivial (Yields.pure rfl) ?_
    refine OL.det trivial (Yields.pure rfl) ?_
    refine OL.det trivial (Yields.pure rfl) ?_
    refine OL.det trivial (Yields.pure rfl) ?_
    refine OL.nil ?_
    refine PW.keep (T' := [(0, _), (3, _), (4, _), (15, _)]) ⟨rfl, rfl, rfl, rfl, trivial⟩ ?_
    refine PW.cond rfl (fun c15 => ?_) (fun c15 => ?_)
    · try simp only [decide_eq_true_eq, decide_eq_false_iff_not, beq_iff_eq, bne_iff_ne, beq_eq_false_iff_ne, bne_eq_false_iff_eq, Bool.not_eq_true', Bool.not_eq_false', Bool.not_eq_true, ne_eq, Decidable.not_not] at c15
      have hkl : k < ls.length := by omega
      obtain ⟨b0, rfl⟩ := hx.some (strs_ne (by omega))
      have hsk := hsz _ (List.getElem_mem hkl)
      refine PW.skip ?_
      refine hK3 _ _ ?_
      refine PW.keep (T' := [(0, _), (3, _), (4, _)]) ⟨rfl, rfl, rfl, trivial⟩ ?_
      refine PW.seq fun K4 hK4 => ?_
      refine PW.block ?_
      refine PW.seq fun K5 hK5 => ?_
      refine PW.quietK Try.mixed ?_
      refine QK.det trivial (Yields.pure rfl) ?_
      refine QK.det trivial (Yields.pure rfl) ?_
      refine QK.det trivial (Yields.ixN1 rfl rfl rfl (by omega)) ?_
      refine QK.det trivial (Yields.ld rfl (strs_at hx.cons hkl)) ?_
      refine QK.call trivial rfl (is_fc hsk) ?_
      refine QK.det trivial (Yields.pure rfl) ?_
      refine QK.det trivial (Yields.pure rfl) ?_
      refine QK.det trivial (Yields.ixN1 rfl rfl rfl (by omega)) ?_
      refine QK.det trivial (Yields.ld rfl (strs_at hx.cons hkl)) ?_
      refine QK.call trivial rfl (ris_fc hsk) ?_
      refine QK.det trivial (Yields.to (v' := .bool false) (Yields.pure rfl) (by simp)) ?_
      refine QK.det trivial (Yields.pure rfl) ?_
      refine QK.det rfl (Yields.pure rfl) ?_
      refine QK.det rfl (Yields.pure rfl) ?_
      refine QK.det rfl (Yields.ixN1 rfl rfl rfl (by omega)) ?_
      refine QK.det rfl (Yields.ld rfl (strs_at hx.cons hkl)) ?_
      refine QK.call rfl rfl (mark_fc) ?_
      refine QK.det rfl (Yields.pure rfl) ?_
      refine QK.det rfl (Yields.pure rfl) ?_
      refine QK.det rfl (Yields.ixN1 rfl rfl rfl (by omega)) ?_
      refine QK.det rfl (Yields.ld rfl (strs_at hx.cons hkl)) ?_
      refine QK.nil ?_
      change OL _ _ _ [_, _, _] _ _ _
      refine OL.call rfl rfl (rmark_fc hsk) ?_
      rintro _ _ ⟨rfl, rfl⟩
      refine OL.det rfl (Yields.to (v' := .bool false) (Yields.pure rfl) (by simp)) ?_
      refine OL.det trivial (Yields.pure rfl) ?_
      refine OL.nil ?_
      refine hK5 _ _ ?_
      refine PW.keep (T' := [(0, _), (3, _), (4, _), (41, _)]) ⟨rfl, rfl, rfl, rfl, trivial⟩ ?_
      refine PW.ite (b := false) rfl ?_
      rw [if_neg Bool.false_ne_true]
      refine PW.skip ?_
      refine hK4 _ _ ?_
      refine PW.keep (T' := [(0, _), (3, _), (4, _)]) ⟨rfl, rfl, rfl, trivial⟩ ?_
      refine PW.ops ?_
      refine OL.det trivial (Yields.pure rfl) ?_
      refine OL.det trivial (Yields.add64 rfl rfl (by omega) (by omega)) ?_
      refine OL.det trivial (Yields.pure rfl) ?_
      refine OL.nil ?_
      repeat rw [inBlk_n]
      rw [thenK_n]
      refine LoopEnd.mk (T'' := [(0, _), (3, _), (4, _)]) ⟨rfl, rfl, rfl, trivial⟩ ?_
      exact ⟨ls.length - (k + 1), by omega, k + 1, ⟨by omega, rfl⟩, by simp, rfl⟩
    · try simp only [decide_eq_true_eq, decide_eq_false_iff_not, beq_iff_eq, bne_iff_ne, beq_eq_false_iff_ne, bne_eq_false_iff_eq, Bool.not_eq_true', Bool.not_eq_false', Bool.not_eq_true, ne_eq, Decidable.not_not] at c15
      refine PW.exit ?_
      refine hK2 _ _ ?_
      refine PW.keep (T' := [(0, _), (3, _)]) ⟨rfl, rfl, trivial⟩ ?_
      refine PW.seqOps ?_
      refine OL.det trivial (Yields.pure rfl) ?_
      refine OL.call trivial rfl (check_fc hro (by omega) hsz) ?_
      rintro _ _ ⟨rfl, rfl⟩
      refine OL.det trivial (Yields.pure rfl) ?_
      refine OL.call trivial rfl (rcheck_fc hx.cons (by omega) hsz) ?_
      rintro _ _ ⟨rfl, rfl⟩
      refine OL.det trivial (Yields.to (v' := .bool true) (Yields.pure rfl) (by simp)) ?_
      refine OL.det trivial (Yields.pure rfl) ?_
      refine OL.det rfl (Yields.pure rfl) ?_
      refine OL.call rfl rfl (join_fc hro (by omega) (by omega)) ?_
      rintro _ _ ⟨rfl, rfl⟩
      refine OL.det rfl (Yields.pure rfl) ?_
      refine OL.call rfl rfl (rjoin_fc hx.cons (by omega) (by omega)) ?_
      rintro _ _ ⟨rfl, rfl⟩
      refine OL.det rfl (Yields.to (v' := .bool true) (Yields.pure rfl) (by simp)) ?_
      refine OL.det trivial (Yields.pure rfl) ?_
      refine OL.det trivial (Yields.pure rfl) ?_
      refine OL.det rfl (Yields.pure rfl) ?_
      refine OL.det rfl (Yields.pure rfl) ?_
      refine OL.call rfl rfl (same_fc hro hx.cons (by omega)) ?_
      rintro _ _ ⟨rfl, rfl⟩
      refine OL.det trivial (Yields.pure rfl) ?_
      refine OL.det trivial (Yields.pure rfl) ?_
      refine OL.call rfl rfl (awake_fc) ?_
      rintro _ _ ⟨rfl, rfl⟩
      refine OL.det trivial (Yields.pure rfl) ?_
      refine OL.det trivial (Yields.pure rfl) ?_
      refine OL.nil ?_
      refine PW.keep (T' := [(2, _)]) ⟨rfl, trivial⟩ ?_
      refine PW.ret ?_
      change (Exit.ret = Exit.normal ∨ Exit.ret = Exit.ret) ∧ ∃ v, resV _ _ = some v ∧ _
      exact ⟨.inr rfl, _, rfl, _, Sub.refl _, rfl⟩

end Go.Proofs
