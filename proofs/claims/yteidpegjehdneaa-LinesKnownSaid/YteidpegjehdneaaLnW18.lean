/- Walks and plain facts for the laws of this seat: what each function answers, for every input. -/
import Derived.Test.YteidpegjehdneaaLnW17
set_option linter.unusedVariables false
set_option linter.unusedSimpArgs false
namespace Go.Proofs
open Go.SL Go.RowKit
set_option maxHeartbeats 1000000
theorem noE_fc {w0 : World} {S : SS} {tb : ByteArray} {e : Int} (htb : tb.size ≤ 100000) (hsp : splP tb = ([], e)) :
    FC Try.prog w0 22 [.string tb, .int .i64 e] S (fun v S' => v = .bool true ∧ S' = S) := by
  have hsf : FC Try.prog w0 8 [.string tb] S (resP w0 [] (.int .i64 e) S) := by have := split_fc (w0 := w0) (S := S) htb; rw [hsp] at this; exact this
  refine FC.ofD Try.known22 (by simp) ?_
  unfold Try.pc22
  simp only [argT]
  refine PW.seqOps ?_
  refine OL.det trivial (Yields.pure rfl) ?_
  refine OL.nil ?_
  refine PW.keep (T' := [(0, _), (1, _)]) ⟨rfl, rfl, trivial⟩ ?_
  refine PW.seqOps ?_
  refine OL.det trivial (Yields.pure rfl) ?_
  refine OL.call trivial rfl (hsf) ?_
  rintro _ _ ⟨A, cap, seg, rfl, rfl, hrd⟩
  refine OL.det trivial (Yields.pure rfl) ?_
  refine OL.det trivial (Yields.pure rfl) ?_
  refine OL.det trivial (Yields.pure rfl) ?_
  refine OL.det trivial (Yields.pure rfl) ?_
  refine OL.det trivial (Yields.pure rfl) ?_
  refine OL.nil ?_
  refine PW.keep (T' := [(1, _), (5, _), (6, _)]) ⟨rfl, rfl, rfl, trivial⟩ ?_
  refine PW.seqOps ?_
  refine OL.det trivial (Yields.pure rfl) ?_
  refine OL.det trivial (Yields.pure rfl) ?_
  refine OL.det trivial (Yields.to (v' := .bool true) (Yields.pure rfl) (by simp)) ?_
  refine OL.det trivial (Yields.pure rfl) ?_
  refine OL.det rfl (Yields.pure rfl) ?_
  refine OL.det rfl (Yields.pure rfl) ?_
  refine OL.det rfl (Yields.to (v' := .bool true) (Yields.pure rfl) rfl) ?_
  refine OL.det trivial (Yields.pure rfl) ?_
  refine OL.det trivial (Yields.pure rfl) ?_
  refine OL.nil ?_
  refine PW.keep (T' := [(4, _)]) ⟨rfl, trivial⟩ ?_
  refine PW.ret ?_
  change (Exit.ret = Exit.normal ∨ Exit.ret = Exit.ret) ∧ ∃ v, resV _ _ = some v ∧ _
  exact ⟨.inr rfl, _, rfl, _, Sub.drop (Sub.refl _), rfl, rfl⟩

theorem isB_fc {w0 : World} {S : SS} {s : ByteArray} {b : Bool} (hs : s.size ≤ 1000000000) (h : isP s = b) : FC Try.prog w0 14 [.string s] S (fun v S' => v = .bool b ∧ S' = S) := h ▸ is_fc hs
theorem markB_fc {w0 : World} {S : SS} {s : ByteArray} {b : Bool} (h : markP s = b) : FC Try.prog w0 16 [.string s] S (fun v S' => v = .bool b ∧ S' = S) := h ▸ mark_fc
theorem toldB_fc {w0 : World} {S : SS} {tb : ByteArray} {r : List ByteArray × Int} (htb : tb.size ≤ 100000) (h : toldP tb = r) : FC Try.prog w0 10 [.string tb] S (resP w0 r.1 (.int .i64 r.2) S) := h ▸ told_fc htb
def b81 : ByteArray := ⟨(List.replicate 81 32).toArray⟩
def lng : ByteArray := ⟨((List.replicate 257 [120, 10]).flatten).toArray⟩
def tx1 : ByteArray := ⟨#[62, 62, 62, 62, 62, 62, 62, 10, 97, 10, 60, 60, 60, 60, 60, 60, 60, 10]⟩
theorem k1 : toldP tx1 = ([mA, ⟨#[97]⟩, mC], 0) := by kernel_rfl
theorem k2 : toldP lng = (List.replicate 257 ⟨#[120]⟩, 0) := by kernel_rfl
theorem k3 : splP ⟨#[97, 10, 98]⟩ = ([], 4) := by unfold splP checkP isP; rw [mark_eq]; kernel_rfl
theorem k4 : splP ⟨#[61, 61, 61, 61, 61, 61, 61, 10]⟩ = ([], 4) := by unfold splP checkP isP; rw [mark_eq]; kernel_rfl
theorem k5 : splP ⟨#[61, 61, 61, 61, 61, 61, 61, 61, 10]⟩ = ([⟨#[61, 61, 61, 61, 61, 61, 61, 61]⟩], 0) := by unfold splP checkP isP; rw [mark_eq]; kernel_rfl
theorem k6 : splP lng = ([], 3) := by unfold splP checkP isP; rw [mark_eq]; kernel_rfl
theorem k7 : isP b81 = false := by unfold isP; rw [mark_eq]; kernel_rfl
theorem k8 : isP (b81.extract 1 b81.size) = true := by unfold isP; rw [mark_eq]; kernel_rfl
theorem k9 : isP ⟨#[9]⟩ = true := by unfold isP; rw [mark_eq]; kernel_rfl
theorem k10 : isP ⟨#[195, 169]⟩ = false := by unfold isP; rw [mark_eq]; kernel_rfl
theorem k11 : markP ⟨#[60, 60, 60, 60, 60, 60, 60]⟩ = true := by rw [mark_eq]; kernel_rfl
theorem k12 : markP ⟨#[60, 60, 60, 60, 60, 60]⟩ = false := by rw [mark_eq]; kernel_rfl
theorem lng_size : lng.size = 514 := by kernel_rfl
theorem b81_size : b81.size = 81 := by kernel_rfl
theorem linesKnown_fc {w0 : World} {S : SS} : FC Try.prog w0 5 [] S (fun v S' => v = .bool true) := by
  refine FC.ofD Try.known5 (by simp) ?_
  unfold Try.pc5
  simp only [argT]
  refine PW.seqOps ?_
  refine OL.det trivial (Yields.pure rfl) ?_
  refine OL.nil ?_
  refine PW.keep (T' := []) trivial ?_
  refine PW.seqOps ?_
  refine OL.det trivial (Yields.pure rfl) ?_
  refine OL.det trivial (Yields.pure rfl) ?_
  refine OL.nil ?_
  refine PW.keep (T' := [(1, _), (2, _)]) ⟨rfl, rfl, trivial⟩ ?_
  refine PW.seq fun K1 hK1 => ?_
  refine PW.seqOps ?_
  refine OL.nilseg ?_
  refine OL.det trivial (Yields.pure rfl) ?_
  refine OL.nil ?_
  refine PW.keep (T' := [(1, _), (2, _), (3, _)]) ⟨rfl, rfl, rfl, trivial⟩ ?_
  refine PW.block ?_
  refine PW.keep (T' := [(1, _), (2, _), (3, _)]) ⟨rfl, rfl, rfl, trivial⟩ ?_
  refine PW.loopK (I := fun m T S' => ∃ (k : Nat) (s : ByteArray), (k ≤ 81 ∧ m = 81 - k ∧ s.data.toList = List.replicate k 32) ∧ T = ([(1, .string s), (2, .string ⟨#[]⟩), (3, .int .i64 k)] : TT) ∧ S' = [] :: S) (m := 81) ⟨0, _, ⟨by omega, by omega, rfl⟩, rfl, rfl⟩ ?_
  rintro m _ _ ⟨k, s, ⟨hk, hm, hs⟩, rfl, rfl⟩
  refine PW.seq fun K2 hK2 => ?_
  refine PW.seqOps ?_
  refine OL.det trivial (Yields.pure rfl) ?_
  refine OL.det trivial (Yields.pure rfl) ?_
  refine OL.nil ?_
  refine PW.keep (T' := [(1, _), (2, _), (3, _), (10, _)]) ⟨rfl, rfl, rfl, rfl, trivial⟩ ?_
  refine PW.cond rfl (fun c10 => ?_) (fun c10 => ?_)
  · try simp only [decide_eq_true_eq, decide_eq_false_iff_not, beq_iff_eq, bne_iff_ne, beq_eq_false_iff_ne, bne_eq_false_iff_eq, Bool.not_eq_true', Bool.not_eq_false', Bool.not_eq_true, ne_eq, Decidable.not_not] at c10
    have hsz : s.size = k := by have := congrArg List.length hs; simpa using this
    refine PW.skip ?_
    refine hK2 _ _ ?_
    refine PW.keep (T' := [(1, _), (2, _), (3, _)]) ⟨rfl, rfl, rfl, trivial⟩ ?_
    refine PW.seq fun K3 hK3 => ?_
    refine PW.block ?_
    refine PW.ops ?_
    refine OL.det trivial (Yields.pure rfl) ?_
    refine OL.det trivial (yields_cat rfl rfl (by rw [show (⟨#[32]⟩ : ByteArray).size = 1 from rfl]; omega)) ?_
    refine OL.det trivial (Yields.pure rfl) ?_
    refine OL.nil ?_
    refine hK3 _ _ ?_
    refine PW.keep (T' := [(1, _), (2, _), (3, _)]) ⟨rfl, rfl, rfl, trivial⟩ ?_
    refine PW.ops ?_
    refine OL.det trivial (Yields.pure rfl) ?_
    refine OL.det trivial (Yields.add64 rfl rfl (by omega) (by omega)) ?_
    refine OL.det trivial (Yields.pure rfl) ?_
    refine OL.nil ?_
    repeat rw [inBlk_n]
    rw [thenK_n]
    refine LoopEnd.mk (T'' := [(1, _), (2, _), (3, _)]) ⟨rfl, rfl, rfl, trivial⟩ ?_
    exact ⟨81 - (k + 1), by omega, k + 1, s ++ ⟨#[32]⟩, ⟨by omega, rfl, by rw [app_list, hs, List.replicate_succ']⟩, by simp, rfl⟩
  · try simp only [decide_eq_true_eq, decide_eq_false_iff_not, beq_iff_eq, bne_iff_ne, beq_eq_false_iff_ne, bne_eq_false_iff_eq, Bool.not_eq_true', Bool.not_eq_false', Bool.not_eq_true, ne_eq, Decidable.not_not] at c10
    refine PW.exit ?_
    refine hK1 _ _ ?_
    refine PW.keep (T' := [(1, _), (2, _)]) ⟨rfl, rfl, trivial⟩ ?_
    refine PW.seq fun K4 hK4 => ?_
    refine PW.seqOps ?_
    obtain rfl : k = 81 := by omega
    obtain rfl : s = b81 := ba_ext (by rw [hs]; rfl)
    refine OL.det trivial (Yields.pure rfl) ?_
    refine OL.nil ?_
    refine PW.keep (T' := [(1, _), (2, _), (4, _)]) ⟨rfl, rfl, rfl, trivial⟩ ?_
    refine PW.block ?_
    refine PW.keep (T' := [(1, _), (2, _), (4, _)]) ⟨rfl, rfl, rfl, trivial⟩ ?_
    refine PW.loopK (I := fun m T S' => ∃ (k : Nat) (u : ByteArray), (k ≤ 257 ∧ m = 257 - k ∧ u.data.toList = (List.replicate k [120, 10]).flatten) ∧ T = ([(1, .string b81), (2, .string u), (4, .int .i64 k)] : TT) ∧ S' = [] :: S) (m := 257) ⟨0, _, ⟨by omega, by omega, rfl⟩, rfl, rfl⟩ ?_
    rintro m _ _ ⟨k, u, ⟨hk, hm, hu⟩, rfl, rfl⟩
    refine PW.seq fun K5 hK5 => ?_
    refine PW.seqOps ?_
    refine OL.det trivial (Yields.pure rfl) ?_
    refine OL.det trivial (Yields.pure rfl) ?_
    refine OL.nil ?_
    refine PW.keep (T' := [(1, _), (2, _), (4, _), (16, _)]) ⟨rfl, rfl, rfl, rfl, trivial⟩ ?_
    refine PW.cond rfl (fun c16 => ?_) (fun c16 => ?_)
    · try simp only [decide_eq_true_eq, decide_eq_false_iff_not, beq_iff_eq, bne_iff_ne, beq_eq_false_iff_ne, bne_eq_false_iff_eq, Bool.not_eq_true', Bool.not_eq_false', Bool.not_eq_true, ne_eq, Decidable.not_not] at c16
      have hsz : u.size ≤ 2 * k := by have := congrArg List.length hu; simp at this; omega
      refine PW.skip ?_
      refine hK5 _ _ ?_
      refine PW.keep (T' := [(1, _), (2, _), (4, _)]) ⟨rfl, rfl, rfl, trivial⟩ ?_
      refine PW.seq fun K6 hK6 => ?_
      refine PW.block ?_
      refine PW.ops ?_
      refine OL.det trivial (Yields.pure rfl) ?_
      refine OL.det trivial (yields_cat rfl rfl (by rw [show (⟨#[120, 10]⟩ : ByteArray).size = 2 from rfl]; omega)) ?_
      refine OL.det trivial (Yields.pure rfl) ?_
      refine OL.nil ?_
      refine hK6 _ _ ?_
      refine PW.keep (T' := [(1, _), (2, _), (4, _)]) ⟨rfl, rfl, rfl, trivial⟩ ?_
      refine PW.ops ?_
      refine OL.det trivial (Yields.pure rfl) ?_
      refine OL.det trivial (Yields.add64 rfl rfl (by omega) (by omega)) ?_
      refine OL.det trivial (Yields.pure rfl) ?_
      refine OL.nil ?_
      repeat rw [inBlk_n]
      rw [thenK_n]
      refine LoopEnd.mk (T'' := [(1, _), (2, _), (4, _)]) ⟨rfl, rfl, rfl, trivial⟩ ?_
      exact ⟨257 - (k + 1), by omega, k + 1, u ++ ⟨#[120, 10]⟩, ⟨by omega, rfl, by rw [app_list, hu, List.replicate_succ', List.flatten_append]; rfl⟩, by simp, rfl⟩
    · try simp only [decide_eq_true_eq, decide_eq_false_iff_not, beq_iff_eq, bne_iff_ne, beq_eq_false_iff_ne, bne_eq_false_iff_eq, Bool.not_eq_true', Bool.not_eq_false', Bool.not_eq_true, ne_eq, Decidable.not_not] at c16
      refine PW.exit ?_
      refine hK4 _ _ ?_
      refine PW.keep (T' := [(1, _), (2, _)]) ⟨rfl, rfl, trivial⟩ ?_
      refine PW.seqOps ?_
      obtain rfl : k = 257 := by omega
      obtain rfl : u = lng := ba_ext (by rw [hu]; rfl)
      refine OL.call trivial rfl (toldB_fc (tb := tx1) (by decide) k1) ?_
      rintro _ _ ⟨A1, c1, s1, rfl, rfl, hr1⟩
      refine OL.det trivial (Yields.pure rfl) ?_
      refine OL.det trivial (Yields.pure rfl) ?_
      refine OL.det trivial (Yields.pure rfl) ?_
      refine OL.det trivial (Yields.pure rfl) ?_
      refine OL.det trivial (Yields.pure rfl) ?_
      refine OL.nil ?_
      refine PW.keep (T' := [(1, _), (2, _), (5, _), (6, _)]) ⟨rfl, rfl, rfl, rfl, trivial⟩ ?_
      refine PW.seqOps ?_
      refine OL.det trivial (Yields.pure rfl) ?_
      refine OL.call trivial rfl (toldB_fc (by rw [lng_size]; decide) k2) ?_
      rintro _ _ ⟨A2, c2, s2, rfl, rfl, hr2⟩
      refine OL.det trivial (Yields.pure rfl) ?_
      refine OL.det trivial (Yields.pure rfl) ?_
      refine OL.det trivial (Yields.pure rfl) ?_
      refine OL.det trivial (Yields.pure rfl) ?_
      refine OL.det trivial (Yields.pure rfl) ?_
      refine OL.nil ?_
      refine PW.keep (T' := [(1, _), (2, _), (5, _), (6, _), (7, _), (8, _)]) ⟨rfl, rfl, rfl, rfl, rfl, rfl, trivial⟩ ?_
      refine PW.seqOps ?_
      refine OL.call trivial rfl (awake_fc) ?_
      rintro _ _ ⟨rfl, rfl⟩
      refine OL.det trivial (Yields.pure rfl) ?_
      refine OL.call rfl rfl (noE_fc (by decide) k3) ?_
      rintro _ _ ⟨rfl, rfl⟩
      refine OL.det trivial (Yields.pure rfl) ?_
      refine OL.det trivial (Yields.pure rfl) ?_
      refine OL.call rfl rfl (noE_fc (by decide) k4) ?_
      rintro _ _ ⟨rfl, rfl⟩
      refine OL.det trivial (Yields.pure rfl) ?_
      refine OL.det trivial (Yields.pure rfl) ?_
      refine OL.cons rfl (OW.bsl rfl) ?_
      rintro _ _ ⟨r38, rfl, rfl⟩
      refine OL.call rfl rfl (isl_fc (ls := [⟨#[61, 61, 61, 61, 61, 61, 61, 61]⟩]) (by decide) k5 (Rd.own (r := r38) (E := 9) (tot := 1) (List.mem_flatten.2 ⟨_, List.mem_cons_self, List.mem_singleton.2 rfl⟩)) (by decide)) ?_
      rintro _ _ ⟨rfl, rfl⟩
      refine OL.det trivial (Yields.pure rfl) ?_
      refine OL.det trivial (Yields.pure rfl) ?_
      refine OL.det rfl (Yields.pure rfl) ?_
      refine OL.det rfl (Yields.to (v' := .bool true) (Yields.pure rfl) rfl) ?_
      refine OL.det trivial (Yields.pure rfl) ?_
      refine OL.det trivial (Yields.pure rfl) ?_
      refine OL.det rfl (Yields.pure rfl) ?_
      refine OL.det rfl (Yields.pure rfl) ?_
      refine OL.det rfl (Yields.to (v' := .bool true) (Yields.pure rfl) rfl) ?_
      refine OL.det trivial (Yields.pure rfl) ?_
      refine OL.det trivial (Yields.pure rfl) ?_
      refine OL.det rfl (Yields.pure rfl) ?_
      refine OL.det rfl (Yields.to (v' := .bool true) (Yields.pure rfl) rfl) ?_
      refine OL.det trivial (Yields.pure rfl) ?_
      refine OL.det trivial (Yields.pure rfl) ?_
      refine OL.det rfl (Yields.pure rfl) ?_
      refine OL.det rfl (Yields.pure rfl) ?_
      refine OL.det rfl (Yields.to (v' := .bool true) (Yields.pure rfl) (by rw [List.length_replicate]; rfl)) ?_
      refine OL.det trivial (Yields.pure rfl) ?_
      refine OL.det trivial (Yields.pure rfl) ?_
      refine OL.det rfl (Yields.pure rfl) ?_
      refine OL.call rfl rfl (noE_fc (by rw [lng_size]; decide) k6) ?_
      rintro _ _ ⟨rfl, rfl⟩
      refine OL.det trivial (Yields.pure rfl) ?_
      refine OL.det trivial (Yields.pure rfl) ?_
      refine OL.det rfl (Yields.pure rfl) ?_
      refine OL.call rfl rfl (isB_fc (by rw [b81_size]; decide) k7) ?_
      rintro _ _ ⟨rfl, rfl⟩
      refine OL.det rfl (Yields.pure rfl) ?_
      refine OL.det trivial (Yields.pure rfl) ?_
      refine OL.det trivial (Yields.pure rfl) ?_
      refine OL.det rfl (Yields.pure rfl) ?_
      refine OL.det rfl (Yields.slStr (s := b81) (l := 1) (h := b81.size) rfl rfl rfl (.inl rfl) (.inr ⟨rfl, rfl⟩) (by rw [b81_size]; decide) (Nat.le_refl _)) ?_
      refine OL.call rfl rfl (isB_fc (by simp [b81_size]) k8) ?_
      rintro _ _ ⟨rfl, rfl⟩
      refine OL.det trivial (Yields.pure rfl) ?_
      refine OL.det trivial (Yields.pure rfl) ?_
      refine OL.call rfl rfl (isB_fc (by decide) k9) ?_
      rintro _ _ ⟨rfl, rfl⟩
      refine OL.det trivial (Yields.pure rfl) ?_
      refine OL.det trivial (Yields.pure rfl) ?_
      refine OL.call rfl rfl (isB_fc (by decide) k10) ?_
      rintro _ _ ⟨rfl, rfl⟩
      refine OL.det rfl (Yields.pure rfl) ?_
      refine OL.det trivial (Yields.pure rfl) ?_
      refine OL.det trivial (Yields.pure rfl) ?_
      refine OL.call rfl rfl (markB_fc k11) ?_
      rintro _ _ ⟨rfl, rfl⟩
      refine OL.det trivial (Yields.pure rfl) ?_
      refine OL.det trivial (Yields.pure rfl) ?_
      refine OL.call rfl rfl (markB_fc k12) ?_
      rintro _ _ ⟨rfl, rfl⟩
      refine OL.det rfl (Yields.pure rfl) ?_
      refine OL.det trivial (Yields.pure rfl) ?_
      refine OL.det trivial (Yields.pure rfl) ?_
      refine OL.cons rfl (OW.bsl rfl) ?_
      rintro _ _ ⟨r88, rfl, rfl⟩
      refine OL.call rfl rfl (join_fc (ls := [⟨#[97]⟩, ⟨#[]⟩]) (Rd.own (r := r88) (E := 9) (tot := 2) (List.mem_flatten.2 ⟨_, List.mem_cons_self, List.mem_singleton.2 rfl⟩)) (by decide) (by decide)) ?_
      rintro _ _ ⟨rfl, rfl⟩
      refine OL.det rfl (Yields.to (v' := .bool true) (Yields.pure rfl) (by kernel_rfl)) ?_
      refine OL.det trivial (Yields.pure rfl) ?_
      refine OL.det trivial (Yields.pure rfl) ?_
      refine OL.nil ?_
      refine PW.keep (T' := [(0, _)]) ⟨rfl, trivial⟩ ?_
      refine PW.ret ?_
      change (Exit.ret = Exit.normal ∨ Exit.ret = Exit.ret) ∧ ∃ v, resV _ _ = some v ∧ _
      exact ⟨.inr rfl, _, rfl, _, Sub.refl _, rfl⟩

end Go.Proofs
