/- Walks and plain facts for the laws of this seat: what each function answers, for every input. -/
import Derived.Test.YtefefmogjmimdaaSl8
import Derived.Test.YtefefmogjmimdaaMyW16
set_option linter.unusedVariables false
set_option linter.unusedSimpArgs false
namespace Go.Proofs
open Go.SL Go.RowKit

open Go.MyPlain
set_option maxHeartbeats 1000000
theorem SlV.rd0 {w0 : World} {E sz m : Nat} {v : Value} {xs : List Value} {seg : Seg} (hv : SlV E sz v m xs seg) : ∃ A cap, v = .slice A m cap ∧ ∀ S, Rd w0 (seg :: S) A xs := by
  obtain ⟨A, cap, rfl, h, _⟩ := hv.rd (w0 := w0) (S := [seg]) (k := 0) rfl
  exact ⟨A, cap, rfl, fun S => h.mono (fun p hp => by simp only [List.flatten_cons, List.flatten_nil, List.append_nil] at hp; simp [hp])⟩
def wantL : List (Int × Int × Int) := [(1, 0, 0), (1, 1, 0), (0, 2, 0), (1, 3, 0), (0, 4, 1), (2, 0, 2), (0, 5, 3), (0, 6, 4), (2, 0, 5)]
theorem scr_known : scr (letF ⟨#[97, 98, 99, 97, 98, 98, 97]⟩) (letF ⟨#[99, 98, 97, 98, 97, 99]⟩) = wantL := by decide +kernel
theorem scr_xy : scr [(⟨#[120]⟩ : ByteArray)] [(⟨#[121]⟩ : ByteArray)] = [(1, 0, 0), (2, 0, 0)] := by decide +kernel
theorem bad1 : playF [(⟨#[120]⟩ : ByteArray)] [] [] = none := by decide +kernel
theorem bad2 : playF [(⟨#[120]⟩ : ByteArray)] [(⟨#[121]⟩ : ByteArray)] [(0, 0, 0)] = none := by decide +kernel
theorem bad3 : playF [] [] [(3, 0, 0)] = none := by decide +kernel
theorem play_bad_fc {w0 : World} {S : SS} {A B L : Option Addr} {ca cb cl : Nat} (xs ys : List ByteArray) (l : List (Int × Int × Int)) (hp : playF xs ys l = none) (hx : Rd w0 S A (xs.map .string)) (hy : Rd w0 S B (ys.map .string)) (hl : Rd w0 S L (stsC l)) (hX : xs.length ≤ 100000) (hY : ys.length ≤ 100000) (hL : l.length ≤ 100000) :
    FC Try.prog w0 14 [.slice A xs.length ca, .slice B ys.length cb, .slice L l.length cl] S (fun v S' => ∃ u seg, v = .tuple #[u, .int .i64 4] ∧ S' = seg :: S) :=
  (play_fc hx hy hl hX hY hL).mono (fun v S' h => by rw [hp] at h; obtain ⟨u, seg, h1, h2, _⟩ := h; exact ⟨u, seg, h1, h2⟩)
theorem letF_len (s : ByteArray) : (letF s).length = s.size := by simp [letF]
theorem diff_long {w0 : World} {S : SS} {A B : Option Addr} {ca cb n m : Nat} (hn : 1024 < n) :
    FC Try.prog w0 9 [.slice A n ca, .slice B m cb] S (fun v S' => v = .tuple #[.slice none 0 0, .int .i64 3] ∧ S' = S) := by
  refine FC.of Try.known9 (by simp) ?_
  unfold Try.pc9
  simp only [argT]
  refine PW.seqOps ?_
  refine OL.det trivial (Yields.pure rfl) ?_
  refine OL.det trivial (Yields.pure rfl) ?_
  refine OL.nil ?_
  refine PW.keep (T' := [(0, _), (1, _)]) ⟨rfl, rfl, trivial⟩ ?_
  refine PW.seq fun K1 hK1 => ?_
  refine PW.seqOps ?_
  refine OL.det trivial (Yields.pure rfl) ?_
  refine OL.det trivial (Yields.pure rfl) ?_
  refine OL.det trivial (Yields.pure rfl) ?_
  refine OL.bool trivial (Yields.pure rfl) (fun g16 => ?_) (fun g16 => ?_)
  · try simp only [decide_eq_true_eq, decide_eq_false_iff_not, beq_iff_eq, bne_iff_ne, beq_eq_false_iff_ne, bne_eq_false_iff_eq, Bool.not_eq_true', Bool.not_eq_false', Bool.not_eq_true, ne_eq, Decidable.not_not] at g16
    refine OL.off rfl rfl ?_
    refine OL.off rfl rfl ?_
    refine OL.off rfl rfl ?_
    refine OL.det trivial (Yields.pure rfl) ?_
    refine OL.nil ?_
    refine PW.keep (T' := [(0, _), (1, _), (20, _)]) ⟨rfl, rfl, rfl, trivial⟩ ?_
    refine PW.ite (b := true) rfl ?_
    rw [if_pos rfl]
    refine PW.seqOps ?_
    refine OL.det trivial (Yields.pure rfl) ?_
    refine OL.det trivial (Yields.pure rfl) ?_
    refine OL.nil ?_
    refine PW.keep (T' := [(4, _), (5, _)]) ⟨rfl, rfl, trivial⟩ ?_
    refine PW.ret ?_
    change (Exit.ret = Exit.normal ∨ Exit.ret = Exit.ret) ∧ ∃ v, resV _ _ = some v ∧ _
    exact ⟨.inr rfl, _, rfl, rfl, rfl⟩
  · try simp only [decide_eq_true_eq, decide_eq_false_iff_not, beq_iff_eq, bne_iff_ne, beq_eq_false_iff_ne, bne_eq_false_iff_eq, Bool.not_eq_true', Bool.not_eq_false', Bool.not_eq_true, ne_eq, Decidable.not_not] at g16
    exfalso; omega -- done
theorem myknown_fc {w0 : World} : FC Try.prog w0 7 [] [] (fun v _ => v = .bool true) := by
  refine FC.ofD Try.known7 (by simp) ?_
  unfold Try.pc7
  simp only [argT]
  refine PW.seqOps ?_
  refine OL.det trivial (Yields.pure rfl) ?_
  refine OL.nil ?_
  refine PW.keep (T' := []) trivial ?_
  refine PW.seqOps ?_
  refine OL.call trivial rfl (letters_fc (by decide)) ?_
  rintro vL1 _ ⟨segL1, rfl, hL1⟩
  obtain ⟨AL1, cL1, rfl, hrL1⟩ := SlV.rd0 (w0 := w0) hL1
  refine OL.call trivial rfl (letters_fc (by decide)) ?_
  rintro vL2 _ ⟨segL2, rfl, hL2⟩
  obtain ⟨AL2, cL2, rfl, hrL2⟩ := SlV.rd0 (w0 := w0) hL2
  refine OL.call trivial rfl (diff_fc (xs := letF ⟨#[97, 98, 99, 97, 98, 98, 97]⟩) (ys := letF ⟨#[99, 98, 97, 98, 97, 99]⟩) (hrL1 _).cons (hrL2 _) (by decide) (by decide)) ?_
  rintro _ _ ⟨u1, seg1, rfl, rfl, hsl1⟩
  rw [scr_known] at hsl1
  obtain ⟨A1, c1, rfl, hr1⟩ := SlV.rd0 (w0 := w0) hsl1
  refine OL.det trivial (Yields.pure rfl) ?_
  refine OL.det trivial (Yields.pure rfl) ?_
  refine OL.det trivial (Yields.pure rfl) ?_
  refine OL.det trivial (Yields.pure rfl) ?_
  refine OL.det trivial (Yields.pure rfl) ?_
  refine OL.nil ?_
  refine PW.keep (T' := [(1, _), (2, _)]) ⟨rfl, rfl, trivial⟩ ?_
  refine PW.seqOps ?_
  refine OL.det trivial (Yields.build rfl) ?_
  refine OL.det trivial (Yields.build rfl) ?_
  refine OL.det trivial (Yields.build rfl) ?_
  refine OL.det trivial (Yields.build rfl) ?_
  refine OL.det trivial (Yields.build rfl) ?_
  refine OL.det trivial (Yields.build rfl) ?_
  refine OL.det trivial (Yields.build rfl) ?_
  refine OL.det trivial (Yields.build rfl) ?_
  refine OL.det trivial (Yields.build rfl) ?_
  refine OL.cons trivial (OW.bsl rfl) ?_
  rintro _ _ ⟨r32, rfl, rfl⟩
  refine OL.det trivial (Yields.pure rfl) ?_
  refine OL.nil ?_
  refine PW.keep (T' := [(1, _), (2, _), (3, _)]) ⟨rfl, rfl, rfl, trivial⟩ ?_
  refine PW.seq fun K1 hK1 => ?_
  refine PW.seqOps ?_
  refine OL.det trivial (Yields.pure rfl) ?_
  refine OL.det trivial (Yields.pure rfl) ?_
  refine OL.bool trivial (Yields.pure rfl) (fun g35 => ?_) (fun g35 => ?_)
  · try simp only [decide_eq_true_eq, decide_eq_false_iff_not, beq_iff_eq, bne_iff_ne, beq_eq_false_iff_ne, bne_eq_false_iff_eq, Bool.not_eq_true', Bool.not_eq_false', Bool.not_eq_true, ne_eq, Decidable.not_not] at g35
    exact absurd trivial g35 -- done
  · try simp only [decide_eq_true_eq, decide_eq_false_iff_not, beq_iff_eq, bne_iff_ne, beq_eq_false_iff_ne, bne_eq_false_iff_eq, Bool.not_eq_true', Bool.not_eq_false', Bool.not_eq_true, ne_eq, Decidable.not_not] at g35
    refine OL.det rfl (Yields.pure rfl) ?_
    refine OL.det rfl (Yields.pure rfl) ?_
    refine OL.det rfl (Yields.pure rfl) ?_
    refine OL.det rfl (Yields.pure rfl) ?_
    refine OL.det rfl (Yields.pure rfl) ?_
    refine OL.det trivial (Yields.pure rfl) ?_
    refine OL.nil ?_
    refine PW.keep (T' := [(1, _), (3, _), (41, _)]) ⟨rfl, rfl, rfl, trivial⟩ ?_
    refine PW.cond rfl (fun c41 => ?_) (fun c41 => ?_)
    · try simp only [decide_eq_true_eq, decide_eq_false_iff_not, beq_iff_eq, bne_iff_ne, beq_eq_false_iff_ne, bne_eq_false_iff_eq, Bool.not_eq_true', Bool.not_eq_false', Bool.not_eq_true, ne_eq, Decidable.not_not] at c41
      exact (c41 rfl).elim -- done
    · try simp only [decide_eq_true_eq, decide_eq_false_iff_not, beq_iff_eq, bne_iff_ne, beq_eq_false_iff_ne, bne_eq_false_iff_eq, Bool.not_eq_true', Bool.not_eq_false', Bool.not_eq_true, ne_eq, Decidable.not_not] at c41
      refine PW.skip ?_
      refine hK1 _ _ ?_
      refine PW.keep (T' := [(1, _), (3, _)]) ⟨rfl, rfl, trivial⟩ ?_
      refine PW.seq fun K2 hK2 => ?_
      refine PW.seqOps ?_
      have hwl : wantL.length = 9 := rfl
      refine OL.det trivial (Yields.pure rfl) ?_
      refine OL.nil ?_
      refine PW.keep (T' := [(1, _), (3, _), (4, _)]) ⟨rfl, rfl, rfl, trivial⟩ ?_
      refine PW.block ?_
      refine PW.keep (T' := [(1, _), (3, _), (4, _)]) ⟨rfl, rfl, rfl, trivial⟩ ?_
      refine PW.loopK (I := fun m T S' => ∃ (k : Nat), (k ≤ 9 ∧ m = 9 - k) ∧ T = ([(1, .slice A1 wantL.length c1), (3, .slice (some ⟨r32, 0, none⟩) 9 9), (4, .int .i64 k)] : TT) ∧ S' = [(r32, .cells (stsC wantL) 36 27)] :: seg1 :: segL2 :: segL1 :: []) (m := 9) ⟨0, ⟨by omega, by omega⟩, rfl, rfl⟩ ?_
      rintro m _ _ ⟨k, ⟨hk, hm⟩, rfl, rfl⟩
      refine PW.seq fun K3 hK3 => ?_
      refine PW.seqOps ?_
      refine OL.det trivial (Yields.pure rfl) ?_
      refine OL.det trivial (Yields.pure rfl) ?_
      refine OL.det trivial (Yields.pure rfl) ?_
      refine OL.det trivial (Yields.pure rfl) ?_
      refine OL.nil ?_
      refine PW.keep (T' := [(1, _), (3, _), (4, _), (45, _)]) ⟨rfl, rfl, rfl, rfl, trivial⟩ ?_
      refine PW.cond rfl (fun c45 => ?_) (fun c45 => ?_)
      · try simp only [decide_eq_true_eq, decide_eq_false_iff_not, beq_iff_eq, bne_iff_ne, beq_eq_false_iff_ne, bne_eq_false_iff_eq, Bool.not_eq_true', Bool.not_eq_false', Bool.not_eq_true, ne_eq, Decidable.not_not] at c45
        have hlt : k < wantL.length := by omega
        obtain ⟨a1, rfl⟩ := (hr1 []).some (by decide)
        refine PW.skip ?_
        refine hK3 _ _ ?_
        refine PW.keep (T' := [(1, _), (3, _), (4, _)]) ⟨rfl, rfl, rfl, trivial⟩ ?_
        refine PW.seq fun K4 hK4 => ?_
        refine PW.block ?_
        refine PW.seq fun K5 hK5 => ?_
        refine PW.quietK Try.mixed ?_
        refine QK.det trivial (Yields.pure rfl) ?_
        refine QK.det trivial (Yields.pure rfl) ?_
        refine QK.det trivial (Yields.ixN rfl rfl rfl (by omega)) ?_
        refine QK.det trivial (Yields.ldA rfl (by first | rfl | simp) (st_all (l := wantL) (hr1 _).cons hlt)) ?_
        refine QK.det trivial (Yields.pure rfl) ?_
        refine QK.det trivial (Yields.pure rfl) ?_
        refine QK.det trivial (Yields.ixN rfl rfl rfl (by omega)) ?_
        refine QK.det trivial (Yields.ldA rfl (by first | rfl | simp) (st_all (l := wantL) (Rd.own (E := 36) (tot := 27) (List.Mem.head _)) hlt)) ?_
        refine QK.nil ?_
        change OL _ _ _ [_] _ _ _
        refine OL.det trivial (Yields.eqA rfl rfl rfl) ?_
        refine OL.nil ?_
        refine hK5 _ _ ?_
        refine PW.keep (T' := [(1, _), (3, _), (4, _), (56, _)]) ⟨rfl, rfl, rfl, rfl, trivial⟩ ?_
        refine PW.cond rfl (fun c56 => ?_) (fun c56 => ?_)
        · try simp only [decide_eq_true_eq, decide_eq_false_iff_not, beq_iff_eq, bne_iff_ne, beq_eq_false_iff_ne, bne_eq_false_iff_eq, Bool.not_eq_true', Bool.not_eq_false', Bool.not_eq_true, ne_eq, Decidable.not_not] at c56
          simp at c56 -- done
        · try simp only [decide_eq_true_eq, decide_eq_false_iff_not, beq_iff_eq, bne_iff_ne, beq_eq_false_iff_ne, bne_eq_false_iff_eq, Bool.not_eq_true', Bool.not_eq_false', Bool.not_eq_true, ne_eq, Decidable.not_not] at c56
          refine PW.skip ?_
          refine hK4 _ _ ?_
          refine PW.keep (T' := [(1, _), (3, _), (4, _)]) ⟨rfl, rfl, rfl, trivial⟩ ?_
          refine PW.ops ?_
          refine OL.det trivial (Yields.pure rfl) ?_
          refine OL.det trivial (Yields.add64 rfl rfl (by omega) (by omega)) ?_
          refine OL.det trivial (Yields.pure rfl) ?_
          refine OL.nil ?_
          repeat rw [inBlk_n]
          rw [thenK_n]
          refine LoopEnd.mk (T'' := [(1, _), (3, _), (4, _)]) ⟨rfl, rfl, rfl, trivial⟩ ?_
          exact ⟨9 - (k + 1), by omega, k + 1, ⟨by omega, rfl⟩, rfl, rfl⟩
      · try simp only [decide_eq_true_eq, decide_eq_false_iff_not, beq_iff_eq, bne_iff_ne, beq_eq_false_iff_ne, bne_eq_false_iff_eq, Bool.not_eq_true', Bool.not_eq_false', Bool.not_eq_true, ne_eq, Decidable.not_not] at c45
        refine PW.exit ?_
        refine hK2 _ _ ?_
        refine PW.keep (T' := []) trivial ?_
        refine PW.seqOps ?_
        refine OL.cons trivial (OW.bsl rfl) ?_
        rintro _ _ ⟨r58, rfl, rfl⟩
        refine OL.cons trivial (OW.bsl rfl) ?_
        rintro _ _ ⟨r59, rfl, rfl⟩
        refine OL.call trivial rfl (diff_fc (xs := [⟨#[120]⟩]) (ys := [⟨#[121]⟩]) (Rd.own (E := 9) (tot := 1) (by simp [setAt, Value.cells])) (Rd.own (E := 9) (tot := 1) (by simp [setAt, Value.cells])) (by decide) (by decide)) ?_
        rintro _ _ ⟨u5, seg5, rfl, rfl, hsl5⟩
        rw [scr_xy] at hsl5
        obtain ⟨A5, c5, rfl, hr5⟩ := SlV.rd0 (w0 := w0) hsl5
        obtain ⟨a5, rfl⟩ := (hr5 []).some (by decide)
        refine OL.det trivial (Yields.pure rfl) ?_
        refine OL.det trivial (Yields.pure rfl) ?_
        refine OL.det trivial (Yields.pure rfl) ?_
        refine OL.det trivial (Yields.pure rfl) ?_
        refine OL.det trivial (Yields.pure rfl) ?_
        refine OL.nil ?_
        refine PW.keep (T' := [(5, _), (6, _)]) ⟨rfl, rfl, trivial⟩ ?_
        refine PW.seqOps ?_
        refine OL.call trivial rfl (diff_fc (xs := []) (ys := []) Rd.nil Rd.nil (by decide) (by decide)) ?_
        rintro _ _ ⟨u7, seg7, rfl, rfl, hsl7⟩
        obtain ⟨A7, c7, rfl, _⟩ := SlV.rd0 (w0 := w0) hsl7
        refine OL.det trivial (Yields.pure rfl) ?_
        refine OL.det trivial (Yields.pure rfl) ?_
        refine OL.det trivial (Yields.pure rfl) ?_
        refine OL.det trivial (Yields.pure rfl) ?_
        refine OL.det trivial (Yields.pure rfl) ?_
        refine OL.nil ?_
        refine PW.keep (T' := [(5, _), (6, _), (7, _), (8, _)]) ⟨rfl, rfl, rfl, rfl, trivial⟩ ?_
        refine PW.seqOps ?_
        refine OL.cons trivial (OW.mkS_full (m := 1025) rfl rfl (by decide) (by decide)) ?_
        rintro _ _ ⟨r68, rfl, rfl⟩
        refine OL.call trivial rfl (diff_long (by decide)) ?_
        rintro _ _ ⟨rfl, rfl⟩
        refine OL.det trivial (Yields.pure rfl) ?_
        refine OL.det trivial (Yields.pure rfl) ?_
        refine OL.det trivial (Yields.pure rfl) ?_
        refine OL.det trivial (Yields.pure rfl) ?_
        refine OL.det trivial (Yields.pure rfl) ?_
        refine OL.nil ?_
        refine PW.keep (T' := [(5, _), (6, _), (7, _), (8, _), (10, _)]) ⟨rfl, rfl, rfl, rfl, rfl, trivial⟩ ?_
        refine PW.seqOps ?_
        refine OL.cons trivial (OW.bsl rfl) ?_
        rintro _ _ ⟨r73, rfl, rfl⟩
        refine OL.call trivial rfl (play_bad_fc [⟨#[120]⟩] [] [] bad1 (Rd.own (E := 9) (tot := 1) (by simp [setAt, Value.cells])) Rd.nil Rd.nil (by decide) (by decide) (by decide)) ?_
        rintro _ _ ⟨u11, seg11, rfl, rfl⟩
        refine OL.det trivial (Yields.pure rfl) ?_
        refine OL.det trivial (Yields.pure rfl) ?_
        refine OL.det trivial (Yields.pure rfl) ?_
        refine OL.det trivial (Yields.pure rfl) ?_
        refine OL.det trivial (Yields.pure rfl) ?_
        refine OL.nil ?_
        refine PW.keep (T' := [(5, _), (6, _), (7, _), (8, _), (10, _), (12, _)]) ⟨rfl, rfl, rfl, rfl, rfl, rfl, trivial⟩ ?_
        refine PW.seqOps ?_
        refine OL.cons trivial (OW.bsl rfl) ?_
        rintro _ _ ⟨r78, rfl, rfl⟩
        refine OL.cons trivial (OW.bsl rfl) ?_
        rintro _ _ ⟨r79, rfl, rfl⟩
        refine OL.det trivial (Yields.build rfl) ?_
        refine OL.cons trivial (OW.bsl rfl) ?_
        rintro _ _ ⟨r81, rfl, rfl⟩
        refine OL.call trivial rfl (play_bad_fc [⟨#[120]⟩] [⟨#[121]⟩] [(0, 0, 0)] bad2 (Rd.own (E := 9) (tot := 1) (by simp [setAt, Value.cells])) (Rd.own (E := 9) (tot := 1) (by simp [setAt, Value.cells])) (Rd.own (E := 36) (tot := 3) (List.Mem.head _)) (by decide) (by decide) (by decide)) ?_
        rintro _ _ ⟨u13, seg13, rfl, rfl⟩
        refine OL.det trivial (Yields.pure rfl) ?_
        refine OL.det trivial (Yields.pure rfl) ?_
        refine OL.det trivial (Yields.pure rfl) ?_
        refine OL.det trivial (Yields.pure rfl) ?_
        refine OL.det trivial (Yields.pure rfl) ?_
        refine OL.nil ?_
        refine PW.keep (T' := [(5, _), (6, _), (7, _), (8, _), (10, _), (12, _), (14, _)]) ⟨rfl, rfl, rfl, rfl, rfl, rfl, rfl, trivial⟩ ?_
        refine PW.seqOps ?_
        refine OL.det trivial (Yields.build rfl) ?_
        refine OL.cons trivial (OW.bsl rfl) ?_
        rintro _ _ ⟨r87, rfl, rfl⟩
        refine OL.call trivial rfl (play_bad_fc [] [] [(3, 0, 0)] bad3 Rd.nil Rd.nil (Rd.own (E := 36) (tot := 3) (List.Mem.head _)) (by decide) (by decide) (by decide)) ?_
        rintro _ _ ⟨u15, seg15, rfl, rfl⟩
        refine OL.det trivial (Yields.pure rfl) ?_
        refine OL.det trivial (Yields.pure rfl) ?_
        refine OL.det trivial (Yields.pure rfl) ?_
        refine OL.det trivial (Yields.pure rfl) ?_
        refine OL.det trivial (Yields.pure rfl) ?_
        refine OL.nil ?_
        refine PW.keep (T' := [(5, _), (6, _), (7, _), (8, _), (10, _), (12, _), (14, _), (16, _)]) ⟨rfl, rfl, rfl, rfl, rfl, rfl, rfl, rfl, trivial⟩ ?_
        refine PW.seqOps ?_
        refine OL.det trivial (Yields.pure rfl) ?_
        refine OL.det trivial (Yields.pure rfl) ?_
        refine OL.bool trivial (Yields.pure rfl) (fun g93 => ?_) (fun g93 => ?_)
        · try simp only [decide_eq_true_eq, decide_eq_false_iff_not, beq_iff_eq, bne_iff_ne, beq_eq_false_iff_ne, bne_eq_false_iff_eq, Bool.not_eq_true', Bool.not_eq_false', Bool.not_eq_true, ne_eq, Decidable.not_not] at g93
          refine OL.det rfl (Yields.pure rfl) ?_
          refine OL.det rfl (Yields.pure rfl) ?_
          refine OL.det rfl (Yields.pure rfl) ?_
          refine OL.det trivial (Yields.pure rfl) ?_
          refine OL.bool trivial (Yields.pure rfl) (fun g98 => ?_) (fun g98 => ?_)
          · try simp only [decide_eq_true_eq, decide_eq_false_iff_not, beq_iff_eq, bne_iff_ne, beq_eq_false_iff_ne, bne_eq_false_iff_eq, Bool.not_eq_true', Bool.not_eq_false', Bool.not_eq_true, ne_eq, Decidable.not_not] at g98
            refine OL.det rfl (Yields.pure rfl) ?_
            refine OL.det rfl (Yields.ixN rfl rfl (show _ = ((0 : Nat) : Int) from rfl) (by omega)) ?_
            refine OL.det rfl (Yields.ldA rfl (by first | rfl | simp) (st_all (l := [((1, 0, 0) : Int × Int × Int), (2, 0, 0)]) ((hr5 []).mono (fun p hp => by simp only [List.flatten_cons, List.flatten_nil, List.append_nil] at hp; simp [hp])) (k := 0) (by decide))) ?_
            refine OL.det rfl (Yields.build rfl) ?_
            refine OL.det rfl (Yields.eqA rfl rfl rfl) ?_
            refine OL.det trivial (Yields.pure rfl) ?_
            refine OL.bool trivial (Yields.pure rfl) (fun g105 => ?_) (fun g105 => ?_)
            · try simp only [decide_eq_true_eq, decide_eq_false_iff_not, beq_iff_eq, bne_iff_ne, beq_eq_false_iff_ne, bne_eq_false_iff_eq, Bool.not_eq_true', Bool.not_eq_false', Bool.not_eq_true, ne_eq, Decidable.not_not] at g105
              refine OL.det rfl (Yields.pure rfl) ?_
              refine OL.det rfl (Yields.ixN rfl rfl (show _ = ((1 : Nat) : Int) from rfl) (by omega)) ?_
              refine OL.det rfl (Yields.ldA rfl (by first | rfl | simp) (st_all (l := [((1, 0, 0) : Int × Int × Int), (2, 0, 0)]) ((hr5 []).mono (fun p hp => by simp only [List.flatten_cons, List.flatten_nil, List.append_nil] at hp; simp [hp])) (k := 1) (by decide))) ?_
              refine OL.det rfl (Yields.build rfl) ?_
              refine OL.det rfl (Yields.eqA rfl rfl rfl) ?_
              refine OL.det trivial (Yields.pure rfl) ?_
              refine OL.bool trivial (Yields.pure rfl) (fun g112 => ?_) (fun g112 => ?_)
              · try simp only [decide_eq_true_eq, decide_eq_false_iff_not, beq_iff_eq, bne_iff_ne, beq_eq_false_iff_ne, bne_eq_false_iff_eq, Bool.not_eq_true', Bool.not_eq_false', Bool.not_eq_true, ne_eq, Decidable.not_not] at g112
                refine OL.det rfl (Yields.pure rfl) ?_
                refine OL.det rfl (Yields.pure rfl) ?_
                refine OL.det trivial (Yields.pure rfl) ?_
                refine OL.bool trivial (Yields.pure rfl) (fun g116 => ?_) (fun g116 => ?_)
                · try simp only [decide_eq_true_eq, decide_eq_false_iff_not, beq_iff_eq, bne_iff_ne, beq_eq_false_iff_ne, bne_eq_false_iff_eq, Bool.not_eq_true', Bool.not_eq_false', Bool.not_eq_true, ne_eq, Decidable.not_not] at g116
                  refine OL.det rfl (Yields.pure rfl) ?_
                  refine OL.det rfl (Yields.pure rfl) ?_
                  refine OL.det rfl (Yields.pure rfl) ?_
                  refine OL.det trivial (Yields.pure rfl) ?_
                  refine OL.bool trivial (Yields.pure rfl) (fun g121 => ?_) (fun g121 => ?_)
                  · try simp only [decide_eq_true_eq, decide_eq_false_iff_not, beq_iff_eq, bne_iff_ne, beq_eq_false_iff_ne, bne_eq_false_iff_eq, Bool.not_eq_true', Bool.not_eq_false', Bool.not_eq_true, ne_eq, Decidable.not_not] at g121
                    refine OL.det rfl (Yields.pure rfl) ?_
                    refine OL.det rfl (Yields.pure rfl) ?_
                    refine OL.det trivial (Yields.pure rfl) ?_
                    refine OL.bool trivial (Yields.pure rfl) (fun g125 => ?_) (fun g125 => ?_)
                    · try simp only [decide_eq_true_eq, decide_eq_false_iff_not, beq_iff_eq, bne_iff_ne, beq_eq_false_iff_ne, bne_eq_false_iff_eq, Bool.not_eq_true', Bool.not_eq_false', Bool.not_eq_true, ne_eq, Decidable.not_not] at g125
                      refine OL.det rfl (Yields.pure rfl) ?_
                      refine OL.det rfl (Yields.pure rfl) ?_
                      refine OL.det trivial (Yields.pure rfl) ?_
                      refine OL.bool trivial (Yields.pure rfl) (fun g129 => ?_) (fun g129 => ?_)
                      · try simp only [decide_eq_true_eq, decide_eq_false_iff_not, beq_iff_eq, bne_iff_ne, beq_eq_false_iff_ne, bne_eq_false_iff_eq, Bool.not_eq_true', Bool.not_eq_false', Bool.not_eq_true, ne_eq, Decidable.not_not] at g129
                        refine OL.det rfl (Yields.pure rfl) ?_
                        refine OL.det rfl (Yields.pure rfl) ?_
                        refine OL.det trivial (Yields.pure rfl) ?_
                        refine OL.bool trivial (Yields.pure rfl) (fun g133 => ?_) (fun g133 => ?_)
                        · try simp only [decide_eq_true_eq, decide_eq_false_iff_not, beq_iff_eq, bne_iff_ne, beq_eq_false_iff_ne, bne_eq_false_iff_eq, Bool.not_eq_true', Bool.not_eq_false', Bool.not_eq_true, ne_eq, Decidable.not_not] at g133
                          refine OL.det rfl (Yields.pure rfl) ?_
                          refine OL.det rfl (Yields.pure rfl) ?_
                          refine OL.det trivial (Yields.pure rfl) ?_
                          refine OL.bool trivial (Yields.pure rfl) (fun g137 => ?_) (fun g137 => ?_)
                          · try simp only [decide_eq_true_eq, decide_eq_false_iff_not, beq_iff_eq, bne_iff_ne, beq_eq_false_iff_ne, bne_eq_false_iff_eq, Bool.not_eq_true', Bool.not_eq_false', Bool.not_eq_true, ne_eq, Decidable.not_not] at g137
                            refine OL.call rfl rfl (works_fc) ?_
                            rintro _ _ ⟨rfl, rfl⟩
                            refine OL.det trivial (Yields.pure rfl) ?_
                            refine OL.det trivial (Yields.pure rfl) ?_
                            refine OL.nil ?_
                            refine PW.keep (T' := [(0, _)]) ⟨rfl, trivial⟩ ?_
                            refine PW.ret ?_
                            change (Exit.ret = Exit.normal ∨ Exit.ret = Exit.ret) ∧ ∃ v, resV _ _ = some v ∧ _
                            exact ⟨.inr rfl, _, rfl, _, Sub.refl _, rfl⟩
                          · try simp only [decide_eq_true_eq, decide_eq_false_iff_not, beq_iff_eq, bne_iff_ne, beq_eq_false_iff_ne, bne_eq_false_iff_eq, Bool.not_eq_true', Bool.not_eq_false', Bool.not_eq_true, ne_eq, Decidable.not_not] at g137
                            first | omega | (simp at g137; done) | exact (g137 rfl).elim -- done
                        · try simp only [decide_eq_true_eq, decide_eq_false_iff_not, beq_iff_eq, bne_iff_ne, beq_eq_false_iff_ne, bne_eq_false_iff_eq, Bool.not_eq_true', Bool.not_eq_false', Bool.not_eq_true, ne_eq, Decidable.not_not] at g133
                          first | omega | (simp at g133; done) | exact (g133 rfl).elim -- done
                      · try simp only [decide_eq_true_eq, decide_eq_false_iff_not, beq_iff_eq, bne_iff_ne, beq_eq_false_iff_ne, bne_eq_false_iff_eq, Bool.not_eq_true', Bool.not_eq_false', Bool.not_eq_true, ne_eq, Decidable.not_not] at g129
                        first | omega | (simp at g129; done) | exact (g129 rfl).elim -- done
                    · try simp only [decide_eq_true_eq, decide_eq_false_iff_not, beq_iff_eq, bne_iff_ne, beq_eq_false_iff_ne, bne_eq_false_iff_eq, Bool.not_eq_true', Bool.not_eq_false', Bool.not_eq_true, ne_eq, Decidable.not_not] at g125
                      first | omega | (simp at g125; done) | exact (g125 rfl).elim -- done
                  · try simp only [decide_eq_true_eq, decide_eq_false_iff_not, beq_iff_eq, bne_iff_ne, beq_eq_false_iff_ne, bne_eq_false_iff_eq, Bool.not_eq_true', Bool.not_eq_false', Bool.not_eq_true, ne_eq, Decidable.not_not] at g121
                    first | omega | (simp at g121; done) | exact (g121 rfl).elim -- done
                · try simp only [decide_eq_true_eq, decide_eq_false_iff_not, beq_iff_eq, bne_iff_ne, beq_eq_false_iff_ne, bne_eq_false_iff_eq, Bool.not_eq_true', Bool.not_eq_false', Bool.not_eq_true, ne_eq, Decidable.not_not] at g116
                  first | omega | (simp at g116; done) | exact (g116 rfl).elim -- done
              · try simp only [decide_eq_true_eq, decide_eq_false_iff_not, beq_iff_eq, bne_iff_ne, beq_eq_false_iff_ne, bne_eq_false_iff_eq, Bool.not_eq_true', Bool.not_eq_false', Bool.not_eq_true, ne_eq, Decidable.not_not] at g112
                first | omega | (simp at g112; done) | exact (g112 rfl).elim -- done
            · try simp only [decide_eq_true_eq, decide_eq_false_iff_not, beq_iff_eq, bne_iff_ne, beq_eq_false_iff_ne, bne_eq_false_iff_eq, Bool.not_eq_true', Bool.not_eq_false', Bool.not_eq_true, ne_eq, Decidable.not_not] at g105
              first | omega | (simp at g105; done) | exact (g105 rfl).elim -- done
          · try simp only [decide_eq_true_eq, decide_eq_false_iff_not, beq_iff_eq, bne_iff_ne, beq_eq_false_iff_ne, bne_eq_false_iff_eq, Bool.not_eq_true', Bool.not_eq_false', Bool.not_eq_true, ne_eq, Decidable.not_not] at g98
            first | omega | (simp at g98; done) | exact (g98 rfl).elim -- done
        · try simp only [decide_eq_true_eq, decide_eq_false_iff_not, beq_iff_eq, bne_iff_ne, beq_eq_false_iff_ne, bne_eq_false_iff_eq, Bool.not_eq_true', Bool.not_eq_false', Bool.not_eq_true, ne_eq, Decidable.not_not] at g93
          first | omega | (simp at g93; done) | exact (g93 rfl).elim -- done

end Go.Proofs
