/- Walks and plain facts for the laws of this seat: what each function answers, for every input. -/
import Derived.Test.YtpeikdbejafgbaaCoW7
set_option linter.unusedVariables false
set_option linter.unusedSimpArgs false
namespace Go.Proofs
open Go.SL Go.RowKit
set_option maxHeartbeats 1000000

theorem rd_ext {A : Option Addr} {len cap a1 a2 : Nat} {e1 e2 : Int} (h1 : a1 = a2) (h2 : e1 = e2) : rdC A len cap a1 e1 = rdC A len cap a2 e2 := by subst h1; subst h2; rfl
theorem one_num_fc {w0 : World} {S : SS} {A : Option Addr} {cap at_ rb ro rm : Nat} {err : Int} {l : List UInt8} {most : Nat} (hx : Rd w0 S A (bytesC l)) (hat : at_ ≤ l.length) (hcap : l.length ≤ cap) (hb : l.length ≤ 1000000000000) (hmo : Cell w0 S ⟨rm, 0, none⟩ (.int .u64 (most : Int))) :
    FC Try.prog w0 31 [.pointer (some ⟨rb, 0, none⟩), .func (.func 32) #[] #[.pointer (some ⟨rm, 0, none⟩), .pointer (some ⟨ro, 0, none⟩)]] ([(ro, .cells [.int .u64 ((0 : Nat) : Int)] 22 1)] :: [(rb, .cells (rdC A l.length cap at_ err) 49 4)] :: S)
      (fun v S' => S' = [(ro, .cells [.int .u64 ((readN most l at_ err).1 : Int)] 22 1)] :: [(rb, .cells (rdC A l.length cap (readN most l at_ err).2.1 (readN most l at_ err).2.2) 49 4)] :: S) := by
  refine FC.of Try.known31 (by simp) ?_
  unfold Try.pc31
  simp only [argT]
  refine PW.seq fun K1 hK1 => ?_
  refine PW.seqOps ?_
  refine OL.det trivial (Yields.pure rfl) ?_
  refine OL.call trivial rfl (is_fc (rb := rb) (A := A) (len := l.length) (cap := cap) (at_ := at_) (err := err) (by simp)) ?_
  rintro _ _ ⟨rfl, rfl⟩
  refine OL.det trivial (Yields.pure rfl) ?_
  refine OL.nil ?_
  refine PW.keep (T' := [(0, _), (1, _), (8, _)]) ⟨rfl, rfl, rfl, trivial⟩ ?_
  refine PW.cond rfl (fun c8 => ?_) (fun c8 => ?_)
  · try simp only [decide_eq_true_eq, decide_eq_false_iff_not, beq_iff_eq, bne_iff_ne, beq_eq_false_iff_ne, bne_eq_false_iff_eq, Bool.not_eq_true', Bool.not_eq_false', Bool.not_eq_true, ne_eq, Decidable.not_not] at c8
    refine PW.ret ?_
    change (Exit.ret = Exit.normal ∨ Exit.ret = Exit.ret) ∧ ∃ v, resV _ _ = some v ∧ _
    refine ⟨.inr rfl, _, rfl, ?_⟩
    have e : readN most l at_ err = (0, at_, err) := by unfold readN; rw [if_pos (by omega)]
    rw [e]
  · try simp only [decide_eq_true_eq, decide_eq_false_iff_not, beq_iff_eq, bne_iff_ne, beq_eq_false_iff_ne, bne_eq_false_iff_eq, Bool.not_eq_true', Bool.not_eq_false', Bool.not_eq_true, ne_eq, Decidable.not_not] at c8
    refine PW.skip ?_
    refine hK1 _ _ ?_
    refine PW.keep (T' := [(0, _), (1, _)]) ⟨rfl, rfl, trivial⟩ ?_
    refine PW.seq fun K2 hK2 => ?_
    refine PW.quiet2K (base := [(rb, .cells (rdC A l.length cap at_ err) 49 4)] :: S) (K := (fun v' S' => v' = .tuple #[.int .i64 ((lookN most (l.drop at_)).2.1 : Int), .int .i64 (lookN most (l.drop at_)).2.2] ∧ S' = [(ro, .cells [.int .u64 ((if (lookN most (l.drop at_)).2.2 = 0 then (lookN most (l.drop at_)).1 else 0 : Nat) : Int)] 22 1)] :: [(rb, .cells (rdC A l.length cap at_ err) 49 4)] :: S)) Try.mixed rfl rfl rfl (fun _ h => nomatch h) (Over.refl _).cons ?_
    refine QKs.det trivial (fun Sx hSx => Yields.pure rfl) ?_
    refine QKs.det trivial (fun Sx hSx => Yields.pure rfl) ?_
    refine QKs.det trivial (fun Sx hSx => Yields.nilc rfl) ?_
    refine QKs.det trivial (fun Sx hSx => Yields.pure rfl) ?_
    refine QKs.det trivial (fun Sx hSx => Yields.ld rfl (own_at (j := 0) (c := rdC A l.length cap at_ err) (E := 49) (tot := 4) (hSx _ (List.Mem.head _)) rfl)) ?_
    refine QKs.det trivial (fun Sx hSx => Yields.pure rfl) ?_
    refine QKs.det trivial (fun Sx hSx => Yields.nilc rfl) ?_
    refine QKs.det trivial (fun Sx hSx => Yields.pure rfl) ?_
    refine QKs.det trivial (fun Sx hSx => Yields.ld rfl (own_at (j := 1) (c := rdC A l.length cap at_ err) (E := 49) (tot := 4) (hSx _ (List.Mem.head _)) rfl)) ?_
    refine QKs.det trivial (fun Sx hSx => Yields.slS (l := at_) (h := l.length) rfl rfl rfl (.inl rfl) (.inr ⟨rfl, rfl⟩) hat hcap) ?_
    refine QKs.nil ⟨OW.callv (fi := []) (ca := [.pointer (some ⟨rm, 0, none⟩), .pointer (some ⟨ro, 0, none⟩)]) rfl (by kernel_rfl) rfl (by show FC Try.prog w0 32 [.slice (if cap = at_ then A else A.map (·.add (at_ * 1))) (l.length - at_) (cap - at_), .pointer (some ⟨rm, 0, none⟩), .pointer (some ⟨ro, 0, none⟩)] _ _; rw [← List.length_drop]; exact numcl_fc (l := l.drop at_) (Rd.cut hx hat hcap).cons (by simp; omega) (hmo.mono (fun p hp => by simp [hp]))), (by rintro _ _ ⟨rfl, rfl⟩; exact (Over.refl _).cons), ?_⟩
    rintro _ _ ⟨rfl, rfl⟩
    have hsz := numR_size 0 0 (l.drop at_)
    have hsz2 : (lookN most (l.drop at_)).2.1 = (numR 0 0 (l.drop at_)).2.1 := rfl
    rw [List.length_drop] at hsz
    generalize hlk : lookN most (l.drop at_) = t at *
    obtain ⟨x, sz, z⟩ := t
    refine QK.det trivial (Yields.pure rfl) ?_
    refine QK.det trivial (Yields.pure rfl) ?_
    refine QK.det trivial (Yields.pure rfl) ?_
    refine QK.det trivial (Yields.pure rfl) ?_
    refine QK.nil ?_
    change OL _ _ _ [_] _ _ _
    refine OL.det trivial (Yields.pure rfl) ?_
    refine OL.nil ?_
    refine hK2 _ _ ?_
    refine PW.keep (T' := [(0, _), (4, _), (5, _)]) ⟨rfl, rfl, rfl, trivial⟩ ?_
    refine PW.seq fun K3 hK3 => ?_
    refine PW.seqOps ?_
    refine OL.det trivial (Yields.pure rfl) ?_
    refine OL.det trivial (Yields.pure rfl) ?_
    refine OL.nil ?_
    refine PW.keep (T' := [(0, _), (4, _), (5, _), (24, _)]) ⟨rfl, rfl, rfl, rfl, trivial⟩ ?_
    refine PW.cond rfl (fun c24 => ?_) (fun c24 => ?_)
    · try simp only [decide_eq_true_eq, decide_eq_false_iff_not, beq_iff_eq, bne_iff_ne, beq_eq_false_iff_ne, bne_eq_false_iff_eq, Bool.not_eq_true', Bool.not_eq_false', Bool.not_eq_true, ne_eq, Decidable.not_not] at c24
      refine PW.seqOps ?_
      refine OL.det trivial (Yields.pure rfl) ?_
      refine OL.det trivial (Yields.pure rfl) ?_
      refine OL.det trivial (Yields.nilc rfl) ?_
      refine OL.det trivial (Yields.pure rfl) ?_
      refine OL.cons trivial (OW.st (k := 1) rfl rfl rfl rfl (by show 2 + 1 ≤ 4; omega) rfl) ?_
      rintro _ _ rfl
      refine OL.nil ?_
      refine PW.keep (T' := []) trivial ?_
      refine PW.ret ?_
      change (Exit.ret = Exit.normal ∨ Exit.ret = Exit.ret) ∧ ∃ v, resV _ _ = some v ∧ _
      refine ⟨.inr rfl, _, rfl, ?_⟩
      have e : readN most l at_ err = (0, at_, z) := by unfold readN; rw [if_neg (by omega), if_neg (by rw [hlk]; exact c24), hlk]
      rw [e, if_neg c24]
      rfl
    · try simp only [decide_eq_true_eq, decide_eq_false_iff_not, beq_iff_eq, bne_iff_ne, beq_eq_false_iff_ne, bne_eq_false_iff_eq, Bool.not_eq_true', Bool.not_eq_false', Bool.not_eq_true, ne_eq, Decidable.not_not] at c24
      refine PW.skip ?_
      refine hK3 _ _ ?_
      refine PW.keep (T' := [(0, _), (4, _)]) ⟨rfl, rfl, trivial⟩ ?_
      refine PW.ops ?_
      refine OL.det trivial (Yields.pure rfl) ?_
      refine OL.det trivial (Yields.nilc rfl) ?_
      refine OL.det trivial (Yields.pure rfl) ?_
      refine OL.det trivial (Yields.ld rfl (own_at (j := 1) (c := rdC A l.length cap at_ err) (E := 49) (tot := 4) (by simp) rfl)) ?_
      refine OL.det trivial (Yields.pure rfl) ?_
      refine OL.det trivial (Yields.add64 rfl rfl (by omega) (by omega)) ?_
      refine OL.det trivial (Yields.nilc rfl) ?_
      refine OL.det trivial (Yields.pure rfl) ?_
      refine OL.cons trivial (OW.st (k := 1) rfl rfl rfl rfl (by show 1 + 1 ≤ 4; omega) rfl) ?_
      rintro _ _ rfl
      refine OL.nil ?_
      change (Exit.normal = Exit.normal ∨ Exit.normal = Exit.ret) ∧ ∃ v, resV _ _ = some v ∧ _
      refine ⟨.inl rfl, _, rfl, ?_⟩
      have e : readN most l at_ err = (x, at_ + sz, 0) := by unfold readN; rw [if_neg (by omega), if_pos (by rw [hlk]; exact c24), hlk]
      rw [e]
      subst c24
      subst c8
      rfl

end Go.Proofs
