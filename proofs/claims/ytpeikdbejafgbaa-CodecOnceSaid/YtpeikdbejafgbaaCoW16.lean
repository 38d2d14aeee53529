/- Walks and plain facts for the laws of this seat: what each function answers, for every input. -/
import Derived.Test.YtpeikdbejafgbaaCoW15
set_option linter.unusedVariables false
set_option linter.unusedSimpArgs false
namespace Go.Proofs
open Go.SL Go.RowKit
set_option maxHeartbeats 1000000

theorem readN_le {most : Nat} {l : List UInt8} {at_ : Nat} {err : Int} (hat : at_ ≤ l.length) : (readN most l at_ err).1 ≤ most ∧ (readN most l at_ err).2.1 ≤ l.length := by
  unfold readN
  split
  · exact ⟨Nat.zero_le _, hat⟩
  · have hsz := numR_size 0 0 (l.drop at_)
    rw [List.length_drop] at hsz
    split
    · rename_i h
      unfold lookN at h ⊢
      simp only at h ⊢
      refine ⟨?_, by omega⟩
      split at h
      · cases h
      · rename_i h2
        omega
    · exact ⟨Nat.zero_le _, hat⟩
theorem tkR_le {n : Nat} {l : List UInt8} {at_ : Nat} {err : Int} (hat : at_ ≤ l.length) : (tkR n l at_ err).2.1 ≤ l.length := by
  unfold tkR
  split
  · exact hat
  · split
    · rename_i h; rw [List.length_drop] at h; simp only; omega
    · exact hat
theorem formN_le {most : Nat} {l : List UInt8} {at_ : Nat} {err : Int} (hat : at_ ≤ l.length) : (formN most l at_ err).1 ≤ most ∧ (formN most l at_ err).2.1 ≤ l.length := readN_le hat
def textR (most : Nat) (l : List UInt8) (at_ : Nat) (err : Int) : List UInt8 × Nat × Int := tkR (readN most l at_ err).1 l (readN most l at_ err).2.1 (readN most l at_ err).2.2
def RB (rb : Nat) (A : Option Addr) (len cap at_ : Nat) (err : Int) : Seg := [(rb, .cells (rdC A len cap at_ err) 49 4)]
theorem i64_nat {n : Nat} (h : n ≤ 9223372036854775807) : IntKind.i64.wrap (n : Int) = (n : Int) := wrap_i64 (by omega) (by omega)
theorem rtext_fc' {w0 : World} {S : SS} {A : Option Addr} {cap at_ rb mo : Nat} {err : Int} {l : List UInt8} (hx : Rd w0 S A (bytesC l)) (hat : at_ ≤ l.length) (hcap : l.length ≤ cap) (hb : l.length ≤ 1000000000000) (hmo : mo ≤ 1000000000000) :
    FC Try.prog w0 20 [.pointer (some ⟨rb, 0, none⟩), .int .i64 (mo : Int)] (RB rb A l.length cap at_ err :: S)
      (fun v S' => v = .string ⟨(textR mo l at_ err).1.toArray⟩ ∧ S' = RB rb A l.length cap (textR mo l at_ err).2.1 (textR mo l at_ err).2.2 :: S) := by
  have hr := readN_le (most := mo) (err := err) hat
  refine FC.of Try.known20 (by simp) ?_
  unfold Try.pc20
  simp only [argT]
  refine PW.seqOps ?_
  refine OL.det trivial (Yields.pure rfl) ?_
  refine OL.nil ?_
  refine PW.keep (T' := [(0, _), (1, _)]) ⟨rfl, rfl, trivial⟩ ?_
  refine PW.seqOps ?_
  refine OL.det trivial (Yields.pure rfl) ?_
  refine OL.det trivial (Yields.pure rfl) ?_
  refine OL.det trivial (Yields.to (v' := .int .i64 (mo : Int)) (Yields.pure rfl) (by simp only [if_true]; rw [if_neg (by omega)])) ?_
  refine OL.det trivial (Yields.to (v' := .int .u64 (mo : Int)) (Yields.pure rfl) (by rw [u64_wrap (by omega)])) ?_
  refine OL.call trivial rfl (rdnum_fc hx hat hcap hb) ?_
  rintro _ _ ⟨rfl, rfl⟩
  refine OL.det trivial (Yields.pure rfl) ?_
  refine OL.nil ?_
  refine PW.keep (T' := [(0, _), (5, _)]) ⟨rfl, rfl, trivial⟩ ?_
  refine PW.seqOps ?_
  refine OL.det trivial (Yields.pure rfl) ?_
  refine OL.det trivial (Yields.pure rfl) ?_
  refine OL.det trivial (Yields.to (v' := .int .i64 ((readN mo l at_ err).1 : Int)) (Yields.pure rfl) (by rw [i64_nat (by omega)])) ?_
  refine OL.call trivial rfl (take_fc hx hr.2 hcap hb) ?_
  rintro _ _ ⟨B, c, rfl, hrd, rfl⟩
  refine OL.det trivial (Yields.strOf rfl (l := (textR mo l at_ err).1) rfl (hrd _ hx.cons)) ?_
  refine OL.det trivial (Yields.pure rfl) ?_
  refine OL.nil ?_
  refine PW.keep (T' := [(4, _)]) ⟨rfl, trivial⟩ ?_
  refine PW.ret ?_
  change (Exit.ret = Exit.normal ∨ Exit.ret = Exit.ret) ∧ ∃ v, resV _ _ = some v ∧ _
  exact ⟨.inr rfl, _, rfl, rfl, rfl⟩

def z32 : List Value := List.replicate 32 (.int .u8 0)
def padH (b : List UInt8) : List UInt8 := b ++ List.replicate (32 - b.length) 0
theorem padH_len {b : List UInt8} (h : b.length ≤ 32) : (padH b).length = 32 := by simp [padH]; omega
theorem padH_set {b : List UInt8} (h : b.length ≤ 32) : setAt z32 0 (bytesC b) = bytesC (padH b) := by
  rw [setAt_eq _ _ _ (by rw [bytesC_length]; simp [z32]; omega), bytesC_length]
  simp only [padH, bytesC, List.map_append, List.map_replicate, List.take_zero, List.nil_append, Nat.zero_add, z32, List.drop_replicate]
  rfl
def hashR (l : List UInt8) (at_ : Nat) (err : Int) : List UInt8 × Nat × Int := (padH (tkR 32 l at_ err).1, (tkR 32 l at_ err).2)
theorem rdhash_fc {w0 : World} {S : SS} {A : Option Addr} {cap at_ rb : Nat} {err : Int} {l : List UInt8} (hx : Rd w0 S A (bytesC l)) (hat : at_ ≤ l.length) (hcap : l.length ≤ cap) (hb : l.length ≤ 1000000000000) :
    FC Try.prog w0 21 [.pointer (some ⟨rb, 0, none⟩)] (RB rb A l.length cap at_ err :: S)
      (fun v S' => v = .agg (bytesC (hashR l at_ err).1).toArray ∧ S' = RB rb A l.length cap (hashR l at_ err).2.1 (hashR l at_ err).2.2 :: S) := by
  have htl := tkR_len 32 l at_ err
  have hpl := padH_len htl
  refine FC.ofC Try.known21 (by simp) ?_
  unfold Try.pc21
  simp only [argT]
  refine PW.seqOps ?_
  refine OL.cons trivial OW.al ?_
  rintro _ _ ⟨r2, rfl, rfl⟩
  refine OL.nil ?_
  refine PW.keep (T' := [(0, _), (2, _)]) ⟨rfl, rfl, trivial⟩ ?_
  refine PW.seq fun K1 hK1 => ?_
  refine PW.quiet1K (p := 2) (base := [[(r2, .cells z32 24 32)]]) (K := (fun v' S' => ∃ B c, v' = .slice B (tkR 32 l at_ err).1.length c ∧ (∀ S2, Rd w0 S2 A (bytesC l) → Rd w0 S2 B (bytesC (tkR 32 l at_ err).1)) ∧ S' = RB rb A l.length cap (tkR 32 l at_ err).2.1 (tkR 32 l at_ err).2.2 :: [(r2, .cells z32 24 32)] :: S)) Try.mixed rfl rfl rfl (fun _ h => nomatch h) rfl (Over.hd _ _) ?_
  refine QKs.det trivial (fun Sx hSx => Yields.slA rfl) ?_
  refine QKs.det trivial (fun Sx hSx => Yields.pure rfl) ?_
  refine QKs.nil ⟨OW.call rfl (FC.sel [1, 0] 2 rfl (take_fc (n := 32) hx.cons hat hcap hb)), (by rintro _ _ ⟨B, c, rfl, _, rfl⟩; exact (Over.hd _ _).cons), ?_⟩
  refine QKs.nil ?_
  rintro _ _ ⟨B, c, rfl, hrd, rfl⟩
  change OL _ _ _ [_] _ _ _
  refine OL.cons trivial (OW.cpy (k := 1) (news := bytesC (tkR 32 l at_ err).1) rfl rfl rfl (by rw [bytesC_length]; exact (Nat.min_eq_left htl).symm) (hrd _ hx.cons.cons) (by rw [bytesC_length]; show 0 + _ ≤ 32; omega) (bytesC_all _)) ?_
  rintro _ _ ⟨rfl, rfl⟩
  change OL _ _ _ _ _ (RB rb A l.length cap (tkR 32 l at_ err).2.1 (tkR 32 l at_ err).2.2 :: [(r2, .cells (setAt z32 0 (bytesC (tkR 32 l at_ err).1)) 24 32)] :: S) _
  rw [padH_set htl]
  refine OL.nil ?_
  refine hK1 _ _ ?_
  refine PW.keep (T' := [(2, _)]) ⟨rfl, trivial⟩ ?_
  refine PW.seqOps ?_
  refine OL.det trivial (Yields.ldA rfl (cs := bytesC (hashR l at_ err).1) (by rw [bytesC_length]; exact hpl) (fun j v hj => (Rd.own (r := r2) (E := 24) (tot := 32) (by simp [hashR])).at hj)) ?_
  refine OL.cons trivial (OW.st (k := 1) rfl rfl rfl (by show (bytesC (hashR l at_ err).1).toArray.size = 32; rw [List.size_toArray, bytesC_length]; exact hpl) (by rw [bytesC_length, hpl]; decide) (bytesC_all _)) ?_
  rintro _ _ rfl
  change OL _ _ _ _ _ (RB rb A l.length cap (tkR 32 l at_ err).2.1 (tkR 32 l at_ err).2.2 :: [(r2, .cells (setAt (bytesC (hashR l at_ err).1) 0 (bytesC (hashR l at_ err).1)) 24 32)] :: S) _
  rw [show setAt (bytesC (hashR l at_ err).1) 0 (bytesC (hashR l at_ err).1) = bytesC (hashR l at_ err).1 by rw [setAt_eq _ _ _ (by omega)]; simp]
  refine OL.nil ?_
  refine PW.keep (T' := [(2, _)]) ⟨rfl, trivial⟩ ?_
  refine PW.ret ?_
  change (Exit.ret = Exit.normal ∨ Exit.ret = Exit.ret) ∧ ∃ a v, Go.SL.look _ _ = some (.pointer (some a)) ∧ ReadsAs _ _ _ _ _ ∧ _
  exact ⟨.inr rfl, _, _, rfl, ⟨bytesC (hashR l at_ err).1, rfl, (by rw [bytesC_length]; exact hpl), fun j u hj => (Rd.own (r := r2) (E := 24) (tot := 32) (by simp [hashR])).at hj⟩, _, Sub.cons (Sub.drop (Sub.refl _)), rfl, rfl⟩

end Go.Proofs
