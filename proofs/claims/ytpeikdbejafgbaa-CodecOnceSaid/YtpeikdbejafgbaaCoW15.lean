/- Walks and plain facts for the laws of this seat: what each function answers, for every input. -/
import Derived.Test.YtpeikdbejafgbaaSl16
import Derived.Test.YtpeikdbejafgbaaCoW14
set_option linter.unusedVariables false
set_option linter.unusedSimpArgs false
namespace Go.Proofs
open Go.SL Go.RowKit
set_option maxHeartbeats 1000000

/-- so many bytes taken: they, where the reader stands, the failure -/
def tkR (n : Nat) (l : List UInt8) (at_ : Nat) (err : Int) : List UInt8 × Nat × Int :=
  if err ≠ 0 then ([], at_, err) else if n ≤ (l.drop at_).length then ((l.drop at_).take n, at_ + n, 0) else ([], at_, 4)
def tkV (A : Option Addr) (cap at_ n m : Nat) : Value := if n ≤ m then .slice (if cap = at_ then A else A.map (·.add (at_ * 1))) n (cap - at_) else .slice none 0 0
theorem tkcl_fc {w0 : World} {S : SS} {A : Option Addr} {ca m n ro : Nat} {am : Addr} (hm : m ≤ ca) (hmo : Cell w0 S am (.int .i64 (n : Int))) :
    FC Try.prog w0 37 [.slice A m ca, .pointer (some am), .pointer (some ⟨ro, 0, none⟩)] ([(ro, .cells [.slice none 0 0] 30 1)] :: S) (fun v S' => v = .tuple #[.int .i64 ((if n ≤ m then n else 0 : Nat) : Int), .int .i64 (if n ≤ m then 0 else 4)] ∧ S' = [(ro, .cells [if n ≤ m then .slice A n ca else .slice none 0 0] 30 1)] :: S) := by
  refine FC.of Try.known37 (by simp) ?_
  unfold Try.pc37
  simp only [argT]
  refine PW.seqOps ?_
  refine OL.det trivial (Yields.pure rfl) ?_
  refine OL.det trivial (Yields.pure rfl) ?_
  refine OL.nil ?_
  refine PW.keep (T' := [(0, _), (1, _), (2, _)]) ⟨rfl, rfl, rfl, trivial⟩ ?_
  refine PW.seq fun K1 hK1 => ?_
  refine PW.seqOps ?_
  refine OL.det trivial (Yields.ld rfl (hmo.mono (fun p hp => by simp [hp]))) ?_
  refine OL.det trivial (Yields.pure rfl) ?_
  refine OL.det trivial (Yields.pure rfl) ?_
  refine OL.det trivial (Yields.pure rfl) ?_
  refine OL.nil ?_
  refine PW.keep (T' := [(0, _), (1, _), (2, _), (9, _)]) ⟨rfl, rfl, rfl, rfl, trivial⟩ ?_
  refine PW.cond rfl (fun c9 => ?_) (fun c9 => ?_)
  · try simp only [decide_eq_true_eq, decide_eq_false_iff_not, beq_iff_eq, bne_iff_ne, beq_eq_false_iff_ne, bne_eq_false_iff_eq, Bool.not_eq_true', Bool.not_eq_false', Bool.not_eq_true, ne_eq, Decidable.not_not] at c9
    refine PW.seqOps ?_
    refine OL.det trivial (Yields.pure rfl) ?_
    refine OL.det trivial (Yields.pure rfl) ?_
    refine OL.nil ?_
    refine PW.keep (T' := [(4, _), (5, _)]) ⟨rfl, rfl, trivial⟩ ?_
    refine PW.ret ?_
    change (Exit.ret = Exit.normal ∨ Exit.ret = Exit.ret) ∧ ∃ v, resV _ _ = some v ∧ _
    refine ⟨.inr rfl, _, rfl, ?_, ?_⟩
    · rw [if_neg (by omega), if_neg (by omega)]; rfl
    · rw [if_neg (by omega)]
  · try simp only [decide_eq_true_eq, decide_eq_false_iff_not, beq_iff_eq, bne_iff_ne, beq_eq_false_iff_ne, bne_eq_false_iff_eq, Bool.not_eq_true', Bool.not_eq_false', Bool.not_eq_true, ne_eq, Decidable.not_not] at c9
    refine PW.skip ?_
    refine hK1 _ _ ?_
    refine PW.keep (T' := [(0, _), (1, _), (2, _)]) ⟨rfl, rfl, rfl, trivial⟩ ?_
    refine PW.seqOps ?_
    refine OL.det trivial (Yields.pure rfl) ?_
    refine OL.det trivial (Yields.ld rfl (hmo.mono (fun p hp => by simp [hp]))) ?_
    refine OL.det trivial (Yields.slS (l := 0) (h := n) rfl rfl rfl (.inr ⟨rfl, rfl⟩) (.inl rfl) (by omega) (by omega)) ?_
    rw [cutV0]
    refine OL.cons trivial (OW.st (k := 0) rfl rfl rfl rfl (by first | decide | (simp; done) | (simp; omega)) (by first | rfl | simp)) ?_
    rintro _ _ rfl
    refine OL.nil ?_
    refine PW.keep (T' := [(1, _)]) ⟨rfl, trivial⟩ ?_
    refine PW.seqOps ?_
    refine OL.det trivial (Yields.ld rfl (hmo.mono (fun p hp => by simp [hp]))) ?_
    refine OL.det trivial (Yields.pure rfl) ?_
    refine OL.det trivial (Yields.pure rfl) ?_
    refine OL.nil ?_
    refine PW.keep (T' := [(4, _), (5, _)]) ⟨rfl, rfl, trivial⟩ ?_
    refine PW.ret ?_
    change (Exit.ret = Exit.normal ∨ Exit.ret = Exit.ret) ∧ ∃ v, resV _ _ = some v ∧ _
    refine ⟨.inr rfl, _, rfl, ?_, ?_⟩
    · rw [if_pos (by omega), if_pos (by omega)]
    · rw [if_pos (by omega)]; rfl
theorem one_tk_fc {w0 : World} {S : SS} {A : Option Addr} {cap len at_ n rb ro rm : Nat} {err : Int} (hat : at_ ≤ len) (hcap : len ≤ cap) (hb : len ≤ 1000000000000) (hmo : Cell w0 S ⟨rm, 0, none⟩ (.int .i64 (n : Int))) :
    FC Try.prog w0 31 [.pointer (some ⟨rb, 0, none⟩), .func (.func 37) #[] #[.pointer (some ⟨rm, 0, none⟩), .pointer (some ⟨ro, 0, none⟩)]] ([(ro, .cells [.slice none 0 0] 30 1)] :: [(rb, .cells (rdC A len cap at_ err) 49 4)] :: S)
      (fun v S' => S' = [(ro, .cells [if err ≠ 0 then .slice none 0 0 else tkV A cap at_ n (len - at_)] 30 1)] :: [(rb, .cells (rdC A len cap (if err ≠ 0 then at_ else if n ≤ len - at_ then at_ + n else at_) (if err ≠ 0 then err else if n ≤ len - at_ then 0 else 4)) 49 4)] :: S) := by
  refine FC.of Try.known31 (by simp) ?_
  unfold Try.pc31
  simp only [argT]
  refine PW.seq fun K1 hK1 => ?_
  refine PW.seqOps ?_
  refine OL.det trivial (Yields.pure rfl) ?_
  refine OL.call trivial rfl (is_fc (rb := rb) (A := A) (len := len) (cap := cap) (at_ := at_) (err := err) (by simp)) ?_
  rintro _ _ ⟨rfl, rfl⟩
  refine OL.det trivial (Yields.pure rfl) ?_
  refine OL.nil ?_
  refine PW.keep (T' := [(0, _), (1, _), (8, _)]) ⟨rfl, rfl, rfl, trivial⟩ ?_
  refine PW.cond rfl (fun c8 => ?_) (fun c8 => ?_)
  · try simp only [decide_eq_true_eq, decide_eq_false_iff_not, beq_iff_eq, bne_iff_ne, beq_eq_false_iff_ne, bne_eq_false_iff_eq, Bool.not_eq_true', Bool.not_eq_false', Bool.not_eq_true, ne_eq, Decidable.not_not] at c8
    refine PW.ret ?_
    change (Exit.ret = Exit.normal ∨ Exit.ret = Exit.ret) ∧ ∃ v, resV _ _ = some v ∧ _
    refine ⟨.inr rfl, _, rfl, ?_⟩
    rw [if_pos (by omega), if_pos (by omega), if_pos (by omega)]
  · try simp only [decide_eq_true_eq, decide_eq_false_iff_not, beq_iff_eq, bne_iff_ne, beq_eq_false_iff_ne, bne_eq_false_iff_eq, Bool.not_eq_true', Bool.not_eq_false', Bool.not_eq_true, ne_eq, Decidable.not_not] at c8
    refine PW.skip ?_
    refine hK1 _ _ ?_
    refine PW.keep (T' := [(0, _), (1, _)]) ⟨rfl, rfl, trivial⟩ ?_
    refine PW.seq fun K2 hK2 => ?_
    refine PW.quiet2K (base := [(rb, .cells (rdC A len cap at_ err) 49 4)] :: S) (K := (fun v' S' => v' = .tuple #[.int .i64 ((if n ≤ len - at_ then n else 0 : Nat) : Int), .int .i64 (if n ≤ len - at_ then 0 else 4)] ∧ S' = [(ro, .cells [tkV A cap at_ n (len - at_)] 30 1)] :: [(rb, .cells (rdC A len cap at_ err) 49 4)] :: S)) Try.mixed rfl rfl rfl (fun _ h => nomatch h) (Over.refl _).cons ?_
    refine QKs.det trivial (fun Sx hSx => Yields.pure rfl) ?_
    refine QKs.det trivial (fun Sx hSx => Yields.pure rfl) ?_
    refine QKs.det trivial (fun Sx hSx => Yields.nilc rfl) ?_
    refine QKs.det trivial (fun Sx hSx => Yields.pure rfl) ?_
    refine QKs.det trivial (fun Sx hSx => Yields.ld rfl (own_at (j := 0) (c := rdC A len cap at_ err) (E := 49) (tot := 4) (hSx _ (List.Mem.head _)) rfl)) ?_
    refine QKs.det trivial (fun Sx hSx => Yields.pure rfl) ?_
    refine QKs.det trivial (fun Sx hSx => Yields.nilc rfl) ?_
    refine QKs.det trivial (fun Sx hSx => Yields.pure rfl) ?_
    refine QKs.det trivial (fun Sx hSx => Yields.ld rfl (own_at (j := 1) (c := rdC A len cap at_ err) (E := 49) (tot := 4) (hSx _ (List.Mem.head _)) rfl)) ?_
    refine QKs.det trivial (fun Sx hSx => Yields.slS (l := at_) (h := len) rfl rfl rfl (.inl rfl) (.inr ⟨rfl, rfl⟩) hat hcap) ?_
    refine QKs.nil ⟨OW.callv (fi := []) (ca := [.pointer (some ⟨rm, 0, none⟩), .pointer (some ⟨ro, 0, none⟩)]) rfl (by kernel_rfl) rfl (by show FC Try.prog w0 37 [.slice (if cap = at_ then A else A.map (·.add (at_ * 1))) (len - at_) (cap - at_), .pointer (some ⟨rm, 0, none⟩), .pointer (some ⟨ro, 0, none⟩)] _ _; exact tkcl_fc (by omega) (hmo.mono (fun p hp => by simp [hp]))), (by rintro _ _ ⟨rfl, rfl⟩; exact (Over.refl _).cons), ?_⟩
    rintro _ _ ⟨rfl, rfl⟩
    have hk : (n ≤ len - at_ ∧ (if n ≤ len - at_ then n else 0) = n ∧ (if n ≤ len - at_ then (0 : Int) else 4) = 0) ∨ (¬ n ≤ len - at_ ∧ (if n ≤ len - at_ then n else 0) = 0 ∧ (if n ≤ len - at_ then (0 : Int) else 4) = 4) := by by_cases h : n ≤ len - at_ <;> simp [h]
    revert hk
    generalize (if n ≤ len - at_ then n else 0) = sz
    generalize hee : (if n ≤ len - at_ then (0 : Int) else 4) = e
    intro hk
    refine QK.det trivial (Yields.pure rfl) ?_
    refine QK.det trivial (Yields.pure rfl) ?_
    refine QK.det trivial (Yields.pure rfl) ?_
    refine QK.det trivial (Yields.pure rfl) ?_
    refine QK.nil ?_
    change OL _ _ _ [_] _ _ _
    refine OL.det trivial (Yields.pure rfl) ?_
    refine OL.nil ?_
    refine hK2 _ _ ?_
    refine PW.keep (T' := [(0, _), (4, _), (5, _)]) ⟨rfl, rfl, rfl, trivial⟩ ?_
    refine PW.seq fun K3 hK3 => ?_
    refine PW.seqOps ?_
    refine OL.det trivial (Yields.pure rfl) ?_
    refine OL.det trivial (Yields.pure rfl) ?_
    refine OL.nil ?_
    refine PW.keep (T' := [(0, _), (4, _), (5, _), (24, _)]) ⟨rfl, rfl, rfl, rfl, trivial⟩ ?_
    refine PW.cond rfl (fun c24 => ?_) (fun c24 => ?_)
    · try simp only [decide_eq_true_eq, decide_eq_false_iff_not, beq_iff_eq, bne_iff_ne, beq_eq_false_iff_ne, bne_eq_false_iff_eq, Bool.not_eq_true', Bool.not_eq_false', Bool.not_eq_true, ne_eq, Decidable.not_not] at c24
      refine PW.seqOps ?_
      refine OL.det trivial (Yields.pure rfl) ?_
      refine OL.det trivial (Yields.pure rfl) ?_
      refine OL.det trivial (Yields.nilc rfl) ?_
      refine OL.det trivial (Yields.pure rfl) ?_
      refine OL.cons trivial (OW.st (k := 1) rfl rfl rfl rfl (by show 2 + 1 ≤ 4; omega) rfl) ?_
      rintro _ _ rfl
      refine OL.nil ?_
      refine PW.keep (T' := []) trivial ?_
      refine PW.ret ?_
      change (Exit.ret = Exit.normal ∨ Exit.ret = Exit.ret) ∧ ∃ v, resV _ _ = some v ∧ _
      refine ⟨.inr rfl, _, rfl, ?_⟩
      rcases hk with ⟨_, _, h⟩ | ⟨hn, h1, h2⟩
      · exact absurd h c24
      · have h0 : ¬ err ≠ 0 := by omega
        simp only [if_neg h0, if_neg hn, h2]
        rfl
    · try simp only [decide_eq_true_eq, decide_eq_false_iff_not, beq_iff_eq, bne_iff_ne, beq_eq_false_iff_ne, bne_eq_false_iff_eq, Bool.not_eq_true', Bool.not_eq_false', Bool.not_eq_true, ne_eq, Decidable.not_not] at c24
      refine PW.skip ?_
      refine hK3 _ _ ?_
      refine PW.keep (T' := [(0, _), (4, _)]) ⟨rfl, rfl, trivial⟩ ?_
      refine PW.ops ?_
      refine OL.det trivial (Yields.pure rfl) ?_
      refine OL.det trivial (Yields.nilc rfl) ?_
      refine OL.det trivial (Yields.pure rfl) ?_
      refine OL.det trivial (Yields.ld rfl (own_at (j := 1) (c := rdC A len cap at_ err) (E := 49) (tot := 4) (by simp) rfl)) ?_
      refine OL.det trivial (Yields.pure rfl) ?_
      refine OL.det trivial (Yields.add64 rfl rfl (by omega) (by omega)) ?_
      refine OL.det trivial (Yields.nilc rfl) ?_
      refine OL.det trivial (Yields.pure rfl) ?_
      refine OL.cons trivial (OW.st (k := 1) rfl rfl rfl rfl (by show 1 + 1 ≤ 4; omega) rfl) ?_
      rintro _ _ rfl
      refine OL.nil ?_
      change (Exit.normal = Exit.normal ∨ Exit.normal = Exit.ret) ∧ ∃ v, resV _ _ = some v ∧ _
      refine ⟨.inl rfl, _, rfl, ?_⟩
      rcases hk with ⟨hn, h1, h⟩ | ⟨_, _, h⟩
      · have h0 : ¬ err ≠ 0 := by omega
        simp only [if_neg h0, if_pos hn, h1]
        subst c8
        rfl
      · rw [h] at c24; cases c24

theorem tkR_len (n : Nat) (l : List UInt8) (at_ : Nat) (err : Int) : (tkR n l at_ err).1.length ≤ n := by
  unfold tkR
  split
  · simp
  · split <;> simp <;> omega
theorem tk_one (p : Prop) [Decidable p] (A : Option Addr) (cap at_ n m : Nat) : (if p then Value.slice none 0 0 else tkV A cap at_ n m).cells = #[if p then Value.slice none 0 0 else tkV A cap at_ n m] ∧ (if p then Value.slice none 0 0 else tkV A cap at_ n m).oneCell' = true := by
  unfold tkV
  split
  · exact ⟨rfl, rfl⟩
  · split <;> exact ⟨rfl, rfl⟩
theorem Rd.take {w0 : World} {S : SS} {A : Option Addr} {l : List UInt8} {k : Nat} (h : Rd w0 S A (bytesC l)) : Rd w0 S A (bytesC (l.take k)) := h.pre (by unfold bytesC; rw [List.map_take]; exact List.take_prefix _ _)
theorem take_fc {w0 : World} {S : SS} {A : Option Addr} {cap at_ n rb : Nat} {err : Int} {l : List UInt8} (hx : Rd w0 S A (bytesC l)) (hat : at_ ≤ l.length) (hcap : l.length ≤ cap) (hb : l.length ≤ 1000000000000) :
    FC Try.prog w0 35 [.pointer (some ⟨rb, 0, none⟩), .int .i64 (n : Int)] ([(rb, .cells (rdC A l.length cap at_ err) 49 4)] :: S)
      (fun v S' => ∃ B c, v = .slice B (tkR n l at_ err).1.length c ∧ (∀ S2, Rd w0 S2 A (bytesC l) → Rd w0 S2 B (bytesC (tkR n l at_ err).1)) ∧ S' = [(rb, .cells (rdC A l.length cap (tkR n l at_ err).2.1 (tkR n l at_ err).2.2) 49 4)] :: S) := by
  refine FC.ofC Try.known35 (by simp) ?_
  unfold Try.pc35
  simp only [argT]
  refine PW.seqOps ?_
  refine OL.cons trivial (OW.bx rfl) ?_
  rintro _ _ ⟨r3, rfl, rfl⟩
  refine OL.cons trivial OW.al ?_
  rintro _ _ ⟨r4, rfl, rfl⟩
  refine OL.nil ?_
  refine PW.keep (T' := [(0, _), (3, _), (4, _)]) ⟨rfl, rfl, rfl, trivial⟩ ?_
  refine PW.seqOps ?_
  refine OL.det trivial (Yields.pure rfl) ?_
  refine OL.det trivial (Yields.mkF rfl) ?_
  refine OL.call trivial rfl (FC.sel [0, 2, 1] 3 rfl (one_tk_fc hat hcap hb (own_at (E := 3) (tot := 1) (List.Mem.head _) rfl))) ?_
  rintro v7 _ rfl
  have hu := tk_one (err ≠ 0) A cap at_ n (l.length - at_)
  generalize hue : (if err ≠ 0 then Value.slice none 0 0 else tkV A cap at_ n (l.length - at_)) = u at *
  obtain ⟨hu1, hu2⟩ := hu
  refine OL.nil ?_
  refine PW.keep (T' := [(4, _)]) ⟨rfl, trivial⟩ ?_
  refine PW.seqOps ?_
  refine OL.det trivial (Yields.ld rfl (own_at (E := 30) (tot := 1) (List.Mem.head _) rfl)) ?_
  refine OL.cons trivial (OW.st (k := 0) rfl rfl rfl (by rw [hu1]; rfl) (by show 0 + 1 ≤ 1; omega) (by rw [hu1]; simpa using hu2)) ?_
  rintro _ _ rfl
  refine OL.nil ?_
  refine PW.keep (T' := [(4, _)]) ⟨rfl, trivial⟩ ?_
  refine PW.ret ?_
  change (Exit.ret = Exit.normal ∨ Exit.ret = Exit.ret) ∧ ∃ a v, Go.SL.look _ _ = some (.pointer (some a)) ∧ ReadsAs _ _ _ _ _ ∧ _
  refine ⟨.inr rfl, _, u, rfl, own_at (E := 30) (tot := 1) (List.Mem.head _) (by rw [hu1]; rfl), _, Sub.drop (Sub.cons (Sub.drop (Sub.refl _))), ?_⟩
  rw [← hue]
  unfold tkR tkV
  by_cases he : err ≠ 0
  · simp only [if_pos he]
    exact ⟨none, 0, rfl, fun _ _ => Rd.nil, rfl⟩
  · simp only [if_neg he, List.length_drop]
    by_cases hn : n ≤ l.length - at_
    · simp only [if_pos hn]
      exact ⟨if cap = at_ then A else A.map (·.add (at_ * 1)), cap - at_, by rw [List.length_take, List.length_drop, Nat.min_eq_left hn], fun _ h => Rd.take (Rd.cut h hat hcap), rfl⟩
    · simp only [if_neg hn]
      exact ⟨none, 0, rfl, fun _ _ => Rd.nil, rfl⟩

/-- a number; one above most is no form -/
def formN (most : Nat) (l : List UInt8) (at_ : Nat) (err : Int) : Nat × Nat × Int := ((readN most l at_ err).1, (readN most l at_ err).2.1, if err = 0 ∧ (readN most l at_ err).2.2 = 3 then 4 else (readN most l at_ err).2.2)
theorem rdC_set (A : Option Addr) (len cap at_ : Nat) (err e : Int) : setAt (rdC A len cap at_ err) 2 [.int .i64 e] = rdC A len cap at_ e := rfl
theorem form_fc {w0 : World} {S : SS} {A : Option Addr} {cap at_ rb : Nat} {err : Int} {l : List UInt8} {most : Nat} (hx : Rd w0 S A (bytesC l)) (hat : at_ ≤ l.length) (hcap : l.length ≤ cap) (hb : l.length ≤ 1000000000000) :
    FC Try.prog w0 34 [.pointer (some ⟨rb, 0, none⟩), .int .u64 (most : Int)] ([(rb, .cells (rdC A l.length cap at_ err) 49 4)] :: S)
      (fun v S' => v = .int .u64 ((formN most l at_ err).1 : Int) ∧ S' = [(rb, .cells (rdC A l.length cap (formN most l at_ err).2.1 (formN most l at_ err).2.2) 49 4)] :: S) := by
  refine FC.of Try.known34 (by simp) ?_
  unfold Try.pc34
  simp only [argT]
  refine PW.seqOps ?_
  refine OL.det trivial (Yields.pure rfl) ?_
  refine OL.nil ?_
  refine PW.keep (T' := [(0, _), (1, _)]) ⟨rfl, rfl, trivial⟩ ?_
  refine PW.seqOps ?_
  refine OL.det trivial (Yields.pure rfl) ?_
  refine OL.call trivial rfl (is_fc (rb := rb) (A := A) (len := l.length) (cap := cap) (at_ := at_) (err := err) (by simp)) ?_
  rintro _ _ ⟨rfl, rfl⟩
  refine OL.det trivial (Yields.pure rfl) ?_
  refine OL.nil ?_
  refine PW.keep (T' := [(0, _), (1, _), (5, _)]) ⟨rfl, rfl, rfl, trivial⟩ ?_
  refine PW.seqOps ?_
  refine OL.det trivial (Yields.pure rfl) ?_
  refine OL.det trivial (Yields.pure rfl) ?_
  refine OL.call trivial rfl (rdnum_fc hx hat hcap hb) ?_
  rintro _ _ ⟨rfl, rfl⟩
  refine OL.det trivial (Yields.pure rfl) ?_
  refine OL.nil ?_
  refine PW.keep (T' := [(0, _), (5, _), (6, _)]) ⟨rfl, rfl, rfl, trivial⟩ ?_
  refine PW.seq fun K1 hK1 => ?_
  refine PW.seqOps ?_
  refine OL.det trivial (Yields.pure rfl) ?_
  refine OL.bool trivial (Yields.pure rfl) (fun g13 => ?_) (fun g13 => ?_)
  · try simp only [decide_eq_true_eq, decide_eq_false_iff_not, beq_iff_eq, bne_iff_ne, beq_eq_false_iff_ne, bne_eq_false_iff_eq, Bool.not_eq_true', Bool.not_eq_false', Bool.not_eq_true, ne_eq, Decidable.not_not] at g13
    refine OL.det rfl (Yields.pure rfl) ?_
    refine OL.det rfl (Yields.nilc rfl) ?_
    refine OL.det rfl (Yields.pure rfl) ?_
    refine OL.det rfl (Yields.ld rfl (own_at (j := 2) (List.Mem.head _) rfl)) ?_
    refine OL.det rfl (Yields.pure rfl) ?_
    refine OL.det trivial (Yields.pure rfl) ?_
    refine OL.nil ?_
    refine PW.keep (T' := [(0, _), (6, _), (19, _)]) ⟨rfl, rfl, rfl, trivial⟩ ?_
    refine PW.cond rfl (fun c19 => ?_) (fun c19 => ?_)
    · try simp only [decide_eq_true_eq, decide_eq_false_iff_not, beq_iff_eq, bne_iff_ne, beq_eq_false_iff_ne, bne_eq_false_iff_eq, Bool.not_eq_true', Bool.not_eq_false', Bool.not_eq_true, ne_eq, Decidable.not_not] at c19
      refine PW.ops ?_
      refine OL.det trivial (Yields.pure rfl) ?_
      refine OL.det trivial (Yields.nilc rfl) ?_
      refine OL.det trivial (Yields.pure rfl) ?_
      refine OL.cons trivial (OW.st (k := 0) rfl rfl rfl rfl (by show 2 + 1 ≤ 4; omega) rfl) ?_
      rintro _ _ rfl
      refine OL.nil ?_
      refine hK1 _ _ ?_
      refine PW.keep (T' := [(6, _)]) ⟨rfl, trivial⟩ ?_
      refine PW.seqOps ?_
      refine OL.det trivial (Yields.pure rfl) ?_
      refine OL.det trivial (Yields.pure rfl) ?_
      refine OL.nil ?_
      refine PW.keep (T' := [(4, _)]) ⟨rfl, trivial⟩ ?_
      refine PW.ret ?_
      change (Exit.ret = Exit.normal ∨ Exit.ret = Exit.ret) ∧ ∃ v, resV _ _ = some v ∧ _
      refine ⟨.inr rfl, _, rfl, rfl, ?_⟩
      simp only [formN]
      first
      | rw [if_pos ⟨by omega, by omega⟩]; rfl
      | rw [if_neg (by omega)]
    · try simp only [decide_eq_true_eq, decide_eq_false_iff_not, beq_iff_eq, bne_iff_ne, beq_eq_false_iff_ne, bne_eq_false_iff_eq, Bool.not_eq_true', Bool.not_eq_false', Bool.not_eq_true, ne_eq, Decidable.not_not] at c19
      refine PW.skip ?_
      refine hK1 _ _ ?_
      refine PW.keep (T' := [(6, _)]) ⟨rfl, trivial⟩ ?_
      refine PW.seqOps ?_
      refine OL.det trivial (Yields.pure rfl) ?_
      refine OL.det trivial (Yields.pure rfl) ?_
      refine OL.nil ?_
      refine PW.keep (T' := [(4, _)]) ⟨rfl, trivial⟩ ?_
      refine PW.ret ?_
      change (Exit.ret = Exit.normal ∨ Exit.ret = Exit.ret) ∧ ∃ v, resV _ _ = some v ∧ _
      refine ⟨.inr rfl, _, rfl, rfl, ?_⟩
      simp only [formN]
      first
      | rw [if_pos ⟨by omega, by omega⟩]; rfl
      | rw [if_neg (by omega)]
  · try simp only [decide_eq_true_eq, decide_eq_false_iff_not, beq_iff_eq, bne_iff_ne, beq_eq_false_iff_ne, bne_eq_false_iff_eq, Bool.not_eq_true', Bool.not_eq_false', Bool.not_eq_true, ne_eq, Decidable.not_not] at g13
    refine OL.off rfl rfl ?_
    refine OL.off rfl rfl ?_
    refine OL.off rfl rfl ?_
    refine OL.off rfl rfl ?_
    refine OL.off rfl rfl ?_
    refine OL.det trivial (Yields.pure rfl) ?_
    refine OL.nil ?_
    refine PW.keep (T' := [(0, _), (6, _), (19, _)]) ⟨rfl, rfl, rfl, trivial⟩ ?_
    refine PW.ite (b := false) rfl ?_
    rw [if_neg Bool.false_ne_true]
    refine PW.skip ?_
    refine hK1 _ _ ?_
    refine PW.keep (T' := [(6, _)]) ⟨rfl, trivial⟩ ?_
    refine PW.seqOps ?_
    refine OL.det trivial (Yields.pure rfl) ?_
    refine OL.det trivial (Yields.pure rfl) ?_
    refine OL.nil ?_
    refine PW.keep (T' := [(4, _)]) ⟨rfl, trivial⟩ ?_
    refine PW.ret ?_
    change (Exit.ret = Exit.normal ∨ Exit.ret = Exit.ret) ∧ ∃ v, resV _ _ = some v ∧ _
    refine ⟨.inr rfl, _, rfl, rfl, ?_⟩
    simp only [formN]
    first
    | rw [if_pos ⟨by omega, by omega⟩]; rfl
    | rw [if_neg (by omega)]

end Go.Proofs
