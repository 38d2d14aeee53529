/- Walks and plain facts for the laws of this seat: what each function answers, for every input. -/
import Derived.Test.YtefefmogjmimdaaSl8
import Derived.Test.YtefefmogjmimdaaMyW10
set_option linter.unusedVariables false
set_option linter.unusedSimpArgs false
namespace Go.Proofs
open Go.SL Go.RowKit

open Go.MyPlain
set_option maxHeartbeats 1000000
theorem stsC_take (l : List (Int × Int × Int)) (n : Nat) : stsC (l.take n) <+: stsC l := ⟨stsC (l.drop n), by rw [← stsC_append, List.take_append_drop]⟩
theorem same_rfl {w0 : World} {S : SS} {A B : Option Addr} {ca cb : Nat} {xs : List ByteArray} (hx : Rd w0 S A (xs.map .string)) (hy : Rd w0 S B (xs.map .string)) (hb : xs.length ≤ 1000000000000) :
    FC Try.prog w0 13 [.slice A xs.length ca, .slice B xs.length cb] S (fun v S' => v = .bool true ∧ S' = S) :=
  (same_fc hx hy hb).mono (by rintro _ _ ⟨rfl, rfl⟩; exact ⟨by rw [decide_eq_true rfl], rfl⟩)
theorem cutF_le (xs : List ByteArray) : (cutF xs).length ≤ 60 := by rw [cutF_length]; omega
theorem playF_len {xs ys : List ByteArray} {l : List (Int × Int × Int)} : ((playF xs ys l).getD []).length ≤ l.length := by
  have key : ∀ k, k ≤ l.length → ∀ st, foldP xs ys (l.take k) = some st → st.2.2.length ≤ k := by
    intro k
    induction k with
    | zero => intro _ st h; simp [foldP] at h; cases h; simp
    | succ k ih =>
      intro hk st h
      cases hf : foldP xs ys (l.take k) with
      | none =>
        have : foldP xs ys (l.take (k + 1)) = none := by
          unfold foldP at *
          rw [List.take_add_one, List.getElem?_eq_getElem (by omega : k < l.length), List.foldlM_append, hf]; rfl
        rw [this] at h; cases h
      | some st0 =>
        have h0 := ih (by omega) st0 hf
        rw [foldP_succ (by omega) hf] at h
        unfold stepF at h
        split at h
        · cases h; simp; omega
        · split at h
          · cases h; simp; omega
          · split at h
            · cases h; simp; omega
            · cases h
  unfold playF
  cases hf : foldP xs ys l with
  | none => simp
  | some st =>
    obtain ⟨i, j, o⟩ := st
    have := key l.length (by omega) (i, j, o) (by rw [List.take_length]; exact hf)
    simp only
    split
    · simp
    · simpa using this
theorem plays_fc {w0 : World} {A B L : Option Addr} {ca cb cl : Nat} {xs ys : List ByteArray} {l : List (Int × Int × Int)} (hx : Rd w0 [] A (xs.map .string)) (hy : Rd w0 [] B (ys.map .string)) (hl : Rd w0 [] L (stsC l)) (hX : xs.length ≤ 1000000000000000) (hY : ys.length ≤ 1000000000000000) (hsx : ∀ s ∈ xs, s.size ≤ 9223372036854775807) (hsy : ∀ s ∈ ys, s.size ≤ 9223372036854775807) (hL : l.length ≤ cl) :
    FC Try.prog w0 5 [.slice A xs.length ca, .slice B ys.length cb, .slice L l.length cl] [] (fun v _ => v = .bool true) := by
  have hl' : Rd w0 [] L (stsC (l.take 200)) := hl.pre (stsC_take l 200)
  have hlen : (l.take 200).length = min 200 l.length := by simp
  have hpl := playF_len (xs := cutF xs) (ys := cutF ys) (l := l.take 200)
  have hcx := cutF_le xs
  have hcy := cutF_le ys
  refine FC.ofD Try.known5 (by simp) ?_
  unfold Try.pc5
  simp only [argT]
  refine PW.seqOps ?_
  refine OL.det trivial (Yields.pure rfl) ?_
  refine OL.nil ?_
  refine PW.keep (T' := [(0, _), (1, _), (2, _)]) ⟨rfl, rfl, rfl, trivial⟩ ?_
  refine PW.seqOps ?_
  refine OL.det trivial (Yields.pure rfl) ?_
  refine OL.call trivial rfl (cut_fc hx hX hsx) ?_
  rintro vA _ ⟨segA, rfl, hslA⟩
  refine OL.det trivial (Yields.pure rfl) ?_
  refine OL.call trivial rfl (cut_fc hy.cons hY hsy) ?_
  rintro vB _ ⟨segB, rfl, hslB⟩
  obtain ⟨AX, cX, rfl, hrX, _⟩ := hslA.rd (S := segB :: segA :: []) (k := 1) rfl
  obtain ⟨AY, cY, rfl, hrY, _⟩ := hslB.rd (S := segB :: segA :: []) (k := 0) rfl
  refine OL.det trivial (Yields.pure rfl) ?_
  refine OL.det trivial (Yields.pure rfl) ?_
  refine OL.nil ?_
  refine PW.keep (T' := [(0, _), (1, _), (2, _)]) ⟨rfl, rfl, rfl, trivial⟩ ?_
  refine PW.seqOps ?_
  refine OL.det trivial (Yields.pure rfl) ?_
  refine OL.det trivial (Yields.pure rfl) ?_
  refine OL.det trivial (Yields.pure rfl) ?_
  refine OL.det trivial (Yields.pure rfl) ?_
  refine OL.det trivial (Yields.slS (l := 0) (h := (l.take 200).length) rfl rfl rfl (.inr ⟨rfl, rfl⟩) (.inl (congrArg some (by simp only [Bool.false_eq_true, if_false]; split <;> omega))) (by omega) (by omega)) ?_
  rw [cutV0]
  refine OL.det trivial (Yields.pure rfl) ?_
  refine OL.nil ?_
  refine PW.keep (T' := [(0, _), (1, _), (2, _)]) ⟨rfl, rfl, rfl, trivial⟩ ?_
  refine PW.seqOps ?_
  refine OL.det trivial (Yields.pure rfl) ?_
  refine OL.det trivial (Yields.pure rfl) ?_
  refine OL.det trivial (Yields.pure rfl) ?_
  refine OL.call trivial rfl (play_fc hrX hrY hl'.any (by omega) (by omega) (by omega)) ?_
  rintro _ _ ⟨u1, seg1, rfl, rfl, hsl1⟩
  refine OL.det trivial (Yields.pure rfl) ?_
  refine OL.det trivial (Yields.pure rfl) ?_
  refine OL.det trivial (Yields.pure rfl) ?_
  refine OL.det trivial (Yields.pure rfl) ?_
  refine OL.det trivial (Yields.pure rfl) ?_
  refine OL.nil ?_
  refine PW.keep (T' := [(0, _), (1, _), (2, _), (7, _), (8, _)]) ⟨rfl, rfl, rfl, rfl, rfl, trivial⟩ ?_
  refine PW.seqOps ?_
  refine OL.det trivial (Yields.pure rfl) ?_
  refine OL.det trivial (Yields.pure rfl) ?_
  refine OL.det trivial (Yields.pure rfl) ?_
  refine OL.call trivial rfl (steps_fc hl'.any (by omega)) ?_
  rintro vS _ ⟨segS, rfl, hslS⟩
  obtain ⟨AS, cS, rfl, hrS, _⟩ := hslS.rd (S := segS :: seg1 :: segB :: segA :: []) (k := 0) rfl
  refine OL.call trivial rfl (rplay_fc hrX.cons.cons hrY.cons.cons hrS (by omega) (by omega) (by omega)) ?_
  rintro _ _ ⟨u2, seg2, rfl, rfl, hsl2⟩
  obtain ⟨A1, c1, rfl, hr1, _⟩ := hsl1.rd (S := seg2 :: segS :: seg1 :: segB :: segA :: []) (k := 2) rfl
  obtain ⟨A2, c2, rfl, hr2, _⟩ := hsl2.rd (S := seg2 :: segS :: seg1 :: segB :: segA :: []) (k := 0) rfl
  refine OL.det trivial (Yields.pure rfl) ?_
  refine OL.det trivial (Yields.pure rfl) ?_
  refine OL.det trivial (Yields.pure rfl) ?_
  refine OL.det trivial (Yields.pure rfl) ?_
  refine OL.det trivial (Yields.pure rfl) ?_
  refine OL.nil ?_
  refine PW.keep (T' := [(7, _), (8, _), (9, _), (10, _)]) ⟨rfl, rfl, rfl, rfl, trivial⟩ ?_
  refine PW.seqOps ?_
  refine OL.det trivial (Yields.pure rfl) ?_
  refine OL.det trivial (Yields.pure rfl) ?_
  refine OL.det trivial (Yields.pure rfl) ?_
  refine OL.bool trivial (Yields.pure rfl) (fun g38 => ?_) (fun g38 => ?_)
  · try simp only [decide_eq_true_eq, decide_eq_false_iff_not, beq_iff_eq, bne_iff_ne, beq_eq_false_iff_ne, bne_eq_false_iff_eq, Bool.not_eq_true', Bool.not_eq_false', Bool.not_eq_true, ne_eq, Decidable.not_not] at g38
    refine OL.det rfl (Yields.pure rfl) ?_
    refine OL.det rfl (Yields.pure rfl) ?_
    refine OL.call rfl rfl (same_rfl hr1 hr2 (by omega)) ?_
    rintro _ _ ⟨rfl, rfl⟩
    refine OL.det trivial (Yields.pure rfl) ?_
    refine OL.det trivial (Yields.pure rfl) ?_
    refine OL.call rfl rfl (works_fc) ?_
    rintro _ _ ⟨rfl, rfl⟩
    refine OL.det trivial (Yields.pure rfl) ?_
    refine OL.det trivial (Yields.pure rfl) ?_
    refine OL.nil ?_
    refine PW.keep (T' := [(6, _)]) ⟨rfl, trivial⟩ ?_
    refine PW.ret ?_
    change (Exit.ret = Exit.normal ∨ Exit.ret = Exit.ret) ∧ ∃ v, resV _ _ = some v ∧ _
    exact ⟨.inr rfl, _, rfl, _, Sub.refl _, rfl⟩
  · try simp only [decide_eq_true_eq, decide_eq_false_iff_not, beq_iff_eq, bne_iff_ne, beq_eq_false_iff_ne, bne_eq_false_iff_eq, Bool.not_eq_true', Bool.not_eq_false', Bool.not_eq_true, ne_eq, Decidable.not_not] at g38
    exact absurd trivial g38 -- done

end Go.Proofs
