/- Walks and plain facts for the laws of this seat: what each function answers, for every input. -/
import Derived.Test.YtefefmogjmimdaaSl8
import Derived.Test.YtefefmogjmimdaaMyW7
set_option linter.unusedVariables false
set_option linter.unusedSimpArgs false
namespace Go.Proofs
open Go.SL Go.RowKit

open Go.MyPlain
set_option maxHeartbeats 1000000
theorem st_all {w0 : World} {S : SS} {a : Addr} {l : List (Int × Int × Int)} (h : Rd w0 S (some a) (stsC l)) {k : Nat} (hk : k < l.length) : ∀ j v, (stC l[k])[j]? = some v → Cell w0 S ((a.add (k * 3)).add j) v := by
  intro j v hv
  refine st_at h hk j ?_ hv
  have := (List.getElem?_eq_some_iff.1 hv).1
  simpa [stC] using this
/-- one step of a script, played -/
def stepF (a b : List ByteArray) (st : Nat × Nat × List ByteArray) (s : Int × Int × Int) : Option (Nat × Nat × List ByteArray) :=
  if s.1 = 0 ∧ st.1 < a.length ∧ st.2.1 < b.length ∧ s.2.1 = st.1 ∧ s.2.2 = st.2.1 ∧ a[st.1]? = b[st.2.1]? then some (st.1 + 1, st.2.1 + 1, st.2.2 ++ [b.getD st.2.1 ByteArray.empty])
  else if s.1 = 1 ∧ st.1 < a.length ∧ s.2.1 = st.1 ∧ s.2.2 = 0 then some (st.1 + 1, st.2.1, st.2.2)
  else if s.1 = 2 ∧ st.2.1 < b.length ∧ s.2.2 = st.2.1 ∧ s.2.1 = 0 then some (st.1, st.2.1 + 1, st.2.2 ++ [b.getD st.2.1 ByteArray.empty])
  else none
def foldP (a b : List ByteArray) (l : List (Int × Int × Int)) : Option (Nat × Nat × List ByteArray) := l.foldlM (stepF a b) (0, 0, [])
def playF (a b : List ByteArray) (l : List (Int × Int × Int)) : Option (List ByteArray) := match foldP a b l with
  | some (i, j, o) => if i < a.length ∨ j < b.length then none else some o
  | none => none
theorem stepF_keep {a b : List ByteArray} {i j : Nat} {o : List ByteArray} {s : Int × Int × Int} (h : s.1 = 0) (hi : i < a.length) (hj : j < b.length) (hA : s.2.1 = i) (hB : s.2.2 = j) (he : a[i] = b[j]) : stepF a b (i, j, o) s = some (i + 1, j + 1, o ++ [b[j]]) := by
  unfold stepF
  rw [if_pos ⟨h, hi, hj, hA, hB, by simp [hi, hj, he]⟩]
  simp [hj]
theorem stepF_gone {a b : List ByteArray} {i j : Nat} {o : List ByteArray} {s : Int × Int × Int} (h : s.1 = 1) (hi : i < a.length) (hA : s.2.1 = i) (hB : s.2.2 = 0) : stepF a b (i, j, o) s = some (i + 1, j, o) := by
  unfold stepF
  rw [if_neg (by rintro ⟨h, _⟩; omega), if_pos ⟨h, hi, hA, hB⟩]
theorem stepF_new {a b : List ByteArray} {i j : Nat} {o : List ByteArray} {s : Int × Int × Int} (h : s.1 = 2) (hj : j < b.length) (hA : s.2.1 = 0) (hB : s.2.2 = j) : stepF a b (i, j, o) s = some (i, j + 1, o ++ [b[j]]) := by
  unfold stepF
  rw [if_neg (by rintro ⟨h, _⟩; omega), if_neg (by rintro ⟨h, _⟩; omega), if_pos ⟨h, hj, hB, hA⟩]
  simp [hj]
theorem stepF_none {a b : List ByteArray} {i j : Nat} {o : List ByteArray} {s : Int × Int × Int} (h0 : s.1 = 0 → i < a.length → j < b.length → s.2.1 = i → s.2.2 = j → a[i]? = b[j]? → False) (h1 : s.1 = 1 → i < a.length → s.2.1 = i → s.2.2 = 0 → False)
    (h2 : s.1 = 2 → j < b.length → s.2.2 = j → s.2.1 = 0 → False) : stepF a b (i, j, o) s = none := by
  unfold stepF
  rw [if_neg (by rintro ⟨a1, a2, a3, a4, a5, a6⟩; exact h0 a1 a2 a3 a4 a5 a6), if_neg (by rintro ⟨a1, a2, a3, a4⟩; exact h1 a1 a2 a3 a4), if_neg (by rintro ⟨a1, a2, a3, a4⟩; exact h2 a1 a2 a3 a4)]
theorem foldP_succ {a b : List ByteArray} {l : List (Int × Int × Int)} {k : Nat} {st : Nat × Nat × List ByteArray} (hk : k < l.length) (h : foldP a b (l.take k) = some st) : foldP a b (l.take (k + 1)) = stepF a b st l[k] := by
  unfold foldP at *
  rw [List.take_add_one, List.getElem?_eq_getElem hk, List.foldlM_append, h]
  simp [Option.bind, bind, List.foldlM, pure]
  cases stepF a b st l[k] <;> rfl
theorem foldP_none {a b : List ByteArray} {l : List (Int × Int × Int)} {k : Nat} {st : Nat × Nat × List ByteArray} (hk : k < l.length) (h : foldP a b (l.take k) = some st) (hn : stepF a b st l[k] = none) : playF a b l = none := by
  have h1 := foldP_succ hk h
  rw [hn] at h1
  have : foldP a b l = none := by
    conv => lhs; rw [← List.take_append_drop (k + 1) l]
    unfold foldP at *
    rw [List.foldlM_append, h1]
    rfl
  unfold playF
  rw [this]
theorem playF_end {a b : List ByteArray} {l : List (Int × Int × Int)} {i j : Nat} {o : List ByteArray} (h : foldP a b l = some (i, j, o)) : playF a b l = if i < a.length ∨ j < b.length then none else some o := by
  unfold playF; rw [h]
/-- what a Play answers -/
def PlayOK (S : SS) (r : Option (List ByteArray)) (v : Value) (S' : SS) : Prop := ∃ u seg, v = .tuple #[u, .int .i64 (if r.isSome then 0 else 4)] ∧ S' = seg :: S ∧ SlV 9 1 u (r.getD []).length ((r.getD []).map .string) seg
theorem PlayOK.none {S : SS} {r : Option (List ByteArray)} (h : r = Option.none) : PlayOK S r (.tuple #[.slice Option.none 0 0, .int .i64 4]) ([] :: S) := by
  subst h
  exact ⟨_, [], rfl, rfl, SlV.nil 9 1⟩
theorem play_fc {w0 : World} {S : SS} {A B L : Option Addr} {ca cb cl : Nat} {xs ys : List ByteArray} {l : List (Int × Int × Int)} (hx : Rd w0 S A (xs.map .string)) (hy : Rd w0 S B (ys.map .string)) (hl : Rd w0 S L (stsC l)) (hX : xs.length ≤ 100000) (hY : ys.length ≤ 100000) (hL : l.length ≤ 100000) :
    FC Try.prog w0 14 [.slice A xs.length ca, .slice B ys.length cb, .slice L l.length cl] S (fun v S' => PlayOK S (playF xs ys l) v S') := by
  refine FC.ofD Try.known14 (by simp) ?_
  unfold Try.pc14
  simp only [argT]
  refine PW.seqOps ?_
  refine OL.det trivial (Yields.pure rfl) ?_
  refine OL.det trivial (Yields.pure rfl) ?_
  refine OL.nil ?_
  refine PW.keep (T' := [(0, _), (1, _), (2, _)]) ⟨rfl, rfl, rfl, trivial⟩ ?_
  refine PW.seqOps ?_
  refine OL.det trivial (Yields.pure rfl) ?_
  refine OL.nil ?_
  refine PW.keep (T' := [(0, _), (1, _), (2, _), (8, _)]) ⟨rfl, rfl, rfl, rfl, trivial⟩ ?_
  refine PW.seqOps ?_
  refine OL.det trivial (Yields.pure rfl) ?_
  refine OL.det trivial (Yields.pure rfl) ?_
  refine OL.nil ?_
  refine PW.keep (T' := [(0, _), (1, _), (2, _), (8, _), (9, _), (10, _)]) ⟨rfl, rfl, rfl, rfl, rfl, rfl, trivial⟩ ?_
  refine PW.seq fun K1 hK1 => ?_
  refine PW.seqOps ?_
  refine OL.nilseg ?_
  refine OL.det trivial (Yields.pure rfl) ?_
  refine OL.det trivial (Yields.pure rfl) ?_
  refine OL.det trivial (Yields.pure rfl) ?_
  refine OL.nil ?_
  refine PW.keep (T' := [(0, _), (1, _), (8, _), (9, _), (10, _), (15, _), (16, _), (17, _)]) ⟨rfl, rfl, rfl, rfl, rfl, rfl, rfl, rfl, trivial⟩ ?_
  refine PW.block ?_
  refine PW.keep (T' := [(0, _), (1, _), (8, _), (9, _), (10, _), (15, _), (16, _), (17, _)]) ⟨rfl, rfl, rfl, rfl, rfl, rfl, rfl, rfl, trivial⟩ ?_
  refine PW.loopK (I := fun m T S' => ∃ (k i j : Nat) (o : List ByteArray) (v : Value) (seg : Seg), (k ≤ l.length ∧ i ≤ xs.length ∧ j ≤ ys.length ∧ m = l.length - k ∧ foldP xs ys (l.take k) = some (i, j, o) ∧ o.length ≤ j ∧ SlV 9 1 v o.length (o.map .string) seg) ∧ T = ([(0, .slice A xs.length ca), (1, .slice B ys.length cb), (8, v), (9, .int .i64 i), (10, .int .i64 j), (15, .slice L l.length cl), (16, .int .i64 l.length), (17, .int .i64 k)] : TT) ∧ S' = seg :: S) (m := l.length) ⟨0, 0, 0, [], _, [], ⟨by omega, by omega, by omega, by omega, rfl, by simp, SlV.nil 9 1⟩, rfl, rfl⟩ ?_
  rintro m _ _ ⟨k, i, j, o, v, seg, ⟨hk, hi, hj, hm, hfold, holen, hsl⟩, rfl, rfl⟩
  refine PW.seqOps ?_
  refine OL.det trivial (Yields.pure rfl) ?_
  refine OL.nil ?_
  refine PW.keep (T' := [(0, _), (1, _), (8, _), (9, _), (10, _), (15, _), (16, _), (17, _), (18, _)]) ⟨rfl, rfl, rfl, rfl, rfl, rfl, rfl, rfl, rfl, trivial⟩ ?_
  refine PW.seq fun K2 hK2 => ?_
  refine PW.cond rfl (fun c18 => ?_) (fun c18 => ?_)
  · try simp only [decide_eq_true_eq, decide_eq_false_iff_not, beq_iff_eq, bne_iff_ne, beq_eq_false_iff_ne, bne_eq_false_iff_eq, Bool.not_eq_true', Bool.not_eq_false', Bool.not_eq_true, ne_eq, Decidable.not_not] at c18
    have hlt : k < l.length := by omega
    obtain ⟨aL, rfl⟩ := hl.some (stsC_ne (by omega))
    have hl2 : Rd w0 (seg :: S) (some aL) (stsC l) := hl.cons
    refine PW.skip ?_
    refine hK2 _ _ ?_
    refine PW.keep (T' := [(0, _), (1, _), (8, _), (9, _), (10, _), (15, _), (16, _), (17, _)]) ⟨rfl, rfl, rfl, rfl, rfl, rfl, rfl, rfl, trivial⟩ ?_
    refine PW.seq fun K3 hK3 => ?_
    refine PW.block ?_
    refine PW.seqOps ?_
    refine OL.det trivial (Yields.ixN rfl rfl rfl (by omega)) ?_
    refine OL.det trivial (Yields.ldA rfl (by first | rfl | simp) (st_all hl2 hlt)) ?_
    refine OL.cons trivial OW.al ?_
    rintro _ _ ⟨r12, rfl, rfl⟩
    refine OL.cons trivial (OW.st (k := 0) rfl rfl rfl rfl (by first | decide | (simp; done) | (simp; omega)) (by first | rfl | simp)) ?_
    rintro _ _ rfl
    refine OL.nil ?_
    refine PW.keep (T' := [(0, _), (1, _), (8, _), (9, _), (10, _), (12, _), (15, _), (16, _), (17, _)]) ⟨rfl, rfl, rfl, rfl, rfl, rfl, rfl, rfl, rfl, trivial⟩ ?_
    refine PW.seq fun K4 hK4 => ?_
    refine PW.quietK Try.mixed ?_
    refine QK.det trivial (Yields.pure rfl) ?_
    refine QK.det trivial (Yields.ld rfl (own_at (c := stC l[k]) (E := 36) (tot := 3) (List.Mem.head _) rfl)) ?_
    refine QK.det trivial (Yields.pure rfl) ?_
    refine QK.bool trivial (Yields.pure rfl) (fun g24 => ?_) (fun g24 => ?_)
    · try simp only [decide_eq_true_eq, decide_eq_false_iff_not, beq_iff_eq, bne_iff_ne, beq_eq_false_iff_ne, bne_eq_false_iff_eq, Bool.not_eq_true', Bool.not_eq_false', Bool.not_eq_true, ne_eq, Decidable.not_not] at g24
      refine QK.off rfl rfl ?_
      refine QK.off rfl rfl ?_
      refine QK.off rfl rfl ?_
      refine QK.det trivial (Yields.pure rfl) ?_
      refine QK.det trivial (Yields.pure rfl) ?_
      refine QK.det trivial (Yields.ld rfl (own_at (c := stC l[k]) (E := 36) (tot := 3) (List.Mem.head _) rfl)) ?_
      refine QK.det trivial (Yields.pure rfl) ?_
      refine QK.bool trivial (Yields.pure rfl) (fun g32 => ?_) (fun g32 => ?_)
      · try simp only [decide_eq_true_eq, decide_eq_false_iff_not, beq_iff_eq, bne_iff_ne, beq_eq_false_iff_ne, bne_eq_false_iff_eq, Bool.not_eq_true', Bool.not_eq_false', Bool.not_eq_true, ne_eq, Decidable.not_not] at g32
        refine QK.off rfl rfl ?_
        refine QK.off rfl rfl ?_
        refine QK.off rfl rfl ?_
        refine QK.det trivial (Yields.pure rfl) ?_
        refine QK.det trivial (Yields.pure rfl) ?_
        refine QK.nil ?_
        change OL _ _ _ [_] _ _ _
        refine OL.det trivial (Yields.pure rfl) ?_
        refine OL.nil ?_
        refine hK4 _ _ ?_
        refine PW.keep (T' := [(0, _), (1, _), (8, _), (9, _), (10, _), (12, _), (13, _), (14, _), (15, _), (16, _), (17, _)]) ⟨rfl, rfl, rfl, rfl, rfl, rfl, rfl, rfl, rfl, rfl, rfl, trivial⟩ ?_
        refine PW.seq fun K5 hK5 => ?_
        refine PW.block ?_
        refine PW.seq fun K6 hK6 => ?_
        refine PW.seqOps ?_
        refine OL.det trivial (Yields.pure rfl) ?_
        refine OL.det trivial (Yields.pure rfl) ?_
        refine OL.det trivial (Yields.pure rfl) ?_
        refine OL.off rfl rfl ?_
        refine OL.off rfl rfl ?_
        refine OL.det trivial (Yields.pure rfl) ?_
        refine OL.det trivial (Yields.pure rfl) ?_
        refine OL.nil ?_
        refine PW.keep (T' := [(0, _), (1, _), (8, _), (9, _), (10, _), (12, _), (13, _), (14, _), (15, _), (16, _), (17, _), (37, _)]) ⟨rfl, rfl, rfl, rfl, rfl, rfl, rfl, rfl, rfl, rfl, rfl, rfl, trivial⟩ ?_
        refine PW.ite (b := false) rfl ?_
        rw [if_neg Bool.false_ne_true]
        refine PW.seqOps ?_
        refine OL.det trivial (Yields.pure rfl) ?_
        refine OL.det trivial (Yields.pure rfl) ?_
        refine OL.det rfl (Yields.pure rfl) ?_
        refine OL.det rfl (Yields.ld rfl (own_at (c := stC l[k]) (E := 36) (tot := 3) (List.Mem.head _) rfl)) ?_
        refine OL.det rfl (Yields.pure rfl) ?_
        refine OL.det rfl (Yields.pure rfl) ?_
        refine OL.bool rfl (Yields.pure rfl) (fun g50 => ?_) (fun g50 => ?_)
        · try simp only [decide_eq_true_eq, decide_eq_false_iff_not, beq_iff_eq, bne_iff_ne, beq_eq_false_iff_ne, bne_eq_false_iff_eq, Bool.not_eq_true', Bool.not_eq_false', Bool.not_eq_true, ne_eq, Decidable.not_not] at g50
          refine OL.off rfl rfl ?_
          refine OL.off rfl rfl ?_
          refine OL.off rfl rfl ?_
          refine OL.off rfl rfl ?_
          refine OL.det rfl (Yields.pure rfl) ?_
          refine OL.det trivial (Yields.pure rfl) ?_
          refine OL.det trivial (Yields.pure rfl) ?_
          refine OL.nil ?_
          refine PW.keep (T' := [(0, _), (1, _), (8, _), (9, _), (10, _), (12, _), (13, _), (14, _), (15, _), (16, _), (17, _), (37, _)]) ⟨rfl, rfl, rfl, rfl, rfl, rfl, rfl, rfl, rfl, rfl, rfl, rfl, trivial⟩ ?_
          refine PW.ite (b := true) rfl ?_
          rw [if_pos rfl]
          refine PW.skip ?_
          refine hK6 _ _ ?_
          refine PW.keep (T' := [(0, _), (1, _), (8, _), (9, _), (10, _), (12, _), (13, _), (14, _), (15, _), (16, _), (17, _), (37, _)]) ⟨rfl, rfl, rfl, rfl, rfl, rfl, rfl, rfl, rfl, rfl, rfl, rfl, trivial⟩ ?_
          refine PW.ite (b := true) rfl ?_
          rw [if_pos rfl]
          refine PW.seqOps ?_
          refine OL.det trivial (Yields.pure rfl) ?_
          refine OL.det trivial (Yields.pure rfl) ?_
          refine OL.nil ?_
          refine PW.keep (T' := [(6, _), (7, _)]) ⟨rfl, rfl, trivial⟩ ?_
          refine PW.ret ?_
          change (Exit.ret = Exit.normal ∨ Exit.ret = Exit.ret) ∧ ∃ v, resV _ _ = some v ∧ _
          refine ⟨.inr rfl, _, rfl, [] :: S, ?_, PlayOK.none (foldP_none hlt hfold (stepF_none ?_ ?_ ?_))⟩
          · exact Sub.nilL (Sub.drop (Sub.drop (Sub.refl S)))
          · intro a1 a2 a3 a4 a5 a6
            first | omega | (rw [List.getElem?_eq_getElem a2, List.getElem?_eq_getElem a3] at a6; exact c70 (by rw [Option.some.inj a6]))
          · intro a1 a2 a3 a4; omega
          · intro a1 a2 a3 a4; omega
        · try simp only [decide_eq_true_eq, decide_eq_false_iff_not, beq_iff_eq, bne_iff_ne, beq_eq_false_iff_ne, bne_eq_false_iff_eq, Bool.not_eq_true', Bool.not_eq_false', Bool.not_eq_true, ne_eq, Decidable.not_not] at g50
          refine OL.det rfl (Yields.pure rfl) ?_
          refine OL.det rfl (Yields.pure rfl) ?_
          refine OL.det rfl (Yields.pure rfl) ?_
          refine OL.det rfl (Yields.pure rfl) ?_
          refine OL.det rfl (Yields.pure rfl) ?_
          refine OL.det trivial (Yields.pure rfl) ?_
          refine OL.det trivial (Yields.pure rfl) ?_
          refine OL.nil ?_
          refine PW.keep (T' := [(0, _), (1, _), (8, _), (9, _), (10, _), (12, _), (13, _), (14, _), (15, _), (16, _), (17, _), (37, _)]) ⟨rfl, rfl, rfl, rfl, rfl, rfl, rfl, rfl, rfl, rfl, rfl, rfl, trivial⟩ ?_
          refine PW.boolAt 37 rfl (fun c37 => ?_) (fun c37 => ?_)
          · try simp only [decide_eq_true_eq, decide_eq_false_iff_not, beq_iff_eq, bne_iff_ne, beq_eq_false_iff_ne, bne_eq_false_iff_eq, Bool.not_eq_true', Bool.not_eq_false', Bool.not_eq_true, ne_eq, Decidable.not_not] at c37
            refine PW.ite (b := true) rfl ?_
            rw [if_pos rfl]
            refine PW.skip ?_
            refine hK6 _ _ ?_
            refine PW.keep (T' := [(0, _), (1, _), (8, _), (9, _), (10, _), (12, _), (13, _), (14, _), (15, _), (16, _), (17, _), (37, _)]) ⟨rfl, rfl, rfl, rfl, rfl, rfl, rfl, rfl, rfl, rfl, rfl, rfl, trivial⟩ ?_
            refine PW.ite (b := true) rfl ?_
            rw [if_pos rfl]
            refine PW.seqOps ?_
            refine OL.det trivial (Yields.pure rfl) ?_
            refine OL.det trivial (Yields.pure rfl) ?_
            refine OL.nil ?_
            refine PW.keep (T' := [(6, _), (7, _)]) ⟨rfl, rfl, trivial⟩ ?_
            refine PW.ret ?_
            change (Exit.ret = Exit.normal ∨ Exit.ret = Exit.ret) ∧ ∃ v, resV _ _ = some v ∧ _
            refine ⟨.inr rfl, _, rfl, [] :: S, ?_, PlayOK.none (foldP_none hlt hfold (stepF_none ?_ ?_ ?_))⟩
            · exact Sub.nilL (Sub.drop (Sub.drop (Sub.refl S)))
            · intro a1 a2 a3 a4 a5 a6
              first | omega | (rw [List.getElem?_eq_getElem a2, List.getElem?_eq_getElem a3] at a6; exact c70 (by rw [Option.some.inj a6]))
            · intro a1 a2 a3 a4; omega
            · intro a1 a2 a3 a4; omega
          · try simp only [decide_eq_true_eq, decide_eq_false_iff_not, beq_iff_eq, bne_iff_ne, beq_eq_false_iff_ne, bne_eq_false_iff_eq, Bool.not_eq_true', Bool.not_eq_false', Bool.not_eq_true, ne_eq, Decidable.not_not] at c37
            refine PW.ite (b := false) rfl ?_
            rw [if_neg Bool.false_ne_true]
            refine PW.ops ?_
            refine OL.det trivial (Yields.pure rfl) ?_
            refine OL.det trivial (Yields.pure rfl) ?_
            refine OL.det rfl (Yields.pure rfl) ?_
            refine OL.det rfl (Yields.ld rfl (own_at (c := stC l[k]) (E := 36) (tot := 3) (List.Mem.head _) rfl)) ?_
            refine OL.det rfl (Yields.pure rfl) ?_
            refine OL.det rfl (Yields.pure rfl) ?_
            refine OL.bool rfl (Yields.pure rfl) (fun g63 => ?_) (fun g63 => ?_)
            · try simp only [decide_eq_true_eq, decide_eq_false_iff_not, beq_iff_eq, bne_iff_ne, beq_eq_false_iff_ne, bne_eq_false_iff_eq, Bool.not_eq_true', Bool.not_eq_false', Bool.not_eq_true, ne_eq, Decidable.not_not] at g63
              refine OL.off rfl rfl ?_
              refine OL.off rfl rfl ?_
              refine OL.off rfl rfl ?_
              refine OL.off rfl rfl ?_
              refine OL.det rfl (Yields.pure rfl) ?_
              refine OL.det trivial (Yields.pure rfl) ?_
              refine OL.det trivial (Yields.pure rfl) ?_
              refine OL.nil ?_
              refine hK6 _ _ ?_
              refine PW.keep (T' := [(0, _), (1, _), (8, _), (9, _), (10, _), (12, _), (13, _), (14, _), (15, _), (16, _), (17, _), (37, _)]) ⟨rfl, rfl, rfl, rfl, rfl, rfl, rfl, rfl, rfl, rfl, rfl, rfl, trivial⟩ ?_
              refine PW.ite (b := true) rfl ?_
              rw [if_pos rfl]
              refine PW.seqOps ?_
              refine OL.det trivial (Yields.pure rfl) ?_
              refine OL.det trivial (Yields.pure rfl) ?_
              refine OL.nil ?_
              refine PW.keep (T' := [(6, _), (7, _)]) ⟨rfl, rfl, trivial⟩ ?_
              refine PW.ret ?_
              change (Exit.ret = Exit.normal ∨ Exit.ret = Exit.ret) ∧ ∃ v, resV _ _ = some v ∧ _
              refine ⟨.inr rfl, _, rfl, [] :: S, ?_, PlayOK.none (foldP_none hlt hfold (stepF_none ?_ ?_ ?_))⟩
              · exact Sub.nilL (Sub.drop (Sub.drop (Sub.refl S)))
              · intro a1 a2 a3 a4 a5 a6
                first | omega | (rw [List.getElem?_eq_getElem a2, List.getElem?_eq_getElem a3] at a6; exact c70 (by rw [Option.some.inj a6]))
              · intro a1 a2 a3 a4; omega
              · intro a1 a2 a3 a4; omega
            · try simp only [decide_eq_true_eq, decide_eq_false_iff_not, beq_iff_eq, bne_iff_ne, beq_eq_false_iff_ne, bne_eq_false_iff_eq, Bool.not_eq_true', Bool.not_eq_false', Bool.not_eq_true, ne_eq, Decidable.not_not] at g63
              refine OL.det rfl (Yields.pure rfl) ?_
              refine OL.det rfl (Yields.pure rfl) ?_
              refine OL.det rfl (Yields.pure rfl) ?_
              refine OL.det rfl (Yields.pure rfl) ?_
              refine OL.det rfl (Yields.pure rfl) ?_
              refine OL.det trivial (Yields.pure rfl) ?_
              refine OL.det trivial (Yields.pure rfl) ?_
              refine OL.nil ?_
              refine hK6 _ _ ?_
              refine PW.keep (T' := [(0, _), (1, _), (8, _), (9, _), (10, _), (12, _), (13, _), (14, _), (15, _), (16, _), (17, _), (37, _)]) ⟨rfl, rfl, rfl, rfl, rfl, rfl, rfl, rfl, rfl, rfl, rfl, rfl, trivial⟩ ?_
              refine PW.cond rfl (fun c37 => ?_) (fun c37 => ?_)
              · try simp only [decide_eq_true_eq, decide_eq_false_iff_not, beq_iff_eq, bne_iff_ne, beq_eq_false_iff_ne, bne_eq_false_iff_eq, Bool.not_eq_true', Bool.not_eq_false', Bool.not_eq_true, ne_eq, Decidable.not_not] at c37
                refine PW.seqOps ?_
                refine OL.det trivial (Yields.pure rfl) ?_
                refine OL.det trivial (Yields.pure rfl) ?_
                refine OL.nil ?_
                refine PW.keep (T' := [(6, _), (7, _)]) ⟨rfl, rfl, trivial⟩ ?_
                refine PW.ret ?_
                change (Exit.ret = Exit.normal ∨ Exit.ret = Exit.ret) ∧ ∃ v, resV _ _ = some v ∧ _
                refine ⟨.inr rfl, _, rfl, [] :: S, ?_, PlayOK.none (foldP_none hlt hfold (stepF_none ?_ ?_ ?_))⟩
                · exact Sub.nilL (Sub.drop (Sub.drop (Sub.refl S)))
                · intro a1 a2 a3 a4 a5 a6
                  first | omega | (rw [List.getElem?_eq_getElem a2, List.getElem?_eq_getElem a3] at a6; exact c70 (by rw [Option.some.inj a6]))
                · intro a1 a2 a3 a4; omega
                · intro a1 a2 a3 a4; omega
              · try simp only [decide_eq_true_eq, decide_eq_false_iff_not, beq_iff_eq, bne_iff_ne, beq_eq_false_iff_ne, bne_eq_false_iff_eq, Bool.not_eq_true', Bool.not_eq_false', Bool.not_eq_true, ne_eq, Decidable.not_not] at c37
                refine PW.seq fun K7 hK7 => ?_
                refine PW.seq fun K8 hK8 => ?_
                refine PW.quietK Try.mixed ?_
                refine QK.det trivial (Yields.pure rfl) ?_
                refine QK.det trivial (Yields.pure rfl) ?_
                refine QK.det rfl (Yields.pure rfl) ?_
                refine QK.det trivial (Yields.pure rfl) ?_
                refine QK.det trivial (Yields.pure rfl) ?_
                obtain ⟨aX, rfl⟩ := hx.some (strs_ne (by omega))
                obtain ⟨aY, rfl⟩ := hy.some (strs_ne (by omega))
                refine QK.det rfl (Yields.pure rfl) ?_
                refine QK.det rfl (Yields.pure rfl) ?_
                refine QK.det rfl (Yields.ixN1 rfl rfl rfl (by omega)) ?_
                refine QK.det rfl (Yields.ld rfl (str_at hx.cons.cons (by omega))) ?_
                refine QK.det rfl (Yields.pure rfl) ?_
                refine QK.det rfl (Yields.pure rfl) ?_
                refine QK.det rfl (Yields.ixN1 rfl rfl rfl (by omega)) ?_
                refine QK.det rfl (Yields.ld rfl (str_at hy.cons.cons (by omega))) ?_
                refine QK.nil ?_
                change OL _ _ _ [_, _, _] _ _ _
                refine OL.det rfl (Yields.pure rfl) ?_
                refine OL.det trivial (Yields.pure rfl) ?_
                refine OL.det trivial (Yields.pure rfl) ?_
                refine OL.nil ?_
                refine hK8 _ _ ?_
                refine PW.keep (T' := [(0, _), (1, _), (8, _), (9, _), (10, _), (12, _), (13, _), (14, _), (15, _), (16, _), (17, _), (70, _)]) ⟨rfl, rfl, rfl, rfl, rfl, rfl, rfl, rfl, rfl, rfl, rfl, rfl, trivial⟩ ?_
                refine PW.boolAt 70 rfl (fun c70 => ?_) (fun c70 => ?_)
                · try simp only [decide_eq_true_eq, decide_eq_false_iff_not, beq_iff_eq, bne_iff_ne, beq_eq_false_iff_ne, bne_eq_false_iff_eq, Bool.not_eq_true', Bool.not_eq_false', Bool.not_eq_true, ne_eq, Decidable.not_not] at c70
                  refine PW.ite (b := true) rfl ?_
                  rw [if_pos rfl]
                  refine PW.skip ?_
                  refine hK7 _ _ ?_
                  refine PW.keep (T' := [(0, _), (1, _), (8, _), (9, _), (10, _), (13, _), (14, _), (15, _), (16, _), (17, _), (70, _)]) ⟨rfl, rfl, rfl, rfl, rfl, rfl, rfl, rfl, rfl, rfl, rfl, trivial⟩ ?_
                  refine PW.ite (b := true) rfl ?_
                  rw [if_pos rfl]
                  refine PW.seqOps ?_
                  refine OL.det trivial (Yields.pure rfl) ?_
                  refine OL.det trivial (Yields.pure rfl) ?_
                  refine OL.nil ?_
                  refine PW.keep (T' := [(6, _), (7, _)]) ⟨rfl, rfl, trivial⟩ ?_
                  refine PW.ret ?_
                  change (Exit.ret = Exit.normal ∨ Exit.ret = Exit.ret) ∧ ∃ v, resV _ _ = some v ∧ _
                  refine ⟨.inr rfl, _, rfl, [] :: S, ?_, PlayOK.none (foldP_none hlt hfold (stepF_none ?_ ?_ ?_))⟩
                  · exact Sub.nilL (Sub.drop (Sub.drop (Sub.refl S)))
                  · intro a1 a2 a3 a4 a5 a6
                    first | omega | (rw [List.getElem?_eq_getElem a2, List.getElem?_eq_getElem a3] at a6; exact c70 (by rw [Option.some.inj a6]))
                  · intro a1 a2 a3 a4; omega
                  · intro a1 a2 a3 a4; omega
                · try simp only [decide_eq_true_eq, decide_eq_false_iff_not, beq_iff_eq, bne_iff_ne, beq_eq_false_iff_ne, bne_eq_false_iff_eq, Bool.not_eq_true', Bool.not_eq_false', Bool.not_eq_true, ne_eq, Decidable.not_not] at c70
                  refine PW.ite (b := false) rfl ?_
                  rw [if_neg Bool.false_ne_true]
                  refine PW.seqOps ?_
                  refine OL.det trivial (Yields.pure rfl) ?_
                  refine OL.det trivial (Yields.pure rfl) ?_
                  refine OL.det trivial (Yields.pure rfl) ?_
                  refine OL.off rfl rfl ?_
                  refine OL.off rfl rfl ?_
                  refine OL.off rfl rfl ?_
                  refine OL.det trivial (Yields.pure rfl) ?_
                  refine OL.det trivial (Yields.pure rfl) ?_
                  refine OL.nil ?_
                  refine PW.keep (T' := [(0, _), (1, _), (8, _), (9, _), (10, _), (12, _), (13, _), (14, _), (15, _), (16, _), (17, _), (70, _)]) ⟨rfl, rfl, rfl, rfl, rfl, rfl, rfl, rfl, rfl, rfl, rfl, rfl, trivial⟩ ?_
                  refine PW.ite (b := false) rfl ?_
                  rw [if_neg Bool.false_ne_true]
                  refine PW.ops ?_
                  refine OL.det trivial (Yields.pure rfl) ?_
                  refine OL.det trivial (Yields.pure rfl) ?_
                  refine OL.det trivial (Yields.pure rfl) ?_
                  refine OL.off rfl rfl ?_
                  refine OL.off rfl rfl ?_
                  refine OL.off rfl rfl ?_
                  refine OL.det trivial (Yields.pure rfl) ?_
                  refine OL.det trivial (Yields.pure rfl) ?_
                  refine OL.nil ?_
                  refine hK7 _ _ ?_
                  refine PW.keep (T' := [(0, _), (1, _), (8, _), (9, _), (10, _), (13, _), (14, _), (15, _), (16, _), (17, _), (70, _)]) ⟨rfl, rfl, rfl, rfl, rfl, rfl, rfl, rfl, rfl, rfl, rfl, trivial⟩ ?_
                  refine PW.ite (b := false) rfl ?_
                  rw [if_neg Bool.false_ne_true]
                  refine PW.skip ?_
                  refine hK5 _ _ ?_
                  refine PW.keep (T' := [(0, _), (1, _), (8, _), (9, _), (10, _), (13, _), (14, _), (15, _), (16, _), (17, _)]) ⟨rfl, rfl, rfl, rfl, rfl, rfl, rfl, rfl, rfl, rfl, trivial⟩ ?_
                  refine PW.seq fun K9 hK9 => ?_
                  refine PW.seqOps ?_
                  refine OL.det trivial (Yields.pure rfl) ?_
                  refine OL.nil ?_
                  refine PW.keep (T' := [(0, _), (1, _), (8, _), (9, _), (10, _), (14, _), (15, _), (16, _), (17, _), (100, _)]) ⟨rfl, rfl, rfl, rfl, rfl, rfl, rfl, rfl, rfl, rfl, trivial⟩ ?_
                  refine PW.ite (b := true) rfl ?_
                  rw [if_pos rfl]
                  refine PW.ops ?_
                  refine OL.det trivial (Yields.pure rfl) ?_
                  refine OL.det trivial (Yields.add64 rfl rfl (by omega) (by omega)) ?_
                  refine OL.det trivial (Yields.pure rfl) ?_
                  refine OL.nil ?_
                  refine hK9 _ _ ?_
                  refine PW.keep (T' := [(0, _), (1, _), (8, _), (9, _), (10, _), (14, _), (15, _), (16, _), (17, _)]) ⟨rfl, rfl, rfl, rfl, rfl, rfl, rfl, rfl, rfl, trivial⟩ ?_
                  refine PW.seqOps ?_
                  refine OL.det trivial (Yields.pure rfl) ?_
                  refine OL.nil ?_
                  refine PW.keep (T' := [(0, _), (1, _), (8, _), (9, _), (10, _), (15, _), (16, _), (17, _), (103, _)]) ⟨rfl, rfl, rfl, rfl, rfl, rfl, rfl, rfl, rfl, trivial⟩ ?_
                  refine PW.ite (b := true) rfl ?_
                  rw [if_pos rfl]
                  refine PW.seqOps ?_
                  refine OL.det trivial (Yields.pure rfl) ?_
                  try obtain ⟨aY, rfl⟩ := hy.some (strs_ne (by omega))
                  refine OL.det trivial (Yields.pure rfl) ?_
                  refine OL.det trivial (Yields.pure rfl) ?_
                  refine OL.det trivial (Yields.ixN1 rfl rfl rfl (by omega)) ?_
                  refine OL.det trivial (Yields.ld rfl (str_at hy.cons.cons (by omega))) ?_
                  apply OL.app1 (k := 1)
                  · rfl
                  · rfl
                  · rfl
                  · rfl
                  · rfl
                  · rfl
                  · exact hsl
                  · rfl
                  · omega
                  · unfold maxLen; omega
                  intro v110 seg110 hsl110
                  refine OL.det trivial (Yields.pure rfl) ?_
                  refine OL.nil ?_
                  refine PW.keep (T' := [(0, _), (1, _), (8, _), (9, _), (10, _), (15, _), (16, _), (17, _)]) ⟨rfl, rfl, rfl, rfl, rfl, rfl, rfl, rfl, trivial⟩ ?_
                  refine PW.ops ?_
                  refine OL.det trivial (Yields.pure rfl) ?_
                  refine OL.det trivial (Yields.add64 rfl rfl (by omega) (by omega)) ?_
                  refine OL.det trivial (Yields.pure rfl) ?_
                  refine OL.nil ?_
                  refine hK3 _ _ ?_
                  refine PW.keep (T' := [(0, _), (1, _), (8, _), (9, _), (10, _), (15, _), (16, _), (17, _)]) ⟨rfl, rfl, rfl, rfl, rfl, rfl, rfl, rfl, trivial⟩ ?_
                  refine PW.ops ?_
                  refine OL.det trivial (Yields.add64 rfl rfl (by omega) (by omega)) ?_
                  refine OL.det trivial (Yields.pure rfl) ?_
                  refine OL.nil ?_
                  repeat rw [inBlk_n]
                  rw [thenK_n]
                  refine LoopEnd.mkS (Sub.drop (Sub.refl _)) (T'' := [(0, _), (1, _), (8, _), (9, _), (10, _), (15, _), (16, _), (17, _)]) ⟨rfl, rfl, rfl, rfl, rfl, rfl, rfl, rfl, trivial⟩ ?_
                  refine ⟨l.length - (k + 1), by omega, k + 1, i + 1, j + 1, o ++ [ys[j]], v110, seg110, ⟨by omega, by omega, by omega, rfl, ?_, by simp; omega, by rw [List.length_append, List.map_append]; exact hsl110⟩, rfl, rfl⟩
                  rw [foldP_succ hlt hfold]
                  exact stepF_keep (by omega) (by omega) (by omega) (by omega) (by omega) (bytes_ext c70)
      · try simp only [decide_eq_true_eq, decide_eq_false_iff_not, beq_iff_eq, bne_iff_ne, beq_eq_false_iff_ne, bne_eq_false_iff_eq, Bool.not_eq_true', Bool.not_eq_false', Bool.not_eq_true, ne_eq, Decidable.not_not] at g32
        exfalso; omega
    · try simp only [decide_eq_true_eq, decide_eq_false_iff_not, beq_iff_eq, bne_iff_ne, beq_eq_false_iff_ne, bne_eq_false_iff_eq, Bool.not_eq_true', Bool.not_eq_false', Bool.not_eq_true, ne_eq, Decidable.not_not] at g24
      refine QK.det rfl (Yields.pure rfl) ?_
      refine QK.det rfl (Yields.ld rfl (own_at (c := stC l[k]) (E := 36) (tot := 3) (List.Mem.head _) rfl)) ?_
      refine QK.bool rfl (Yields.pure rfl) (fun g27 => ?_) (fun g27 => ?_)
      · try simp only [decide_eq_true_eq, decide_eq_false_iff_not, beq_iff_eq, bne_iff_ne, beq_eq_false_iff_ne, bne_eq_false_iff_eq, Bool.not_eq_true', Bool.not_eq_false', Bool.not_eq_true, ne_eq, Decidable.not_not] at g27
        refine QK.det trivial (Yields.pure rfl) ?_
        refine QK.det trivial (Yields.pure rfl) ?_
        refine QK.det trivial (Yields.ld rfl (own_at (c := stC l[k]) (E := 36) (tot := 3) (List.Mem.head _) rfl)) ?_
        refine QK.det trivial (Yields.pure rfl) ?_
        refine QK.bool trivial (Yields.pure rfl) (fun g32 => ?_) (fun g32 => ?_)
        · try simp only [decide_eq_true_eq, decide_eq_false_iff_not, beq_iff_eq, bne_iff_ne, beq_eq_false_iff_ne, bne_eq_false_iff_eq, Bool.not_eq_true', Bool.not_eq_false', Bool.not_eq_true, ne_eq, Decidable.not_not] at g32
          exfalso; omega
        · try simp only [decide_eq_true_eq, decide_eq_false_iff_not, beq_iff_eq, bne_iff_ne, beq_eq_false_iff_ne, bne_eq_false_iff_eq, Bool.not_eq_true', Bool.not_eq_false', Bool.not_eq_true, ne_eq, Decidable.not_not] at g32
          refine QK.det rfl (Yields.pure rfl) ?_
          refine QK.det rfl (Yields.ld rfl (own_at (c := stC l[k]) (E := 36) (tot := 3) (List.Mem.head _) rfl)) ?_
          refine QK.bool rfl (Yields.pure rfl) (fun g35 => ?_) (fun g35 => ?_)
          · try simp only [decide_eq_true_eq, decide_eq_false_iff_not, beq_iff_eq, bne_iff_ne, beq_eq_false_iff_ne, bne_eq_false_iff_eq, Bool.not_eq_true', Bool.not_eq_false', Bool.not_eq_true, ne_eq, Decidable.not_not] at g35
            exfalso; omega
          · try simp only [decide_eq_true_eq, decide_eq_false_iff_not, beq_iff_eq, bne_iff_ne, beq_eq_false_iff_ne, bne_eq_false_iff_eq, Bool.not_eq_true', Bool.not_eq_false', Bool.not_eq_true, ne_eq, Decidable.not_not] at g35
            refine QK.det trivial (Yields.pure rfl) ?_
            refine QK.det trivial (Yields.pure rfl) ?_
            refine QK.nil ?_
            change OL _ _ _ [_] _ _ _
            refine OL.det trivial (Yields.pure rfl) ?_
            refine OL.nil ?_
            refine hK4 _ _ ?_
            refine PW.keep (T' := [(0, _), (1, _), (8, _), (9, _), (10, _), (12, _), (13, _), (14, _), (15, _), (16, _), (17, _)]) ⟨rfl, rfl, rfl, rfl, rfl, rfl, rfl, rfl, rfl, rfl, rfl, trivial⟩ ?_
            refine PW.seq fun K10 hK10 => ?_
            refine PW.block ?_
            refine PW.seq fun K11 hK11 => ?_
            refine PW.seqOps ?_
            refine OL.det trivial (Yields.pure rfl) ?_
            refine OL.det trivial (Yields.pure rfl) ?_
            refine OL.det trivial (Yields.pure rfl) ?_
            refine OL.off rfl rfl ?_
            refine OL.off rfl rfl ?_
            refine OL.det trivial (Yields.pure rfl) ?_
            refine OL.det trivial (Yields.pure rfl) ?_
            refine OL.nil ?_
            refine PW.keep (T' := [(0, _), (1, _), (8, _), (9, _), (10, _), (12, _), (13, _), (14, _), (15, _), (16, _), (17, _), (37, _)]) ⟨rfl, rfl, rfl, rfl, rfl, rfl, rfl, rfl, rfl, rfl, rfl, rfl, trivial⟩ ?_
            refine PW.ite (b := false) rfl ?_
            rw [if_neg Bool.false_ne_true]
            refine PW.seqOps ?_
            refine OL.det trivial (Yields.pure rfl) ?_
            refine OL.det trivial (Yields.pure rfl) ?_
            refine OL.det rfl (Yields.pure rfl) ?_
            refine OL.det rfl (Yields.ld rfl (own_at (c := stC l[k]) (E := 36) (tot := 3) (List.Mem.head _) rfl)) ?_
            refine OL.det rfl (Yields.pure rfl) ?_
            refine OL.det rfl (Yields.pure rfl) ?_
            refine OL.bool rfl (Yields.pure rfl) (fun g50 => ?_) (fun g50 => ?_)
            · try simp only [decide_eq_true_eq, decide_eq_false_iff_not, beq_iff_eq, bne_iff_ne, beq_eq_false_iff_ne, bne_eq_false_iff_eq, Bool.not_eq_true', Bool.not_eq_false', Bool.not_eq_true, ne_eq, Decidable.not_not] at g50
              refine OL.off rfl rfl ?_
              refine OL.off rfl rfl ?_
              refine OL.off rfl rfl ?_
              refine OL.off rfl rfl ?_
              refine OL.det rfl (Yields.pure rfl) ?_
              refine OL.det trivial (Yields.pure rfl) ?_
              refine OL.det trivial (Yields.pure rfl) ?_
              refine OL.nil ?_
              refine PW.keep (T' := [(0, _), (1, _), (8, _), (9, _), (10, _), (12, _), (13, _), (14, _), (15, _), (16, _), (17, _), (37, _)]) ⟨rfl, rfl, rfl, rfl, rfl, rfl, rfl, rfl, rfl, rfl, rfl, rfl, trivial⟩ ?_
              refine PW.ite (b := true) rfl ?_
              rw [if_pos rfl]
              refine PW.skip ?_
              refine hK11 _ _ ?_
              refine PW.keep (T' := [(0, _), (1, _), (8, _), (9, _), (10, _), (12, _), (13, _), (14, _), (15, _), (16, _), (17, _), (37, _)]) ⟨rfl, rfl, rfl, rfl, rfl, rfl, rfl, rfl, rfl, rfl, rfl, rfl, trivial⟩ ?_
              refine PW.ite (b := true) rfl ?_
              rw [if_pos rfl]
              refine PW.seqOps ?_
              refine OL.det trivial (Yields.pure rfl) ?_
              refine OL.det trivial (Yields.pure rfl) ?_
              refine OL.nil ?_
              refine PW.keep (T' := [(6, _), (7, _)]) ⟨rfl, rfl, trivial⟩ ?_
              refine PW.ret ?_
              change (Exit.ret = Exit.normal ∨ Exit.ret = Exit.ret) ∧ ∃ v, resV _ _ = some v ∧ _
              refine ⟨.inr rfl, _, rfl, [] :: S, ?_, PlayOK.none (foldP_none hlt hfold (stepF_none ?_ ?_ ?_))⟩
              · exact Sub.nilL (Sub.drop (Sub.drop (Sub.refl S)))
              · intro a1 a2 a3 a4 a5 a6
                first | omega | (rw [List.getElem?_eq_getElem a2, List.getElem?_eq_getElem a3] at a6; exact c70 (by rw [Option.some.inj a6]))
              · intro a1 a2 a3 a4; omega
              · intro a1 a2 a3 a4; omega
            · try simp only [decide_eq_true_eq, decide_eq_false_iff_not, beq_iff_eq, bne_iff_ne, beq_eq_false_iff_ne, bne_eq_false_iff_eq, Bool.not_eq_true', Bool.not_eq_false', Bool.not_eq_true, ne_eq, Decidable.not_not] at g50
              refine OL.det rfl (Yields.pure rfl) ?_
              refine OL.det rfl (Yields.pure rfl) ?_
              refine OL.det rfl (Yields.pure rfl) ?_
              refine OL.det rfl (Yields.pure rfl) ?_
              refine OL.det rfl (Yields.pure rfl) ?_
              refine OL.det trivial (Yields.pure rfl) ?_
              refine OL.det trivial (Yields.pure rfl) ?_
              refine OL.nil ?_
              refine PW.keep (T' := [(0, _), (1, _), (8, _), (9, _), (10, _), (12, _), (13, _), (14, _), (15, _), (16, _), (17, _), (37, _)]) ⟨rfl, rfl, rfl, rfl, rfl, rfl, rfl, rfl, rfl, rfl, rfl, rfl, trivial⟩ ?_
              refine PW.boolAt 37 rfl (fun c37 => ?_) (fun c37 => ?_)
              · try simp only [decide_eq_true_eq, decide_eq_false_iff_not, beq_iff_eq, bne_iff_ne, beq_eq_false_iff_ne, bne_eq_false_iff_eq, Bool.not_eq_true', Bool.not_eq_false', Bool.not_eq_true, ne_eq, Decidable.not_not] at c37
                refine PW.ite (b := true) rfl ?_
                rw [if_pos rfl]
                refine PW.skip ?_
                refine hK11 _ _ ?_
                refine PW.keep (T' := [(0, _), (1, _), (8, _), (9, _), (10, _), (12, _), (13, _), (14, _), (15, _), (16, _), (17, _), (37, _)]) ⟨rfl, rfl, rfl, rfl, rfl, rfl, rfl, rfl, rfl, rfl, rfl, rfl, trivial⟩ ?_
                refine PW.ite (b := true) rfl ?_
                rw [if_pos rfl]
                refine PW.seqOps ?_
                refine OL.det trivial (Yields.pure rfl) ?_
                refine OL.det trivial (Yields.pure rfl) ?_
                refine OL.nil ?_
                refine PW.keep (T' := [(6, _), (7, _)]) ⟨rfl, rfl, trivial⟩ ?_
                refine PW.ret ?_
                change (Exit.ret = Exit.normal ∨ Exit.ret = Exit.ret) ∧ ∃ v, resV _ _ = some v ∧ _
                refine ⟨.inr rfl, _, rfl, [] :: S, ?_, PlayOK.none (foldP_none hlt hfold (stepF_none ?_ ?_ ?_))⟩
                · exact Sub.nilL (Sub.drop (Sub.drop (Sub.refl S)))
                · intro a1 a2 a3 a4 a5 a6
                  first | omega | (rw [List.getElem?_eq_getElem a2, List.getElem?_eq_getElem a3] at a6; exact c70 (by rw [Option.some.inj a6]))
                · intro a1 a2 a3 a4; omega
                · intro a1 a2 a3 a4; omega
              · try simp only [decide_eq_true_eq, decide_eq_false_iff_not, beq_iff_eq, bne_iff_ne, beq_eq_false_iff_ne, bne_eq_false_iff_eq, Bool.not_eq_true', Bool.not_eq_false', Bool.not_eq_true, ne_eq, Decidable.not_not] at c37
                refine PW.ite (b := false) rfl ?_
                rw [if_neg Bool.false_ne_true]
                refine PW.ops ?_
                refine OL.det trivial (Yields.pure rfl) ?_
                refine OL.det trivial (Yields.pure rfl) ?_
                refine OL.off rfl rfl ?_
                refine OL.off rfl rfl ?_
                refine OL.off rfl rfl ?_
                refine OL.off rfl rfl ?_
                refine OL.off rfl rfl ?_
                refine OL.off rfl rfl ?_
                refine OL.off rfl rfl ?_
                refine OL.off rfl rfl ?_
                refine OL.off rfl rfl ?_
                refine OL.off rfl rfl ?_
                refine OL.det trivial (Yields.pure rfl) ?_
                refine OL.det trivial (Yields.pure rfl) ?_
                refine OL.nil ?_
                refine hK11 _ _ ?_
                refine PW.keep (T' := [(0, _), (1, _), (8, _), (9, _), (10, _), (12, _), (13, _), (14, _), (15, _), (16, _), (17, _), (37, _)]) ⟨rfl, rfl, rfl, rfl, rfl, rfl, rfl, rfl, rfl, rfl, rfl, rfl, trivial⟩ ?_
                refine PW.ite (b := false) rfl ?_
                rw [if_neg Bool.false_ne_true]
                refine PW.seq fun K12 hK12 => ?_
                refine PW.seq fun K13 hK13 => ?_
                refine PW.quietK Try.mixed ?_
                refine QK.det trivial (Yields.pure rfl) ?_
                refine QK.det trivial (Yields.pure rfl) ?_
                refine QK.det rfl (Yields.pure rfl) ?_
                refine QK.det trivial (Yields.pure rfl) ?_
                refine QK.det trivial (Yields.pure rfl) ?_
                refine QK.off rfl rfl ?_
                refine QK.off rfl rfl ?_
                refine QK.off rfl rfl ?_
                refine QK.off rfl rfl ?_
                refine QK.off rfl rfl ?_
                refine QK.off rfl rfl ?_
                refine QK.off rfl rfl ?_
                refine QK.off rfl rfl ?_
                refine QK.nil ?_
                change OL _ _ _ [_, _, _] _ _ _
                refine OL.off rfl rfl ?_
                refine OL.det trivial (Yields.pure rfl) ?_
                refine OL.det trivial (Yields.pure rfl) ?_
                refine OL.nil ?_
                refine hK13 _ _ ?_
                refine PW.keep (T' := [(0, _), (1, _), (8, _), (9, _), (10, _), (12, _), (13, _), (14, _), (15, _), (16, _), (17, _), (70, _)]) ⟨rfl, rfl, rfl, rfl, rfl, rfl, rfl, rfl, rfl, rfl, rfl, rfl, trivial⟩ ?_
                refine PW.ite (b := false) rfl ?_
                rw [if_neg Bool.false_ne_true]
                refine PW.seqOps ?_
                refine OL.det trivial (Yields.pure rfl) ?_
                refine OL.det trivial (Yields.pure rfl) ?_
                refine OL.det trivial (Yields.pure rfl) ?_
                refine OL.off rfl rfl ?_
                refine OL.off rfl rfl ?_
                refine OL.off rfl rfl ?_
                refine OL.det trivial (Yields.pure rfl) ?_
                refine OL.det trivial (Yields.pure rfl) ?_
                refine OL.nil ?_
                refine PW.keep (T' := [(0, _), (1, _), (8, _), (9, _), (10, _), (12, _), (13, _), (14, _), (15, _), (16, _), (17, _), (70, _)]) ⟨rfl, rfl, rfl, rfl, rfl, rfl, rfl, rfl, rfl, rfl, rfl, rfl, trivial⟩ ?_
                refine PW.ite (b := false) rfl ?_
                rw [if_neg Bool.false_ne_true]
                refine PW.ops ?_
                refine OL.det trivial (Yields.pure rfl) ?_
                refine OL.det trivial (Yields.pure rfl) ?_
                refine OL.det trivial (Yields.pure rfl) ?_
                refine OL.det rfl (Yields.pure rfl) ?_
                refine OL.det rfl (Yields.ld rfl (own_at (c := stC l[k]) (E := 36) (tot := 3) (List.Mem.head _) rfl)) ?_
                refine OL.det rfl (Yields.pure rfl) ?_
                refine OL.det trivial (Yields.pure rfl) ?_
                refine OL.det trivial (Yields.pure rfl) ?_
                refine OL.nil ?_
                refine hK12 _ _ ?_
                refine PW.keep (T' := [(0, _), (1, _), (8, _), (9, _), (10, _), (13, _), (14, _), (15, _), (16, _), (17, _), (70, _)]) ⟨rfl, rfl, rfl, rfl, rfl, rfl, rfl, rfl, rfl, rfl, rfl, trivial⟩ ?_
                refine PW.cond rfl (fun c70 => ?_) (fun c70 => ?_)
                · try simp only [decide_eq_true_eq, decide_eq_false_iff_not, beq_iff_eq, bne_iff_ne, beq_eq_false_iff_ne, bne_eq_false_iff_eq, Bool.not_eq_true', Bool.not_eq_false', Bool.not_eq_true, ne_eq, Decidable.not_not] at c70
                  refine PW.seqOps ?_
                  refine OL.det trivial (Yields.pure rfl) ?_
                  refine OL.det trivial (Yields.pure rfl) ?_
                  refine OL.nil ?_
                  refine PW.keep (T' := [(6, _), (7, _)]) ⟨rfl, rfl, trivial⟩ ?_
                  refine PW.ret ?_
                  change (Exit.ret = Exit.normal ∨ Exit.ret = Exit.ret) ∧ ∃ v, resV _ _ = some v ∧ _
                  refine ⟨.inr rfl, _, rfl, [] :: S, ?_, PlayOK.none (foldP_none hlt hfold (stepF_none ?_ ?_ ?_))⟩
                  · exact Sub.nilL (Sub.drop (Sub.drop (Sub.refl S)))
                  · intro a1 a2 a3 a4 a5 a6
                    first | omega | (rw [List.getElem?_eq_getElem a2, List.getElem?_eq_getElem a3] at a6; exact c70 (by rw [Option.some.inj a6]))
                  · intro a1 a2 a3 a4; omega
                  · intro a1 a2 a3 a4; omega
                · try simp only [decide_eq_true_eq, decide_eq_false_iff_not, beq_iff_eq, bne_iff_ne, beq_eq_false_iff_ne, bne_eq_false_iff_eq, Bool.not_eq_true', Bool.not_eq_false', Bool.not_eq_true, ne_eq, Decidable.not_not] at c70
                  refine PW.skip ?_
                  refine hK10 _ _ ?_
                  refine PW.keep (T' := [(0, _), (1, _), (8, _), (9, _), (10, _), (13, _), (14, _), (15, _), (16, _), (17, _)]) ⟨rfl, rfl, rfl, rfl, rfl, rfl, rfl, rfl, rfl, rfl, trivial⟩ ?_
                  refine PW.seq fun K14 hK14 => ?_
                  refine PW.seqOps ?_
                  refine OL.det trivial (Yields.pure rfl) ?_
                  refine OL.nil ?_
                  refine PW.keep (T' := [(0, _), (1, _), (8, _), (9, _), (10, _), (14, _), (15, _), (16, _), (17, _), (100, _)]) ⟨rfl, rfl, rfl, rfl, rfl, rfl, rfl, rfl, rfl, rfl, trivial⟩ ?_
                  refine PW.ite (b := true) rfl ?_
                  rw [if_pos rfl]
                  refine PW.ops ?_
                  refine OL.det trivial (Yields.pure rfl) ?_
                  refine OL.det trivial (Yields.add64 rfl rfl (by omega) (by omega)) ?_
                  refine OL.det trivial (Yields.pure rfl) ?_
                  refine OL.nil ?_
                  refine hK14 _ _ ?_
                  refine PW.keep (T' := [(0, _), (1, _), (8, _), (9, _), (10, _), (14, _), (15, _), (16, _), (17, _)]) ⟨rfl, rfl, rfl, rfl, rfl, rfl, rfl, rfl, rfl, trivial⟩ ?_
                  refine PW.seqOps ?_
                  refine OL.det trivial (Yields.pure rfl) ?_
                  refine OL.nil ?_
                  refine PW.keep (T' := [(0, _), (1, _), (8, _), (9, _), (10, _), (15, _), (16, _), (17, _), (103, _)]) ⟨rfl, rfl, rfl, rfl, rfl, rfl, rfl, rfl, rfl, trivial⟩ ?_
                  refine PW.ite (b := false) rfl ?_
                  rw [if_neg Bool.false_ne_true]
                  refine PW.skip ?_
                  refine hK3 _ _ ?_
                  refine PW.keep (T' := [(0, _), (1, _), (8, _), (9, _), (10, _), (15, _), (16, _), (17, _)]) ⟨rfl, rfl, rfl, rfl, rfl, rfl, rfl, rfl, trivial⟩ ?_
                  refine PW.ops ?_
                  refine OL.det trivial (Yields.add64 rfl rfl (by omega) (by omega)) ?_
                  refine OL.det trivial (Yields.pure rfl) ?_
                  refine OL.nil ?_
                  repeat rw [inBlk_n]
                  rw [thenK_n]
                  refine LoopEnd.mkS (Sub.drop (Sub.refl _)) (T'' := [(0, _), (1, _), (8, _), (9, _), (10, _), (15, _), (16, _), (17, _)]) ⟨rfl, rfl, rfl, rfl, rfl, rfl, rfl, rfl, trivial⟩ ?_
                  refine ⟨l.length - (k + 1), by omega, k + 1, i + 1, j, o, v, seg, ⟨by omega, by omega, by omega, rfl, ?_, by omega, hsl⟩, rfl, rfl⟩
                  rw [foldP_succ hlt hfold]
                  exact stepF_gone (by omega) (by omega) (by omega) (by omega)
      · try simp only [decide_eq_true_eq, decide_eq_false_iff_not, beq_iff_eq, bne_iff_ne, beq_eq_false_iff_ne, bne_eq_false_iff_eq, Bool.not_eq_true', Bool.not_eq_false', Bool.not_eq_true, ne_eq, Decidable.not_not] at g27
        refine QK.det trivial (Yields.pure rfl) ?_
        refine QK.det trivial (Yields.pure rfl) ?_
        refine QK.det trivial (Yields.ld rfl (own_at (c := stC l[k]) (E := 36) (tot := 3) (List.Mem.head _) rfl)) ?_
        refine QK.det trivial (Yields.pure rfl) ?_
        refine QK.bool trivial (Yields.pure rfl) (fun g32 => ?_) (fun g32 => ?_)
        · try simp only [decide_eq_true_eq, decide_eq_false_iff_not, beq_iff_eq, bne_iff_ne, beq_eq_false_iff_ne, bne_eq_false_iff_eq, Bool.not_eq_true', Bool.not_eq_false', Bool.not_eq_true, ne_eq, Decidable.not_not] at g32
          exfalso; omega
        · try simp only [decide_eq_true_eq, decide_eq_false_iff_not, beq_iff_eq, bne_iff_ne, beq_eq_false_iff_ne, bne_eq_false_iff_eq, Bool.not_eq_true', Bool.not_eq_false', Bool.not_eq_true, ne_eq, Decidable.not_not] at g32
          refine QK.det rfl (Yields.pure rfl) ?_
          refine QK.det rfl (Yields.ld rfl (own_at (c := stC l[k]) (E := 36) (tot := 3) (List.Mem.head _) rfl)) ?_
          refine QK.bool rfl (Yields.pure rfl) (fun g35 => ?_) (fun g35 => ?_)
          · try simp only [decide_eq_true_eq, decide_eq_false_iff_not, beq_iff_eq, bne_iff_ne, beq_eq_false_iff_ne, bne_eq_false_iff_eq, Bool.not_eq_true', Bool.not_eq_false', Bool.not_eq_true, ne_eq, Decidable.not_not] at g35
            refine QK.det trivial (Yields.pure rfl) ?_
            refine QK.det trivial (Yields.pure rfl) ?_
            refine QK.nil ?_
            change OL _ _ _ [_] _ _ _
            refine OL.det trivial (Yields.pure rfl) ?_
            refine OL.nil ?_
            refine hK4 _ _ ?_
            refine PW.keep (T' := [(0, _), (1, _), (8, _), (9, _), (10, _), (12, _), (13, _), (14, _), (15, _), (16, _), (17, _)]) ⟨rfl, rfl, rfl, rfl, rfl, rfl, rfl, rfl, rfl, rfl, rfl, trivial⟩ ?_
            refine PW.seq fun K15 hK15 => ?_
            refine PW.block ?_
            refine PW.seq fun K16 hK16 => ?_
            refine PW.seqOps ?_
            refine OL.det trivial (Yields.pure rfl) ?_
            refine OL.det trivial (Yields.pure rfl) ?_
            refine OL.det trivial (Yields.pure rfl) ?_
            refine OL.det rfl (Yields.pure rfl) ?_
            refine OL.det rfl (Yields.pure rfl) ?_
            refine OL.det trivial (Yields.pure rfl) ?_
            refine OL.det trivial (Yields.pure rfl) ?_
            refine OL.nil ?_
            refine PW.keep (T' := [(0, _), (1, _), (8, _), (9, _), (10, _), (12, _), (13, _), (14, _), (15, _), (16, _), (17, _), (37, _)]) ⟨rfl, rfl, rfl, rfl, rfl, rfl, rfl, rfl, rfl, rfl, rfl, rfl, trivial⟩ ?_
            refine PW.ite (b := false) rfl ?_
            rw [if_neg Bool.false_ne_true]
            refine PW.seqOps ?_
            refine OL.det trivial (Yields.pure rfl) ?_
            refine OL.det trivial (Yields.pure rfl) ?_
            refine OL.off rfl rfl ?_
            refine OL.off rfl rfl ?_
            refine OL.off rfl rfl ?_
            refine OL.off rfl rfl ?_
            refine OL.off rfl rfl ?_
            refine OL.off rfl rfl ?_
            refine OL.off rfl rfl ?_
            refine OL.off rfl rfl ?_
            refine OL.off rfl rfl ?_
            refine OL.off rfl rfl ?_
            refine OL.det trivial (Yields.pure rfl) ?_
            refine OL.det trivial (Yields.pure rfl) ?_
            refine OL.nil ?_
            refine PW.keep (T' := [(0, _), (1, _), (8, _), (9, _), (10, _), (12, _), (13, _), (14, _), (15, _), (16, _), (17, _), (37, _)]) ⟨rfl, rfl, rfl, rfl, rfl, rfl, rfl, rfl, rfl, rfl, rfl, rfl, trivial⟩ ?_
            refine PW.ite (b := false) rfl ?_
            rw [if_neg Bool.false_ne_true]
            refine PW.ops ?_
            refine OL.det trivial (Yields.pure rfl) ?_
            refine OL.det trivial (Yields.pure rfl) ?_
            refine OL.det rfl (Yields.pure rfl) ?_
            refine OL.det rfl (Yields.ld rfl (own_at (c := stC l[k]) (E := 36) (tot := 3) (List.Mem.head _) rfl)) ?_
            refine OL.det rfl (Yields.pure rfl) ?_
            refine OL.det rfl (Yields.pure rfl) ?_
            refine OL.bool rfl (Yields.pure rfl) (fun g63 => ?_) (fun g63 => ?_)
            · try simp only [decide_eq_true_eq, decide_eq_false_iff_not, beq_iff_eq, bne_iff_ne, beq_eq_false_iff_ne, bne_eq_false_iff_eq, Bool.not_eq_true', Bool.not_eq_false', Bool.not_eq_true, ne_eq, Decidable.not_not] at g63
              refine OL.off rfl rfl ?_
              refine OL.off rfl rfl ?_
              refine OL.off rfl rfl ?_
              refine OL.off rfl rfl ?_
              refine OL.det rfl (Yields.pure rfl) ?_
              refine OL.det trivial (Yields.pure rfl) ?_
              refine OL.det trivial (Yields.pure rfl) ?_
              refine OL.nil ?_
              refine hK16 _ _ ?_
              refine PW.keep (T' := [(0, _), (1, _), (8, _), (9, _), (10, _), (12, _), (13, _), (14, _), (15, _), (16, _), (17, _), (37, _)]) ⟨rfl, rfl, rfl, rfl, rfl, rfl, rfl, rfl, rfl, rfl, rfl, rfl, trivial⟩ ?_
              refine PW.ite (b := true) rfl ?_
              rw [if_pos rfl]
              refine PW.seqOps ?_
              refine OL.det trivial (Yields.pure rfl) ?_
              refine OL.det trivial (Yields.pure rfl) ?_
              refine OL.nil ?_
              refine PW.keep (T' := [(6, _), (7, _)]) ⟨rfl, rfl, trivial⟩ ?_
              refine PW.ret ?_
              change (Exit.ret = Exit.normal ∨ Exit.ret = Exit.ret) ∧ ∃ v, resV _ _ = some v ∧ _
              refine ⟨.inr rfl, _, rfl, [] :: S, ?_, PlayOK.none (foldP_none hlt hfold (stepF_none ?_ ?_ ?_))⟩
              · exact Sub.nilL (Sub.drop (Sub.drop (Sub.refl S)))
              · intro a1 a2 a3 a4 a5 a6
                first | omega | (rw [List.getElem?_eq_getElem a2, List.getElem?_eq_getElem a3] at a6; exact c70 (by rw [Option.some.inj a6]))
              · intro a1 a2 a3 a4; omega
              · intro a1 a2 a3 a4; omega
            · try simp only [decide_eq_true_eq, decide_eq_false_iff_not, beq_iff_eq, bne_iff_ne, beq_eq_false_iff_ne, bne_eq_false_iff_eq, Bool.not_eq_true', Bool.not_eq_false', Bool.not_eq_true, ne_eq, Decidable.not_not] at g63
              refine OL.det rfl (Yields.pure rfl) ?_
              refine OL.det rfl (Yields.pure rfl) ?_
              refine OL.det rfl (Yields.pure rfl) ?_
              refine OL.det rfl (Yields.pure rfl) ?_
              refine OL.det rfl (Yields.pure rfl) ?_
              refine OL.det trivial (Yields.pure rfl) ?_
              refine OL.det trivial (Yields.pure rfl) ?_
              refine OL.nil ?_
              refine hK16 _ _ ?_
              refine PW.keep (T' := [(0, _), (1, _), (8, _), (9, _), (10, _), (12, _), (13, _), (14, _), (15, _), (16, _), (17, _), (37, _)]) ⟨rfl, rfl, rfl, rfl, rfl, rfl, rfl, rfl, rfl, rfl, rfl, rfl, trivial⟩ ?_
              refine PW.cond rfl (fun c37 => ?_) (fun c37 => ?_)
              · try simp only [decide_eq_true_eq, decide_eq_false_iff_not, beq_iff_eq, bne_iff_ne, beq_eq_false_iff_ne, bne_eq_false_iff_eq, Bool.not_eq_true', Bool.not_eq_false', Bool.not_eq_true, ne_eq, Decidable.not_not] at c37
                refine PW.seqOps ?_
                refine OL.det trivial (Yields.pure rfl) ?_
                refine OL.det trivial (Yields.pure rfl) ?_
                refine OL.nil ?_
                refine PW.keep (T' := [(6, _), (7, _)]) ⟨rfl, rfl, trivial⟩ ?_
                refine PW.ret ?_
                change (Exit.ret = Exit.normal ∨ Exit.ret = Exit.ret) ∧ ∃ v, resV _ _ = some v ∧ _
                refine ⟨.inr rfl, _, rfl, [] :: S, ?_, PlayOK.none (foldP_none hlt hfold (stepF_none ?_ ?_ ?_))⟩
                · exact Sub.nilL (Sub.drop (Sub.drop (Sub.refl S)))
                · intro a1 a2 a3 a4 a5 a6
                  first | omega | (rw [List.getElem?_eq_getElem a2, List.getElem?_eq_getElem a3] at a6; exact c70 (by rw [Option.some.inj a6]))
                · intro a1 a2 a3 a4; omega
                · intro a1 a2 a3 a4; omega
              · try simp only [decide_eq_true_eq, decide_eq_false_iff_not, beq_iff_eq, bne_iff_ne, beq_eq_false_iff_ne, bne_eq_false_iff_eq, Bool.not_eq_true', Bool.not_eq_false', Bool.not_eq_true, ne_eq, Decidable.not_not] at c37
                refine PW.seq fun K17 hK17 => ?_
                refine PW.seq fun K18 hK18 => ?_
                refine PW.quietK Try.mixed ?_
                refine QK.det trivial (Yields.pure rfl) ?_
                refine QK.det trivial (Yields.pure rfl) ?_
                refine QK.off rfl rfl ?_
                refine QK.det trivial (Yields.pure rfl) ?_
                refine QK.det trivial (Yields.pure rfl) ?_
                refine QK.off rfl rfl ?_
                refine QK.off rfl rfl ?_
                refine QK.off rfl rfl ?_
                refine QK.off rfl rfl ?_
                refine QK.off rfl rfl ?_
                refine QK.off rfl rfl ?_
                refine QK.off rfl rfl ?_
                refine QK.off rfl rfl ?_
                refine QK.nil ?_
                change OL _ _ _ [_, _, _] _ _ _
                refine OL.off rfl rfl ?_
                refine OL.det trivial (Yields.pure rfl) ?_
                refine OL.det trivial (Yields.pure rfl) ?_
                refine OL.nil ?_
                refine hK18 _ _ ?_
                refine PW.keep (T' := [(0, _), (1, _), (8, _), (9, _), (10, _), (12, _), (13, _), (14, _), (15, _), (16, _), (17, _), (70, _)]) ⟨rfl, rfl, rfl, rfl, rfl, rfl, rfl, rfl, rfl, rfl, rfl, rfl, trivial⟩ ?_
                refine PW.ite (b := false) rfl ?_
                rw [if_neg Bool.false_ne_true]
                refine PW.seqOps ?_
                refine OL.det trivial (Yields.pure rfl) ?_
                refine OL.det trivial (Yields.pure rfl) ?_
                refine OL.det trivial (Yields.pure rfl) ?_
                refine OL.det rfl (Yields.pure rfl) ?_
                refine OL.det rfl (Yields.ld rfl (own_at (c := stC l[k]) (E := 36) (tot := 3) (List.Mem.head _) rfl)) ?_
                refine OL.det rfl (Yields.pure rfl) ?_
                refine OL.det trivial (Yields.pure rfl) ?_
                refine OL.det trivial (Yields.pure rfl) ?_
                refine OL.nil ?_
                refine PW.keep (T' := [(0, _), (1, _), (8, _), (9, _), (10, _), (12, _), (13, _), (14, _), (15, _), (16, _), (17, _), (70, _)]) ⟨rfl, rfl, rfl, rfl, rfl, rfl, rfl, rfl, rfl, rfl, rfl, rfl, trivial⟩ ?_
                refine PW.boolAt 70 rfl (fun c70 => ?_) (fun c70 => ?_)
                · try simp only [decide_eq_true_eq, decide_eq_false_iff_not, beq_iff_eq, bne_iff_ne, beq_eq_false_iff_ne, bne_eq_false_iff_eq, Bool.not_eq_true', Bool.not_eq_false', Bool.not_eq_true, ne_eq, Decidable.not_not] at c70
                  refine PW.ite (b := true) rfl ?_
                  rw [if_pos rfl]
                  refine PW.skip ?_
                  refine hK17 _ _ ?_
                  refine PW.keep (T' := [(0, _), (1, _), (8, _), (9, _), (10, _), (13, _), (14, _), (15, _), (16, _), (17, _), (70, _)]) ⟨rfl, rfl, rfl, rfl, rfl, rfl, rfl, rfl, rfl, rfl, rfl, trivial⟩ ?_
                  refine PW.ite (b := true) rfl ?_
                  rw [if_pos rfl]
                  refine PW.seqOps ?_
                  refine OL.det trivial (Yields.pure rfl) ?_
                  refine OL.det trivial (Yields.pure rfl) ?_
                  refine OL.nil ?_
                  refine PW.keep (T' := [(6, _), (7, _)]) ⟨rfl, rfl, trivial⟩ ?_
                  refine PW.ret ?_
                  change (Exit.ret = Exit.normal ∨ Exit.ret = Exit.ret) ∧ ∃ v, resV _ _ = some v ∧ _
                  refine ⟨.inr rfl, _, rfl, [] :: S, ?_, PlayOK.none (foldP_none hlt hfold (stepF_none ?_ ?_ ?_))⟩
                  · exact Sub.nilL (Sub.drop (Sub.drop (Sub.refl S)))
                  · intro a1 a2 a3 a4 a5 a6
                    first | omega | (rw [List.getElem?_eq_getElem a2, List.getElem?_eq_getElem a3] at a6; exact c70 (by rw [Option.some.inj a6]))
                  · intro a1 a2 a3 a4; omega
                  · intro a1 a2 a3 a4; omega
                · try simp only [decide_eq_true_eq, decide_eq_false_iff_not, beq_iff_eq, bne_iff_ne, beq_eq_false_iff_ne, bne_eq_false_iff_eq, Bool.not_eq_true', Bool.not_eq_false', Bool.not_eq_true, ne_eq, Decidable.not_not] at c70
                  refine PW.ite (b := false) rfl ?_
                  rw [if_neg Bool.false_ne_true]
                  refine PW.ops ?_
                  refine OL.det trivial (Yields.pure rfl) ?_
                  refine OL.det trivial (Yields.pure rfl) ?_
                  refine OL.det trivial (Yields.pure rfl) ?_
                  refine OL.off rfl rfl ?_
                  refine OL.off rfl rfl ?_
                  refine OL.off rfl rfl ?_
                  refine OL.det trivial (Yields.pure rfl) ?_
                  refine OL.det trivial (Yields.pure rfl) ?_
                  refine OL.nil ?_
                  refine hK17 _ _ ?_
                  refine PW.keep (T' := [(0, _), (1, _), (8, _), (9, _), (10, _), (13, _), (14, _), (15, _), (16, _), (17, _), (70, _)]) ⟨rfl, rfl, rfl, rfl, rfl, rfl, rfl, rfl, rfl, rfl, rfl, trivial⟩ ?_
                  refine PW.ite (b := false) rfl ?_
                  rw [if_neg Bool.false_ne_true]
                  refine PW.skip ?_
                  refine hK15 _ _ ?_
                  refine PW.keep (T' := [(0, _), (1, _), (8, _), (9, _), (10, _), (13, _), (14, _), (15, _), (16, _), (17, _)]) ⟨rfl, rfl, rfl, rfl, rfl, rfl, rfl, rfl, rfl, rfl, trivial⟩ ?_
                  refine PW.seq fun K19 hK19 => ?_
                  refine PW.seqOps ?_
                  refine OL.det trivial (Yields.pure rfl) ?_
                  refine OL.nil ?_
                  refine PW.keep (T' := [(0, _), (1, _), (8, _), (9, _), (10, _), (14, _), (15, _), (16, _), (17, _), (100, _)]) ⟨rfl, rfl, rfl, rfl, rfl, rfl, rfl, rfl, rfl, rfl, trivial⟩ ?_
                  refine PW.ite (b := false) rfl ?_
                  rw [if_neg Bool.false_ne_true]
                  refine PW.skip ?_
                  refine hK19 _ _ ?_
                  refine PW.keep (T' := [(0, _), (1, _), (8, _), (9, _), (10, _), (14, _), (15, _), (16, _), (17, _)]) ⟨rfl, rfl, rfl, rfl, rfl, rfl, rfl, rfl, rfl, trivial⟩ ?_
                  refine PW.seqOps ?_
                  refine OL.det trivial (Yields.pure rfl) ?_
                  refine OL.nil ?_
                  refine PW.keep (T' := [(0, _), (1, _), (8, _), (9, _), (10, _), (15, _), (16, _), (17, _), (103, _)]) ⟨rfl, rfl, rfl, rfl, rfl, rfl, rfl, rfl, rfl, trivial⟩ ?_
                  refine PW.ite (b := true) rfl ?_
                  rw [if_pos rfl]
                  refine PW.seqOps ?_
                  refine OL.det trivial (Yields.pure rfl) ?_
                  try obtain ⟨aY, rfl⟩ := hy.some (strs_ne (by omega))
                  refine OL.det trivial (Yields.pure rfl) ?_
                  refine OL.det trivial (Yields.pure rfl) ?_
                  refine OL.det trivial (Yields.ixN1 rfl rfl rfl (by omega)) ?_
                  refine OL.det trivial (Yields.ld rfl (str_at hy.cons.cons (by omega))) ?_
                  apply OL.app1 (k := 1)
                  · rfl
                  · rfl
                  · rfl
                  · rfl
                  · rfl
                  · rfl
                  · exact hsl
                  · rfl
                  · omega
                  · unfold maxLen; omega
                  intro v110 seg110 hsl110
                  refine OL.det trivial (Yields.pure rfl) ?_
                  refine OL.nil ?_
                  refine PW.keep (T' := [(0, _), (1, _), (8, _), (9, _), (10, _), (15, _), (16, _), (17, _)]) ⟨rfl, rfl, rfl, rfl, rfl, rfl, rfl, rfl, trivial⟩ ?_
                  refine PW.ops ?_
                  refine OL.det trivial (Yields.pure rfl) ?_
                  refine OL.det trivial (Yields.add64 rfl rfl (by omega) (by omega)) ?_
                  refine OL.det trivial (Yields.pure rfl) ?_
                  refine OL.nil ?_
                  refine hK3 _ _ ?_
                  refine PW.keep (T' := [(0, _), (1, _), (8, _), (9, _), (10, _), (15, _), (16, _), (17, _)]) ⟨rfl, rfl, rfl, rfl, rfl, rfl, rfl, rfl, trivial⟩ ?_
                  refine PW.ops ?_
                  refine OL.det trivial (Yields.add64 rfl rfl (by omega) (by omega)) ?_
                  refine OL.det trivial (Yields.pure rfl) ?_
                  refine OL.nil ?_
                  repeat rw [inBlk_n]
                  rw [thenK_n]
                  refine LoopEnd.mkS (Sub.drop (Sub.refl _)) (T'' := [(0, _), (1, _), (8, _), (9, _), (10, _), (15, _), (16, _), (17, _)]) ⟨rfl, rfl, rfl, rfl, rfl, rfl, rfl, rfl, trivial⟩ ?_
                  refine ⟨l.length - (k + 1), by omega, k + 1, i, j + 1, o ++ [ys[j]], v110, seg110, ⟨by omega, by omega, by omega, rfl, ?_, by simp; omega, by rw [List.length_append, List.map_append]; exact hsl110⟩, rfl, rfl⟩
                  rw [foldP_succ hlt hfold]
                  exact stepF_new (by omega) (by omega) (by omega) (by omega)
          · try simp only [decide_eq_true_eq, decide_eq_false_iff_not, beq_iff_eq, bne_iff_ne, beq_eq_false_iff_ne, bne_eq_false_iff_eq, Bool.not_eq_true', Bool.not_eq_false', Bool.not_eq_true, ne_eq, Decidable.not_not] at g35
            refine QK.det trivial (Yields.pure rfl) ?_
            refine QK.det trivial (Yields.pure rfl) ?_
            refine QK.nil ?_
            change OL _ _ _ [_] _ _ _
            refine OL.det trivial (Yields.pure rfl) ?_
            refine OL.nil ?_
            refine hK4 _ _ ?_
            refine PW.keep (T' := [(0, _), (1, _), (8, _), (9, _), (10, _), (12, _), (13, _), (14, _), (15, _), (16, _), (17, _)]) ⟨rfl, rfl, rfl, rfl, rfl, rfl, rfl, rfl, rfl, rfl, rfl, trivial⟩ ?_
            refine PW.seq fun K20 hK20 => ?_
            refine PW.block ?_
            refine PW.seq fun K21 hK21 => ?_
            refine PW.seqOps ?_
            refine OL.det trivial (Yields.pure rfl) ?_
            refine OL.det trivial (Yields.pure rfl) ?_
            refine OL.det trivial (Yields.pure rfl) ?_
            refine OL.det rfl (Yields.pure rfl) ?_
            refine OL.det rfl (Yields.pure rfl) ?_
            refine OL.det trivial (Yields.pure rfl) ?_
            refine OL.det trivial (Yields.pure rfl) ?_
            refine OL.nil ?_
            refine PW.keep (T' := [(0, _), (1, _), (8, _), (9, _), (10, _), (12, _), (13, _), (14, _), (15, _), (16, _), (17, _), (37, _)]) ⟨rfl, rfl, rfl, rfl, rfl, rfl, rfl, rfl, rfl, rfl, rfl, rfl, trivial⟩ ?_
            refine PW.ite (b := true) rfl ?_
            rw [if_pos rfl]
            refine PW.skip ?_
            refine hK21 _ _ ?_
            refine PW.keep (T' := [(0, _), (1, _), (8, _), (9, _), (10, _), (12, _), (13, _), (14, _), (15, _), (16, _), (17, _), (37, _)]) ⟨rfl, rfl, rfl, rfl, rfl, rfl, rfl, rfl, rfl, rfl, rfl, rfl, trivial⟩ ?_
            refine PW.ite (b := true) rfl ?_
            rw [if_pos rfl]
            refine PW.seqOps ?_
            refine OL.det trivial (Yields.pure rfl) ?_
            refine OL.det trivial (Yields.pure rfl) ?_
            refine OL.nil ?_
            refine PW.keep (T' := [(6, _), (7, _)]) ⟨rfl, rfl, trivial⟩ ?_
            refine PW.ret ?_
            change (Exit.ret = Exit.normal ∨ Exit.ret = Exit.ret) ∧ ∃ v, resV _ _ = some v ∧ _
            refine ⟨.inr rfl, _, rfl, [] :: S, ?_, PlayOK.none (foldP_none hlt hfold (stepF_none ?_ ?_ ?_))⟩
            · exact Sub.nilL (Sub.drop (Sub.drop (Sub.refl S)))
            · intro a1 a2 a3 a4 a5 a6
              first | omega | (rw [List.getElem?_eq_getElem a2, List.getElem?_eq_getElem a3] at a6; exact c70 (by rw [Option.some.inj a6]))
            · intro a1 a2 a3 a4; omega
            · intro a1 a2 a3 a4; omega
  · try simp only [decide_eq_true_eq, decide_eq_false_iff_not, beq_iff_eq, bne_iff_ne, beq_eq_false_iff_ne, bne_eq_false_iff_eq, Bool.not_eq_true', Bool.not_eq_false', Bool.not_eq_true, ne_eq, Decidable.not_not] at c18
    refine PW.exit ?_
    refine hK1 _ _ ?_
    refine PW.keep (T' := [(0, _), (1, _), (8, _), (9, _), (10, _)]) ⟨rfl, rfl, rfl, rfl, rfl, trivial⟩ ?_
    refine PW.seq fun K22 hK22 => ?_
    refine PW.seqOps ?_
    refine OL.det trivial (Yields.pure rfl) ?_
    refine OL.det trivial (Yields.pure rfl) ?_
    refine OL.det trivial (Yields.pure rfl) ?_
    refine OL.det trivial (Yields.pure rfl) ?_
    refine OL.bool trivial (Yields.pure rfl) (fun g118 => ?_) (fun g118 => ?_)
    · try simp only [decide_eq_true_eq, decide_eq_false_iff_not, beq_iff_eq, bne_iff_ne, beq_eq_false_iff_ne, bne_eq_false_iff_eq, Bool.not_eq_true', Bool.not_eq_false', Bool.not_eq_true, ne_eq, Decidable.not_not] at g118
      refine OL.off rfl rfl ?_
      refine OL.off rfl rfl ?_
      refine OL.off rfl rfl ?_
      refine OL.off rfl rfl ?_
      refine OL.det trivial (Yields.pure rfl) ?_
      refine OL.nil ?_
      refine PW.keep (T' := [(8, _), (123, _)]) ⟨rfl, rfl, trivial⟩ ?_
      refine PW.ite (b := true) rfl ?_
      rw [if_pos rfl]
      refine PW.seqOps ?_
      refine OL.det trivial (Yields.pure rfl) ?_
      refine OL.det trivial (Yields.pure rfl) ?_
      refine OL.nil ?_
      refine PW.keep (T' := [(6, _), (7, _)]) ⟨rfl, rfl, trivial⟩ ?_
      refine PW.ret ?_
      change (Exit.ret = Exit.normal ∨ Exit.ret = Exit.ret) ∧ ∃ v, resV _ _ = some v ∧ _
      obtain rfl : k = l.length := by omega
      rw [List.take_length] at hfold
      refine ⟨.inr rfl, _, rfl, [] :: S, ?_, PlayOK.none ?_⟩
      · exact Sub.nilL (Sub.drop (Sub.refl S))
      · rw [playF_end hfold, if_pos (by omega)]
    · try simp only [decide_eq_true_eq, decide_eq_false_iff_not, beq_iff_eq, bne_iff_ne, beq_eq_false_iff_ne, bne_eq_false_iff_eq, Bool.not_eq_true', Bool.not_eq_false', Bool.not_eq_true, ne_eq, Decidable.not_not] at g118
      refine OL.det rfl (Yields.pure rfl) ?_
      refine OL.det rfl (Yields.pure rfl) ?_
      refine OL.det rfl (Yields.pure rfl) ?_
      refine OL.det rfl (Yields.pure rfl) ?_
      refine OL.det trivial (Yields.pure rfl) ?_
      refine OL.nil ?_
      refine PW.keep (T' := [(8, _), (123, _)]) ⟨rfl, rfl, trivial⟩ ?_
      refine PW.cond rfl (fun c123 => ?_) (fun c123 => ?_)
      · try simp only [decide_eq_true_eq, decide_eq_false_iff_not, beq_iff_eq, bne_iff_ne, beq_eq_false_iff_ne, bne_eq_false_iff_eq, Bool.not_eq_true', Bool.not_eq_false', Bool.not_eq_true, ne_eq, Decidable.not_not] at c123
        refine PW.seqOps ?_
        refine OL.det trivial (Yields.pure rfl) ?_
        refine OL.det trivial (Yields.pure rfl) ?_
        refine OL.nil ?_
        refine PW.keep (T' := [(6, _), (7, _)]) ⟨rfl, rfl, trivial⟩ ?_
        refine PW.ret ?_
        change (Exit.ret = Exit.normal ∨ Exit.ret = Exit.ret) ∧ ∃ v, resV _ _ = some v ∧ _
        obtain rfl : k = l.length := by omega
        rw [List.take_length] at hfold
        refine ⟨.inr rfl, _, rfl, [] :: S, ?_, PlayOK.none ?_⟩
        · exact Sub.nilL (Sub.drop (Sub.refl S))
        · rw [playF_end hfold, if_pos (by omega)]
      · try simp only [decide_eq_true_eq, decide_eq_false_iff_not, beq_iff_eq, bne_iff_ne, beq_eq_false_iff_ne, bne_eq_false_iff_eq, Bool.not_eq_true', Bool.not_eq_false', Bool.not_eq_true, ne_eq, Decidable.not_not] at c123
        refine PW.skip ?_
        refine hK22 _ _ ?_
        refine PW.keep (T' := [(8, _)]) ⟨rfl, trivial⟩ ?_
        refine PW.seqOps ?_
        refine OL.det trivial (Yields.pure rfl) ?_
        refine OL.det trivial (Yields.pure rfl) ?_
        refine OL.det trivial (Yields.pure rfl) ?_
        refine OL.nil ?_
        refine PW.keep (T' := [(6, _), (7, _)]) ⟨rfl, rfl, trivial⟩ ?_
        refine PW.ret ?_
        change (Exit.ret = Exit.normal ∨ Exit.ret = Exit.ret) ∧ ∃ v, resV _ _ = some v ∧ _
        obtain rfl : k = l.length := by omega
        rw [List.take_length] at hfold
        refine ⟨.inr rfl, _, rfl, seg :: S, Sub.refl _, ?_⟩
        rw [playF_end hfold, if_neg (by omega)]
        exact ⟨_, seg, rfl, rfl, hsl⟩

end Go.Proofs
