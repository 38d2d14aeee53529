/- Walks and plain facts for the laws of this seat: what each function answers, for every input. -/
import Derived.Test.YtbidjnjbiibdeaaDoorPaW6
set_option linter.unusedVariables false
set_option linter.unusedSimpArgs false
namespace Go.Proofs
open Go.SL Go.RowKit
set_option maxHeartbeats 1000000

def joinS : List ByteArray → List UInt8
  | [] => []
  | [x] => x.data.toList
  | x :: y :: r => x.data.toList ++ 47 :: joinS (y :: r)
theorem join_snoc : ∀ (xs : List ByteArray) (y : ByteArray), xs ≠ [] → joinS (xs ++ [y]) = joinS xs ++ 47 :: y.data.toList
  | [], y, h => absurd rfl h
  | [x], y, _ => rfl
  | x :: z :: r, y, _ => by
    have ih := join_snoc (z :: r) y (by simp)
    simp only [List.cons_append] at ih ⊢
    simp only [joinS]
    rw [ih]
    simp
theorem join_cut : ∀ l : List UInt8, joinS (cutL l) = l
  | [] => rfl
  | b :: r => by
    have ih := join_cut r
    have hn := cut_ne r
    simp only [cutL]
    split
    · rename_i h
      subst h
      cases hc : cutL r with
      | nil => exact absurd hc hn
      | cons x xs => rw [hc] at ih; simp only [joinS]; rw [ih]; rfl
    · split
      · rename_i x xs e
        rw [e] at ih
        cases xs with
        | nil => simp only [joinS] at ih ⊢; rw [← ih]
        | cons y ys => simp only [joinS] at ih ⊢; rw [← ih]; simp
      · rename_i e; exact absurd e hn
theorem cut_app : ∀ (a b : List UInt8), cutL (a ++ 47 :: b) = cutL a ++ cutL b
  | [], b => by simp [cutL]
  | x :: a, b => by
    have ih := cut_app a b
    have hn := cut_ne a
    simp only [List.cons_append, cutL]
    rw [ih]
    split
    · rfl
    · cases hc : cutL a with
      | nil => exact absurd hc hn
      | cons y ys => simp
theorem join_le : ∀ (ps : List ByteArray) (k : Nat), (joinS (ps.take k)).length ≤ (joinS ps).length
  | [], k => by simp
  | x :: r, 0 => by simp [joinS]
  | [x], k + 1 => by simp [joinS]
  | x :: y :: r, 1 => by simp [joinS]
  | x :: y :: r, k + 2 => by
    have ih := join_le (y :: r) (k + 1)
    simp only [List.take_succ_cons, joinS] at ih ⊢
    simp only [List.length_append, List.length_cons]
    omega
def joinB (l : List ByteArray) : ByteArray := ⟨(joinS l).toArray⟩
theorem joinB_list (l : List ByteArray) : (joinB l).data.toList = joinS l := rfl
theorem joinB_size (l : List ByteArray) : (joinB l).size = (joinS l).length := by
  have : (joinB l).data.toList.length = (joinB l).size := by simp
  rw [← this, joinB_list]
def overL (ps : List ByteArray) (k : Nat) : List ByteArray := (List.range k).map fun i => joinB (ps.take (i + 1))
theorem over_len (ps : List ByteArray) (k : Nat) : (overL ps k).length = k := by simp [overL]
theorem over_succ (ps : List ByteArray) (k : Nat) : overL ps (k + 1) = overL ps k ++ [joinB (ps.take (k + 1))] := by simp [overL, List.range_succ]
theorem over_get (ps : List ByteArray) {k n : Nat} (h : n < (overL ps k).length) : (overL ps k)[n] = joinB (ps.take (n + 1)) := by simp [overL]
theorem join_step0 {ps : List ByteArray} (h : 0 < ps.length) : joinB (ps.take 0) ++ ps[0] = joinB (ps.take 1) := by
  apply ba_ext
  rw [app_list, joinB_list, joinB_list]
  cases ps with
  | nil => simp at h
  | cons x r => simp [joinS]
theorem join_step {ps : List ByteArray} {k : Nat} (h : k < ps.length) (hk : 0 < k) : joinB (ps.take k) ++ slB ++ ps[k] = joinB (ps.take (k + 1)) := by
  apply ba_ext
  rw [app_list, app_list, joinB_list, joinB_list, List.take_add_one, List.getElem?_eq_getElem h]
  simp only [Option.toList]
  rw [join_snoc _ _ (by intro e; have := congrArg List.length e; rw [List.length_take, List.length_nil] at this; omega)]
  simp [slB]
theorem all_join (s : ByteArray) : joinB (partsP s) = s := ba_ext (by rw [joinB_list]; exact join_cut _)
theorem is_parts {s : ByteArray} (h : isP s = true) : s.size ≤ 60 ∧ (partsP s).length ≤ 8 ∧ ∀ x ∈ partsP s, partP x = true := by
  unfold isP at h
  simp only [Bool.and_eq_true, decide_eq_true_eq, List.all_eq_true] at h
  exact ⟨h.1.1, h.1.2, h.2⟩
theorem is_first {s : ByteArray} (h : isP s = true) : s.data.toList[0]? ≠ some 47 := by
  intro e
  obtain ⟨_, _, h3⟩ := is_parts h
  cases hl : s.data.toList with
  | nil => rw [hl] at e; simp at e
  | cons b r =>
    rw [hl] at e
    simp at e
    subst e
    have := h3 ⟨#[]⟩ (by unfold partsP; rw [hl]; simp [cutL])
    revert this
    decide +kernel
/-- the beginnings of a path that end at a slash, or are the whole -/
def ends (s : ByteArray) (i : Nat) : Prop := i = s.size ∨ s.data.toList[i]? = some 47
theorem end_parts {s : ByteArray} {i : Nat} (hi : i ≤ s.size) (h : ends s i) : ∃ r, partsP s = partsP (s.extract 0 i) ++ r := by
  have hl : s.data.toList.length = s.size := by simp
  unfold partsP
  rw [ext_list, List.drop_zero]
  rcases h with rfl | h
  · exact ⟨[], by rw [List.take_of_length_le (by omega), List.append_nil]⟩
  · have h1 := List.getElem?_eq_some_iff.1 h
    refine ⟨cutL (s.data.toList.drop (i + 1)), ?_⟩
    rw [← cut_app]
    congr 1
    conv => lhs; rw [← List.take_append_drop i s.data.toList, List.drop_eq_getElem_cons h1.1, h1.2]
theorem ext_size {s : ByteArray} {i : Nat} (hi : i ≤ s.size) : (s.extract 0 i).size = i := by
  have : (s.extract 0 i).data.toList.length = (s.extract 0 i).size := by simp
  rw [← this, ext_list]
  have hl : s.data.toList.length = s.size := by simp
  simp; omega
theorem end_is {s : ByteArray} {i : Nat} (h : isP s = true) (hi : i ≤ s.size) (he : ends s i) : isP (s.extract 0 i) = true := by
  obtain ⟨r, hr⟩ := end_parts hi he
  obtain ⟨h1, h2, h3⟩ := is_parts h
  unfold isP
  simp only [Bool.and_eq_true, decide_eq_true_eq, List.all_eq_true]
  refine ⟨⟨by rw [ext_size hi]; omega, by rw [hr] at h2; simp at h2; omega⟩, fun x hx => h3 x (by rw [hr]; simp [hx])⟩
theorem under_ext {s : ByteArray} {i : Nat} (h : isP s = true) (h1 : 1 ≤ i) (hi : i ≤ s.size) : underP (s.extract 0 i) s = true ↔ ends s i := by
  have hl : s.data.toList.length = s.size := by simp
  have hz := ext_size hi
  rw [under_iff]
  constructor
  · rintro ⟨_, _, h3⟩
    rcases h3 with h3 | h3 | h3
    · exfalso; rw [h3] at hz; have hz2 : (0 : Nat) = i := hz; omega
    · left; rw [h3] at hz; omega
    · right
      have := (pre_snoc.1 h3).2
      rw [ext_list, List.drop_zero, List.length_take, Nat.min_eq_left (by omega)] at this
      exact this
  · intro he
    refine ⟨h, is_pref (end_is h hi he), ?_⟩
    rcases he with rfl | he
    · exact .inr (.inl (ba_ext (by rw [ext_list, List.drop_zero, List.take_of_length_le (by omega)])))
    · right; right
      rw [ext_list, List.drop_zero]
      exact pre_snoc.2 ⟨List.take_prefix _ _, by rw [List.length_take, Nat.min_eq_left (by omega)]; exact he⟩
def cntP (s : ByteArray) (i : Nat) : Nat := Lib.countByte (s.data.toList.take i) 47
theorem end_get {s : ByteArray} {i : Nat} (hi : i ≤ s.size) (he : ends s i) : cntP s i < (partsP s).length ∧ joinB ((partsP s).take (cntP s i + 1)) = s.extract 0 i := by
  obtain ⟨r, hr⟩ := end_parts hi he
  have hlen : (partsP (s.extract 0 i)).length = cntP s i + 1 := by
    rw [parts_len]; unfold numP cntP; rw [ext_list, List.drop_zero]
  refine ⟨by rw [hr]; simp; omega, ?_⟩
  rw [hr, ← hlen, List.take_left]
  exact all_join _
theorem cnt_one {s : ByteArray} (h : isP s = true) : cntP s 1 = 0 := by
  have := is_first h
  unfold cntP Lib.countByte
  cases hl : s.data.toList with
  | nil => rfl
  | cons b r =>
    rw [hl] at this
    simp at this
    simp [this]
theorem cnt_step {s : ByteArray} {i : Nat} (hi : i < s.size) : cntP s (i + 1) = cntP s i + (if s.data.toList[i]? = some 47 then 1 else 0) := by
  have h : i < s.data.toList.length := by simpa using hi
  unfold cntP Lib.countByte
  rw [List.take_add_one, List.count_append, List.getElem?_eq_getElem h]
  simp only [Option.toList, Option.some.injEq]
  rw [List.count_singleton]
  by_cases e : s.data.toList[i] = 47
  · simp [e]
  · simp [e]
def hits (s : ByteArray) (i : Nat) : Nat := if i = s.size + 1 then (partsP s).length else cntP s i
theorem hits_end (s : ByteArray) {i : Nat} (h1 : ¬ i ≤ s.size) (h2 : i ≤ s.size + 1) : hits s i = (partsP s).length := by unfold hits; rw [if_pos (by omega)]
theorem hits_at {s : ByteArray} {i : Nat} (hi : i ≤ s.size) : hits s i = cntP s i := by unfold hits; rw [if_neg (by omega)]
theorem hits_yes {s : ByteArray} {i : Nat} (hi : i ≤ s.size) (he : ends s i) : hits s (i + 1) = hits s i + 1 := by
  rw [hits_at hi]
  rcases Nat.lt_or_ge i s.size with h | h
  · rw [hits_at (by omega), cnt_step h]
    rcases he with e | e
    · omega
    · rw [if_pos e]
  · obtain rfl : i = s.size := by omega
    rw [hits_end s (by omega) (by omega), parts_len]
    unfold numP cntP
    rw [List.take_of_length_le (by simp)]
theorem hits_no {s : ByteArray} {i : Nat} (hi : i ≤ s.size) (he : ¬ ends s i) : hits s (i + 1) = hits s i := by
  have h : i < s.size := by
    rcases Nat.lt_or_ge i s.size with h | h
    · exact h
    · exact absurd (.inl (by omega)) he
  rw [hits_at hi, hits_at (by omega), cnt_step h, if_neg (fun e => he (.inr e))]
  rfl
theorem pathsBack_fc {w0 : World} {s0 : ByteArray} (hs0 : s0.size ≤ 140737488351232) : FC Tryd.prog w0 7 [.string s0] [] (fun v _ => v = .bool true) := by
  refine FC.of Tryd.known7 (by simp) ?_
  unfold Tryd.pc7
  simp only [argT]
  refine PW.seqOps ?_
  refine OL.det trivial (Yields.pure rfl) ?_
  refine OL.nil ?_
  refine PW.keep (T' := [(0, _)]) ⟨rfl, trivial⟩ ?_
  refine PW.seqOps ?_
  refine OL.det trivial (Yields.pure rfl) ?_
  refine OL.call trivial rfl (cut_fc (by omega)) ?_
  rintro _ Sx ⟨rfl, hSx⟩
  rw [hSx]
  clear hSx
  have hs := cut_le s0
  have hpls := parts_len_le (cutB s0)
  generalize cutB s0 = s at *
  refine OL.det trivial (Yields.pure rfl) ?_
  refine OL.nil ?_
  refine PW.keep (T' := [(0, _)]) ⟨rfl, trivial⟩ ?_
  refine PW.seqOps ?_
  refine OL.det trivial (Yields.pure rfl) ?_
  refine OL.call trivial rfl (parts_fc (by omega)) ?_
  rintro _ _ ⟨A1, cap1, seg1, rfl, rfl, hrd1⟩
  refine OL.det trivial (Yields.pure rfl) ?_
  refine OL.nil ?_
  refine PW.keep (T' := [(0, _), (3, _)]) ⟨rfl, rfl, trivial⟩ ?_
  refine PW.seq fun K1 hK1 => ?_
  refine PW.seqOps ?_
  refine OL.det trivial (Yields.pure rfl) ?_
  refine OL.det trivial (Yields.pure rfl) ?_
  refine OL.det trivial (Yields.pure rfl) ?_
  refine OL.nil ?_
  refine PW.keep (T' := [(0, _), (3, _), (15, _)]) ⟨rfl, rfl, rfl, trivial⟩ ?_
  refine PW.cond rfl (fun c15 => ?_) (fun c15 => ?_)
  · try simp only [decide_eq_true_eq, decide_eq_false_iff_not, beq_iff_eq, bne_iff_ne, beq_eq_false_iff_ne, bne_eq_false_iff_eq, Bool.not_eq_true', Bool.not_eq_false', Bool.not_eq_true, ne_eq, Decidable.not_not] at c15
    have hnis : ¬ isP s = true := fun h => by
      unfold partsQ at c15
      rw [if_pos h, parts_len] at c15
      omega
    refine PW.seqOps ?_
    refine OL.det trivial (Yields.pure rfl) ?_
    refine OL.call trivial rfl (check_fc (by omega)) ?_
    rintro _ Sx ⟨rfl, hSx⟩
    rw [hSx]
    clear hSx
    refine OL.det trivial (Yields.pure rfl) ?_
    refine OL.bool trivial (Yields.pure rfl) (fun g19 => ?_) (fun g19 => ?_)
    · try simp only [decide_eq_true_eq, decide_eq_false_iff_not, beq_iff_eq, bne_iff_ne, beq_eq_false_iff_ne, bne_eq_false_iff_eq, Bool.not_eq_true', Bool.not_eq_false', Bool.not_eq_true, ne_eq, Decidable.not_not] at g19
      refine OL.call rfl rfl (works_fc) ?_
      rintro _ _ ⟨rfl, _⟩
      refine OL.det trivial (Yields.pure rfl) ?_
      refine OL.det trivial (Yields.pure rfl) ?_
      refine OL.nil ?_
      refine PW.keep (T' := [(2, _)]) ⟨rfl, trivial⟩ ?_
      refine PW.ret ?_
      change (Exit.ret = Exit.normal ∨ Exit.ret = Exit.ret) ∧ ∃ v, resV _ _ = some v ∧ _
      exact ⟨.inr rfl, _, rfl, rfl⟩
    · try simp only [decide_eq_true_eq, decide_eq_false_iff_not, beq_iff_eq, bne_iff_ne, beq_eq_false_iff_ne, bne_eq_false_iff_eq, Bool.not_eq_true', Bool.not_eq_false', Bool.not_eq_true, ne_eq, Decidable.not_not] at g19
      exfalso; revert g19; unfold chkP; rw [if_neg hnis]; decide
      -- done
  · try simp only [decide_eq_true_eq, decide_eq_false_iff_not, beq_iff_eq, bne_iff_ne, beq_eq_false_iff_ne, bne_eq_false_iff_eq, Bool.not_eq_true', Bool.not_eq_false', Bool.not_eq_true, ne_eq, Decidable.not_not] at c15
    have hisp : isP s = true := by
      rcases Bool.eq_false_or_eq_true (isP s) with h | h
      · exact h
      · exfalso; apply c15; unfold partsQ; rw [if_neg (by rw [h]; simp)]; rfl
    have hq : partsQ s = partsP s := by unfold partsQ; rw [if_pos hisp]
    rw [hq] at hrd1 ⊢
    have hs60 := (is_parts hisp).1
    have hs1 : 1 ≤ s.size := by
      rcases Nat.eq_zero_or_pos s.size with h | h
      · exact absurd (ba_ext (List.eq_nil_of_length_eq_zero (by simpa using h))) (isP_ne hisp)
      · exact h
    refine PW.skip ?_
    refine hK1 _ _ ?_
    refine PW.keep (T' := [(0, _), (3, _)]) ⟨rfl, rfl, trivial⟩ ?_
    refine PW.seqOps ?_
    refine OL.det trivial (Yields.pure rfl) ?_
    refine OL.nil ?_
    refine PW.keep (T' := [(0, _), (3, _), (4, _)]) ⟨rfl, rfl, rfl, trivial⟩ ?_
    refine PW.seqOps ?_
    refine OL.nilseg ?_
    refine OL.det trivial (Yields.pure rfl) ?_
    refine OL.nil ?_
    refine PW.keep (T' := [(0, _), (3, _), (4, _), (5, _)]) ⟨rfl, rfl, rfl, rfl, trivial⟩ ?_
    refine PW.seq fun K2 hK2 => ?_
    refine PW.seqOps ?_
    refine OL.det trivial (Yields.pure rfl) ?_
    refine OL.nil ?_
    refine PW.keep (T' := [(0, _), (3, _), (4, _), (5, _), (6, _)]) ⟨rfl, rfl, rfl, rfl, rfl, trivial⟩ ?_
    refine PW.block ?_
    refine PW.keep (T' := [(0, _), (3, _), (4, _), (5, _), (6, _)]) ⟨rfl, rfl, rfl, rfl, rfl, trivial⟩ ?_
    refine PW.loopK (I := fun m T S' => ∃ (k : Nat) (w : Value) (sb : Seg), (k ≤ (partsP s).length ∧ m = (partsP s).length - k ∧ SlV 9 1 w k (strs (overL (partsP s) k)) sb) ∧ T = ([(0, .string s), (3, .slice A1 (partsP s).length cap1), (4, .string (joinB ((partsP s).take k))), (5, w), (6, .int .i64 k)] : TT) ∧ S' = sb :: seg1 :: []) (m := (partsP s).length) ⟨0, _, [], ⟨by omega, by omega, SlV.nil 9 1⟩, rfl, rfl⟩ ?_
    rintro m _ _ ⟨k, w, sb, ⟨hk, hm, hv⟩, rfl, rfl⟩
    refine PW.seq fun K3 hK3 => ?_
    refine PW.seqOps ?_
    refine OL.det trivial (Yields.pure rfl) ?_
    refine OL.det trivial (Yields.pure rfl) ?_
    refine OL.det trivial (Yields.pure rfl) ?_
    refine OL.det trivial (Yields.pure rfl) ?_
    refine OL.nil ?_
    refine PW.keep (T' := [(0, _), (3, _), (4, _), (5, _), (6, _), (25, _)]) ⟨rfl, rfl, rfl, rfl, rfl, rfl, trivial⟩ ?_
    refine PW.cond rfl (fun c25 => ?_) (fun c25 => ?_)
    · try simp only [decide_eq_true_eq, decide_eq_false_iff_not, beq_iff_eq, bne_iff_ne, beq_eq_false_iff_ne, bne_eq_false_iff_eq, Bool.not_eq_true', Bool.not_eq_false', Bool.not_eq_true, ne_eq, Decidable.not_not] at c25
      have hkl : k < (partsP s).length := by omega
      obtain ⟨b1, rfl⟩ := (hrd1 []).some (strs_ne (by omega))
      have hsz1 := parts_size (List.getElem_mem hkl)
      have hjl := join_le (partsP s) k
      rw [show joinS (partsP s) = s.data.toList from join_cut _] at hjl
      have hsl : s.data.toList.length = s.size := by simp
      have hjz := joinB_size ((partsP s).take k)
      refine PW.skip ?_
      refine hK3 _ _ ?_
      refine PW.keep (T' := [(0, _), (3, _), (4, _), (5, _), (6, _)]) ⟨rfl, rfl, rfl, rfl, rfl, trivial⟩ ?_
      refine PW.seq fun K4 hK4 => ?_
      refine PW.block ?_
      refine PW.seq fun K5 hK5 => ?_
      refine PW.seqOps ?_
      refine OL.det trivial (Yields.pure rfl) ?_
      refine OL.det trivial (Yields.pure rfl) ?_
      refine OL.nil ?_
      refine PW.keep (T' := [(0, _), (3, _), (4, _), (5, _), (6, _), (29, _)]) ⟨rfl, rfl, rfl, rfl, rfl, rfl, trivial⟩ ?_
      refine PW.cond rfl (fun c29 => ?_) (fun c29 => ?_)
      · try simp only [decide_eq_true_eq, decide_eq_false_iff_not, beq_iff_eq, bne_iff_ne, beq_eq_false_iff_ne, bne_eq_false_iff_eq, Bool.not_eq_true', Bool.not_eq_false', Bool.not_eq_true, ne_eq, Decidable.not_not] at c29
        refine PW.ops ?_
        refine OL.det trivial (Yields.pure rfl) ?_
        refine OL.det trivial (yields_cat (a := joinB ((partsP s).take k)) (b := slB) rfl rfl (by rw [hjz, show slB.size = 1 from rfl]; omega)) ?_
        refine OL.det trivial (Yields.pure rfl) ?_
        refine OL.nil ?_
        refine hK5 _ _ ?_
        refine PW.keep (T' := [(0, _), (3, _), (4, _), (5, _), (6, _)]) ⟨rfl, rfl, rfl, rfl, rfl, trivial⟩ ?_
        refine PW.seqOps ?_
        refine OL.det trivial (Yields.pure rfl) ?_
        refine OL.det trivial (Yields.pure rfl) ?_
        refine OL.det trivial (Yields.pure rfl) ?_
        refine OL.det trivial (Yields.ixN1 rfl rfl rfl (by omega)) ?_
        refine OL.det trivial (Yields.ld rfl (strs_at (Rd.cons (hrd1 [])) hkl)) ?_
        refine OL.det trivial (yields_cat rfl rfl (by first | (rw [app_size, hjz, show slB.size = 1 from rfl]; omega) | (rw [hjz]; omega))) ?_
        refine OL.det trivial (Yields.pure rfl) ?_
        refine OL.nil ?_
        refine PW.keep (T' := [(0, _), (3, _), (4, _), (5, _), (6, _)]) ⟨rfl, rfl, rfl, rfl, rfl, trivial⟩ ?_
        refine PW.ops ?_
        refine OL.det trivial (Yields.pure rfl) ?_
        refine OL.det trivial (Yields.pure rfl) ?_
        apply OL.app1 (k := 0)
        · rfl
        · rfl
        · rfl
        · rfl
        · rfl
        · rfl
        · exact hv
        · rfl
        · omega
        · unfold maxLen; omega
        intro v41 seg41 hsl41
        refine OL.det trivial (Yields.pure rfl) ?_
        refine OL.nil ?_
        refine hK4 _ _ ?_
        refine PW.keep (T' := [(0, _), (3, _), (4, _), (5, _), (6, _)]) ⟨rfl, rfl, rfl, rfl, rfl, trivial⟩ ?_
        refine PW.ops ?_
        refine OL.det trivial (Yields.pure rfl) ?_
        refine OL.det trivial (Yields.add64 rfl rfl (by omega) (by omega)) ?_
        refine OL.det trivial (Yields.pure rfl) ?_
        refine OL.nil ?_
        repeat rw [inBlk_n]
        rw [thenK_n]
        refine LoopEnd.mk (T'' := [(0, _), (3, _), (4, _), (5, _), (6, _)]) ⟨rfl, rfl, rfl, rfl, rfl, trivial⟩ ?_
        have hj := join_step hkl (by omega)
        refine ⟨(partsP s).length - (k + 1), by omega, k + 1, v41, seg41, ⟨by omega, rfl, ?_⟩, by rw [← hj]; rfl, rfl⟩
        rw [over_succ, ← hj, show ∀ (x : List ByteArray) (y : ByteArray), strs (x ++ [y]) = strs x ++ [Value.string y] from fun x y => by simp [strs]]
        exact hsl41
      · try simp only [decide_eq_true_eq, decide_eq_false_iff_not, beq_iff_eq, bne_iff_ne, beq_eq_false_iff_ne, bne_eq_false_iff_eq, Bool.not_eq_true', Bool.not_eq_false', Bool.not_eq_true, ne_eq, Decidable.not_not] at c29
        refine PW.skip ?_
        refine hK5 _ _ ?_
        refine PW.keep (T' := [(0, _), (3, _), (4, _), (5, _), (6, _)]) ⟨rfl, rfl, rfl, rfl, rfl, trivial⟩ ?_
        refine PW.seqOps ?_
        refine OL.det trivial (Yields.pure rfl) ?_
        refine OL.det trivial (Yields.pure rfl) ?_
        refine OL.det trivial (Yields.pure rfl) ?_
        refine OL.det trivial (Yields.ixN1 rfl rfl rfl (by omega)) ?_
        refine OL.det trivial (Yields.ld rfl (strs_at (Rd.cons (hrd1 [])) hkl)) ?_
        refine OL.det trivial (yields_cat rfl rfl (by first | (rw [app_size, hjz, show slB.size = 1 from rfl]; omega) | (rw [hjz]; omega))) ?_
        refine OL.det trivial (Yields.pure rfl) ?_
        refine OL.nil ?_
        refine PW.keep (T' := [(0, _), (3, _), (4, _), (5, _), (6, _)]) ⟨rfl, rfl, rfl, rfl, rfl, trivial⟩ ?_
        refine PW.ops ?_
        refine OL.det trivial (Yields.pure rfl) ?_
        refine OL.det trivial (Yields.pure rfl) ?_
        apply OL.app1 (k := 0)
        · rfl
        · rfl
        · rfl
        · rfl
        · rfl
        · rfl
        · exact hv
        · rfl
        · omega
        · unfold maxLen; omega
        intro v41 seg41 hsl41
        refine OL.det trivial (Yields.pure rfl) ?_
        refine OL.nil ?_
        refine hK4 _ _ ?_
        refine PW.keep (T' := [(0, _), (3, _), (4, _), (5, _), (6, _)]) ⟨rfl, rfl, rfl, rfl, rfl, trivial⟩ ?_
        refine PW.ops ?_
        refine OL.det trivial (Yields.pure rfl) ?_
        refine OL.det trivial (Yields.add64 rfl rfl (by omega) (by omega)) ?_
        refine OL.det trivial (Yields.pure rfl) ?_
        refine OL.nil ?_
        repeat rw [inBlk_n]
        rw [thenK_n]
        refine LoopEnd.mk (T'' := [(0, _), (3, _), (4, _), (5, _), (6, _)]) ⟨rfl, rfl, rfl, rfl, rfl, trivial⟩ ?_
        obtain rfl : k = 0 := by omega
        have hj := join_step0 hkl
        refine ⟨(partsP s).length - (0 + 1), by omega, 0 + 1, v41, seg41, ⟨by omega, rfl, ?_⟩, by rw [← hj]; rfl, rfl⟩
        rw [over_succ, ← hj, show ∀ (x : List ByteArray) (y : ByteArray), strs (x ++ [y]) = strs x ++ [Value.string y] from fun x y => by simp [strs]]
        exact hsl41
    · try simp only [decide_eq_true_eq, decide_eq_false_iff_not, beq_iff_eq, bne_iff_ne, beq_eq_false_iff_ne, bne_eq_false_iff_eq, Bool.not_eq_true', Bool.not_eq_false', Bool.not_eq_true, ne_eq, Decidable.not_not] at c25
      refine PW.exit ?_
      refine hK2 _ _ ?_
      refine PW.keep (T' := [(0, _), (4, _), (5, _)]) ⟨rfl, rfl, rfl, trivial⟩ ?_
      refine PW.seq fun K6 hK6 => ?_
      refine PW.seqOps ?_
      refine OL.det trivial (Yields.pure rfl) ?_
      refine OL.det trivial (Yields.pure rfl) ?_
      refine OL.det trivial (Yields.pure rfl) ?_
      refine OL.nil ?_
      refine PW.keep (T' := [(0, _), (5, _), (44, _)]) ⟨rfl, rfl, rfl, trivial⟩ ?_
      refine PW.cond rfl (fun c44 => ?_) (fun c44 => ?_)
      · try simp only [decide_eq_true_eq, decide_eq_false_iff_not, beq_iff_eq, bne_iff_ne, beq_eq_false_iff_ne, bne_eq_false_iff_eq, Bool.not_eq_true', Bool.not_eq_false', Bool.not_eq_true, ne_eq, Decidable.not_not] at c44
        exfalso; apply c44; rw [toL_inj, show k = (partsP s).length by omega, List.take_length, all_join]
        -- done
      · try simp only [decide_eq_true_eq, decide_eq_false_iff_not, beq_iff_eq, bne_iff_ne, beq_eq_false_iff_ne, bne_eq_false_iff_eq, Bool.not_eq_true', Bool.not_eq_false', Bool.not_eq_true, ne_eq, Decidable.not_not] at c44
        obtain rfl : k = (partsP s).length := by omega
        obtain ⟨A2, cap2, rfl, hrd2, _⟩ := hv.rd (w0 := w0) (S := [sb, seg1]) (k := 0) rfl
        have hu : underP ⟨#[]⟩ s = true := (under_iff _ _).2 ⟨hisp, rfl, .inl rfl⟩
        refine PW.skip ?_
        refine hK6 _ _ ?_
        refine PW.keep (T' := [(0, _), (5, _)]) ⟨rfl, rfl, trivial⟩ ?_
        refine PW.seqOps ?_
        refine OL.det trivial (Yields.pure rfl) ?_
        refine OL.nil ?_
        refine PW.keep (T' := [(0, _), (5, _), (7, _)]) ⟨rfl, rfl, rfl, trivial⟩ ?_
        refine PW.seq fun K7 hK7 => ?_
        refine PW.seqOps ?_
        refine OL.det trivial (Yields.pure rfl) ?_
        refine OL.nil ?_
        refine PW.keep (T' := [(0, _), (5, _), (7, _), (8, _)]) ⟨rfl, rfl, rfl, rfl, trivial⟩ ?_
        refine PW.block ?_
        refine PW.keep (T' := [(0, _), (5, _), (7, _), (8, _)]) ⟨rfl, rfl, rfl, rfl, trivial⟩ ?_
        refine PW.loopK (I := fun m T S' => ∃ (n i : Nat), (1 ≤ i ∧ i ≤ s.size + 1 ∧ m = s.size + 1 - i ∧ n = hits s i) ∧ T = ([(0, .string s), (5, .slice A2 (partsP s).length cap2), (7, .int .i64 n), (8, .int .i64 i)] : TT) ∧ S' = sb :: seg1 :: []) (m := s.size) ⟨0, 1, ⟨by omega, by omega, by omega, by rw [hits_at (by omega), cnt_one hisp]⟩, rfl, rfl⟩ ?_
        rintro m _ _ ⟨n, i, ⟨h1i, hi, hm, hn⟩, rfl, rfl⟩
        refine PW.seq fun K8 hK8 => ?_
        refine PW.seqOps ?_
        refine OL.det trivial (Yields.pure rfl) ?_
        refine OL.det trivial (Yields.pure rfl) ?_
        refine OL.det trivial (Yields.pure rfl) ?_
        refine OL.det trivial (Yields.pure rfl) ?_
        refine OL.nil ?_
        refine PW.keep (T' := [(0, _), (5, _), (7, _), (8, _), (48, _)]) ⟨rfl, rfl, rfl, rfl, rfl, trivial⟩ ?_
        refine PW.cond rfl (fun c48 => ?_) (fun c48 => ?_)
        · try simp only [decide_eq_true_eq, decide_eq_false_iff_not, beq_iff_eq, bne_iff_ne, beq_eq_false_iff_ne, bne_eq_false_iff_eq, Bool.not_eq_true', Bool.not_eq_false', Bool.not_eq_true, ne_eq, Decidable.not_not] at c48
          have hie : i ≤ s.size := by omega
          have hext := under_ext hisp h1i hie
          refine PW.skip ?_
          refine hK8 _ _ ?_
          refine PW.keep (T' := [(0, _), (5, _), (7, _), (8, _)]) ⟨rfl, rfl, rfl, rfl, trivial⟩ ?_
          refine PW.seq fun K9 hK9 => ?_
          refine PW.block ?_
          refine PW.seqOps ?_
          refine OL.det trivial (Yields.pure rfl) ?_
          refine OL.det trivial (Yields.pure rfl) ?_
          refine OL.det trivial (Yields.slStr (s := s) (l := 0) (h := i) rfl rfl rfl (.inr ⟨rfl, rfl⟩) (.inl rfl) (by omega) (by omega)) ?_
          refine OL.det trivial (Yields.pure rfl) ?_
          refine OL.call trivial rfl (under_fc (by rw [ext_size hie]; omega) (by omega)) ?_
          rintro _ Sx ⟨rfl, hSx⟩
          rw [hSx]
          clear hSx
          refine OL.nil ?_
          refine PW.keep (T' := [(0, _), (5, _), (7, _), (8, _), (55, _)]) ⟨rfl, rfl, rfl, rfl, rfl, trivial⟩ ?_
          refine PW.cond rfl (fun c55 => ?_) (fun c55 => ?_)
          · try simp only [decide_eq_true_eq, decide_eq_false_iff_not, beq_iff_eq, bne_iff_ne, beq_eq_false_iff_ne, bne_eq_false_iff_eq, Bool.not_eq_true', Bool.not_eq_false', Bool.not_eq_true, ne_eq, Decidable.not_not] at c55
            have hend := hext.1 c55
            have hgt := end_get hie hend
            have hh := hits_at hie
            have hn3 : n < (overL (partsP s) (partsP s).length).length := by rw [over_len]; omega
            have hn4 := over_len (partsP s) (partsP s).length
            have hget : joinB ((partsP s).take (n + 1)) = s.extract 0 i := by rw [hn, hh]; exact hgt.2
            have hchk : chkP (s.extract 0 i) = 0 := by unfold chkP; rw [if_pos (end_is hisp hie hend)]
            have hxs := ext_size hie
            obtain ⟨b2, rfl⟩ := hrd2.some (strs_ne (by omega))
            refine PW.seq fun K10 hK10 => ?_
            refine PW.seq fun K11 hK11 => ?_
            refine PW.quietK Tryd.mixed ?_
            refine QK.det trivial (Yields.pure rfl) ?_
            refine QK.det trivial (Yields.pure rfl) ?_
            refine QK.det trivial (Yields.pure rfl) ?_
            refine QK.det trivial (Yields.pure rfl) ?_
            refine QK.bool trivial (Yields.pure rfl) (fun g60 => ?_) (fun g60 => ?_)
            · try simp only [decide_eq_true_eq, decide_eq_false_iff_not, beq_iff_eq, bne_iff_ne, beq_eq_false_iff_ne, bne_eq_false_iff_eq, Bool.not_eq_true', Bool.not_eq_false', Bool.not_eq_true, ne_eq, Decidable.not_not] at g60
              exfalso; omega
              -- done
            · try simp only [decide_eq_true_eq, decide_eq_false_iff_not, beq_iff_eq, bne_iff_ne, beq_eq_false_iff_ne, bne_eq_false_iff_eq, Bool.not_eq_true', Bool.not_eq_false', Bool.not_eq_true, ne_eq, Decidable.not_not] at g60
              refine QK.det rfl (Yields.pure rfl) ?_
              refine QK.det rfl (Yields.pure rfl) ?_
              refine QK.det rfl (Yields.ixN1 rfl rfl rfl (by omega)) ?_
              refine QK.det rfl (Yields.ld rfl (strs_at hrd2 hn3)) ?_
              refine QK.det rfl (Yields.pure rfl) ?_
              refine QK.det rfl (Yields.pure rfl) ?_
              refine QK.det rfl (Yields.slStr (s := s) (l := 0) (h := i) rfl rfl rfl (.inr ⟨rfl, rfl⟩) (.inl rfl) (by omega) (by omega)) ?_
              refine QK.det rfl (Yields.pure rfl) ?_
              refine QK.det trivial (Yields.pure rfl) ?_
              refine QK.bool trivial (Yields.pure rfl) (fun g70 => ?_) (fun g70 => ?_)
              · try simp only [decide_eq_true_eq, decide_eq_false_iff_not, beq_iff_eq, bne_iff_ne, beq_eq_false_iff_ne, bne_eq_false_iff_eq, Bool.not_eq_true', Bool.not_eq_false', Bool.not_eq_true, ne_eq, Decidable.not_not] at g70
                exfalso; apply g70; rw [over_get, hget]
                -- done
              · try simp only [decide_eq_true_eq, decide_eq_false_iff_not, beq_iff_eq, bne_iff_ne, beq_eq_false_iff_ne, bne_eq_false_iff_eq, Bool.not_eq_true', Bool.not_eq_false', Bool.not_eq_true, ne_eq, Decidable.not_not] at g70
                refine QK.det rfl (Yields.pure rfl) ?_
                refine QK.det rfl (Yields.pure rfl) ?_
                refine QK.nil ?_
                change OL _ _ _ [_, _, _, _] _ _ _
                refine OL.det rfl (Yields.slStr (s := s) (l := 0) (h := i) rfl rfl rfl (.inr ⟨rfl, rfl⟩) (.inl rfl) (by omega) (by omega)) ?_
                refine OL.call rfl rfl (check_fc (by rw [hxs]; omega)) ?_
                rintro _ Sx ⟨rfl, hSx⟩
                rw [hSx]
                clear hSx
                refine OL.det rfl (Yields.pure rfl) ?_
                refine OL.det trivial (Yields.pure rfl) ?_
                refine OL.nil ?_
                refine hK11 _ _ ?_
                refine PW.keep (T' := [(0, _), (5, _), (7, _), (8, _), (76, _)]) ⟨rfl, rfl, rfl, rfl, rfl, trivial⟩ ?_
                refine PW.cond rfl (fun c76 => ?_) (fun c76 => ?_)
                · try simp only [decide_eq_true_eq, decide_eq_false_iff_not, beq_iff_eq, bne_iff_ne, beq_eq_false_iff_ne, bne_eq_false_iff_eq, Bool.not_eq_true', Bool.not_eq_false', Bool.not_eq_true, ne_eq, Decidable.not_not] at c76
                  exfalso; exact c76 hchk
                  -- done
                · try simp only [decide_eq_true_eq, decide_eq_false_iff_not, beq_iff_eq, bne_iff_ne, beq_eq_false_iff_ne, bne_eq_false_iff_eq, Bool.not_eq_true', Bool.not_eq_false', Bool.not_eq_true, ne_eq, Decidable.not_not] at c76
                  refine PW.skip ?_
                  refine hK10 _ _ ?_
                  refine PW.keep (T' := [(0, _), (5, _), (7, _), (8, _)]) ⟨rfl, rfl, rfl, rfl, trivial⟩ ?_
                  refine PW.ops ?_
                  refine OL.det trivial (Yields.pure rfl) ?_
                  refine OL.det trivial (Yields.add64 rfl rfl (by omega) (by omega)) ?_
                  refine OL.det trivial (Yields.pure rfl) ?_
                  refine OL.nil ?_
                  refine hK9 _ _ ?_
                  refine PW.keep (T' := [(0, _), (5, _), (7, _), (8, _)]) ⟨rfl, rfl, rfl, rfl, trivial⟩ ?_
                  refine PW.ops ?_
                  refine OL.det trivial (Yields.pure rfl) ?_
                  refine OL.det trivial (Yields.add64 rfl rfl (by omega) (by omega)) ?_
                  refine OL.det trivial (Yields.pure rfl) ?_
                  refine OL.nil ?_
                  repeat rw [inBlk_n]
                  rw [thenK_n]
                  refine LoopEnd.mk (T'' := [(0, _), (5, _), (7, _), (8, _)]) ⟨rfl, rfl, rfl, rfl, trivial⟩ ?_
                  exact ⟨s.size + 1 - (i + 1), by omega, n + 1, i + 1, ⟨by omega, by omega, rfl, by rw [hits_yes hie hend, hn]⟩, rfl, rfl⟩
          · try simp only [decide_eq_true_eq, decide_eq_false_iff_not, beq_iff_eq, bne_iff_ne, beq_eq_false_iff_ne, bne_eq_false_iff_eq, Bool.not_eq_true', Bool.not_eq_false', Bool.not_eq_true, ne_eq, Decidable.not_not] at c55
            refine PW.skip ?_
            refine hK9 _ _ ?_
            refine PW.keep (T' := [(0, _), (5, _), (7, _), (8, _)]) ⟨rfl, rfl, rfl, rfl, trivial⟩ ?_
            refine PW.ops ?_
            refine OL.det trivial (Yields.pure rfl) ?_
            refine OL.det trivial (Yields.add64 rfl rfl (by omega) (by omega)) ?_
            refine OL.det trivial (Yields.pure rfl) ?_
            refine OL.nil ?_
            repeat rw [inBlk_n]
            rw [thenK_n]
            refine LoopEnd.mk (T'' := [(0, _), (5, _), (7, _), (8, _)]) ⟨rfl, rfl, rfl, rfl, trivial⟩ ?_
            exact ⟨s.size + 1 - (i + 1), by omega, n, i + 1, ⟨by omega, by omega, rfl, by rw [hits_no hie (fun e => by rw [hext.2 e] at c55; cases c55), hn]⟩, rfl, rfl⟩
        · try simp only [decide_eq_true_eq, decide_eq_false_iff_not, beq_iff_eq, bne_iff_ne, beq_eq_false_iff_ne, bne_eq_false_iff_eq, Bool.not_eq_true', Bool.not_eq_false', Bool.not_eq_true, ne_eq, Decidable.not_not] at c48
          refine PW.exit ?_
          refine hK7 _ _ ?_
          refine PW.keep (T' := [(0, _), (5, _), (7, _)]) ⟨rfl, rfl, rfl, trivial⟩ ?_
          refine PW.seqOps ?_
          refine OL.det trivial (Yields.pure rfl) ?_
          refine OL.det trivial (Yields.pure rfl) ?_
          refine OL.det trivial (Yields.pure rfl) ?_
          refine OL.det trivial (Yields.pure rfl) ?_
          refine OL.bool trivial (Yields.pure rfl) (fun g83 => ?_) (fun g83 => ?_)
          · try simp only [decide_eq_true_eq, decide_eq_false_iff_not, beq_iff_eq, bne_iff_ne, beq_eq_false_iff_ne, bne_eq_false_iff_eq, Bool.not_eq_true', Bool.not_eq_false', Bool.not_eq_true, ne_eq, Decidable.not_not] at g83
            refine OL.det rfl (Yields.pure rfl) ?_
            refine OL.call rfl rfl (under_fc (by decide) (by omega)) ?_
            rintro _ Sx ⟨rfl, hSx⟩
            rw [hSx]
            clear hSx
            refine OL.det trivial (Yields.pure rfl) ?_
            refine OL.bool trivial (Yields.pure rfl) (fun g87 => ?_) (fun g87 => ?_)
            · try simp only [decide_eq_true_eq, decide_eq_false_iff_not, beq_iff_eq, bne_iff_ne, beq_eq_false_iff_ne, bne_eq_false_iff_eq, Bool.not_eq_true', Bool.not_eq_false', Bool.not_eq_true, ne_eq, Decidable.not_not] at g87
              refine OL.call rfl rfl (works_fc) ?_
              rintro _ _ ⟨rfl, _⟩
              refine OL.det trivial (Yields.pure rfl) ?_
              refine OL.det trivial (Yields.pure rfl) ?_
              refine OL.nil ?_
              refine PW.keep (T' := [(2, _)]) ⟨rfl, trivial⟩ ?_
              refine PW.ret ?_
              change (Exit.ret = Exit.normal ∨ Exit.ret = Exit.ret) ∧ ∃ v, resV _ _ = some v ∧ _
              exact ⟨.inr rfl, _, rfl, rfl⟩
            · try simp only [decide_eq_true_eq, decide_eq_false_iff_not, beq_iff_eq, bne_iff_ne, beq_eq_false_iff_ne, bne_eq_false_iff_eq, Bool.not_eq_true', Bool.not_eq_false', Bool.not_eq_true, ne_eq, Decidable.not_not] at g87
              exfalso; rw [hu] at g87; cases g87
              -- done
          · try simp only [decide_eq_true_eq, decide_eq_false_iff_not, beq_iff_eq, bne_iff_ne, beq_eq_false_iff_ne, bne_eq_false_iff_eq, Bool.not_eq_true', Bool.not_eq_false', Bool.not_eq_true, ne_eq, Decidable.not_not] at g83
            exfalso; apply g83; rw [hn, hits_end s (by omega) (by omega)]
            -- done

end Go.Proofs
