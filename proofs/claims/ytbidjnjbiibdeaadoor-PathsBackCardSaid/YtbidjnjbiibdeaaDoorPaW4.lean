/- Walks and plain facts for the laws of this seat: what each function answers, for every input. -/
import Derived.Test.YtbidjnjbiibdeaaDoorPaW3
set_option linter.unusedVariables false
set_option linter.unusedSimpArgs false
namespace Go.Proofs
open Go.SL Go.RowKit
set_option maxHeartbeats 1000000

theorem cut_size : ∀ (l : List UInt8) (x : ByteArray), x ∈ cutL l → x.size ≤ l.length
  | [], x, h => by simp [cutL] at h; subst h; exact Nat.zero_le _
  | b :: r, x, h => by
    simp only [cutL] at h
    split at h
    · rcases List.mem_cons.1 h with rfl | h
      · exact Nat.zero_le _
      · have := cut_size r x h; simp; omega
    · split at h
      · rename_i y ys e
        rcases List.mem_cons.1 h with rfl | h
        · have := cut_size r y (by rw [e]; simp)
          have e1 : y.data.toList.length = y.size := by simp
          show (b :: y.data.toList).toArray.size ≤ _
          simp only [List.size_toArray, List.length_cons]; omega
        · have := cut_size r x (by rw [e]; simp [h]); simp; omega
      · cases h
theorem parts_size {s x : ByteArray} (h : x ∈ partsP s) : x.size ≤ s.size := by
  have := cut_size _ _ h
  simpa using this
def isP (s : ByteArray) : Bool := decide (s.size ≤ 60) && decide ((partsP s).length ≤ 8) && (partsP s).all partP
def chkP (s : ByteArray) : Int := if isP s = true then 0 else 15
def prefP (s : ByteArray) : Int := if s = ⟨#[]⟩ then 0 else chkP s
def partsQ (s : ByteArray) : List ByteArray := if isP s = true then partsP s else []
theorem any_not (ls : List ByteArray) : (ls.any fun s => !(partP s)) = !(ls.all partP) := by rw [List.any_eq_not_all_not]; simp
theorem parts_len_le (s : ByteArray) : (partsP s).length ≤ s.size + 1 := by rw [parts_len]; have := num_le s; omega
theorem rsplit_fc {w0 : World} {S : SS} {s : ByteArray} (hs : s.size ≤ 1000000000) : FC Tryd.prog w0 35 [.string s] S (resL w0 (partsP s) S) := by
  have hsz : s.size = s.data.toList.length := by simp
  refine FC.of Tryd.known35 (by simp) ?_
  unfold Tryd.pc35
  simp only [argT]
  refine PW.seqOps ?_
  refine OL.nilseg ?_
  refine OL.det trivial (Yields.pure rfl) ?_
  refine OL.nil ?_
  refine PW.keep (T' := [(0, _)]) ⟨rfl, trivial⟩ ?_
  refine PW.seqOps ?_
  refine OL.det trivial (Yields.pure rfl) ?_
  refine OL.nil ?_
  refine PW.keep (T' := [(0, _), (3, _)]) ⟨rfl, rfl, trivial⟩ ?_
  refine PW.seqOps ?_
  refine OL.det trivial (Yields.pure rfl) ?_
  refine OL.nil ?_
  refine PW.keep (T' := [(0, _), (3, _), (4, _)]) ⟨rfl, rfl, rfl, trivial⟩ ?_
  refine PW.seq fun K1 hK1 => ?_
  refine PW.seqOps ?_
  refine OL.det trivial (Yields.pure rfl) ?_
  refine OL.nil ?_
  refine PW.keep (T' := [(0, _), (3, _), (4, _), (5, _)]) ⟨rfl, rfl, rfl, rfl, trivial⟩ ?_
  refine PW.block ?_
  refine PW.keep (T' := [(0, _), (3, _), (4, _), (5, _)]) ⟨rfl, rfl, rfl, rfl, trivial⟩ ?_
  refine PW.loopK (I := fun m T S' => ∃ (k f : Nat) (w : Value) (sb : Seg) (ls : List ByteArray), (f ≤ k ∧ k ≤ s.data.toList.length ∧ ls.length ≤ k ∧ m = s.data.toList.length - k ∧ SlV 9 1 w ls.length (strs ls) sb ∧ cutL s.data.toList = ls ++ cutL (s.data.toList.drop f) ∧ ∀ j, f ≤ j → j < k → s.data.toList[j]? ≠ some 47) ∧ T = ([(0, .string s), (3, w), (4, .int .i64 (f : Int)), (5, .int .i64 (k : Int))] : TT) ∧ S' = sb :: S) (m := s.data.toList.length) ⟨0, 0, _, [], [], ⟨by omega, by omega, by simp, by omega, SlV.nil 9 1, by rw [List.drop_zero, List.nil_append], fun j h1 h2 => by omega⟩, rfl, rfl⟩ ?_
  rintro m _ _ ⟨k, f, w, sb, ls, ⟨hfk, hk, hlk, hm, hv, hcut, hno⟩, rfl, rfl⟩
  refine PW.seq fun K2 hK2 => ?_
  refine PW.seqOps ?_
  refine OL.det trivial (Yields.pure rfl) ?_
  refine OL.det trivial (Yields.pure rfl) ?_
  refine OL.det trivial (Yields.pure rfl) ?_
  refine OL.det trivial (Yields.pure rfl) ?_
  refine OL.nil ?_
  refine PW.keep (T' := [(0, _), (3, _), (4, _), (5, _), (9, _)]) ⟨rfl, rfl, rfl, rfl, rfl, trivial⟩ ?_
  refine PW.cond rfl (fun c9 => ?_) (fun c9 => ?_)
  · try simp only [decide_eq_true_eq, decide_eq_false_iff_not, beq_iff_eq, bne_iff_ne, beq_eq_false_iff_ne, bne_eq_false_iff_eq, Bool.not_eq_true', Bool.not_eq_false', Bool.not_eq_true, ne_eq, Decidable.not_not] at c9
    have hkl : k < s.size := by omega
    obtain ⟨bk, hbk, hbk2, _, _⟩ := ba_get hkl
    refine PW.skip ?_
    refine hK2 _ _ ?_
    refine PW.keep (T' := [(0, _), (3, _), (4, _), (5, _)]) ⟨rfl, rfl, rfl, rfl, trivial⟩ ?_
    refine PW.seq fun K3 hK3 => ?_
    refine PW.block ?_
    refine PW.seqOps ?_
    refine OL.det trivial (Yields.pure rfl) ?_
    refine OL.det trivial (Yields.pure rfl) ?_
    refine OL.det trivial (Yields.ixStr rfl rfl hbk) ?_
    refine OL.det trivial (Yields.pure rfl) ?_
    refine OL.nil ?_
    refine PW.keep (T' := [(0, _), (3, _), (4, _), (5, _), (15, _)]) ⟨rfl, rfl, rfl, rfl, rfl, trivial⟩ ?_
    refine PW.cond rfl (fun c15 => ?_) (fun c15 => ?_)
    · try simp only [decide_eq_true_eq, decide_eq_false_iff_not, beq_iff_eq, bne_iff_ne, beq_eq_false_iff_ne, bne_eq_false_iff_eq, Bool.not_eq_true', Bool.not_eq_false', Bool.not_eq_true, ne_eq, Decidable.not_not] at c15
      refine PW.seqOps ?_
      refine OL.det trivial (Yields.pure rfl) ?_
      refine OL.det trivial (Yields.pure rfl) ?_
      refine OL.det trivial (Yields.pure rfl) ?_
      refine OL.det trivial (Yields.pure rfl) ?_
      refine OL.det trivial (Yields.slStr (s := s) (l := f) (h := k) rfl rfl rfl (.inl rfl) (.inl rfl) (by omega) (by omega)) ?_
      apply OL.app1 (k := 0)
      · rfl
      · rfl
      · rfl
      · rfl
      · rfl
      · rfl
      · exact hv
      · rfl
      · omega
      · unfold maxLen; omega
      intro v22 seg22 hsl22
      refine OL.det trivial (Yields.pure rfl) ?_
      refine OL.nil ?_
      refine PW.keep (T' := [(0, _), (3, _), (5, _)]) ⟨rfl, rfl, rfl, trivial⟩ ?_
      refine PW.ops ?_
      refine OL.det trivial (Yields.pure rfl) ?_
      refine OL.det trivial (Yields.add64 rfl rfl (by omega) (by omega)) ?_
      refine OL.det trivial (Yields.pure rfl) ?_
      refine OL.nil ?_
      refine hK3 _ _ ?_
      refine PW.keep (T' := [(0, _), (3, _), (4, _), (5, _)]) ⟨rfl, rfl, rfl, rfl, trivial⟩ ?_
      refine PW.ops ?_
      refine OL.det trivial (Yields.pure rfl) ?_
      refine OL.det trivial (Yields.add64 rfl rfl (by omega) (by omega)) ?_
      refine OL.det trivial (Yields.pure rfl) ?_
      refine OL.nil ?_
      repeat rw [inBlk_n]
      rw [thenK_n]
      refine LoopEnd.mk (T'' := [(0, _), (3, _), (4, _), (5, _)]) ⟨rfl, rfl, rfl, rfl, trivial⟩ ?_
      refine ⟨s.data.toList.length - (k + 1), by omega, k + 1, k + 1, v22, seg22, ls ++ [s.extract f k], ⟨by omega, by omega, by simp; omega, rfl, by rw [show strs (ls ++ [s.extract f k]) = strs ls ++ [Value.string (s.extract f k)] by simp [strs], List.length_append]; exact hsl22, ?_, fun j h1 h2 => by omega⟩, by simp, rfl⟩
      have hcutl : s.data.toList.drop f = (s.data.toList.take k).drop f ++ 47 :: s.data.toList.drop (k + 1) := by
        have h10 : bk = 47 := UInt8.toNat_inj.1 (by show bk.toNat = 47; omega)
        conv => lhs; rw [← List.take_append_drop k s.data.toList]
        rw [List.drop_append_of_le_length (by simp; omega)]
        congr 1
        have := List.getElem?_eq_some_iff.1 hbk2
        rw [List.drop_eq_getElem_cons this.1, this.2, h10]
      rw [hcut, hcutl, cut_cons _ _ ?_]
      · rw [show (⟨((s.data.toList.take k).drop f).toArray⟩ : ByteArray) = s.extract f k from ba_ext (by rw [ext_list])]
        simp
      · intro x hx e
        obtain ⟨j, hj⟩ := List.getElem?_of_mem hx
        rw [List.getElem?_drop] at hj
        have hjk : f + j < k := by
          have := (List.getElem?_eq_some_iff.1 hj).1
          simp at this; omega
        rw [List.getElem?_take_of_lt hjk, e] at hj
        exact hno (f + j) (by omega) hjk hj
    · try simp only [decide_eq_true_eq, decide_eq_false_iff_not, beq_iff_eq, bne_iff_ne, beq_eq_false_iff_ne, bne_eq_false_iff_eq, Bool.not_eq_true', Bool.not_eq_false', Bool.not_eq_true, ne_eq, Decidable.not_not] at c15
      refine PW.skip ?_
      refine hK3 _ _ ?_
      refine PW.keep (T' := [(0, _), (3, _), (4, _), (5, _)]) ⟨rfl, rfl, rfl, rfl, trivial⟩ ?_
      refine PW.ops ?_
      refine OL.det trivial (Yields.pure rfl) ?_
      refine OL.det trivial (Yields.add64 rfl rfl (by omega) (by omega)) ?_
      refine OL.det trivial (Yields.pure rfl) ?_
      refine OL.nil ?_
      repeat rw [inBlk_n]
      rw [thenK_n]
      refine LoopEnd.mk (T'' := [(0, _), (3, _), (4, _), (5, _)]) ⟨rfl, rfl, rfl, rfl, trivial⟩ ?_
      refine ⟨s.data.toList.length - (k + 1), by omega, k + 1, f, w, sb, ls, ⟨by omega, by omega, by omega, rfl, hv, hcut, fun j h1 h2 => ?_⟩, by simp, rfl⟩
      rcases Nat.lt_or_ge j k with h | h
      · exact hno j h1 h
      · obtain rfl : j = k := by omega
        rw [hbk2]; intro e; obtain rfl := Option.some.inj e; exact c15 rfl
  · try simp only [decide_eq_true_eq, decide_eq_false_iff_not, beq_iff_eq, bne_iff_ne, beq_eq_false_iff_ne, bne_eq_false_iff_eq, Bool.not_eq_true', Bool.not_eq_false', Bool.not_eq_true, ne_eq, Decidable.not_not] at c9
    refine PW.exit ?_
    refine hK1 _ _ ?_
    refine PW.keep (T' := [(0, _), (3, _), (4, _)]) ⟨rfl, rfl, rfl, trivial⟩ ?_
    refine PW.seqOps ?_
    refine OL.det trivial (Yields.pure rfl) ?_
    refine OL.det trivial (Yields.pure rfl) ?_
    refine OL.det trivial (Yields.pure rfl) ?_
    refine OL.det trivial (Yields.slStr (s := s) (l := f) (h := s.size) rfl rfl rfl (.inl rfl) (.inr ⟨rfl, rfl⟩) (by omega) (by omega)) ?_
    apply OL.app1 (k := 0)
    · rfl
    · rfl
    · rfl
    · rfl
    · rfl
    · rfl
    · exact hv
    · rfl
    · omega
    · unfold maxLen; omega
    intro v30 seg30 hsl30
    refine OL.det trivial (Yields.pure rfl) ?_
    refine OL.nil ?_
    refine PW.keep (T' := [(2, _)]) ⟨rfl, trivial⟩ ?_
    refine PW.ret ?_
    change (Exit.ret = Exit.normal ∨ Exit.ret = Exit.ret) ∧ ∃ v, resV _ _ = some v ∧ _
    have he : partsP s = ls ++ [s.extract f s.size] := by
      unfold partsP
      rw [hcut, cut_no]
      · congr 2
        exact ba_ext (by rw [ext_list, List.take_of_length_le (by omega)])
      · intro x hx e
        obtain ⟨j, hj⟩ := List.getElem?_of_mem hx
        rw [List.getElem?_drop] at hj
        have hjl := (List.getElem?_eq_some_iff.1 hj).1
        rw [e] at hj
        exact hno (f + j) (by omega) (by omega) hj
    obtain ⟨A, cap, rfl, _, _⟩ := hsl30.rd (w0 := w0) (S := [seg30]) (k := 0) rfl
    exact ⟨.inr rfl, _, rfl, A, cap, seg30, by rw [he]; simp, rfl, fun S2 => by obtain ⟨A', cap', e, h2, _⟩ := hsl30.rd (w0 := w0) (S := seg30 :: S2) (k := 0) rfl; cases e; rw [he, show strs (ls ++ [s.extract f s.size]) = strs ls ++ [Value.string (s.extract f s.size)] by simp [strs]]; exact h2⟩
theorem is_fc {w0 : World} {S : SS} {s : ByteArray} (hs : s.size ≤ 1000000000) : FC Tryd.prog w0 63 [.string s] S (fun v S' => v = .bool (isP s) ∧ S' = S) := by
  refine FC.ofD Tryd.known63 (by simp) ?_
  unfold Tryd.pc63
  simp only [argT]
  refine PW.seqOps ?_
  refine OL.det trivial (Yields.pure rfl) ?_
  refine OL.nil ?_
  refine PW.keep (T' := [(0, _)]) ⟨rfl, trivial⟩ ?_
  refine PW.seq fun K1 hK1 => ?_
  refine PW.seqOps ?_
  refine OL.det trivial (Yields.pure rfl) ?_
  refine OL.det trivial (Yields.pure rfl) ?_
  refine OL.det trivial (Yields.pure rfl) ?_
  refine OL.nil ?_
  refine PW.keep (T' := [(0, _), (6, _)]) ⟨rfl, rfl, trivial⟩ ?_
  refine PW.cond rfl (fun c6 => ?_) (fun c6 => ?_)
  · try simp only [decide_eq_true_eq, decide_eq_false_iff_not, beq_iff_eq, bne_iff_ne, beq_eq_false_iff_ne, bne_eq_false_iff_eq, Bool.not_eq_true', Bool.not_eq_false', Bool.not_eq_true, ne_eq, Decidable.not_not] at c6
    refine PW.seqOps ?_
    refine OL.det trivial (Yields.pure rfl) ?_
    refine OL.nil ?_
    refine PW.keep (T' := [(2, _)]) ⟨rfl, trivial⟩ ?_
    refine PW.ret ?_
    change (Exit.ret = Exit.normal ∨ Exit.ret = Exit.ret) ∧ ∃ v, resV _ _ = some v ∧ _
    exact ⟨.inr rfl, _, rfl, _, Sub.refl _, by unfold isP; rw [show decide (s.size ≤ 60) = false from decide_eq_false (by omega)]; rfl, rfl⟩
  · try simp only [decide_eq_true_eq, decide_eq_false_iff_not, beq_iff_eq, bne_iff_ne, beq_eq_false_iff_ne, bne_eq_false_iff_eq, Bool.not_eq_true', Bool.not_eq_false', Bool.not_eq_true, ne_eq, Decidable.not_not] at c6
    refine PW.skip ?_
    refine hK1 _ _ ?_
    refine PW.keep (T' := [(0, _)]) ⟨rfl, trivial⟩ ?_
    refine PW.seqOps ?_
    refine OL.det trivial (Yields.pure rfl) ?_
    refine OL.call trivial rfl (split_fc hs) ?_
    rintro _ _ ⟨A, cap, seg, rfl, rfl, hrd⟩
    refine OL.det trivial (Yields.pure rfl) ?_
    refine OL.nil ?_
    refine PW.keep (T' := [(3, _)]) ⟨rfl, trivial⟩ ?_
    refine PW.seqOps ?_
    refine OL.det trivial (Yields.pure rfl) ?_
    refine OL.det trivial (Yields.pure rfl) ?_
    refine OL.det trivial (Yields.pure rfl) ?_
    refine OL.bool trivial (Yields.pure rfl) (fun g12 => ?_) (fun g12 => ?_)
    · try simp only [decide_eq_true_eq, decide_eq_false_iff_not, beq_iff_eq, bne_iff_ne, beq_eq_false_iff_ne, bne_eq_false_iff_eq, Bool.not_eq_true', Bool.not_eq_false', Bool.not_eq_true, ne_eq, Decidable.not_not] at g12
      refine OL.det rfl (Yields.pure rfl) ?_
      refine OL.call rfl rfl (contains_fc (q := fun s => !(partP s)) (hrd S) (by have := parts_len_le s; omega) (by kernel_rfl) (fun x hx => is1_fc (by have := parts_size hx; omega))) ?_
      rintro _ Sx ⟨rfl, hSx⟩
      rw [hSx]
      clear hSx
      refine OL.det rfl (Yields.pure rfl) ?_
      refine OL.det trivial (Yields.pure rfl) ?_
      refine OL.det trivial (Yields.pure rfl) ?_
      refine OL.nil ?_
      refine PW.keep (T' := [(2, _)]) ⟨rfl, trivial⟩ ?_
      refine PW.ret ?_
      change (Exit.ret = Exit.normal ∨ Exit.ret = Exit.ret) ∧ ∃ v, resV _ _ = some v ∧ _
      have h60 : decide (s.size ≤ 60) = true := decide_eq_true (by omega)
      first
        | (have h8 : decide ((partsP s).length ≤ 8) = true := decide_eq_true (by omega)
           exact ⟨.inr rfl, _, rfl, _, Sub.drop (Sub.refl _), by unfold isP; rw [h60, h8, any_not]; simp, rfl⟩)
        | (have h8 : decide ((partsP s).length ≤ 8) = false := decide_eq_false (by omega)
           exact ⟨.inr rfl, _, rfl, _, Sub.drop (Sub.refl _), by unfold isP; rw [h60, h8]; rfl, rfl⟩)
    · try simp only [decide_eq_true_eq, decide_eq_false_iff_not, beq_iff_eq, bne_iff_ne, beq_eq_false_iff_ne, bne_eq_false_iff_eq, Bool.not_eq_true', Bool.not_eq_false', Bool.not_eq_true, ne_eq, Decidable.not_not] at g12
      refine OL.off rfl rfl ?_
      refine OL.off rfl rfl ?_
      refine OL.off rfl rfl ?_
      refine OL.det trivial (Yields.pure rfl) ?_
      refine OL.det trivial (Yields.pure rfl) ?_
      refine OL.nil ?_
      refine PW.keep (T' := [(2, _)]) ⟨rfl, trivial⟩ ?_
      refine PW.ret ?_
      change (Exit.ret = Exit.normal ∨ Exit.ret = Exit.ret) ∧ ∃ v, resV _ _ = some v ∧ _
      have h60 : decide (s.size ≤ 60) = true := decide_eq_true (by omega)
      first
        | (have h8 : decide ((partsP s).length ≤ 8) = true := decide_eq_true (by omega)
           exact ⟨.inr rfl, _, rfl, _, Sub.drop (Sub.refl _), by unfold isP; rw [h60, h8, any_not]; simp, rfl⟩)
        | (have h8 : decide ((partsP s).length ≤ 8) = false := decide_eq_false (by omega)
           exact ⟨.inr rfl, _, rfl, _, Sub.drop (Sub.refl _), by unfold isP; rw [h60, h8]; rfl, rfl⟩)
theorem ris_fc {w0 : World} {S : SS} {s : ByteArray} (hs : s.size ≤ 1000000000) : FC Tryd.prog w0 33 [.string s] S (fun v S' => v = .bool (isP s) ∧ S' = S) := by
  have hpl := parts_len_le s
  refine FC.ofD Tryd.known33 (by simp) ?_
  unfold Tryd.pc33
  simp only [argT]
  refine PW.seqOps ?_
  refine OL.det trivial (Yields.pure rfl) ?_
  refine OL.nil ?_
  refine PW.keep (T' := [(0, _)]) ⟨rfl, trivial⟩ ?_
  refine PW.seqOps ?_
  refine OL.det trivial (Yields.pure rfl) ?_
  refine OL.call trivial rfl (rsplit_fc hs) ?_
  rintro _ _ ⟨A, cap, seg, rfl, rfl, hrd⟩
  refine OL.det trivial (Yields.pure rfl) ?_
  refine OL.nil ?_
  refine PW.keep (T' := [(0, _), (3, _)]) ⟨rfl, rfl, trivial⟩ ?_
  refine PW.seq fun K1 hK1 => ?_
  refine PW.seqOps ?_
  refine OL.det trivial (Yields.pure rfl) ?_
  refine OL.nil ?_
  refine PW.keep (T' := [(0, _), (3, _), (4, _)]) ⟨rfl, rfl, rfl, trivial⟩ ?_
  refine PW.block ?_
  refine PW.keep (T' := [(0, _), (3, _), (4, _)]) ⟨rfl, rfl, rfl, trivial⟩ ?_
  refine PW.loopK (I := fun m T S' => ∃ (k : Nat), (k ≤ (partsP s).length ∧ m = (partsP s).length - k ∧ ((partsP s).take k).any (fun x => !(partP x)) = false) ∧ T = ([(0, .string s), (3, .slice A (partsP s).length cap), (4, .int .i64 k)] : TT) ∧ S' = seg :: S) (m := (partsP s).length) ⟨0, ⟨by omega, by omega, rfl⟩, rfl, rfl⟩ ?_
  rintro m _ _ ⟨k, ⟨hk, hm, hall⟩, rfl, rfl⟩
  refine PW.seq fun K2 hK2 => ?_
  refine PW.seqOps ?_
  refine OL.det trivial (Yields.pure rfl) ?_
  refine OL.det trivial (Yields.pure rfl) ?_
  refine OL.det trivial (Yields.pure rfl) ?_
  refine OL.det trivial (Yields.pure rfl) ?_
  refine OL.nil ?_
  refine PW.keep (T' := [(0, _), (3, _), (4, _), (10, _)]) ⟨rfl, rfl, rfl, rfl, trivial⟩ ?_
  refine PW.cond rfl (fun c10 => ?_) (fun c10 => ?_)
  · try simp only [decide_eq_true_eq, decide_eq_false_iff_not, beq_iff_eq, bne_iff_ne, beq_eq_false_iff_ne, bne_eq_false_iff_eq, Bool.not_eq_true', Bool.not_eq_false', Bool.not_eq_true, ne_eq, Decidable.not_not] at c10
    have hkl : k < (partsP s).length := by omega
    have hrs := hrd S
    obtain ⟨b0, rfl⟩ := hrs.some (strs_ne (by omega))
    refine PW.skip ?_
    refine hK2 _ _ ?_
    refine PW.keep (T' := [(0, _), (3, _), (4, _)]) ⟨rfl, rfl, rfl, trivial⟩ ?_
    refine PW.seq fun K3 hK3 => ?_
    refine PW.block ?_
    refine PW.seqOps ?_
    refine OL.det trivial (Yields.pure rfl) ?_
    refine OL.det trivial (Yields.pure rfl) ?_
    refine OL.det trivial (Yields.ixN1 rfl rfl rfl (by omega)) ?_
    refine OL.det trivial (Yields.ld rfl (strs_at hrs hkl)) ?_
    refine OL.call trivial rfl (rpart_fc (by have := parts_size (List.getElem_mem hkl); omega)) ?_
    rintro _ Sx ⟨rfl, hSx⟩
    rw [hSx]
    clear hSx
    refine OL.det trivial (Yields.pure rfl) ?_
    refine OL.nil ?_
    refine PW.keep (T' := [(0, _), (3, _), (4, _), (18, _)]) ⟨rfl, rfl, rfl, rfl, trivial⟩ ?_
    refine PW.cond rfl (fun c18 => ?_) (fun c18 => ?_)
    · try simp only [decide_eq_true_eq, decide_eq_false_iff_not, beq_iff_eq, bne_iff_ne, beq_eq_false_iff_ne, bne_eq_false_iff_eq, Bool.not_eq_true', Bool.not_eq_false', Bool.not_eq_true, ne_eq, Decidable.not_not] at c18
      refine PW.seqOps ?_
      refine OL.det trivial (Yields.pure rfl) ?_
      refine OL.nil ?_
      refine PW.keep (T' := [(2, _)]) ⟨rfl, trivial⟩ ?_
      refine PW.ret ?_
      change (Exit.ret = Exit.normal ∨ Exit.ret = Exit.ret) ∧ ∃ v, resV _ _ = some v ∧ _
      have hf : (partsP s).all partP = false := by
        rw [List.all_eq_false]; exact ⟨_, List.getElem_mem hkl, by rw [c18]; simp⟩
      exact ⟨.inr rfl, _, rfl, _, Sub.drop (Sub.refl _), by unfold isP; rw [hf, Bool.and_false], rfl⟩
    · try simp only [decide_eq_true_eq, decide_eq_false_iff_not, beq_iff_eq, bne_iff_ne, beq_eq_false_iff_ne, bne_eq_false_iff_eq, Bool.not_eq_true', Bool.not_eq_false', Bool.not_eq_true, ne_eq, Decidable.not_not] at c18
      refine PW.skip ?_
      refine hK3 _ _ ?_
      refine PW.keep (T' := [(0, _), (3, _), (4, _)]) ⟨rfl, rfl, rfl, trivial⟩ ?_
      refine PW.ops ?_
      refine OL.det trivial (Yields.pure rfl) ?_
      refine OL.det trivial (Yields.add64 rfl rfl (by omega) (by omega)) ?_
      refine OL.det trivial (Yields.pure rfl) ?_
      refine OL.nil ?_
      repeat rw [inBlk_n]
      rw [thenK_n]
      refine LoopEnd.mk (T'' := [(0, _), (3, _), (4, _)]) ⟨rfl, rfl, rfl, trivial⟩ ?_
      refine ⟨(partsP s).length - (k + 1), by omega, k + 1, ⟨by omega, rfl, ?_⟩, by simp, rfl⟩
      rw [any_take hkl, hall, c18]; rfl
  · try simp only [decide_eq_true_eq, decide_eq_false_iff_not, beq_iff_eq, bne_iff_ne, beq_eq_false_iff_ne, bne_eq_false_iff_eq, Bool.not_eq_true', Bool.not_eq_false', Bool.not_eq_true, ne_eq, Decidable.not_not] at c10
    refine PW.exit ?_
    refine hK1 _ _ ?_
    refine PW.keep (T' := [(0, _), (3, _)]) ⟨rfl, rfl, trivial⟩ ?_
    refine PW.seqOps ?_
    refine OL.det trivial (Yields.pure rfl) ?_
    refine OL.det trivial (Yields.pure rfl) ?_
    refine OL.det trivial (Yields.pure rfl) ?_
    refine OL.bool trivial (Yields.pure rfl) (fun g22 => ?_) (fun g22 => ?_)
    · try simp only [decide_eq_true_eq, decide_eq_false_iff_not, beq_iff_eq, bne_iff_ne, beq_eq_false_iff_ne, bne_eq_false_iff_eq, Bool.not_eq_true', Bool.not_eq_false', Bool.not_eq_true, ne_eq, Decidable.not_not] at g22
      refine OL.det rfl (Yields.pure rfl) ?_
      refine OL.det rfl (Yields.pure rfl) ?_
      refine OL.det rfl (Yields.pure rfl) ?_
      refine OL.det trivial (Yields.pure rfl) ?_
      refine OL.det trivial (Yields.pure rfl) ?_
      refine OL.nil ?_
      refine PW.keep (T' := [(2, _)]) ⟨rfl, trivial⟩ ?_
      refine PW.ret ?_
      change (Exit.ret = Exit.normal ∨ Exit.ret = Exit.ret) ∧ ∃ v, resV _ _ = some v ∧ _
      obtain rfl : k = (partsP s).length := by omega
      rw [List.take_length] at hall
      have ha : (partsP s).all partP = true := by
        have := any_not (partsP s); rw [hall] at this; simpa using this.symm
      first
        | (have h8 : decide ((partsP s).length ≤ 8) = true := decide_eq_true (by omega)
           exact ⟨.inr rfl, _, rfl, _, Sub.drop (Sub.refl _), by unfold isP; rw [h8, ha, Bool.and_true, Bool.and_true]; congr 1; rw [Bool.eq_iff_iff]; simp only [decide_eq_true_eq]; omega, rfl⟩)
        | (have h8 : decide ((partsP s).length ≤ 8) = false := decide_eq_false (by omega)
           exact ⟨.inr rfl, _, rfl, _, Sub.drop (Sub.refl _), by unfold isP; rw [h8, Bool.and_false, Bool.false_and], rfl⟩)
    · try simp only [decide_eq_true_eq, decide_eq_false_iff_not, beq_iff_eq, bne_iff_ne, beq_eq_false_iff_ne, bne_eq_false_iff_eq, Bool.not_eq_true', Bool.not_eq_false', Bool.not_eq_true, ne_eq, Decidable.not_not] at g22
      refine OL.off rfl rfl ?_
      refine OL.off rfl rfl ?_
      refine OL.off rfl rfl ?_
      refine OL.det trivial (Yields.pure rfl) ?_
      refine OL.det trivial (Yields.pure rfl) ?_
      refine OL.nil ?_
      refine PW.keep (T' := [(2, _)]) ⟨rfl, trivial⟩ ?_
      refine PW.ret ?_
      change (Exit.ret = Exit.normal ∨ Exit.ret = Exit.ret) ∧ ∃ v, resV _ _ = some v ∧ _
      obtain rfl : k = (partsP s).length := by omega
      rw [List.take_length] at hall
      have ha : (partsP s).all partP = true := by
        have := any_not (partsP s); rw [hall] at this; simpa using this.symm
      first
        | (have h8 : decide ((partsP s).length ≤ 8) = true := decide_eq_true (by omega)
           exact ⟨.inr rfl, _, rfl, _, Sub.drop (Sub.refl _), by unfold isP; rw [h8, ha, Bool.and_true, Bool.and_true]; congr 1; rw [Bool.eq_iff_iff]; simp only [decide_eq_true_eq]; omega, rfl⟩)
        | (have h8 : decide ((partsP s).length ≤ 8) = false := decide_eq_false (by omega)
           exact ⟨.inr rfl, _, rfl, _, Sub.drop (Sub.refl _), by unfold isP; rw [h8, Bool.and_false, Bool.false_and], rfl⟩)
theorem check_fc {w0 : World} {S : SS} {s : ByteArray} (hs : s.size ≤ 1000000000) : FC Tryd.prog w0 29 [.string s] S (fun v S' => v = .int .i64 (chkP s) ∧ S' = S) := by
  refine FC.of Tryd.known29 (by simp) ?_
  unfold Tryd.pc29
  simp only [argT]
  refine PW.seqOps ?_
  refine OL.det trivial (Yields.pure rfl) ?_
  refine OL.nil ?_
  refine PW.keep (T' := [(0, _)]) ⟨rfl, trivial⟩ ?_
  refine PW.seq fun K1 hK1 => ?_
  refine PW.seqOps ?_
  refine OL.det trivial (Yields.pure rfl) ?_
  refine OL.call trivial rfl (is_fc hs) ?_
  rintro _ Sx ⟨rfl, hSx⟩
  rw [hSx]
  clear hSx
  refine OL.det trivial (Yields.pure rfl) ?_
  refine OL.nil ?_
  refine PW.keep (T' := [(5, _)]) ⟨rfl, trivial⟩ ?_
  refine PW.cond rfl (fun c5 => ?_) (fun c5 => ?_)
  · try simp only [decide_eq_true_eq, decide_eq_false_iff_not, beq_iff_eq, bne_iff_ne, beq_eq_false_iff_ne, bne_eq_false_iff_eq, Bool.not_eq_true', Bool.not_eq_false', Bool.not_eq_true, ne_eq, Decidable.not_not] at c5
    refine PW.seqOps ?_
    refine OL.det trivial (Yields.pure rfl) ?_
    refine OL.nil ?_
    refine PW.keep (T' := [(2, _)]) ⟨rfl, trivial⟩ ?_
    refine PW.ret ?_
    change (Exit.ret = Exit.normal ∨ Exit.ret = Exit.ret) ∧ ∃ v, resV _ _ = some v ∧ _
    exact ⟨.inr rfl, _, rfl, by unfold chkP; rw [if_neg (by rw [c5]; simp)], rfl⟩
  · try simp only [decide_eq_true_eq, decide_eq_false_iff_not, beq_iff_eq, bne_iff_ne, beq_eq_false_iff_ne, bne_eq_false_iff_eq, Bool.not_eq_true', Bool.not_eq_false', Bool.not_eq_true, ne_eq, Decidable.not_not] at c5
    refine PW.skip ?_
    refine hK1 _ _ ?_
    refine PW.keep (T' := []) trivial ?_
    refine PW.seqOps ?_
    refine OL.det trivial (Yields.pure rfl) ?_
    refine OL.nil ?_
    refine PW.keep (T' := [(2, _)]) ⟨rfl, trivial⟩ ?_
    refine PW.ret ?_
    change (Exit.ret = Exit.normal ∨ Exit.ret = Exit.ret) ∧ ∃ v, resV _ _ = some v ∧ _
    exact ⟨.inr rfl, _, rfl, by unfold chkP; rw [if_pos (by simpa using c5)], rfl⟩
theorem rcheck_fc {w0 : World} {S : SS} {s : ByteArray} (hs : s.size ≤ 1000000000) : FC Tryd.prog w0 30 [.string s] S (fun v S' => v = .int .i64 (chkP s) ∧ S' = S) := by
  refine FC.of Tryd.known30 (by simp) ?_
  unfold Tryd.pc30
  simp only [argT]
  refine PW.seqOps ?_
  refine OL.det trivial (Yields.pure rfl) ?_
  refine OL.nil ?_
  refine PW.keep (T' := [(0, _)]) ⟨rfl, trivial⟩ ?_
  refine PW.seq fun K1 hK1 => ?_
  refine PW.seqOps ?_
  refine OL.det trivial (Yields.pure rfl) ?_
  refine OL.call trivial rfl (ris_fc hs) ?_
  rintro _ Sx ⟨rfl, hSx⟩
  rw [hSx]
  clear hSx
  refine OL.nil ?_
  refine PW.keep (T' := [(4, _)]) ⟨rfl, trivial⟩ ?_
  refine PW.cond rfl (fun c4 => ?_) (fun c4 => ?_)
  · try simp only [decide_eq_true_eq, decide_eq_false_iff_not, beq_iff_eq, bne_iff_ne, beq_eq_false_iff_ne, bne_eq_false_iff_eq, Bool.not_eq_true', Bool.not_eq_false', Bool.not_eq_true, ne_eq, Decidable.not_not] at c4
    refine PW.seqOps ?_
    refine OL.det trivial (Yields.pure rfl) ?_
    refine OL.nil ?_
    refine PW.keep (T' := [(2, _)]) ⟨rfl, trivial⟩ ?_
    refine PW.ret ?_
    change (Exit.ret = Exit.normal ∨ Exit.ret = Exit.ret) ∧ ∃ v, resV _ _ = some v ∧ _
    exact ⟨.inr rfl, _, rfl, by unfold chkP; rw [if_pos c4], rfl⟩
  · try simp only [decide_eq_true_eq, decide_eq_false_iff_not, beq_iff_eq, bne_iff_ne, beq_eq_false_iff_ne, bne_eq_false_iff_eq, Bool.not_eq_true', Bool.not_eq_false', Bool.not_eq_true, ne_eq, Decidable.not_not] at c4
    refine PW.skip ?_
    refine hK1 _ _ ?_
    refine PW.keep (T' := []) trivial ?_
    refine PW.seqOps ?_
    refine OL.det trivial (Yields.pure rfl) ?_
    refine OL.nil ?_
    refine PW.keep (T' := [(2, _)]) ⟨rfl, trivial⟩ ?_
    refine PW.ret ?_
    change (Exit.ret = Exit.normal ∨ Exit.ret = Exit.ret) ∧ ∃ v, resV _ _ = some v ∧ _
    exact ⟨.inr rfl, _, rfl, by unfold chkP; rw [if_neg (by rw [c4]; simp)], rfl⟩
theorem pref_fc {w0 : World} {S : SS} {s : ByteArray} (hs : s.size ≤ 1000000000) : FC Tryd.prog w0 31 [.string s] S (fun v S' => v = .int .i64 (prefP s) ∧ S' = S) := by
  refine FC.of Tryd.known31 (by simp) ?_
  unfold Tryd.pc31
  simp only [argT]
  refine PW.seqOps ?_
  refine OL.det trivial (Yields.pure rfl) ?_
  refine OL.nil ?_
  refine PW.keep (T' := [(0, _)]) ⟨rfl, trivial⟩ ?_
  refine PW.seq fun K1 hK1 => ?_
  refine PW.seqOps ?_
  refine OL.det trivial (Yields.pure rfl) ?_
  refine OL.det trivial (Yields.pure rfl) ?_
  refine OL.nil ?_
  refine PW.keep (T' := [(0, _), (4, _)]) ⟨rfl, rfl, trivial⟩ ?_
  refine PW.cond rfl (fun c4 => ?_) (fun c4 => ?_)
  · try simp only [decide_eq_true_eq, decide_eq_false_iff_not, beq_iff_eq, bne_iff_ne, beq_eq_false_iff_ne, bne_eq_false_iff_eq, Bool.not_eq_true', Bool.not_eq_false', Bool.not_eq_true, ne_eq, Decidable.not_not] at c4
    refine PW.seqOps ?_
    refine OL.det trivial (Yields.pure rfl) ?_
    refine OL.nil ?_
    refine PW.keep (T' := [(2, _)]) ⟨rfl, trivial⟩ ?_
    refine PW.ret ?_
    change (Exit.ret = Exit.normal ∨ Exit.ret = Exit.ret) ∧ ∃ v, resV _ _ = some v ∧ _
    exact ⟨.inr rfl, _, rfl, by unfold prefP; rw [if_pos (toL_inj.1 c4)], rfl⟩
  · try simp only [decide_eq_true_eq, decide_eq_false_iff_not, beq_iff_eq, bne_iff_ne, beq_eq_false_iff_ne, bne_eq_false_iff_eq, Bool.not_eq_true', Bool.not_eq_false', Bool.not_eq_true, ne_eq, Decidable.not_not] at c4
    refine PW.skip ?_
    refine hK1 _ _ ?_
    refine PW.keep (T' := [(0, _)]) ⟨rfl, trivial⟩ ?_
    refine PW.seqOps ?_
    refine OL.det trivial (Yields.pure rfl) ?_
    refine OL.call trivial rfl (check_fc hs) ?_
    rintro _ Sx ⟨rfl, hSx⟩
    rw [hSx]
    clear hSx
    refine OL.det trivial (Yields.pure rfl) ?_
    refine OL.nil ?_
    refine PW.keep (T' := [(2, _)]) ⟨rfl, trivial⟩ ?_
    refine PW.ret ?_
    change (Exit.ret = Exit.normal ∨ Exit.ret = Exit.ret) ∧ ∃ v, resV _ _ = some v ∧ _
    exact ⟨.inr rfl, _, rfl, by unfold prefP; rw [if_neg (fun e => c4 (toL_inj.2 e))], rfl⟩
theorem rpref_fc {w0 : World} {S : SS} {s : ByteArray} (hs : s.size ≤ 1000000000) : FC Tryd.prog w0 32 [.string s] S (fun v S' => v = .int .i64 (prefP s) ∧ S' = S) := by
  refine FC.of Tryd.known32 (by simp) ?_
  unfold Tryd.pc32
  simp only [argT]
  refine PW.seqOps ?_
  refine OL.det trivial (Yields.pure rfl) ?_
  refine OL.nil ?_
  refine PW.keep (T' := [(0, _)]) ⟨rfl, trivial⟩ ?_
  refine PW.seq fun K1 hK1 => ?_
  refine PW.seqOps ?_
  refine OL.det trivial (Yields.pure rfl) ?_
  refine OL.det trivial (Yields.pure rfl) ?_
  refine OL.nil ?_
  refine PW.keep (T' := [(0, _), (4, _)]) ⟨rfl, rfl, trivial⟩ ?_
  refine PW.cond rfl (fun c4 => ?_) (fun c4 => ?_)
  · try simp only [decide_eq_true_eq, decide_eq_false_iff_not, beq_iff_eq, bne_iff_ne, beq_eq_false_iff_ne, bne_eq_false_iff_eq, Bool.not_eq_true', Bool.not_eq_false', Bool.not_eq_true, ne_eq, Decidable.not_not] at c4
    refine PW.seqOps ?_
    refine OL.det trivial (Yields.pure rfl) ?_
    refine OL.nil ?_
    refine PW.keep (T' := [(2, _)]) ⟨rfl, trivial⟩ ?_
    refine PW.ret ?_
    change (Exit.ret = Exit.normal ∨ Exit.ret = Exit.ret) ∧ ∃ v, resV _ _ = some v ∧ _
    exact ⟨.inr rfl, _, rfl, by unfold prefP; rw [if_pos (toL_inj.1 c4)], rfl⟩
  · try simp only [decide_eq_true_eq, decide_eq_false_iff_not, beq_iff_eq, bne_iff_ne, beq_eq_false_iff_ne, bne_eq_false_iff_eq, Bool.not_eq_true', Bool.not_eq_false', Bool.not_eq_true, ne_eq, Decidable.not_not] at c4
    refine PW.skip ?_
    refine hK1 _ _ ?_
    refine PW.keep (T' := [(0, _)]) ⟨rfl, trivial⟩ ?_
    refine PW.seqOps ?_
    refine OL.det trivial (Yields.pure rfl) ?_
    refine OL.call trivial rfl (rcheck_fc hs) ?_
    rintro _ Sx ⟨rfl, hSx⟩
    rw [hSx]
    clear hSx
    refine OL.det trivial (Yields.pure rfl) ?_
    refine OL.nil ?_
    refine PW.keep (T' := [(2, _)]) ⟨rfl, trivial⟩ ?_
    refine PW.ret ?_
    change (Exit.ret = Exit.normal ∨ Exit.ret = Exit.ret) ∧ ∃ v, resV _ _ = some v ∧ _
    exact ⟨.inr rfl, _, rfl, by unfold prefP; rw [if_neg (fun e => c4 (toL_inj.2 e))], rfl⟩
theorem parts_fc {w0 : World} {S : SS} {s : ByteArray} (hs : s.size ≤ 1000000000) : FC Tryd.prog w0 28 [.string s] S (resL w0 (partsQ s) S) := by
  refine FC.of Tryd.known28 (by simp) ?_
  unfold Tryd.pc28
  simp only [argT]
  refine PW.seqOps ?_
  refine OL.det trivial (Yields.pure rfl) ?_
  refine OL.nil ?_
  refine PW.keep (T' := [(0, _)]) ⟨rfl, trivial⟩ ?_
  refine PW.seq fun K1 hK1 => ?_
  refine PW.seqOps ?_
  refine OL.det trivial (Yields.pure rfl) ?_
  refine OL.call trivial rfl (is_fc hs) ?_
  rintro _ Sx ⟨rfl, hSx⟩
  rw [hSx]
  clear hSx
  refine OL.det trivial (Yields.pure rfl) ?_
  refine OL.nil ?_
  refine PW.keep (T' := [(0, _), (5, _)]) ⟨rfl, rfl, trivial⟩ ?_
  refine PW.cond rfl (fun c5 => ?_) (fun c5 => ?_)
  · try simp only [decide_eq_true_eq, decide_eq_false_iff_not, beq_iff_eq, bne_iff_ne, beq_eq_false_iff_ne, bne_eq_false_iff_eq, Bool.not_eq_true', Bool.not_eq_false', Bool.not_eq_true, ne_eq, Decidable.not_not] at c5
    refine PW.seqOps ?_
    refine OL.nilseg ?_
    refine OL.det trivial (Yields.pure rfl) ?_
    refine OL.nil ?_
    refine PW.keep (T' := [(2, _)]) ⟨rfl, trivial⟩ ?_
    refine PW.ret ?_
    change (Exit.ret = Exit.normal ∨ Exit.ret = Exit.ret) ∧ ∃ v, resV _ _ = some v ∧ _
    exact ⟨.inr rfl, _, rfl, by unfold partsQ; rw [if_neg (by rw [c5]; simp)]; exact ⟨none, 0, [], rfl, rfl, fun S2 => Rd.nil⟩⟩
  · try simp only [decide_eq_true_eq, decide_eq_false_iff_not, beq_iff_eq, bne_iff_ne, beq_eq_false_iff_ne, bne_eq_false_iff_eq, Bool.not_eq_true', Bool.not_eq_false', Bool.not_eq_true, ne_eq, Decidable.not_not] at c5
    refine PW.skip ?_
    refine hK1 _ _ ?_
    refine PW.keep (T' := [(0, _)]) ⟨rfl, trivial⟩ ?_
    refine PW.seqOps ?_
    refine OL.det trivial (Yields.pure rfl) ?_
    refine OL.call trivial rfl (split_fc hs) ?_
    rintro _ _ ⟨A, cap, seg, rfl, rfl, hrd⟩
    refine OL.det trivial (Yields.pure rfl) ?_
    refine OL.nil ?_
    refine PW.keep (T' := [(2, _)]) ⟨rfl, trivial⟩ ?_
    refine PW.ret ?_
    change (Exit.ret = Exit.normal ∨ Exit.ret = Exit.ret) ∧ ∃ v, resV _ _ = some v ∧ _
    exact ⟨.inr rfl, _, rfl, by unfold partsQ; rw [if_pos (by simpa using c5)]; exact ⟨A, cap, seg, rfl, rfl, hrd⟩⟩

end Go.Proofs
