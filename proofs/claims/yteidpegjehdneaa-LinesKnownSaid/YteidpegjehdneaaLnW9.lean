/- Walks and plain facts for the laws of this seat: what each function answers, for every input. -/
import Derived.Test.YteidpegjehdneaaLnW8
set_option linter.unusedVariables false
set_option linter.unusedSimpArgs false
namespace Go.Proofs
open Go.SL Go.RowKit
set_option maxHeartbeats 1000000

def resP (w0 : World) (ls : List ByteArray) (x : Value) (S : SS) (v : Value) (S' : SS) : Prop := ∃ A cap seg, v = .tuple #[.slice A ls.length cap, x] ∧ S' = seg :: S ∧ ∀ S2, Rd w0 (seg :: S2) A (strs ls)
def lst (tb : ByteArray) : List ByteArray := (splB tb.data.toList).getD []
def fine (tb : ByteArray) : Bool := (splB tb.data.toList).isSome
theorem parts_fc' {w0 : World} {S : SS} {tb : ByteArray} (htb : tb.size ≤ 100000) : FC Try.prog w0 24 [.string tb] S (resP w0 (lst tb) (.bool (fine tb)) S) :=
  (parts_fc htb).mono fun v S' ⟨v2, seg, b, e, e2, h⟩ => by
    subst e; subst e2
    unfold lst fine
    cases hs : splB tb.data.toList with
    | none =>
      rw [hs] at h
      obtain ⟨rfl, rfl⟩ := h
      exact ⟨none, 0, seg, rfl, rfl, fun S2 => Rd.nil⟩
    | some ls =>
      rw [hs] at h
      obtain ⟨rfl, h⟩ := h
      obtain ⟨A, cap, rfl, _, _⟩ := h.rd (w0 := w0) (S := [seg]) (k := 0) rfl
      refine ⟨A, cap, seg, rfl, rfl, fun S2 => ?_⟩
      obtain ⟨A', cap', e, h2, _⟩ := h.rd (w0 := w0) (S := seg :: S2) (k := 0) rfl
      cases e
      exact h2
theorem spl_le : ∀ (l : List UInt8) (ls : List ByteArray), splB l = some ls → ls.length ≤ l.length ∧ ∀ s ∈ ls, s.size ≤ l.length
  | [], ls, h => by obtain rfl : [] = ls := by simpa [splB] using h
                    simp
  | b :: r, ls, h => by
    simp only [splB] at h
    split at h
    · obtain ⟨ls', h1, rfl⟩ := Option.map_eq_some_iff.1 h
      obtain ⟨h2, h3⟩ := spl_le r ls' h1
      refine ⟨by simp; omega, fun s hs => ?_⟩
      rcases List.mem_cons.1 hs with rfl | hs
      · exact Nat.zero_le _
      · have := h3 s hs; simp; omega
    · split at h
      · rename_i x xs h1
        obtain rfl := Option.some.inj h
        obtain ⟨h2, h3⟩ := spl_le r _ h1
        refine ⟨by simp at h2 ⊢; omega, fun s hs => ?_⟩
        rcases List.mem_cons.1 hs with rfl | hs
        · have := h3 x (by simp)
          have e : x.data.toList.length = x.size := by simp
          show (b :: x.data.toList).toArray.size ≤ _
          simp only [List.size_toArray, List.length_cons]; omega
        · have := h3 s (by simp [hs]); simp; omega
      · cases h
theorem lst_len (tb : ByteArray) : (lst tb).length ≤ tb.size := by
  unfold lst
  cases h : splB tb.data.toList with
  | none => simp
  | some ls => have := (spl_le _ _ h).1; simpa using this
theorem lst_size (tb : ByteArray) : ∀ s ∈ lst tb, s.size ≤ tb.size := by
  unfold lst
  cases h : splB tb.data.toList with
  | none => simp
  | some ls => have := (spl_le _ _ h).2; simpa using this
def splP (tb : ByteArray) : List ByteArray × Int := if fine tb = false then ([], 4) else if checkP (lst tb) ≠ 0 then ([], checkP (lst tb)) else (lst tb, 0)
def toldP (tb : ByteArray) : List ByteArray × Int := if fine tb = false ∨ (lst tb).any (fun s => !(plainP s)) = true then ([], 4) else (lst tb, 0)
theorem split_fc {w0 : World} {S : SS} {tb : ByteArray} (htb : tb.size ≤ 100000) : FC Try.prog w0 8 [.string tb] S (resP w0 (splP tb).1 (.int .i64 (splP tb).2) S) := by
  refine FC.of Try.known8 (by simp) ?_
  unfold Try.pc8
  simp only [argT]
  refine PW.seqOps ?_
  refine OL.det trivial (Yields.pure rfl) ?_
  refine OL.det trivial (Yields.pure rfl) ?_
  refine OL.nil ?_
  refine PW.keep (T' := [(0, _)]) ⟨rfl, trivial⟩ ?_
  refine PW.seqOps ?_
  refine OL.det trivial (Yields.pure rfl) ?_
  refine OL.call trivial rfl (parts_fc' htb) ?_
  rintro _ _ ⟨A, cap, seg, rfl, rfl, hrd⟩
  refine OL.det trivial (Yields.pure rfl) ?_
  refine OL.det trivial (Yields.pure rfl) ?_
  refine OL.det trivial (Yields.pure rfl) ?_
  refine OL.det trivial (Yields.pure rfl) ?_
  refine OL.det trivial (Yields.pure rfl) ?_
  refine OL.nil ?_
  refine PW.keep (T' := [(4, _), (5, _)]) ⟨rfl, rfl, trivial⟩ ?_
  refine PW.seq fun K1 hK1 => ?_
  refine PW.seqOps ?_
  refine OL.det trivial (Yields.pure rfl) ?_
  refine OL.det trivial (Yields.pure rfl) ?_
  refine OL.nil ?_
  refine PW.keep (T' := [(4, _), (13, _)]) ⟨rfl, rfl, trivial⟩ ?_
  refine PW.cond rfl (fun c13 => ?_) (fun c13 => ?_)
  · try simp only [decide_eq_true_eq, decide_eq_false_iff_not, beq_iff_eq, bne_iff_ne, beq_eq_false_iff_ne, bne_eq_false_iff_eq, Bool.not_eq_true', Bool.not_eq_false', Bool.not_eq_true, ne_eq, Decidable.not_not] at c13
    refine PW.seqOps ?_
    refine OL.det trivial (Yields.pure rfl) ?_
    refine OL.det trivial (Yields.pure rfl) ?_
    refine OL.nil ?_
    refine PW.keep (T' := [(2, _), (3, _)]) ⟨rfl, rfl, trivial⟩ ?_
    refine PW.ret ?_
    change (Exit.ret = Exit.normal ∨ Exit.ret = Exit.ret) ∧ ∃ v, resV _ _ = some v ∧ _
    exact ⟨.inr rfl, _, rfl, by unfold splP; rw [if_pos c13]; exact ⟨none, 0, seg, rfl, rfl, fun S2 => Rd.nil⟩⟩
  · try simp only [decide_eq_true_eq, decide_eq_false_iff_not, beq_iff_eq, bne_iff_ne, beq_eq_false_iff_ne, bne_eq_false_iff_eq, Bool.not_eq_true', Bool.not_eq_false', Bool.not_eq_true, ne_eq, Decidable.not_not] at c13
    refine PW.skip ?_
    refine hK1 _ _ ?_
    refine PW.keep (T' := [(4, _)]) ⟨rfl, trivial⟩ ?_
    refine PW.seq fun K2 hK2 => ?_
    refine PW.seqOps ?_
    refine OL.det trivial (Yields.pure rfl) ?_
    refine OL.call trivial rfl (check_fc (hrd S) (by have := lst_len tb; omega) (fun s h => by have := lst_size tb s h; omega)) ?_
    rintro _ _ ⟨rfl, rfl⟩
    refine OL.det trivial (Yields.pure rfl) ?_
    refine OL.nil ?_
    refine PW.keep (T' := [(4, _), (6, _)]) ⟨rfl, rfl, trivial⟩ ?_
    refine PW.seqOps ?_
    refine OL.det trivial (Yields.pure rfl) ?_
    refine OL.det trivial (Yields.pure rfl) ?_
    refine OL.nil ?_
    refine PW.keep (T' := [(4, _), (6, _), (17, _)]) ⟨rfl, rfl, rfl, trivial⟩ ?_
    refine PW.cond rfl (fun c17 => ?_) (fun c17 => ?_)
    · try simp only [decide_eq_true_eq, decide_eq_false_iff_not, beq_iff_eq, bne_iff_ne, beq_eq_false_iff_ne, bne_eq_false_iff_eq, Bool.not_eq_true', Bool.not_eq_false', Bool.not_eq_true, ne_eq, Decidable.not_not] at c17
      refine PW.seqOps ?_
      refine OL.det trivial (Yields.pure rfl) ?_
      refine OL.det trivial (Yields.pure rfl) ?_
      refine OL.det trivial (Yields.pure rfl) ?_
      refine OL.nil ?_
      refine PW.keep (T' := [(2, _), (3, _)]) ⟨rfl, rfl, trivial⟩ ?_
      refine PW.ret ?_
      change (Exit.ret = Exit.normal ∨ Exit.ret = Exit.ret) ∧ ∃ v, resV _ _ = some v ∧ _
      exact ⟨.inr rfl, _, rfl, by unfold splP; rw [if_neg (by rw [c13]; simp), if_pos c17]; exact ⟨none, 0, seg, rfl, rfl, fun S2 => Rd.nil⟩⟩
    · try simp only [decide_eq_true_eq, decide_eq_false_iff_not, beq_iff_eq, bne_iff_ne, beq_eq_false_iff_ne, bne_eq_false_iff_eq, Bool.not_eq_true', Bool.not_eq_false', Bool.not_eq_true, ne_eq, Decidable.not_not] at c17
      refine PW.skip ?_
      refine hK2 _ _ ?_
      refine PW.keep (T' := [(4, _)]) ⟨rfl, trivial⟩ ?_
      refine PW.seqOps ?_
      refine OL.det trivial (Yields.pure rfl) ?_
      refine OL.det trivial (Yields.pure rfl) ?_
      refine OL.det trivial (Yields.pure rfl) ?_
      refine OL.nil ?_
      refine PW.keep (T' := [(2, _), (3, _)]) ⟨rfl, rfl, trivial⟩ ?_
      refine PW.ret ?_
      change (Exit.ret = Exit.normal ∨ Exit.ret = Exit.ret) ∧ ∃ v, resV _ _ = some v ∧ _
      exact ⟨.inr rfl, _, rfl, by unfold splP; rw [if_neg (by rw [c13]; simp), if_neg (by simpa using c17)]; exact ⟨A, cap, seg, rfl, rfl, hrd⟩⟩
theorem rparts_fc {w0 : World} {S : SS} {tb : ByteArray} (htb : tb.size ≤ 100000) : FC Try.prog w0 25 [.string tb] S (resP w0 (lst tb) (.bool (fine tb)) S) := by
  have hsz : tb.size = tb.data.toList.length := by simp
  refine FC.of Try.known25 (by simp) ?_
  unfold Try.pc25
  simp only [argT]
  refine PW.seqOps ?_
  refine OL.nilseg ?_
  refine OL.det trivial (Yields.pure rfl) ?_
  refine OL.det trivial (Yields.pure rfl) ?_
  refine OL.nil ?_
  refine PW.keep (T' := [(0, _)]) ⟨rfl, trivial⟩ ?_
  refine PW.seq fun K1 hK1 => ?_
  refine PW.seqOps ?_
  refine OL.det trivial (Yields.pure rfl) ?_
  refine OL.det trivial (Yields.pure rfl) ?_
  refine OL.det trivial (Yields.pure rfl) ?_
  refine OL.bool trivial (Yields.pure rfl) (fun g10 => ?_) (fun g10 => ?_)
  · try simp only [decide_eq_true_eq, decide_eq_false_iff_not, beq_iff_eq, bne_iff_ne, beq_eq_false_iff_ne, bne_eq_false_iff_eq, Bool.not_eq_true', Bool.not_eq_false', Bool.not_eq_true, ne_eq, Decidable.not_not] at g10
    obtain ⟨b, hb, hb2, _, _⟩ := ba_get (s := tb) (k := tb.size - 1) (by omega)
    refine OL.det rfl (Yields.pure rfl) ?_
    refine OL.det rfl (Yields.pure rfl) ?_
    refine OL.det rfl (Yields.pure rfl) ?_
    refine OL.det rfl (Yields.to (v' := .int .i64 ((tb.size - 1 : Nat) : Int)) (Yields.sub64 rfl rfl (by omega) (by omega)) (by congr 1; omega)) ?_
    refine OL.det rfl (Yields.ixStr rfl rfl hb) ?_
    refine OL.det rfl (Yields.pure rfl) ?_
    refine OL.det trivial (Yields.pure rfl) ?_
    refine OL.nil ?_
    refine PW.keep (T' := [(0, _), (17, _)]) ⟨rfl, rfl, trivial⟩ ?_
    refine PW.cond rfl (fun c17 => ?_) (fun c17 => ?_)
    · try simp only [decide_eq_true_eq, decide_eq_false_iff_not, beq_iff_eq, bne_iff_ne, beq_eq_false_iff_ne, bne_eq_false_iff_eq, Bool.not_eq_true', Bool.not_eq_false', Bool.not_eq_true, ne_eq, Decidable.not_not] at c17
      refine PW.seqOps ?_
      refine OL.det trivial (Yields.pure rfl) ?_
      refine OL.det trivial (Yields.pure rfl) ?_
      refine OL.nil ?_
      refine PW.keep (T' := [(2, _), (3, _)]) ⟨rfl, rfl, trivial⟩ ?_
      refine PW.ret ?_
      change (Exit.ret = Exit.normal ∨ Exit.ret = Exit.ret) ∧ ∃ v, resV _ _ = some v ∧ _
      have hn : splB tb.data.toList = none := spl_last _ (by intro e; rw [e, List.length_nil] at hsz; omega) (by rw [List.getLast?_eq_getElem?, ← hsz, hb2]; intro e; obtain rfl := Option.some.inj e; exact c17 rfl)
      exact ⟨.inr rfl, _, rfl, by unfold lst fine; rw [hn]; exact ⟨none, 0, [], rfl, rfl, fun S2 => Rd.nil⟩⟩
    · try simp only [decide_eq_true_eq, decide_eq_false_iff_not, beq_iff_eq, bne_iff_ne, beq_eq_false_iff_ne, bne_eq_false_iff_eq, Bool.not_eq_true', Bool.not_eq_false', Bool.not_eq_true, ne_eq, Decidable.not_not] at c17
      have hlast : 0 < tb.data.toList.length → tb.data.toList[tb.data.toList.length - 1]? = some 10 := fun h => by rw [← hsz, hb2, show b = 10 from UInt8.toNat_inj.1 (by show b.toNat = 10; omega)]
      refine PW.skip ?_
      refine hK1 _ _ ?_
      refine PW.keep (T' := [(0, _)]) ⟨rfl, trivial⟩ ?_
      refine PW.seqOps ?_
      refine OL.det trivial (Yields.pure rfl) ?_
      refine OL.nil ?_
      refine PW.keep (T' := [(0, _), (4, _)]) ⟨rfl, rfl, trivial⟩ ?_
      refine PW.seqOps ?_
      refine OL.det trivial (Yields.pure rfl) ?_
      refine OL.nil ?_
      refine PW.keep (T' := [(0, _), (4, _), (5, _)]) ⟨rfl, rfl, rfl, trivial⟩ ?_
      refine PW.seq fun K2 hK2 => ?_
      refine PW.seqOps ?_
      refine OL.det trivial (Yields.pure rfl) ?_
      refine OL.nil ?_
      refine PW.keep (T' := [(0, _), (4, _), (5, _), (6, _)]) ⟨rfl, rfl, rfl, rfl, trivial⟩ ?_
      refine PW.block ?_
      refine PW.keep (T' := [(0, _), (4, _), (5, _), (6, _)]) ⟨rfl, rfl, rfl, rfl, trivial⟩ ?_
      refine PW.loopK (I := fun m T S' => ∃ (k f : Nat) (w : Value) (sb : Seg) (ls : List ByteArray), (f ≤ k ∧ k ≤ tb.data.toList.length ∧ ls.length ≤ k ∧ m = tb.data.toList.length - k ∧ SlV 9 1 w ls.length (strs ls) sb ∧ splB tb.data.toList = (splB (tb.data.toList.drop f)).map (ls ++ ·) ∧ ∀ j, f ≤ j → j < k → tb.data.toList[j]? ≠ some 10) ∧ T = ([(0, .string tb), (4, w), (5, .int .i64 (f : Int)), (6, .int .i64 (k : Int))] : TT) ∧ S' = sb :: S) (m := tb.data.toList.length) ⟨0, 0, _, [], [], ⟨by omega, by omega, by simp, by omega, SlV.nil 9 1, by rw [List.drop_zero]; cases splB tb.data.toList <;> simp, fun j h1 h2 => by omega⟩, rfl, rfl⟩ ?_
      rintro m _ _ ⟨k, f, w, sb, ls, ⟨hfk, hk, hlk, hm, hv, hspl, hno⟩, rfl, rfl⟩
      refine PW.seq fun K3 hK3 => ?_
      refine PW.seqOps ?_
      refine OL.det trivial (Yields.pure rfl) ?_
      refine OL.det trivial (Yields.pure rfl) ?_
      refine OL.det trivial (Yields.pure rfl) ?_
      refine OL.det trivial (Yields.pure rfl) ?_
      refine OL.nil ?_
      refine PW.keep (T' := [(0, _), (4, _), (5, _), (6, _), (21, _)]) ⟨rfl, rfl, rfl, rfl, rfl, trivial⟩ ?_
      refine PW.cond rfl (fun c21 => ?_) (fun c21 => ?_)
      · try simp only [decide_eq_true_eq, decide_eq_false_iff_not, beq_iff_eq, bne_iff_ne, beq_eq_false_iff_ne, bne_eq_false_iff_eq, Bool.not_eq_true', Bool.not_eq_false', Bool.not_eq_true, ne_eq, Decidable.not_not] at c21
        have hkl : k < tb.size := by omega
        obtain ⟨bk, hbk, hbk2, _, _⟩ := ba_get hkl
        refine PW.skip ?_
        refine hK3 _ _ ?_
        refine PW.keep (T' := [(0, _), (4, _), (5, _), (6, _)]) ⟨rfl, rfl, rfl, rfl, trivial⟩ ?_
        refine PW.seq fun K4 hK4 => ?_
        refine PW.block ?_
        refine PW.seqOps ?_
        refine OL.det trivial (Yields.pure rfl) ?_
        refine OL.det trivial (Yields.pure rfl) ?_
        refine OL.det trivial (Yields.ixStr rfl rfl hbk) ?_
        refine OL.det trivial (Yields.pure rfl) ?_
        refine OL.nil ?_
        refine PW.keep (T' := [(0, _), (4, _), (5, _), (6, _), (27, _)]) ⟨rfl, rfl, rfl, rfl, rfl, trivial⟩ ?_
        refine PW.cond rfl (fun c27 => ?_) (fun c27 => ?_)
        · try simp only [decide_eq_true_eq, decide_eq_false_iff_not, beq_iff_eq, bne_iff_ne, beq_eq_false_iff_ne, bne_eq_false_iff_eq, Bool.not_eq_true', Bool.not_eq_false', Bool.not_eq_true, ne_eq, Decidable.not_not] at c27
          refine PW.seqOps ?_
          refine OL.det trivial (Yields.pure rfl) ?_
          refine OL.det trivial (Yields.pure rfl) ?_
          refine OL.det trivial (Yields.pure rfl) ?_
          refine OL.det trivial (Yields.pure rfl) ?_
          refine OL.det trivial (Yields.slStr (s := tb) (l := f) (h := k) rfl rfl rfl (.inl rfl) (.inl rfl) (by omega) (by omega)) ?_
          apply OL.app1 (k := 0)
          · rfl
          · rfl
          · rfl
          · rfl
          · rfl
          · rfl
          · exact hv
          · rfl
          · omega
          · unfold maxLen; omega
          intro v34 seg34 hsl34
          refine OL.det trivial (Yields.pure rfl) ?_
          refine OL.nil ?_
          refine PW.keep (T' := [(0, _), (4, _), (6, _)]) ⟨rfl, rfl, rfl, trivial⟩ ?_
          refine PW.ops ?_
          refine OL.det trivial (Yields.pure rfl) ?_
          refine OL.det trivial (Yields.add64 rfl rfl (by omega) (by omega)) ?_
          refine OL.det trivial (Yields.pure rfl) ?_
          refine OL.nil ?_
          refine hK4 _ _ ?_
          refine PW.keep (T' := [(0, _), (4, _), (5, _), (6, _)]) ⟨rfl, rfl, rfl, rfl, trivial⟩ ?_
          refine PW.ops ?_
          refine OL.det trivial (Yields.pure rfl) ?_
          refine OL.det trivial (Yields.add64 rfl rfl (by omega) (by omega)) ?_
          refine OL.det trivial (Yields.pure rfl) ?_
          refine OL.nil ?_
          repeat rw [inBlk_n]
          rw [thenK_n]
          refine LoopEnd.mk (T'' := [(0, _), (4, _), (5, _), (6, _)]) ⟨rfl, rfl, rfl, rfl, trivial⟩ ?_
          refine ⟨tb.data.toList.length - (k + 1), by omega, k + 1, k + 1, v34, seg34, ls ++ [tb.extract f k], ⟨by omega, by omega, by simp; omega, rfl, by rw [show strs (ls ++ [tb.extract f k]) = strs ls ++ [Value.string (tb.extract f k)] by simp [strs], List.length_append]; exact hsl34, ?_, fun j h1 h2 => by omega⟩, by simp, rfl⟩
          have hcutl : tb.data.toList.drop f = (tb.data.toList.take k).drop f ++ 10 :: tb.data.toList.drop (k + 1) := by
            have h10 : bk = 10 := UInt8.toNat_inj.1 (by show bk.toNat = 10; omega)
            conv => lhs; rw [← List.take_append_drop k tb.data.toList]
            rw [List.drop_append_of_le_length (by simp; omega)]
            congr 1
            have := List.getElem?_eq_some_iff.1 hbk2
            rw [List.drop_eq_getElem_cons this.1, this.2, h10]
          rw [hspl, hcutl, spl_cut _ _ ?_]
          · rw [show (⟨((tb.data.toList.take k).drop f).toArray⟩ : ByteArray) = tb.extract f k from ba_ext (by rw [ext_list])]
            cases splB (tb.data.toList.drop (k + 1)) <;> simp
          · intro x hx e
            obtain ⟨j, hj⟩ := List.getElem?_of_mem hx
            rw [List.getElem?_drop] at hj
            have hjk : f + j < k := by
              have := (List.getElem?_eq_some_iff.1 hj).1
              simp at this; omega
            rw [List.getElem?_take_of_lt hjk, e] at hj
            exact hno (f + j) (by omega) hjk hj
        · try simp only [decide_eq_true_eq, decide_eq_false_iff_not, beq_iff_eq, bne_iff_ne, beq_eq_false_iff_ne, bne_eq_false_iff_eq, Bool.not_eq_true', Bool.not_eq_false', Bool.not_eq_true, ne_eq, Decidable.not_not] at c27
          refine PW.skip ?_
          refine hK4 _ _ ?_
          refine PW.keep (T' := [(0, _), (4, _), (5, _), (6, _)]) ⟨rfl, rfl, rfl, rfl, trivial⟩ ?_
          refine PW.ops ?_
          refine OL.det trivial (Yields.pure rfl) ?_
          refine OL.det trivial (Yields.add64 rfl rfl (by omega) (by omega)) ?_
          refine OL.det trivial (Yields.pure rfl) ?_
          refine OL.nil ?_
          repeat rw [inBlk_n]
          rw [thenK_n]
          refine LoopEnd.mk (T'' := [(0, _), (4, _), (5, _), (6, _)]) ⟨rfl, rfl, rfl, rfl, trivial⟩ ?_
          refine ⟨tb.data.toList.length - (k + 1), by omega, k + 1, f, w, sb, ls, ⟨by omega, by omega, by omega, rfl, hv, hspl, fun j h1 h2 => ?_⟩, by simp, rfl⟩
          rcases Nat.lt_or_ge j k with h | h
          · exact hno j h1 h
          · obtain rfl : j = k := by omega
            rw [hbk2]; intro e; obtain rfl := Option.some.inj e; exact c27 rfl
      · try simp only [decide_eq_true_eq, decide_eq_false_iff_not, beq_iff_eq, bne_iff_ne, beq_eq_false_iff_ne, bne_eq_false_iff_eq, Bool.not_eq_true', Bool.not_eq_false', Bool.not_eq_true, ne_eq, Decidable.not_not] at c21
        refine PW.exit ?_
        refine hK2 _ _ ?_
        refine PW.keep (T' := [(4, _)]) ⟨rfl, trivial⟩ ?_
        refine PW.seqOps ?_
        refine OL.det trivial (Yields.pure rfl) ?_
        refine OL.det trivial (Yields.pure rfl) ?_
        refine OL.det trivial (Yields.pure rfl) ?_
        refine OL.nil ?_
        refine PW.keep (T' := [(2, _), (3, _)]) ⟨rfl, rfl, trivial⟩ ?_
        refine PW.ret ?_
        change (Exit.ret = Exit.normal ∨ Exit.ret = Exit.ret) ∧ ∃ v, resV _ _ = some v ∧ _
        have hf : f = tb.data.toList.length := by
          rcases Nat.lt_or_ge f tb.data.toList.length with h | h
          · exact absurd (hlast (by omega)) (hno (tb.data.toList.length - 1) (by omega) (by omega))
          · omega
        have he : splB tb.data.toList = some ls := by rw [hspl, hf, List.drop_length]; simp [splB]
        obtain ⟨A, cap, rfl, _, _⟩ := hv.rd (w0 := w0) (S := [sb]) (k := 0) rfl
        exact ⟨.inr rfl, _, rfl, by unfold lst fine; rw [he]; exact ⟨A, cap, sb, rfl, rfl, fun S2 => by obtain ⟨A', cap', e, h2, _⟩ := hv.rd (w0 := w0) (S := sb :: S2) (k := 0) rfl; cases e; exact h2⟩⟩
  · try simp only [decide_eq_true_eq, decide_eq_false_iff_not, beq_iff_eq, bne_iff_ne, beq_eq_false_iff_ne, bne_eq_false_iff_eq, Bool.not_eq_true', Bool.not_eq_false', Bool.not_eq_true, ne_eq, Decidable.not_not] at g10
    have hlast : 0 < tb.data.toList.length → tb.data.toList[tb.data.toList.length - 1]? = some 10 := fun h => by omega
    refine OL.off rfl rfl ?_
    refine OL.off rfl rfl ?_
    refine OL.off rfl rfl ?_
    refine OL.off rfl rfl ?_
    refine OL.off rfl rfl ?_
    refine OL.off rfl rfl ?_
    refine OL.det trivial (Yields.pure rfl) ?_
    refine OL.nil ?_
    refine PW.keep (T' := [(0, _), (17, _)]) ⟨rfl, rfl, trivial⟩ ?_
    refine PW.ite (b := false) rfl ?_
    rw [if_neg Bool.false_ne_true]
    refine PW.skip ?_
    refine hK1 _ _ ?_
    refine PW.keep (T' := [(0, _)]) ⟨rfl, trivial⟩ ?_
    refine PW.seqOps ?_
    refine OL.det trivial (Yields.pure rfl) ?_
    refine OL.nil ?_
    refine PW.keep (T' := [(0, _), (4, _)]) ⟨rfl, rfl, trivial⟩ ?_
    refine PW.seqOps ?_
    refine OL.det trivial (Yields.pure rfl) ?_
    refine OL.nil ?_
    refine PW.keep (T' := [(0, _), (4, _), (5, _)]) ⟨rfl, rfl, rfl, trivial⟩ ?_
    refine PW.seq fun K5 hK5 => ?_
    refine PW.seqOps ?_
    refine OL.det trivial (Yields.pure rfl) ?_
    refine OL.nil ?_
    refine PW.keep (T' := [(0, _), (4, _), (5, _), (6, _)]) ⟨rfl, rfl, rfl, rfl, trivial⟩ ?_
    refine PW.block ?_
    refine PW.keep (T' := [(0, _), (4, _), (5, _), (6, _)]) ⟨rfl, rfl, rfl, rfl, trivial⟩ ?_
    refine PW.loopK (I := fun m T S' => ∃ (k f : Nat) (w : Value) (sb : Seg) (ls : List ByteArray), (f ≤ k ∧ k ≤ tb.data.toList.length ∧ ls.length ≤ k ∧ m = tb.data.toList.length - k ∧ SlV 9 1 w ls.length (strs ls) sb ∧ splB tb.data.toList = (splB (tb.data.toList.drop f)).map (ls ++ ·) ∧ ∀ j, f ≤ j → j < k → tb.data.toList[j]? ≠ some 10) ∧ T = ([(0, .string tb), (4, w), (5, .int .i64 (f : Int)), (6, .int .i64 (k : Int))] : TT) ∧ S' = sb :: S) (m := tb.data.toList.length) ⟨0, 0, _, [], [], ⟨by omega, by omega, by simp, by omega, SlV.nil 9 1, by rw [List.drop_zero]; cases splB tb.data.toList <;> simp, fun j h1 h2 => by omega⟩, rfl, rfl⟩ ?_
    rintro m _ _ ⟨k, f, w, sb, ls, ⟨hfk, hk, hlk, hm, hv, hspl, hno⟩, rfl, rfl⟩
    refine PW.seq fun K6 hK6 => ?_
    refine PW.seqOps ?_
    refine OL.det trivial (Yields.pure rfl) ?_
    refine OL.det trivial (Yields.pure rfl) ?_
    refine OL.det trivial (Yields.pure rfl) ?_
    refine OL.det trivial (Yields.pure rfl) ?_
    refine OL.nil ?_
    refine PW.keep (T' := [(0, _), (4, _), (5, _), (6, _), (21, _)]) ⟨rfl, rfl, rfl, rfl, rfl, trivial⟩ ?_
    refine PW.cond rfl (fun c21 => ?_) (fun c21 => ?_)
    · try simp only [decide_eq_true_eq, decide_eq_false_iff_not, beq_iff_eq, bne_iff_ne, beq_eq_false_iff_ne, bne_eq_false_iff_eq, Bool.not_eq_true', Bool.not_eq_false', Bool.not_eq_true, ne_eq, Decidable.not_not] at c21
      have hkl : k < tb.size := by omega
      obtain ⟨bk, hbk, hbk2, _, _⟩ := ba_get hkl
      refine PW.skip ?_
      refine hK6 _ _ ?_
      refine PW.keep (T' := [(0, _), (4, _), (5, _), (6, _)]) ⟨rfl, rfl, rfl, rfl, trivial⟩ ?_
      refine PW.seq fun K7 hK7 => ?_
      refine PW.block ?_
      refine PW.seqOps ?_
      refine OL.det trivial (Yields.pure rfl) ?_
      refine OL.det trivial (Yields.pure rfl) ?_
      refine OL.det trivial (Yields.ixStr rfl rfl hbk) ?_
      refine OL.det trivial (Yields.pure rfl) ?_
      refine OL.nil ?_
      refine PW.keep (T' := [(0, _), (4, _), (5, _), (6, _), (27, _)]) ⟨rfl, rfl, rfl, rfl, rfl, trivial⟩ ?_
      refine PW.cond rfl (fun c27 => ?_) (fun c27 => ?_)
      · try simp only [decide_eq_true_eq, decide_eq_false_iff_not, beq_iff_eq, bne_iff_ne, beq_eq_false_iff_ne, bne_eq_false_iff_eq, Bool.not_eq_true', Bool.not_eq_false', Bool.not_eq_true, ne_eq, Decidable.not_not] at c27
        refine PW.seqOps ?_
        refine OL.det trivial (Yields.pure rfl) ?_
        refine OL.det trivial (Yields.pure rfl) ?_
        refine OL.det trivial (Yields.pure rfl) ?_
        refine OL.det trivial (Yields.pure rfl) ?_
        refine OL.det trivial (Yields.slStr (s := tb) (l := f) (h := k) rfl rfl rfl (.inl rfl) (.inl rfl) (by omega) (by omega)) ?_
        apply OL.app1 (k := 0)
        · rfl
        · rfl
        · rfl
        · rfl
        · rfl
        · rfl
        · exact hv
        · rfl
        · omega
        · unfold maxLen; omega
        intro v34 seg34 hsl34
        refine OL.det trivial (Yields.pure rfl) ?_
        refine OL.nil ?_
        refine PW.keep (T' := [(0, _), (4, _), (6, _)]) ⟨rfl, rfl, rfl, trivial⟩ ?_
        refine PW.ops ?_
        refine OL.det trivial (Yields.pure rfl) ?_
        refine OL.det trivial (Yields.add64 rfl rfl (by omega) (by omega)) ?_
        refine OL.det trivial (Yields.pure rfl) ?_
        refine OL.nil ?_
        refine hK7 _ _ ?_
        refine PW.keep (T' := [(0, _), (4, _), (5, _), (6, _)]) ⟨rfl, rfl, rfl, rfl, trivial⟩ ?_
        refine PW.ops ?_
        refine OL.det trivial (Yields.pure rfl) ?_
        refine OL.det trivial (Yields.add64 rfl rfl (by omega) (by omega)) ?_
        refine OL.det trivial (Yields.pure rfl) ?_
        refine OL.nil ?_
        repeat rw [inBlk_n]
        rw [thenK_n]
        refine LoopEnd.mk (T'' := [(0, _), (4, _), (5, _), (6, _)]) ⟨rfl, rfl, rfl, rfl, trivial⟩ ?_
        refine ⟨tb.data.toList.length - (k + 1), by omega, k + 1, k + 1, v34, seg34, ls ++ [tb.extract f k], ⟨by omega, by omega, by simp; omega, rfl, by rw [show strs (ls ++ [tb.extract f k]) = strs ls ++ [Value.string (tb.extract f k)] by simp [strs], List.length_append]; exact hsl34, ?_, fun j h1 h2 => by omega⟩, by simp, rfl⟩
        have hcutl : tb.data.toList.drop f = (tb.data.toList.take k).drop f ++ 10 :: tb.data.toList.drop (k + 1) := by
          have h10 : bk = 10 := UInt8.toNat_inj.1 (by show bk.toNat = 10; omega)
          conv => lhs; rw [← List.take_append_drop k tb.data.toList]
          rw [List.drop_append_of_le_length (by simp; omega)]
          congr 1
          have := List.getElem?_eq_some_iff.1 hbk2
          rw [List.drop_eq_getElem_cons this.1, this.2, h10]
        rw [hspl, hcutl, spl_cut _ _ ?_]
        · rw [show (⟨((tb.data.toList.take k).drop f).toArray⟩ : ByteArray) = tb.extract f k from ba_ext (by rw [ext_list])]
          cases splB (tb.data.toList.drop (k + 1)) <;> simp
        · intro x hx e
          obtain ⟨j, hj⟩ := List.getElem?_of_mem hx
          rw [List.getElem?_drop] at hj
          have hjk : f + j < k := by
            have := (List.getElem?_eq_some_iff.1 hj).1
            simp at this; omega
          rw [List.getElem?_take_of_lt hjk, e] at hj
          exact hno (f + j) (by omega) hjk hj
      · try simp only [decide_eq_true_eq, decide_eq_false_iff_not, beq_iff_eq, bne_iff_ne, beq_eq_false_iff_ne, bne_eq_false_iff_eq, Bool.not_eq_true', Bool.not_eq_false', Bool.not_eq_true, ne_eq, Decidable.not_not] at c27
        refine PW.skip ?_
        refine hK7 _ _ ?_
        refine PW.keep (T' := [(0, _), (4, _), (5, _), (6, _)]) ⟨rfl, rfl, rfl, rfl, trivial⟩ ?_
        refine PW.ops ?_
        refine OL.det trivial (Yields.pure rfl) ?_
        refine OL.det trivial (Yields.add64 rfl rfl (by omega) (by omega)) ?_
        refine OL.det trivial (Yields.pure rfl) ?_
        refine OL.nil ?_
        repeat rw [inBlk_n]
        rw [thenK_n]
        refine LoopEnd.mk (T'' := [(0, _), (4, _), (5, _), (6, _)]) ⟨rfl, rfl, rfl, rfl, trivial⟩ ?_
        refine ⟨tb.data.toList.length - (k + 1), by omega, k + 1, f, w, sb, ls, ⟨by omega, by omega, by omega, rfl, hv, hspl, fun j h1 h2 => ?_⟩, by simp, rfl⟩
        rcases Nat.lt_or_ge j k with h | h
        · exact hno j h1 h
        · obtain rfl : j = k := by omega
          rw [hbk2]; intro e; obtain rfl := Option.some.inj e; exact c27 rfl
    · try simp only [decide_eq_true_eq, decide_eq_false_iff_not, beq_iff_eq, bne_iff_ne, beq_eq_false_iff_ne, bne_eq_false_iff_eq, Bool.not_eq_true', Bool.not_eq_false', Bool.not_eq_true, ne_eq, Decidable.not_not] at c21
      refine PW.exit ?_
      refine hK5 _ _ ?_
      refine PW.keep (T' := [(4, _)]) ⟨rfl, trivial⟩ ?_
      refine PW.seqOps ?_
      refine OL.det trivial (Yields.pure rfl) ?_
      refine OL.det trivial (Yields.pure rfl) ?_
      refine OL.det trivial (Yields.pure rfl) ?_
      refine OL.nil ?_
      refine PW.keep (T' := [(2, _), (3, _)]) ⟨rfl, rfl, trivial⟩ ?_
      refine PW.ret ?_
      change (Exit.ret = Exit.normal ∨ Exit.ret = Exit.ret) ∧ ∃ v, resV _ _ = some v ∧ _
      have hf : f = tb.data.toList.length := by
        rcases Nat.lt_or_ge f tb.data.toList.length with h | h
        · exact absurd (hlast (by omega)) (hno (tb.data.toList.length - 1) (by omega) (by omega))
        · omega
      have he : splB tb.data.toList = some ls := by rw [hspl, hf, List.drop_length]; simp [splB]
      obtain ⟨A, cap, rfl, _, _⟩ := hv.rd (w0 := w0) (S := [sb]) (k := 0) rfl
      exact ⟨.inr rfl, _, rfl, by unfold lst fine; rw [he]; exact ⟨A, cap, sb, rfl, rfl, fun S2 => by obtain ⟨A', cap', e, h2, _⟩ := hv.rd (w0 := w0) (S := sb :: S2) (k := 0) rfl; cases e; exact h2⟩⟩
theorem rsplit_fc {w0 : World} {S : SS} {tb : ByteArray} (htb : tb.size ≤ 100000) : FC Try.prog w0 9 [.string tb] S (resP w0 (splP tb).1 (.int .i64 (splP tb).2) S) := by
  refine FC.of Try.known9 (by simp) ?_
  unfold Try.pc9
  simp only [argT]
  refine PW.seqOps ?_
  refine OL.det trivial (Yields.pure rfl) ?_
  refine OL.det trivial (Yields.pure rfl) ?_
  refine OL.nil ?_
  refine PW.keep (T' := [(0, _)]) ⟨rfl, trivial⟩ ?_
  refine PW.seqOps ?_
  refine OL.det trivial (Yields.pure rfl) ?_
  refine OL.call trivial rfl (rparts_fc htb) ?_
  rintro _ _ ⟨A, cap, seg, rfl, rfl, hrd⟩
  refine OL.det trivial (Yields.pure rfl) ?_
  refine OL.det trivial (Yields.pure rfl) ?_
  refine OL.det trivial (Yields.pure rfl) ?_
  refine OL.det trivial (Yields.pure rfl) ?_
  refine OL.det trivial (Yields.pure rfl) ?_
  refine OL.nil ?_
  refine PW.keep (T' := [(4, _), (5, _)]) ⟨rfl, rfl, trivial⟩ ?_
  refine PW.seq fun K1 hK1 => ?_
  refine PW.seqOps ?_
  refine OL.det trivial (Yields.pure rfl) ?_
  refine OL.det trivial (Yields.pure rfl) ?_
  refine OL.nil ?_
  refine PW.keep (T' := [(4, _), (13, _)]) ⟨rfl, rfl, trivial⟩ ?_
  refine PW.cond rfl (fun c13 => ?_) (fun c13 => ?_)
  · try simp only [decide_eq_true_eq, decide_eq_false_iff_not, beq_iff_eq, bne_iff_ne, beq_eq_false_iff_ne, bne_eq_false_iff_eq, Bool.not_eq_true', Bool.not_eq_false', Bool.not_eq_true, ne_eq, Decidable.not_not] at c13
    refine PW.seqOps ?_
    refine OL.det trivial (Yields.pure rfl) ?_
    refine OL.det trivial (Yields.pure rfl) ?_
    refine OL.nil ?_
    refine PW.keep (T' := [(2, _), (3, _)]) ⟨rfl, rfl, trivial⟩ ?_
    refine PW.ret ?_
    change (Exit.ret = Exit.normal ∨ Exit.ret = Exit.ret) ∧ ∃ v, resV _ _ = some v ∧ _
    exact ⟨.inr rfl, _, rfl, by unfold splP; rw [if_pos c13]; exact ⟨none, 0, seg, rfl, rfl, fun S2 => Rd.nil⟩⟩
  · try simp only [decide_eq_true_eq, decide_eq_false_iff_not, beq_iff_eq, bne_iff_ne, beq_eq_false_iff_ne, bne_eq_false_iff_eq, Bool.not_eq_true', Bool.not_eq_false', Bool.not_eq_true, ne_eq, Decidable.not_not] at c13
    refine PW.skip ?_
    refine hK1 _ _ ?_
    refine PW.keep (T' := [(4, _)]) ⟨rfl, trivial⟩ ?_
    refine PW.seqOps ?_
    refine OL.det trivial (Yields.pure rfl) ?_
    refine OL.call trivial rfl (rcheck_fc (hrd S) (by have := lst_len tb; omega) (fun s h => by have := lst_size tb s h; omega)) ?_
    rintro _ _ ⟨rfl, rfl⟩
    refine OL.det trivial (Yields.pure rfl) ?_
    refine OL.nil ?_
    refine PW.keep (T' := [(4, _), (6, _)]) ⟨rfl, rfl, trivial⟩ ?_
    refine PW.seq fun K2 hK2 => ?_
    refine PW.seqOps ?_
    refine OL.det trivial (Yields.pure rfl) ?_
    refine OL.det trivial (Yields.pure rfl) ?_
    refine OL.nil ?_
    refine PW.keep (T' := [(4, _), (6, _), (17, _)]) ⟨rfl, rfl, rfl, trivial⟩ ?_
    refine PW.cond rfl (fun c17 => ?_) (fun c17 => ?_)
    · try simp only [decide_eq_true_eq, decide_eq_false_iff_not, beq_iff_eq, bne_iff_ne, beq_eq_false_iff_ne, bne_eq_false_iff_eq, Bool.not_eq_true', Bool.not_eq_false', Bool.not_eq_true, ne_eq, Decidable.not_not] at c17
      refine PW.seqOps ?_
      refine OL.det trivial (Yields.pure rfl) ?_
      refine OL.det trivial (Yields.pure rfl) ?_
      refine OL.det trivial (Yields.pure rfl) ?_
      refine OL.nil ?_
      refine PW.keep (T' := [(2, _), (3, _)]) ⟨rfl, rfl, trivial⟩ ?_
      refine PW.ret ?_
      change (Exit.ret = Exit.normal ∨ Exit.ret = Exit.ret) ∧ ∃ v, resV _ _ = some v ∧ _
      exact ⟨.inr rfl, _, rfl, by unfold splP; rw [if_neg (by rw [c13]; simp), if_pos c17]; exact ⟨none, 0, seg, rfl, rfl, fun S2 => Rd.nil⟩⟩
    · try simp only [decide_eq_true_eq, decide_eq_false_iff_not, beq_iff_eq, bne_iff_ne, beq_eq_false_iff_ne, bne_eq_false_iff_eq, Bool.not_eq_true', Bool.not_eq_false', Bool.not_eq_true, ne_eq, Decidable.not_not] at c17
      refine PW.skip ?_
      refine hK2 _ _ ?_
      refine PW.keep (T' := [(4, _)]) ⟨rfl, trivial⟩ ?_
      refine PW.seqOps ?_
      refine OL.det trivial (Yields.pure rfl) ?_
      refine OL.det trivial (Yields.pure rfl) ?_
      refine OL.det trivial (Yields.pure rfl) ?_
      refine OL.nil ?_
      refine PW.keep (T' := [(2, _), (3, _)]) ⟨rfl, rfl, trivial⟩ ?_
      refine PW.ret ?_
      change (Exit.ret = Exit.normal ∨ Exit.ret = Exit.ret) ∧ ∃ v, resV _ _ = some v ∧ _
      exact ⟨.inr rfl, _, rfl, by unfold splP; rw [if_neg (by rw [c13]; simp), if_neg (by simpa using c17)]; exact ⟨A, cap, seg, rfl, rfl, hrd⟩⟩

end Go.Proofs
