/- Walks and plain facts for the laws of this seat: what each function answers, for every input. -/
import Derived.Test.YtefefmogjmimdaaSl8
import Derived.Test.YtefefmogjmimdaaMyW2
import Derived.Test.YtefefmogjmimdaaMyPlain
set_option linter.unusedVariables false
set_option linter.unusedSimpArgs false
namespace Go.Proofs
open Go.SL Go.RowKit

open Go.MyPlain
set_option maxHeartbeats 1000000
def intC (l : List Nat) : List Value := l.map fun (i : Nat) => Value.int .i64 (i : Int)
/-- texts with their numbers, as the map holds them -/
def ent (ks : List ByteArray) (i : Nat) : List (ByteArray × Value) := match ks with | [] => [] | k :: r => (k, .int .i64 (i : Int)) :: ent r (i + 1)
theorem ent_length (ks : List ByteArray) (i : Nat) : (ent ks i).length = ks.length := by induction ks generalizing i with | nil => rfl | cons k r ih => simp [ent, ih]
theorem beq_bytes (a b : ByteArray) : (a == b) = decide (a = b) := by
  by_cases h : a = b
  · simp [h, (Go.MapKept.bytes_beq b b).2 rfl]
  · have : ¬ (a == b) = true := fun e => h ((Go.MapKept.bytes_beq a b).1 e)
    simp [h, this]
theorem mget_ent (ks : List ByteArray) (s : ByteArray) (i : Nat) : mget (ent ks i) s = (idx ks s).map fun j => .int .i64 ((i + j : Nat) : Int) := by
  induction ks generalizing i with
  | nil => simp [ent, mget, idx]
  | cons k r ih =>
    by_cases h : s = k
    · simp [ent, mget, idx, List.find?_cons, beq_bytes, h]
    · have := ih (i + 1)
      simp only [mget, beq_bytes] at this
      simp only [ent, mget, idx, List.find?_cons, beq_bytes, h, decide_false, if_false]
      rw [this]
      cases idx r s <;> simp <;> omega
theorem mput_ent (ks : List ByteArray) (s : ByteArray) (i : Nat) (h : idx ks s = none) : mputAt (ent ks i) s (.int .i64 ((i + ks.length : Nat) : Int)) = ent (ks ++ [s]) i := by
  induction ks generalizing i with
  | nil => simp [ent, mputAt]
  | cons k r ih =>
    simp only [idx] at h
    split at h
    · simp at h
    · rename_i hk
      have := ih (i + 1) (by simpa using h)
      simp only [ent, mputAt, beq_bytes, hk, decide_false, List.cons_append, Bool.false_eq_true, if_false]
      rw [← this]
      simp [Nat.add_assoc, Nat.add_comm, Nat.add_left_comm]
theorem numS_len (xs : List ByteArray) (st : List ByteArray × List Nat) : (xs.foldl numS st).2.length = st.2.length + xs.length ∧ (xs.foldl numS st).1.length ≤ st.1.length + xs.length := by
  obtain ⟨a, b⟩ := st
  rw [numS_foldl]
  have := numF_keys a xs
  simp [numF_length, this]
theorem numbered_fc {w0 : World} {S : SS} {A : Option Addr} {ca mb : Nat} {ks xs : List ByteArray} (hx : Rd w0 S A (xs.map .string)) (hb : xs.length ≤ 100000) (hk : ks.length ≤ 100000) :
    FC Try.prog w0 19 [.map (some mb), .slice A xs.length ca] ([(mb, .map (skey (ent ks 0)))] :: S) (fun v S' => ∃ seg, S' = seg :: [(mb, .map (skey (ent (numF ks xs).1 0)))] :: S ∧ SlV 3 1 v xs.length (intC (numF ks xs).2) seg) := by
  refine FC.of Try.known19 (by simp) ?_
  unfold Try.pc19
  simp only [argT]
  refine PW.seqOps ?_
  refine OL.det trivial (Yields.pure rfl) ?_
  refine OL.nil ?_
  refine PW.keep (T' := [(0, _), (1, _)]) ⟨rfl, rfl, trivial⟩ ?_
  refine PW.seqOps ?_
  refine OL.det trivial (Yields.pure rfl) ?_
  refine OL.det trivial (Yields.pure rfl) ?_
  refine OL.cons trivial (OW.mkS_cap rfl rfl (by omega) (by unfold maxLen; omega)) ?_
  rintro _ _ ⟨r12, rfl, rfl⟩
  refine OL.det trivial (Yields.pure rfl) ?_
  refine OL.nil ?_
  refine PW.keep (T' := [(0, _), (1, _), (5, _)]) ⟨rfl, rfl, rfl, trivial⟩ ?_
  refine PW.seq fun K1 hK1 => ?_
  refine PW.seqOps ?_
  refine OL.det trivial (Yields.pure rfl) ?_
  refine OL.det trivial (Yields.pure rfl) ?_
  refine OL.det trivial (Yields.pure rfl) ?_
  refine OL.nil ?_
  refine PW.keep (T' := [(0, _), (5, _), (13, _), (14, _), (15, _)]) ⟨rfl, rfl, rfl, rfl, rfl, trivial⟩ ?_
  refine PW.block ?_
  refine PW.keep (T' := [(0, _), (5, _), (13, _), (14, _), (15, _)]) ⟨rfl, rfl, rfl, rfl, rfl, trivial⟩ ?_
  refine PW.loopK (I := fun m T S' => ∃ (k : Nat) (v : Value) (seg : Seg), (k ≤ xs.length ∧ m = xs.length - k ∧ SlV 3 1 v k (intC ((xs.take k).foldl numS (ks, [])).2) seg) ∧ T = ([(0, .map (some mb)), (5, v), (13, .slice A xs.length ca), (14, .int .i64 xs.length), (15, .int .i64 k)] : TT) ∧ S' = seg :: [(mb, .map (skey (ent ((xs.take k).foldl numS (ks, [])).1 0)))] :: S) (m := xs.length) ⟨0, _, [(r12, .cells [] 3 (xs.length * 1))], ⟨by omega, by omega, by simpa [intC] using SlV.mk' (E := 3) (sz := 1) (m := 0) (cap := xs.length) (r := r12) (xs := []) (by simp) (by omega) (by unfold maxLen; omega)⟩, rfl, rfl⟩ ?_
  rintro m _ _ ⟨k, v, seg, ⟨hkk, hm, hsl⟩, rfl, rfl⟩
  refine PW.seqOps ?_
  refine OL.det trivial (Yields.pure rfl) ?_
  refine OL.nil ?_
  refine PW.keep (T' := [(0, _), (5, _), (13, _), (14, _), (15, _), (16, _)]) ⟨rfl, rfl, rfl, rfl, rfl, rfl, trivial⟩ ?_
  refine PW.seq fun K2 hK2 => ?_
  refine PW.cond rfl (fun c16 => ?_) (fun c16 => ?_)
  · try simp only [decide_eq_true_eq, decide_eq_false_iff_not, beq_iff_eq, bne_iff_ne, beq_eq_false_iff_ne, bne_eq_false_iff_eq, Bool.not_eq_true', Bool.not_eq_false', Bool.not_eq_true, ne_eq, Decidable.not_not] at c16
    have hlt : k < xs.length := by omega
    obtain ⟨a, rfl⟩ := hx.some (strs_ne (by omega))
    have hx2 : Rd w0 (seg :: [(mb, .map (skey (ent ((xs.take k).foldl numS (ks, [])).1 0)))] :: S) (some a) (xs.map .string) := hx.cons.cons
    have hst : (xs.take (k + 1)).foldl numS (ks, []) = numS ((xs.take k).foldl numS (ks, [])) xs[k] := by
      rw [List.take_add_one, List.getElem?_eq_getElem hlt, List.foldl_append]; rfl
    have hlen := numS_len (xs.take k) (ks, [])
    simp only [List.length_take] at hlen
    generalize hstk : (xs.take k).foldl numS (ks, []) = st at *
    have hget := mget_ent st.1 xs[k] 0
    have hkl : (skey (ent st.1 0)).length = st.1.length := by simp [skey, ent_length]
    refine PW.skip ?_
    refine hK2 _ _ ?_
    refine PW.keep (T' := [(0, _), (5, _), (13, _), (14, _), (15, _)]) ⟨rfl, rfl, rfl, rfl, rfl, trivial⟩ ?_
    refine PW.seq fun K3 hK3 => ?_
    refine PW.block ?_
    refine PW.seqOps ?_
    refine OL.det trivial (Yields.ixN1 rfl rfl rfl (by omega)) ?_
    refine OL.det trivial (Yields.ld rfl (str_at hx2 hlt)) ?_
    refine OL.det trivial (Yields.pure rfl) ?_
    refine OL.nil ?_
    refine PW.keep (T' := [(0, _), (5, _), (7, _), (13, _), (14, _), (15, _)]) ⟨rfl, rfl, rfl, rfl, rfl, rfl, trivial⟩ ?_
    refine PW.seqOps ?_
    refine OL.det trivial (Yields.pure rfl) ?_
    refine OL.det trivial (Yields.pure rfl) ?_
    refine OL.det trivial (Yields.lookS (k := 1) rfl rfl rfl) ?_
    refine OL.det trivial (Yields.pure rfl) ?_
    refine OL.det trivial (Yields.pure rfl) ?_
    refine OL.det trivial (Yields.pure rfl) ?_
    refine OL.det trivial (Yields.pure rfl) ?_
    refine OL.det trivial (Yields.pure rfl) ?_
    refine OL.nil ?_
    refine PW.keep (T' := [(0, _), (5, _), (7, _), (8, _), (9, _), (13, _), (14, _), (15, _)]) ⟨rfl, rfl, rfl, rfl, rfl, rfl, rfl, rfl, trivial⟩ ?_
    refine PW.seq fun K4 hK4 => ?_
    refine PW.seqOps ?_
    refine OL.det trivial (Yields.pure rfl) ?_
    refine OL.det trivial (Yields.pure rfl) ?_
    refine OL.nil ?_
    refine PW.keep (T' := [(0, _), (5, _), (7, _), (8, _), (13, _), (14, _), (15, _), (26, _)]) ⟨rfl, rfl, rfl, rfl, rfl, rfl, rfl, rfl, trivial⟩ ?_
    refine PW.cond rfl (fun c26 => ?_) (fun c26 => ?_)
    · try simp only [decide_eq_true_eq, decide_eq_false_iff_not, beq_iff_eq, bne_iff_ne, beq_eq_false_iff_ne, bne_eq_false_iff_eq, Bool.not_eq_true', Bool.not_eq_false', Bool.not_eq_true, ne_eq, Decidable.not_not] at c26
      have hidx : idx st.1 xs[k] = none := by
        cases hh : idx st.1 xs[k] with
        | none => rfl
        | some i => rw [hget, hh] at c26; simp at c26
      have hput := mput_ent st.1 xs[k] 0 hidx
      rw [Nat.zero_add] at hput
      refine PW.seqOps ?_
      refine OL.det trivial (Yields.pure rfl) ?_
      refine OL.det trivial (Yields.lenM (k := 1) rfl rfl) ?_
      refine OL.det trivial (Yields.pure rfl) ?_
      refine OL.nil ?_
      refine PW.keep (T' := [(0, _), (5, _), (7, _), (8, _), (13, _), (14, _), (15, _)]) ⟨rfl, rfl, rfl, rfl, rfl, rfl, rfl, trivial⟩ ?_
      refine PW.ops ?_
      refine OL.det trivial (Yields.pure rfl) ?_
      refine OL.det trivial (Yields.pure rfl) ?_
      refine OL.det trivial (Yields.pure rfl) ?_
      refine OL.cons trivial (OW.updS (k := 1) rfl rfl rfl rfl) ?_
      rintro _ _ rfl
      refine OL.nil ?_
      refine hK4 _ _ ?_
      refine PW.keep (T' := [(0, _), (5, _), (8, _), (13, _), (14, _), (15, _)]) ⟨rfl, rfl, rfl, rfl, rfl, rfl, trivial⟩ ?_
      refine PW.ops ?_
      refine OL.det trivial (Yields.pure rfl) ?_
      refine OL.det trivial (Yields.pure rfl) ?_
      apply OL.app1 (k := 0)
      · rfl
      · rfl
      · rfl
      · rfl
      · rfl
      · rfl
      · exact hsl
      · rfl
      · omega
      · unfold maxLen; omega
      intro v35 seg35 hsl35
      refine OL.det trivial (Yields.pure rfl) ?_
      refine OL.nil ?_
      refine hK3 _ _ ?_
      refine PW.keep (T' := [(0, _), (5, _), (13, _), (14, _), (15, _)]) ⟨rfl, rfl, rfl, rfl, rfl, trivial⟩ ?_
      refine PW.ops ?_
      refine OL.det trivial (Yields.add64 rfl rfl (by omega) (by omega)) ?_
      refine OL.det trivial (Yields.pure rfl) ?_
      refine OL.nil ?_
      repeat rw [inBlk_n]
      rw [thenK_n]
      refine LoopEnd.mk (T'' := [(0, _), (5, _), (13, _), (14, _), (15, _)]) ⟨rfl, rfl, rfl, rfl, rfl, trivial⟩ ?_
      refine ⟨xs.length - (k + 1), by omega, k + 1, v35, seg35, ⟨by omega, rfl, ?_⟩, rfl, ?_⟩
      · rw [hst]; simp only [numS, hidx]; simpa [intC, hkl, Value.cells] using hsl35
      · rw [hst]; simp only [numS, hidx]; first | (simp [hput, hkl]; done) | (simp [hkl]; done) | rfl
    · try simp only [decide_eq_true_eq, decide_eq_false_iff_not, beq_iff_eq, bne_iff_ne, beq_eq_false_iff_ne, bne_eq_false_iff_eq, Bool.not_eq_true', Bool.not_eq_false', Bool.not_eq_true, ne_eq, Decidable.not_not] at c26
      obtain ⟨i, hidx⟩ : ∃ i, idx st.1 xs[k] = some i := by
        cases hh : idx st.1 xs[k] with
        | none => rw [hget, hh] at c26; simp at c26
        | some i => exact ⟨i, rfl⟩
      have hval : (mget (ent st.1 0) xs[k]).getD (.int .i64 0) = .int .i64 (i : Int) := by rw [hget, hidx]; simp
      rw [hval]
      refine PW.skip ?_
      refine hK4 _ _ ?_
      refine PW.keep (T' := [(0, _), (5, _), (8, _), (13, _), (14, _), (15, _)]) ⟨rfl, rfl, rfl, rfl, rfl, rfl, trivial⟩ ?_
      refine PW.ops ?_
      refine OL.det trivial (Yields.pure rfl) ?_
      refine OL.det trivial (Yields.pure rfl) ?_
      apply OL.app1 (k := 0)
      · rfl
      · rfl
      · rfl
      · rfl
      · rfl
      · rfl
      · exact hsl
      · rfl
      · omega
      · unfold maxLen; omega
      intro v35 seg35 hsl35
      refine OL.det trivial (Yields.pure rfl) ?_
      refine OL.nil ?_
      refine hK3 _ _ ?_
      refine PW.keep (T' := [(0, _), (5, _), (13, _), (14, _), (15, _)]) ⟨rfl, rfl, rfl, rfl, rfl, trivial⟩ ?_
      refine PW.ops ?_
      refine OL.det trivial (Yields.add64 rfl rfl (by omega) (by omega)) ?_
      refine OL.det trivial (Yields.pure rfl) ?_
      refine OL.nil ?_
      repeat rw [inBlk_n]
      rw [thenK_n]
      refine LoopEnd.mk (T'' := [(0, _), (5, _), (13, _), (14, _), (15, _)]) ⟨rfl, rfl, rfl, rfl, rfl, trivial⟩ ?_
      refine ⟨xs.length - (k + 1), by omega, k + 1, v35, seg35, ⟨by omega, rfl, ?_⟩, rfl, ?_⟩
      · rw [hst]; simp only [numS, hidx]; simpa [intC, hkl, Value.cells] using hsl35
      · rw [hst]; simp only [numS, hidx]; first | (simp [hput, hkl]; done) | (simp [hkl]; done) | rfl
  · try simp only [decide_eq_true_eq, decide_eq_false_iff_not, beq_iff_eq, bne_iff_ne, beq_eq_false_iff_ne, bne_eq_false_iff_eq, Bool.not_eq_true', Bool.not_eq_false', Bool.not_eq_true, ne_eq, Decidable.not_not] at c16
    refine PW.exit ?_
    refine hK1 _ _ ?_
    refine PW.keep (T' := [(5, _)]) ⟨rfl, trivial⟩ ?_
    refine PW.seqOps ?_
    refine OL.det trivial (Yields.pure rfl) ?_
    refine OL.det trivial (Yields.pure rfl) ?_
    refine OL.nil ?_
    refine PW.keep (T' := [(4, _)]) ⟨rfl, trivial⟩ ?_
    refine PW.ret ?_
    change (Exit.ret = Exit.normal ∨ Exit.ret = Exit.ret) ∧ ∃ v, resV _ _ = some v ∧ _
    obtain rfl : k = xs.length := by omega
    have e := numS_foldl xs ks []
    rw [List.take_length] at hsl
    rw [e] at hsl
    rw [List.take_length, e]
    exact ⟨.inr rfl, _, rfl, seg, rfl, by simpa using hsl⟩

end Go.Proofs
