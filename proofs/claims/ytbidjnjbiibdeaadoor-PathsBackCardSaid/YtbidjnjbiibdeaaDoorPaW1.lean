/- Walks and plain facts for the laws of this seat: what each function answers, for every input. -/
import Derived.Laws.Externs
import Derived.Laws.Strings
import Derived.Laws.RangeAny
import Derived.Laws.RangeString
import Derived.Lib.Bytealg
import Derived.Lib.IndexLaws
import Derived.Test.YtbidjnjbiibdeaaDoorSl22
import Derived.Test.YtbidjnjbiibdeaaDoorPaPc
set_option linter.unusedVariables false
set_option linter.unusedSimpArgs false
namespace Go.Proofs
open Go.SL Go.RowKit
set_option maxHeartbeats 1000000

theorem ext_list (s : ByteArray) (a b : Nat) : (s.extract a b).data.toList = (s.data.toList.take b).drop a := by
  simp [ByteArray.data_extract, List.drop_take]
theorem ba_ext {s t : ByteArray} (h : s.data.toList = t.data.toList) : s = t := by
  cases s; cases t; congr 1; exact Array.toList_inj.1 h
theorem ba_get {s : ByteArray} {k : Nat} (h : k < s.size) : ∃ b, s[k]? = some b ∧ s.data.toList[k]? = some b ∧ s.data.toList.take (k + 1) = s.data.toList.take k ++ [b] ∧ s[k]'h = b := by
  have h' : k < s.data.toList.length := by simpa using h
  refine ⟨s[k], by rw [getElem?_pos s k h], ?_, ?_, rfl⟩
  · rw [List.getElem?_eq_getElem h']; rfl
  · rw [List.take_add_one, List.getElem?_eq_getElem h']; rfl
theorem dec_ok {s : ByteArray} {p : Nat} {b : UInt8} (hp : p < s.size) (hb : s[p]'hp = b) : (b.toNat < 128 ∧ (Utf8.decode s p).1 = b.toNat ∧ (Utf8.decode s p).2 = 1) ∨ (128 ≤ b.toNat ∧ 128 ≤ (Utf8.decode s p).1) := by
  by_cases h : b.toNat < 128
  · have := decode_ascii s p hp (by rw [hb]; exact h)
    rw [this, hb]
    exact .inl ⟨h, rfl, rfl⟩
  · exact .inr ⟨by omega, (decode_high s p hp (by rw [hb]; omega)).1⟩
theorem OL.nxt {P : Program} {w0 : World} {n : Nat} {T : TT} {S : SS} {x : PV} {s : ByteArray} {b k p d1 d2 : Nat} {rest : List PI} {K : TT → SS → Prop} (hx : x.val T = some (.pointer (some ⟨b, 0, none⟩))) (hk : S[k]? = some [(b, .obj (.stringIter s p))])
    (h1 : p < s.size → OL P w0 n rest ((d2, .bool true) :: (d1, .tuple #[.bool true, .int .i64 (p : Int), .int .i32 ((Utf8.decode s p).1 : Int)]) :: T) (S.set k [(b, .obj (.stringIter s (p + (Utf8.decode s p).2)))]) K)
    (h2 : ¬ p < s.size → OL P w0 n rest ((d2, .bool false) :: (d1, .tuple #[.bool false]) :: T) S K) :
    OL P w0 n (⟨some d1, none, .more (.nxtS x)⟩ :: ⟨some d2, none, .ext 0 (.t d1)⟩ :: rest) T S K := by
  have hl : ∀ v : Value, (PV.t d1).val ((d1, v) :: T) = some v := fun v => look_put_same d1 v T
  by_cases hp : p < s.size
  · refine OL.cons trivial (OW.nxtS hx hk hp) ?_
    rintro _ _ ⟨rfl, rfl⟩
    refine OL.det trivial (Yields.pure (v := .bool true) ?_) (h1 hp)
    show evalP _ _ = _
    unfold evalP
    simp only [put, hl]
    rfl
  · refine OL.det trivial (OW.nxtS_end hx hk hp) ?_
    refine OL.det trivial (Yields.pure (v := .bool false) ?_) (h2 hp)
    show evalP _ _ = _
    unfold evalP
    simp only [put, hl]
    rfl
theorem toL_inj {a b : ByteArray} : a.toList = b.toList ↔ a = b := by
  constructor
  · intro h; rw [ByteArray.toList_eq, ByteArray.toList_eq] at h; exact ba_ext h
  · rintro rfl; rfl
theorem eqS (a b : ByteArray) : (a.toList == b.toList) = decide (a = b) := by
  rw [Bool.eq_iff_iff, beq_iff_eq, toL_inj, decide_eq_true_eq]
theorem app_list (a b : ByteArray) : (a ++ b).data.toList = a.data.toList ++ b.data.toList := by simp
theorem app_size (a b : ByteArray) : (a ++ b).size = a.size + b.size := by simp
theorem yields_cat {P : Program} {w0 : World} {n : Nat} {T : TT} {S : SS} {x y : PV} {a b : ByteArray} (hx : x.val T = some (.string a)) (hy : y.val T = some (.string b)) (h : a.size + b.size ≤ 9223372036854775807) : Go.SL.Yields P w0 n (.bin .add x y) T S (.string (a ++ b)) :=
  Go.SL.Yields.binRaw hx hy (fun t a b w => by simp [eqGuard]) (fun t w => by
    have hm : IntKind.i64.max = 9223372036854775807 := by decide
    have : ¬ ((a.size + b.size : Nat) : Int) > IntKind.i64.max := by rw [hm]; omega
    show Sem.run P (Op.stringOp .add a b) w = _
    unfold Op.stringOp
    simp only
    rw [if_neg this]
    rfl)
def strs (ls : List ByteArray) : List Value := ls.map .string
theorem strs_len (ls : List ByteArray) : (strs ls).length = ls.length := by simp [strs]
theorem strs_at {w0 : World} {S : SS} {a : Addr} {ls : List ByteArray} (h : Rd w0 S (some a) (strs ls)) {k : Nat} (hk : k < ls.length) : Cell w0 S (a.add k) (.string ls[k]) := h.at (by simp [strs, hk])
theorem strs_ne {ls : List ByteArray} (h : 0 < ls.length) : strs ls ≠ [] := by intro e; have := congrArg List.length e; rw [strs_len, List.length_nil] at this; omega
/-! the parts of a text -/
def cutL : List UInt8 → List ByteArray
  | [] => [⟨#[]⟩]
  | b :: r => if b = 47 then ⟨#[]⟩ :: cutL r else match cutL r with | x :: xs => ⟨(b :: x.data.toList).toArray⟩ :: xs | [] => []
theorem cut_ne : ∀ l : List UInt8, cutL l ≠ []
  | [] => by simp [cutL]
  | b :: r => by
    have := cut_ne r
    simp only [cutL]
    split
    · simp
    · split
      · simp
      · rename_i h; exact absurd h this
theorem cut_cons : ∀ (p r : List UInt8), (∀ b ∈ p, b ≠ 47) → cutL (p ++ 47 :: r) = ⟨p.toArray⟩ :: cutL r
  | [], r, h => by simp [cutL]
  | b :: p, r, h => by
    have ih := cut_cons p r (fun x hx => h x (by simp [hx]))
    simp only [List.cons_append, cutL]
    rw [if_neg (h b (by simp)), ih]
theorem cut_no : ∀ (l : List UInt8), (∀ b ∈ l, b ≠ 47) → cutL l = [⟨l.toArray⟩]
  | [], h => rfl
  | b :: l, h => by
    have ih := cut_no l (fun x hx => h x (by simp [hx]))
    simp only [cutL]
    rw [if_neg (h b (by simp)), ih]
theorem cut_len : ∀ l : List UInt8, (cutL l).length = Lib.countByte l 47 + 1
  | [] => rfl
  | b :: r => by
    have ih := cut_len r
    have hn := cut_ne r
    simp only [cutL, Lib.countByte, List.count_cons] at ih ⊢
    split
    · rename_i h; subst h; simp; omega
    · rename_i h
      have hb : (b == 47) = false := by simpa using h
      rw [hb]
      split
      · rename_i x xs e; rw [e] at ih; simp at ih ⊢; omega
      · rename_i e; exact absurd e hn
def idxP (s : ByteArray) : Int := firstIdx s 47
theorem idx_spec (s : ByteArray) : (0 ≤ idxP s → ∃ p r, s.data.toList = p ++ 47 :: r ∧ (∀ b ∈ p, b ≠ 47) ∧ idxP s = (p.length : Int)) ∧ (¬ 0 ≤ idxP s → ∀ b ∈ s.data.toList, b ≠ 47) := by
  have e : idxP s = Lib.indexByte s.data.toList 47 := Lib.firstIdx_eq s 47
  rw [e]
  generalize s.data.toList = l
  induction l with
  | nil => simp [Lib.indexByte]
  | cons b l ih =>
    have hge := Lib.indexByte_ge l 47
    simp only [Lib.indexByte]
    by_cases hb : b = 47
    · subst hb
      simp only [beq_self_eq_true, if_true]
      exact ⟨fun _ => ⟨[], l, rfl, by simp, rfl⟩, fun h => absurd (by omega) h⟩
    · have hbf : (b == 47) = false := by simpa using hb
      rw [hbf]
      simp only [Bool.false_eq_true, if_false]
      by_cases h1 : Lib.indexByte l 47 = -1
      · rw [h1]
        simp only [beq_self_eq_true, if_true]
        refine ⟨fun h => absurd h (by omega), fun _ x hx => ?_⟩
        rcases List.mem_cons.1 hx with rfl | hx
        · exact hb
        · exact ih.2 (by omega) x hx
      · have h2 : (Lib.indexByte l 47 == -1) = false := by simpa using h1
        rw [h2]
        simp only [Bool.false_eq_true, if_false]
        refine ⟨fun _ => ?_, fun h => absurd (by omega) h⟩
        obtain ⟨p, r, e1, e2, e3⟩ := ih.1 (by omega)
        refine ⟨b :: p, r, by rw [e1]; rfl, ?_, by rw [e3]; simp⟩
        intro x hx
        rcases List.mem_cons.1 hx with rfl | hx
        · exact hb
        · exact e2 x hx
def slB : ByteArray := ⟨#[47]⟩
def numP (s : ByteArray) : Nat := Lib.countByte s.data.toList 47
theorem num_fold (s : ByteArray) : s.foldl (fun (n : Int) x => if x == (47 : UInt8) then n + 1 else n) ((0 : Nat) : Int) = (numP s : Int) := by
  have e : s.foldl (fun (n : Int) x => if x == (47 : UInt8) then n + 1 else n) ((0 : Nat) : Int) = s.data.toList.foldl (fun (n : Int) x => if x == (47 : UInt8) then n + 1 else n) ((0 : Nat) : Int) := by
    rw [← Lib.foldl_data]
  rw [e, Lib.count_foldl]
  simp [numP]
theorem idxb_fc {w0 : World} {S : SS} {s : ByteArray} : FC Tryd.prog w0 144 [.string s, .int .u8 47] S (fun v S' => v = .int .i64 (idxP s) ∧ S' = S) := by
  refine FC.of Tryd.known144 (by simp) ?_
  unfold Tryd.pc144
  simp only [argT]
  refine PW.seqOps ?_
  refine OL.det trivial (Yields.pure rfl) ?_
  refine OL.nil ?_
  refine PW.keep (T' := [(0, _), (1, _)]) ⟨rfl, rfl, trivial⟩ ?_
  refine PW.seqOps ?_
  refine OL.det trivial (Yields.pure rfl) ?_
  refine OL.det trivial (Yields.pure rfl) ?_
  refine OL.det trivial (Yields.xc (e := Extern.BytealgIndexByte.indexByte) rfl (by kernel_rfl) (by kernel_rfl) (fun fn hn => by unfold Extern.find; rw [hn]; kernel_rfl) (fun w => run_indexByte_string s 47 w)) ?_
  refine OL.det trivial (Yields.pure rfl) ?_
  refine OL.nil ?_
  refine PW.keep (T' := [(4, _)]) ⟨rfl, trivial⟩ ?_
  refine PW.ret ?_
  change (Exit.ret = Exit.normal ∨ Exit.ret = Exit.ret) ∧ ∃ v, resV _ _ = some v ∧ _
  exact ⟨.inr rfl, _, rfl, rfl, rfl⟩
theorem index_fc {w0 : World} {S : SS} {s : ByteArray} : FC Tryd.prog w0 122 [.string s, .string slB] S (fun v S' => v = .int .i64 (idxP s) ∧ S' = S) := by
  refine FC.of Tryd.known122 (by simp) ?_
  unfold Tryd.pc122
  simp only [argT]
  refine PW.seqOps ?_
  refine OL.det trivial (Yields.pure rfl) ?_
  refine OL.nil ?_
  refine PW.keep (T' := [(0, _), (1, _)]) ⟨rfl, rfl, trivial⟩ ?_
  refine PW.seqOps ?_
  refine OL.det trivial (Yields.pure rfl) ?_
  refine OL.det trivial (Yields.pure rfl) ?_
  refine OL.det trivial (Yields.pure rfl) ?_
  refine OL.nil ?_
  refine PW.keep (T' := [(0, _), (1, _), (5, _)]) ⟨rfl, rfl, rfl, trivial⟩ ?_
  refine PW.seq fun K1 hK1 => ?_
  refine PW.block ?_
  refine PW.seqOps ?_
  refine OL.det trivial (Yields.pure rfl) ?_
  refine OL.det trivial (Yields.pure rfl) ?_
  refine OL.bool trivial (Yields.pure rfl) (fun g19 => ?_) (fun g19 => ?_)
  · try simp only [decide_eq_true_eq, decide_eq_false_iff_not, beq_iff_eq, bne_iff_ne, beq_eq_false_iff_ne, bne_eq_false_iff_eq, Bool.not_eq_true', Bool.not_eq_false', Bool.not_eq_true, ne_eq, Decidable.not_not] at g19
    exfalso; revert g19; decide
    -- done
  · try simp only [decide_eq_true_eq, decide_eq_false_iff_not, beq_iff_eq, bne_iff_ne, beq_eq_false_iff_ne, bne_eq_false_iff_eq, Bool.not_eq_true', Bool.not_eq_false', Bool.not_eq_true, ne_eq, Decidable.not_not] at g19
    refine OL.det rfl (Yields.pure rfl) ?_
    refine OL.det rfl (Yields.pure rfl) ?_
    refine OL.det rfl (Yields.pure rfl) ?_
    refine OL.det trivial (Yields.pure rfl) ?_
    refine OL.det trivial (Yields.pure rfl) ?_
    refine OL.nil ?_
    refine PW.keep (T' := [(0, _), (1, _), (5, _), (16, _)]) ⟨rfl, rfl, rfl, rfl, trivial⟩ ?_
    refine PW.cond rfl (fun c16 => ?_) (fun c16 => ?_)
    · try simp only [decide_eq_true_eq, decide_eq_false_iff_not, beq_iff_eq, bne_iff_ne, beq_eq_false_iff_ne, bne_eq_false_iff_eq, Bool.not_eq_true', Bool.not_eq_false', Bool.not_eq_true, ne_eq, Decidable.not_not] at c16
      refine PW.seqOps ?_
      refine OL.det trivial (Yields.pure rfl) ?_
      refine OL.nil ?_
      refine PW.keep (T' := [(4, _)]) ⟨rfl, trivial⟩ ?_
      refine PW.ret ?_
      change (Exit.ret = Exit.normal ∨ Exit.ret = Exit.ret) ∧ ∃ v, resV _ _ = some v ∧ _
      rw [toL_inj] at c16
      subst c16
      exact ⟨.inr rfl, _, rfl, rfl, rfl⟩
    · try simp only [decide_eq_true_eq, decide_eq_false_iff_not, beq_iff_eq, bne_iff_ne, beq_eq_false_iff_ne, bne_eq_false_iff_eq, Bool.not_eq_true', Bool.not_eq_false', Bool.not_eq_true, ne_eq, Decidable.not_not] at c16
      refine PW.seqOps ?_
      refine OL.det trivial (Yields.pure rfl) ?_
      refine OL.det trivial (Yields.pure rfl) ?_
      refine OL.det trivial (Yields.pure rfl) ?_
      refine OL.nil ?_
      refine PW.keep (T' := [(0, _), (1, _), (5, _), (24, _)]) ⟨rfl, rfl, rfl, rfl, trivial⟩ ?_
      refine PW.cond rfl (fun c24 => ?_) (fun c24 => ?_)
      · try simp only [decide_eq_true_eq, decide_eq_false_iff_not, beq_iff_eq, bne_iff_ne, beq_eq_false_iff_ne, bne_eq_false_iff_eq, Bool.not_eq_true', Bool.not_eq_false', Bool.not_eq_true, ne_eq, Decidable.not_not] at c24
        refine PW.seqOps ?_
        refine OL.det trivial (Yields.pure rfl) ?_
        refine OL.det trivial (Yields.pure rfl) ?_
        refine OL.det trivial (Yields.ixStr (b := 47) rfl rfl rfl) ?_
        refine OL.call trivial rfl (idxb_fc) ?_
        rintro _ _ ⟨rfl, rfl⟩
        refine OL.det trivial (Yields.pure rfl) ?_
        refine OL.nil ?_
        refine PW.keep (T' := [(4, _)]) ⟨rfl, trivial⟩ ?_
        refine PW.ret ?_
        change (Exit.ret = Exit.normal ∨ Exit.ret = Exit.ret) ∧ ∃ v, resV _ _ = some v ∧ _
        exact ⟨.inr rfl, _, rfl, rfl, rfl⟩
      · try simp only [decide_eq_true_eq, decide_eq_false_iff_not, beq_iff_eq, bne_iff_ne, beq_eq_false_iff_ne, bne_eq_false_iff_eq, Bool.not_eq_true', Bool.not_eq_false', Bool.not_eq_true, ne_eq, Decidable.not_not] at c24
        exfalso; revert c24; decide
        -- done
theorem sindex_fc {w0 : World} {S : SS} {s : ByteArray} : FC Tryd.prog w0 109 [.string s, .string slB] S (fun v S' => v = .int .i64 (idxP s) ∧ S' = S) := by
  refine FC.of Tryd.known109 (by simp) ?_
  unfold Tryd.pc109
  simp only [argT]
  refine PW.seqOps ?_
  refine OL.det trivial (Yields.pure rfl) ?_
  refine OL.nil ?_
  refine PW.keep (T' := [(0, _), (1, _)]) ⟨rfl, rfl, trivial⟩ ?_
  refine PW.seqOps ?_
  refine OL.det trivial (Yields.pure rfl) ?_
  refine OL.det trivial (Yields.pure rfl) ?_
  refine OL.call trivial rfl (index_fc) ?_
  rintro _ _ ⟨rfl, rfl⟩
  refine OL.det trivial (Yields.pure rfl) ?_
  refine OL.nil ?_
  refine PW.keep (T' := [(4, _)]) ⟨rfl, trivial⟩ ?_
  refine PW.ret ?_
  change (Exit.ret = Exit.normal ∨ Exit.ret = Exit.ret) ∧ ∃ v, resV _ _ = some v ∧ _
  exact ⟨.inr rfl, _, rfl, rfl, rfl⟩
theorem count_fc {w0 : World} {S : SS} {s : ByteArray} : FC Tryd.prog w0 108 [.string s, .string slB] S (fun v S' => v = .int .i64 (numP s : Int) ∧ S' = S) := by
  refine FC.of Tryd.known108 (by simp) ?_
  unfold Tryd.pc108
  simp only [argT]
  refine PW.seqOps ?_
  refine OL.det trivial (Yields.pure rfl) ?_
  refine OL.nil ?_
  refine PW.keep (T' := [(0, _), (1, _)]) ⟨rfl, rfl, trivial⟩ ?_
  refine PW.seq fun K1 hK1 => ?_
  refine PW.seqOps ?_
  refine OL.det trivial (Yields.pure rfl) ?_
  refine OL.det trivial (Yields.pure rfl) ?_
  refine OL.det trivial (Yields.pure rfl) ?_
  refine OL.nil ?_
  refine PW.keep (T' := [(0, _), (1, _), (9, _)]) ⟨rfl, rfl, rfl, trivial⟩ ?_
  refine PW.cond rfl (fun c9 => ?_) (fun c9 => ?_)
  · try simp only [decide_eq_true_eq, decide_eq_false_iff_not, beq_iff_eq, bne_iff_ne, beq_eq_false_iff_ne, bne_eq_false_iff_eq, Bool.not_eq_true', Bool.not_eq_false', Bool.not_eq_true, ne_eq, Decidable.not_not] at c9
    exfalso; revert c9; decide
    -- done
  · try simp only [decide_eq_true_eq, decide_eq_false_iff_not, beq_iff_eq, bne_iff_ne, beq_eq_false_iff_ne, bne_eq_false_iff_eq, Bool.not_eq_true', Bool.not_eq_false', Bool.not_eq_true, ne_eq, Decidable.not_not] at c9
    refine PW.skip ?_
    refine hK1 _ _ ?_
    refine PW.keep (T' := [(0, _), (1, _)]) ⟨rfl, rfl, trivial⟩ ?_
    refine PW.seq fun K2 hK2 => ?_
    refine PW.seqOps ?_
    refine OL.det trivial (Yields.pure rfl) ?_
    refine OL.det trivial (Yields.pure rfl) ?_
    refine OL.det trivial (Yields.pure rfl) ?_
    refine OL.nil ?_
    refine PW.keep (T' := [(0, _), (1, _), (15, _)]) ⟨rfl, rfl, rfl, trivial⟩ ?_
    refine PW.cond rfl (fun c15 => ?_) (fun c15 => ?_)
    · try simp only [decide_eq_true_eq, decide_eq_false_iff_not, beq_iff_eq, bne_iff_ne, beq_eq_false_iff_ne, bne_eq_false_iff_eq, Bool.not_eq_true', Bool.not_eq_false', Bool.not_eq_true, ne_eq, Decidable.not_not] at c15
      refine PW.seqOps ?_
      refine OL.det trivial (Yields.pure rfl) ?_
      refine OL.det trivial (Yields.pure rfl) ?_
      refine OL.det trivial (Yields.ixStr (b := 47) rfl rfl rfl) ?_
      refine OL.det trivial (Yields.xc (e := Extern.BytealgCount.count) rfl (by kernel_rfl) (by kernel_rfl) (fun fn hn => by unfold Extern.find; rw [hn]; kernel_rfl) (fun w => rfl)) ?_
      refine OL.det trivial (Yields.pure rfl) ?_
      refine OL.nil ?_
      refine PW.keep (T' := [(4, _)]) ⟨rfl, trivial⟩ ?_
      refine PW.ret ?_
      change (Exit.ret = Exit.normal ∨ Exit.ret = Exit.ret) ∧ ∃ v, resV _ _ = some v ∧ _
      exact ⟨.inr rfl, _, rfl, by rw [← num_fold]; rfl, rfl⟩
    · try simp only [decide_eq_true_eq, decide_eq_false_iff_not, beq_iff_eq, bne_iff_ne, beq_eq_false_iff_ne, bne_eq_false_iff_eq, Bool.not_eq_true', Bool.not_eq_false', Bool.not_eq_true, ne_eq, Decidable.not_not] at c15
      exfalso; revert c15; decide
      -- done
theorem cmps_fc {w0 : World} {S : SS} {a b : ByteArray} : FC Tryd.prog w0 94 [.string a, .string b] S (fun v S' => v = .int .i64 (Lib.compareBytes a.data.toList b.data.toList) ∧ S' = S) := by
  refine FC.of Tryd.known94 (by simp) ?_
  unfold Tryd.pc94
  simp only [argT]
  refine PW.seqOps ?_
  refine OL.det trivial (Yields.pure rfl) ?_
  refine OL.nil ?_
  refine PW.keep (T' := [(0, _), (1, _)]) ⟨rfl, rfl, trivial⟩ ?_
  refine PW.seqOps ?_
  refine OL.det trivial (Yields.pure rfl) ?_
  refine OL.det trivial (Yields.pure rfl) ?_
  refine OL.det trivial (Yields.xc (e := Extern.BytealgCompare.compare) rfl (by kernel_rfl) (by kernel_rfl) (fun fn hn => by unfold Extern.find; rw [hn]; kernel_rfl) (fun w => rfl)) ?_
  refine OL.det trivial (Yields.pure rfl) ?_
  refine OL.nil ?_
  refine PW.keep (T' := [(4, _)]) ⟨rfl, trivial⟩ ?_
  refine PW.ret ?_
  change (Exit.ret = Exit.normal ∨ Exit.ret = Exit.ret) ∧ ∃ v, resV _ _ = some v ∧ _
  exact ⟨.inr rfl, _, rfl, by rw [← Lib.cmp_eq]; rfl, rfl⟩
theorem scmp_fc {w0 : World} {S : SS} {a b : ByteArray} : FC Tryd.prog w0 67 [.string a, .string b] S (fun v S' => v = .int .i64 (Lib.compareBytes a.data.toList b.data.toList) ∧ S' = S) := by
  refine FC.of Tryd.known67 (by simp) ?_
  unfold Tryd.pc67
  simp only [argT]
  refine PW.seqOps ?_
  refine OL.det trivial (Yields.pure rfl) ?_
  refine OL.nil ?_
  refine PW.keep (T' := [(0, _), (1, _)]) ⟨rfl, rfl, trivial⟩ ?_
  refine PW.seqOps ?_
  refine OL.det trivial (Yields.pure rfl) ?_
  refine OL.det trivial (Yields.pure rfl) ?_
  refine OL.call trivial rfl (cmps_fc) ?_
  rintro _ _ ⟨rfl, rfl⟩
  refine OL.det trivial (Yields.pure rfl) ?_
  refine OL.nil ?_
  refine PW.keep (T' := [(4, _)]) ⟨rfl, trivial⟩ ?_
  refine PW.ret ?_
  change (Exit.ret = Exit.normal ∨ Exit.ret = Exit.ret) ∧ ∃ v, resV _ _ = some v ∧ _
  exact ⟨.inr rfl, _, rfl, rfl, rfl⟩
theorem order_fc {w0 : World} {S : SS} {a b : ByteArray} : FC Tryd.prog w0 38 [.string a, .string b] S (fun v S' => v = .int .i64 (Lib.compareBytes a.data.toList b.data.toList) ∧ S' = S) := by
  refine FC.of Tryd.known38 (by simp) ?_
  unfold Tryd.pc38
  simp only [argT]
  refine PW.seqOps ?_
  refine OL.det trivial (Yields.pure rfl) ?_
  refine OL.nil ?_
  refine PW.keep (T' := [(0, _), (1, _)]) ⟨rfl, rfl, trivial⟩ ?_
  refine PW.seqOps ?_
  refine OL.det trivial (Yields.pure rfl) ?_
  refine OL.det trivial (Yields.pure rfl) ?_
  refine OL.call trivial rfl (scmp_fc) ?_
  rintro _ _ ⟨rfl, rfl⟩
  refine OL.det trivial (Yields.pure rfl) ?_
  refine OL.nil ?_
  refine PW.keep (T' := [(4, _)]) ⟨rfl, trivial⟩ ?_
  refine PW.ret ?_
  change (Exit.ret = Exit.normal ∨ Exit.ret = Exit.ret) ∧ ∃ v, resV _ _ = some v ∧ _
  exact ⟨.inr rfl, _, rfl, rfl, rfl⟩

def cutB (s : ByteArray) : ByteArray := s.extract 0 (min s.size 200)
def startsB (s p : ByteArray) : Bool := decide (p.size ≤ s.size) && decide (s.extract 0 p.size = p)
theorem cut_fc {w0 : World} {S : SS} {s : ByteArray} (hs : s.size ≤ 1000000000000000) : FC Tryd.prog w0 27 [.string s] S (fun v S' => v = .string (cutB s) ∧ S' = S) := by
  refine FC.of Tryd.known27 (by simp) ?_
  unfold Tryd.pc27
  simp only [argT]
  refine PW.seqOps ?_
  refine OL.det trivial (Yields.pure rfl) ?_
  refine OL.nil ?_
  refine PW.keep (T' := [(0, _)]) ⟨rfl, trivial⟩ ?_
  refine PW.seqOps ?_
  refine OL.det trivial (Yields.pure rfl) ?_
  refine OL.det trivial (Yields.pure rfl) ?_
  refine OL.det trivial (Yields.pure rfl) ?_
  refine OL.det trivial (Yields.to (v' := .int .i64 ((min s.size 200 : Nat) : Int)) (Yields.pure rfl) (by congr 1; simp only [Bool.false_eq_true, if_false]; split <;> omega)) ?_
  refine OL.det trivial (Yields.slStr (s := s) (l := 0) (h := min s.size 200) rfl rfl rfl (.inr ⟨rfl, rfl⟩) (.inl rfl) (by omega) (by omega)) ?_
  refine OL.det trivial (Yields.pure rfl) ?_
  refine OL.nil ?_
  refine PW.keep (T' := [(2, _)]) ⟨rfl, trivial⟩ ?_
  refine PW.ret ?_
  change (Exit.ret = Exit.normal ∨ Exit.ret = Exit.ret) ∧ ∃ v, resV _ _ = some v ∧ _
  exact ⟨.inr rfl, _, rfl, rfl, rfl⟩
theorem starts_fc {w0 : World} {S : SS} {s p : ByteArray} : FC Tryd.prog w0 93 [.string s, .string p] S (fun v S' => v = .bool (startsB s p) ∧ S' = S) := by
  refine FC.of Tryd.known93 (by simp) ?_
  unfold Tryd.pc93
  simp only [argT]
  refine PW.seqOps ?_
  refine OL.det trivial (Yields.pure rfl) ?_
  refine OL.nil ?_
  refine PW.keep (T' := [(0, _), (1, _)]) ⟨rfl, rfl, trivial⟩ ?_
  refine PW.seqOps ?_
  refine OL.det trivial (Yields.pure rfl) ?_
  refine OL.det trivial (Yields.pure rfl) ?_
  refine OL.det trivial (Yields.pure rfl) ?_
  refine OL.det trivial (Yields.pure rfl) ?_
  refine OL.det trivial (Yields.pure rfl) ?_
  refine OL.bool trivial (Yields.pure rfl) (fun g10 => ?_) (fun g10 => ?_)
  · try simp only [decide_eq_true_eq, decide_eq_false_iff_not, beq_iff_eq, bne_iff_ne, beq_eq_false_iff_ne, bne_eq_false_iff_eq, Bool.not_eq_true', Bool.not_eq_false', Bool.not_eq_true, ne_eq, Decidable.not_not] at g10
    refine OL.det rfl (Yields.pure rfl) ?_
    refine OL.det rfl (Yields.pure rfl) ?_
    refine OL.det rfl (Yields.pure rfl) ?_
    refine OL.det rfl (Yields.slStr (s := s) (l := 0) (h := p.size) rfl rfl rfl (.inr ⟨rfl, rfl⟩) (.inl rfl) (by omega) (by omega)) ?_
    refine OL.det rfl (Yields.pure rfl) ?_
    refine OL.det rfl (Yields.pure rfl) ?_
    refine OL.det trivial (Yields.pure rfl) ?_
    refine OL.det trivial (Yields.pure rfl) ?_
    refine OL.nil ?_
    refine PW.keep (T' := [(4, _)]) ⟨rfl, trivial⟩ ?_
    refine PW.ret ?_
    change (Exit.ret = Exit.normal ∨ Exit.ret = Exit.ret) ∧ ∃ v, resV _ _ = some v ∧ _
    exact ⟨.inr rfl, _, rfl, by unfold startsB; first | (rw [show decide (p.size ≤ s.size) = true from decide_eq_true (by omega), eqS]; rfl) | (rw [show decide (p.size ≤ s.size) = false from decide_eq_false (by omega)]; rfl), rfl⟩
  · try simp only [decide_eq_true_eq, decide_eq_false_iff_not, beq_iff_eq, bne_iff_ne, beq_eq_false_iff_ne, bne_eq_false_iff_eq, Bool.not_eq_true', Bool.not_eq_false', Bool.not_eq_true, ne_eq, Decidable.not_not] at g10
    refine OL.off rfl rfl ?_
    refine OL.off rfl rfl ?_
    refine OL.off rfl rfl ?_
    refine OL.off rfl rfl ?_
    refine OL.off rfl rfl ?_
    refine OL.off rfl rfl ?_
    refine OL.det trivial (Yields.pure rfl) ?_
    refine OL.det trivial (Yields.pure rfl) ?_
    refine OL.nil ?_
    refine PW.keep (T' := [(4, _)]) ⟨rfl, trivial⟩ ?_
    refine PW.ret ?_
    change (Exit.ret = Exit.normal ∨ Exit.ret = Exit.ret) ∧ ∃ v, resV _ _ = some v ∧ _
    exact ⟨.inr rfl, _, rfl, by unfold startsB; first | (rw [show decide (p.size ≤ s.size) = true from decide_eq_true (by omega), eqS]; rfl) | (rw [show decide (p.size ≤ s.size) = false from decide_eq_false (by omega)]; rfl), rfl⟩
theorem hasp_fc {w0 : World} {S : SS} {s p : ByteArray} : FC Tryd.prog w0 66 [.string s, .string p] S (fun v S' => v = .bool (startsB s p) ∧ S' = S) := by
  refine FC.of Tryd.known66 (by simp) ?_
  unfold Tryd.pc66
  simp only [argT]
  refine PW.seqOps ?_
  refine OL.det trivial (Yields.pure rfl) ?_
  refine OL.nil ?_
  refine PW.keep (T' := [(0, _), (1, _)]) ⟨rfl, rfl, trivial⟩ ?_
  refine PW.seqOps ?_
  refine OL.det trivial (Yields.pure rfl) ?_
  refine OL.det trivial (Yields.pure rfl) ?_
  refine OL.call trivial rfl (starts_fc) ?_
  rintro _ _ ⟨rfl, rfl⟩
  refine OL.det trivial (Yields.pure rfl) ?_
  refine OL.nil ?_
  refine PW.keep (T' := [(4, _)]) ⟨rfl, trivial⟩ ?_
  refine PW.ret ?_
  change (Exit.ret = Exit.normal ∨ Exit.ret = Exit.ret) ∧ ∃ v, resV _ _ = some v ∧ _
  exact ⟨.inr rfl, _, rfl, rfl, rfl⟩

end Go.Proofs
