/- Walks and plain facts for the laws of this seat: what each function answers, for every input. -/
import Derived.Test.YtpeikdbejafgbaaSl13
import Derived.Test.YtpeikdbejafgbaaCoW2
set_option linter.unusedVariables false
set_option linter.unusedSimpArgs false
namespace Go.Proofs
open Go.SL Go.RowKit
set_option maxHeartbeats 1000000

theorem bytes_all {l : List UInt8} : (bytesC l).all (·.oneCell') = true := bytesC_all l
def textB (s : ByteArray) : List UInt8 := numB s.size ++ s.data.toList
theorem cvt_size {n : Nat} (h : n < 18446744073709551616) : IntKind.u64.wrap (n : Int) = (n : Int) := u64_wrap h
theorem text_fc {w0 : World} {S : SS} {v : Value} {seg : Seg} {xs : List UInt8} {s : ByteArray} (hv : SlV 5 1 v xs.length (bytesC xs) seg) (hs : s.size ≤ 1000000000000) (hb : xs.length ≤ 1000000000000) :
    FC Try.prog w0 10 [v, .string s] (seg :: S) (fun v' S' => ∃ seg', S' = seg' :: S ∧ SlV 5 1 v' (xs ++ textB s).length (bytesC (xs ++ textB s)) seg') := by
  refine FC.of Try.known10 (by simp) ?_
  unfold Try.pc10
  simp only [argT]
  refine PW.seqOps ?_
  refine OL.det trivial (Yields.pure rfl) ?_
  refine OL.nil ?_
  refine PW.keep (T' := [(0, _), (1, _)]) ⟨rfl, rfl, trivial⟩ ?_
  refine PW.seqOps ?_
  refine OL.det trivial (Yields.pure rfl) ?_
  refine OL.det trivial (Yields.pure rfl) ?_
  refine OL.det trivial (Yields.pure rfl) ?_
  refine OL.det trivial (Yields.pure rfl) ?_
  rw [cvt_size (by omega)]
  refine OL.call trivial rfl (num_fc hv (by omega) hb) ?_
  rintro v9 _ ⟨seg9, rfl, hsl9⟩
  have hnl := numB_len s.size
  refine OL.det trivial (Yields.pure rfl) ?_
  refine OL.cons trivial (OW.appStr (k := 0) rfl rfl hsl9 rfl (by simp only [List.length_append]; omega)) ?_
  rintro v11 _ ⟨seg11, rfl, hsl11⟩
  refine OL.det trivial (Yields.pure rfl) ?_
  refine OL.nil ?_
  refine PW.keep (T' := [(4, _)]) ⟨rfl, trivial⟩ ?_
  refine PW.ret ?_
  change (Exit.ret = Exit.normal ∨ Exit.ret = Exit.ret) ∧ ∃ v, resV _ _ = some v ∧ _
  refine ⟨.inr rfl, _, rfl, seg11, rfl, ?_⟩
  have e : (xs ++ textB s).length = (xs ++ numB s.size).length + s.size := by simp [textB, Nat.add_assoc]
  rw [e, show xs ++ textB s = (xs ++ numB s.size) ++ s.data.toList by simp [textB], bytesC_append]
  exact hsl11
theorem rtext_fc {w0 : World} {S : SS} {s : ByteArray} (hs : s.size ≤ 1000000000000) :
    FC Try.prog w0 27 [.string s] S (fun v' S' => ∃ seg', S' = seg' :: S ∧ SlV 5 1 v' (textB s).length (bytesC (textB s)) seg') := by
  refine FC.of Try.known27 (by simp) ?_
  unfold Try.pc27
  simp only [argT]
  refine PW.seqOps ?_
  refine OL.det trivial (Yields.pure rfl) ?_
  refine OL.nil ?_
  refine PW.keep (T' := [(0, _)]) ⟨rfl, trivial⟩ ?_
  refine PW.seqOps ?_
  refine OL.det trivial (Yields.pure rfl) ?_
  refine OL.det trivial (Yields.pure rfl) ?_
  refine OL.det trivial (Yields.pure rfl) ?_
  rw [cvt_size (by omega)]
  refine OL.call trivial rfl (rnum_fc s.size (by omega)) ?_
  rintro v6 _ ⟨seg6, rfl, hsl6⟩
  have hnl := numB_len s.size
  refine OL.det trivial (Yields.pure rfl) ?_
  refine OL.cons trivial (OW.appStr (k := 0) rfl rfl hsl6 rfl (by omega)) ?_
  rintro v8 _ ⟨seg8, rfl, hsl8⟩
  refine OL.det trivial (Yields.pure rfl) ?_
  refine OL.nil ?_
  refine PW.keep (T' := [(2, _)]) ⟨rfl, trivial⟩ ?_
  refine PW.ret ?_
  change (Exit.ret = Exit.normal ∨ Exit.ret = Exit.ret) ∧ ∃ v, resV _ _ = some v ∧ _
  refine ⟨.inr rfl, _, rfl, seg8, rfl, ?_⟩
  have e : (textB s).length = (numB s.size).length + s.size := by simp [textB]
  rw [e, show textB s = numB s.size ++ s.data.toList from rfl, bytesC_append]
  exact hsl8
theorem hash_fc {w0 : World} {S : SS} {v : Value} {seg : Seg} {xs h : List UInt8} (hv : SlV 5 1 v xs.length (bytesC xs) seg) (hh : h.length = 32) (hb : xs.length ≤ 1000000000000) :
    FC Try.prog w0 23 [v, .agg (bytesC h).toArray] (seg :: S) (fun v' S' => ∃ seg', S' = seg' :: S ∧ SlV 5 1 v' (xs ++ h).length (bytesC (xs ++ h)) seg') := by
  refine FC.ofD Try.known23 (by simp) ?_
  unfold Try.pc23
  simp only [argT]
  refine PW.seqOps ?_
  refine OL.cons trivial (OW.bx rfl) ?_
  rintro _ _ ⟨r3, rfl, rfl⟩
  refine OL.det trivial (Yields.pure rfl) ?_
  refine OL.nil ?_
  refine PW.keep (T' := [(0, _), (3, _)]) ⟨rfl, rfl, trivial⟩ ?_
  refine PW.seqOps ?_
  refine OL.det trivial (Yields.pure rfl) ?_
  refine OL.det trivial (Yields.slA rfl) ?_
  refine OL.cons trivial (OW.appB (k := 1) rfl rfl hv rfl hh (Rd.own (E := 24) (tot := (bytesC h).length) (by simp [Value.cells])) (fun e => nomatch e) (by omega)) ?_
  rintro v7 _ ⟨seg7, rfl, hsl7⟩
  refine OL.det trivial (Yields.pure rfl) ?_
  refine OL.nil ?_
  refine PW.keep (T' := [(4, _)]) ⟨rfl, trivial⟩ ?_
  refine PW.ret ?_
  change (Exit.ret = Exit.normal ∨ Exit.ret = Exit.ret) ∧ ∃ v, resV _ _ = some v ∧ _
  refine ⟨.inr rfl, _, rfl, seg7 :: S, Sub.drop (Sub.refl _), seg7, rfl, ?_⟩
  rw [List.length_append, hh, bytesC_append]
  exact hsl7

end Go.Proofs
