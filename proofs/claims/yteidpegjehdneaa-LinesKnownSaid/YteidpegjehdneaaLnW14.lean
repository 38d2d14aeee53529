/- Walks and plain facts for the laws of this seat: what each function answers, for every input. -/
import Derived.Test.YteidpegjehdneaaLnW13
set_option linter.unusedVariables false
set_option linter.unusedSimpArgs false
namespace Go.Proofs
open Go.SL Go.RowKit
set_option maxHeartbeats 1000000

def joinL (ls : List ByteArray) : List UInt8 := ls.flatMap (fun s => s.data.toList ++ [10])
theorem join_take {ls : List ByteArray} {k : Nat} (h : k < ls.length) : joinL (ls.take (k + 1)) = joinL (ls.take k) ++ (ls[k].data.toList ++ [10]) := by
  rw [List.take_add_one, List.getElem?_eq_getElem h]
  simp only [joinL, Option.toList, List.flatMap_append, List.flatMap_cons, List.flatMap_nil, List.append_nil]
theorem join_le {ls : List ByteArray} {k : Nat} : (joinL (ls.take k)).length ≤ (joinL ls).length := by
  conv => rhs; rw [← List.take_append_drop k ls]
  simp only [joinL, List.flatMap_append, List.length_append]
  omega
theorem app_list (a b : ByteArray) : (a ++ b).data.toList = a.data.toList ++ b.data.toList := by simp
theorem app_size (a b : ByteArray) : (a ++ b).size = a.size + b.size := by simp
theorem yields_cat {P : Program} {w0 : World} {n : Nat} {T : TT} {S : SS} {x y : PV} {a b : ByteArray} (hx : x.val T = some (.string a)) (hy : y.val T = some (.string b)) (h : a.size + b.size ≤ 9223372036854775807) : Go.SL.Yields P w0 n (.bin .add x y) T S (.string (a ++ b)) :=
  Go.SL.Yields.binRaw hx hy (fun t a b w => by simp [eqGuard]) (fun t w => by
    have hm : IntKind.i64.max = 9223372036854775807 := by decide
    have : ¬ ((a.size + b.size : Nat) : Int) > IntKind.i64.max := by rw [hm]; omega
    show Sem.run P (Op.stringOp .add a b) w = _
    unfold Op.stringOp
    simp only
    rw [if_neg this]
    rfl)
theorem join0_fc {w0 : World} {A : Option Addr} {cap : Nat} {ls : List ByteArray} (hx : Rd w0 [] A (strs ls)) (hb : ls.length ≤ 1000000000) (hj : (joinL ls).length ≤ 1000000000) :
    FC Try.prog w0 20 [.slice A ls.length cap] [] (fun v _ => v = .string ⟨(joinL ls).toArray⟩) := by
  refine FC.of Try.known20 (by simp) ?_
  unfold Try.pc20
  simp only [argT]
  refine PW.seqOps ?_
  refine OL.det trivial (Yields.pure rfl) ?_
  refine OL.nil ?_
  refine PW.keep (T' := [(0, _)]) ⟨rfl, trivial⟩ ?_
  refine PW.seqOps ?_
  refine OL.nilseg ?_
  refine OL.cons trivial OW.al ?_
  rintro _ _ ⟨r3, rfl, rfl⟩
  refine OL.nil ?_
  refine PW.keep (T' := [(0, _), (3, _)]) ⟨rfl, rfl, trivial⟩ ?_
  refine PW.seq fun K1 hK1 => ?_
  refine PW.seqOps ?_
  refine OL.det trivial (Yields.pure rfl) ?_
  refine OL.det trivial (Yields.pure rfl) ?_
  refine OL.det trivial (Yields.pure rfl) ?_
  refine OL.nil ?_
  refine PW.keep (T' := [(3, _), (6, _), (7, _), (8, _)]) ⟨rfl, rfl, rfl, rfl, trivial⟩ ?_
  refine PW.block ?_
  refine PW.keep (T' := [(3, _), (6, _), (7, _), (8, _)]) ⟨rfl, rfl, rfl, rfl, trivial⟩ ?_
  refine PW.loopK (I := fun m T S' => ∃ (k : Nat) (p v : Value) (seg : Seg), (k ≤ ls.length ∧ m = ls.length - k ∧ (p = .pointer none ∨ p = selfP r3) ∧ SlV 5 1 v (joinL (ls.take k)).length (bytesC (joinL (ls.take k))) seg) ∧ T = ([(3, .pointer (some ⟨r3, 0, none⟩)), (6, .slice A ls.length cap), (7, .int .i64 (ls.length : Int)), (8, .int .i64 k)] : TT) ∧ S' = BS r3 p v :: seg :: []) (m := ls.length) ⟨0, _, _, [], ⟨by omega, by omega, .inl rfl, SlV.nil 5 1⟩, rfl, rfl⟩ ?_
  rintro m _ _ ⟨k, p, v, seg, ⟨hk, hm, hp, hv⟩, rfl, rfl⟩
  refine PW.seqOps ?_
  refine OL.det trivial (Yields.pure rfl) ?_
  refine OL.nil ?_
  refine PW.keep (T' := [(3, _), (6, _), (7, _), (8, _), (9, _)]) ⟨rfl, rfl, rfl, rfl, rfl, trivial⟩ ?_
  refine PW.seq fun K2 hK2 => ?_
  refine PW.cond rfl (fun c9 => ?_) (fun c9 => ?_)
  · try simp only [decide_eq_true_eq, decide_eq_false_iff_not, beq_iff_eq, bne_iff_ne, beq_eq_false_iff_ne, bne_eq_false_iff_eq, Bool.not_eq_true', Bool.not_eq_false', Bool.not_eq_true, ne_eq, Decidable.not_not] at c9
    have hkl : k < ls.length := by omega
    obtain ⟨b0, rfl⟩ := hx.some (strs_ne (by omega))
    have hjl : (joinL (ls.take k)).length + (ls[k].size + 1) ≤ (joinL ls).length := by
      have h1 := join_le (ls := ls) (k := k + 1)
      rw [join_take hkl, List.length_append, List.length_append] at h1
      have : ls[k].data.toList.length = ls[k].size := by simp
      simp only [List.length_cons, List.length_nil] at h1
      omega
    refine PW.skip ?_
    refine hK2 _ _ ?_
    refine PW.keep (T' := [(3, _), (6, _), (7, _), (8, _)]) ⟨rfl, rfl, rfl, rfl, trivial⟩ ?_
    refine PW.seq fun K3 hK3 => ?_
    refine PW.block ?_
    refine PW.seqOps ?_
    refine OL.det trivial (Yields.ixN1 rfl rfl rfl (by omega)) ?_
    refine OL.det trivial (Yields.ld rfl (strs_at (hx.mono (by simp)) hkl)) ?_
    refine OL.det trivial (Yields.pure rfl) ?_
    refine OL.nil ?_
    refine PW.keep (T' := [(3, _), (5, _), (6, _), (7, _), (8, _)]) ⟨rfl, rfl, rfl, rfl, rfl, trivial⟩ ?_
    refine PW.ops ?_
    refine OL.det trivial (Yields.pure rfl) ?_
    refine OL.det trivial (yields_cat rfl rfl (by rw [show (⟨#[10]⟩ : ByteArray).size = 1 from rfl]; omega)) ?_
    refine OL.call trivial rfl (write_fc (xs := joinL (ls.take k)) hp hv (by rw [app_size, show (⟨#[10]⟩ : ByteArray).size = 1 from rfl]; omega)) ?_
    rintro _ _ ⟨v2, seg2, rfl, hv2⟩
    refine OL.nil ?_
    refine hK3 _ _ ?_
    refine PW.keep (T' := [(3, _), (6, _), (7, _), (8, _)]) ⟨rfl, rfl, rfl, rfl, trivial⟩ ?_
    refine PW.ops ?_
    refine OL.det trivial (Yields.add64 rfl rfl (by omega) (by omega)) ?_
    refine OL.det trivial (Yields.pure rfl) ?_
    refine OL.nil ?_
    repeat rw [inBlk_n]
    rw [thenK_n]
    refine LoopEnd.mk (T'' := [(3, _), (6, _), (7, _), (8, _)]) ⟨rfl, rfl, rfl, rfl, trivial⟩ ?_
    refine ⟨ls.length - (k + 1), by omega, k + 1, selfP r3, v2, seg2, ⟨by omega, rfl, .inr rfl, ?_⟩, by simp, rfl⟩
    rw [join_take hkl]
    rw [app_list] at hv2
    exact hv2
  · try simp only [decide_eq_true_eq, decide_eq_false_iff_not, beq_iff_eq, bne_iff_ne, beq_eq_false_iff_ne, bne_eq_false_iff_eq, Bool.not_eq_true', Bool.not_eq_false', Bool.not_eq_true, ne_eq, Decidable.not_not] at c9
    refine PW.exit ?_
    refine hK1 _ _ ?_
    refine PW.keep (T' := [(3, _)]) ⟨rfl, trivial⟩ ?_
    refine PW.seqOps ?_
    refine OL.call trivial rfl (str_fc hp hv) ?_
    rintro _ _ ⟨rfl, rfl⟩
    refine OL.det trivial (Yields.pure rfl) ?_
    refine OL.nil ?_
    refine PW.keep (T' := [(2, _)]) ⟨rfl, trivial⟩ ?_
    refine PW.ret ?_
    change (Exit.ret = Exit.normal ∨ Exit.ret = Exit.ret) ∧ ∃ v, resV _ _ = some v ∧ _
    obtain rfl : k = ls.length := by omega
    rw [List.take_length]
    exact ⟨.inr rfl, _, rfl, rfl⟩
theorem join_fc {w0 : World} {S : SS} {A : Option Addr} {cap : Nat} {ls : List ByteArray} (hx : Rd w0 S A (strs ls)) (hb : ls.length ≤ 1000000000) (hj : (joinL ls).length ≤ 1000000000) :
    FC Try.prog w0 20 [.slice A ls.length cap] S (fun v S' => v = .string ⟨(joinL ls).toArray⟩ ∧ S' = S) :=
  FC.frame fun w hw => join0_fc (Rd.frame hx hw) hb hj
theorem rjoin_fc {w0 : World} {S : SS} {A : Option Addr} {cap : Nat} {ls : List ByteArray} (hx : Rd w0 S A (strs ls)) (hb : ls.length ≤ 1000000000) (hj : (joinL ls).length ≤ 1000000000) :
    FC Try.prog w0 21 [.slice A ls.length cap] S (fun v S' => v = .string ⟨(joinL ls).toArray⟩ ∧ S' = S) := by
  refine FC.of Try.known21 (by simp) ?_
  unfold Try.pc21
  simp only [argT]
  refine PW.seqOps ?_
  refine OL.det trivial (Yields.pure rfl) ?_
  refine OL.nil ?_
  refine PW.keep (T' := [(0, _)]) ⟨rfl, trivial⟩ ?_
  refine PW.seqOps ?_
  refine OL.det trivial (Yields.pure rfl) ?_
  refine OL.nil ?_
  refine PW.keep (T' := [(0, _), (3, _)]) ⟨rfl, rfl, trivial⟩ ?_
  refine PW.seq fun K1 hK1 => ?_
  refine PW.seqOps ?_
  refine OL.det trivial (Yields.pure rfl) ?_
  refine OL.nil ?_
  refine PW.keep (T' := [(0, _), (3, _), (4, _)]) ⟨rfl, rfl, rfl, trivial⟩ ?_
  refine PW.block ?_
  refine PW.keep (T' := [(0, _), (3, _), (4, _)]) ⟨rfl, rfl, rfl, trivial⟩ ?_
  refine PW.loopK (I := fun m T S' => ∃ (k : Nat) (s : ByteArray), (k ≤ ls.length ∧ m = ls.length - k ∧ s.data.toList = joinL (ls.take k)) ∧ T = ([(0, .slice A ls.length cap), (3, .string s), (4, .int .i64 k)] : TT) ∧ S' = S) (m := ls.length) ⟨0, _, ⟨by omega, by omega, rfl⟩, rfl, rfl⟩ ?_
  rintro m _ _ ⟨k, s, ⟨hk, hm, hs⟩, rfl, rfl⟩
  refine PW.seq fun K2 hK2 => ?_
  refine PW.seqOps ?_
  refine OL.det trivial (Yields.pure rfl) ?_
  refine OL.det trivial (Yields.pure rfl) ?_
  refine OL.det trivial (Yields.pure rfl) ?_
  refine OL.det trivial (Yields.pure rfl) ?_
  refine OL.nil ?_
  refine PW.keep (T' := [(0, _), (3, _), (4, _), (8, _)]) ⟨rfl, rfl, rfl, rfl, trivial⟩ ?_
  refine PW.cond rfl (fun c8 => ?_) (fun c8 => ?_)
  · try simp only [decide_eq_true_eq, decide_eq_false_iff_not, beq_iff_eq, bne_iff_ne, beq_eq_false_iff_ne, bne_eq_false_iff_eq, Bool.not_eq_true', Bool.not_eq_false', Bool.not_eq_true, ne_eq, Decidable.not_not] at c8
    have hkl : k < ls.length := by omega
    obtain ⟨b0, rfl⟩ := hx.some (strs_ne (by omega))
    have hjl : s.size + (ls[k].size + 1) ≤ (joinL ls).length := by
      have h1 := join_le (ls := ls) (k := k + 1)
      rw [join_take hkl, List.length_append, List.length_append, ← hs] at h1
      have : ls[k].data.toList.length = ls[k].size := by simp
      have : s.data.toList.length = s.size := by simp
      simp only [List.length_cons, List.length_nil] at h1
      omega
    refine PW.skip ?_
    refine hK2 _ _ ?_
    refine PW.keep (T' := [(0, _), (3, _), (4, _)]) ⟨rfl, rfl, rfl, trivial⟩ ?_
    refine PW.seq fun K3 hK3 => ?_
    refine PW.block ?_
    refine PW.ops ?_
    refine OL.det trivial (Yields.pure rfl) ?_
    refine OL.det trivial (Yields.pure rfl) ?_
    refine OL.det trivial (Yields.pure rfl) ?_
    refine OL.det trivial (Yields.ixN1 rfl rfl rfl (by omega)) ?_
    refine OL.det trivial (Yields.ld rfl (strs_at hx hkl)) ?_
    refine OL.det trivial (yields_cat rfl rfl (by omega)) ?_
    refine OL.det trivial (yields_cat rfl rfl (by rw [app_size, show (⟨#[10]⟩ : ByteArray).size = 1 from rfl]; omega)) ?_
    refine OL.det trivial (Yields.pure rfl) ?_
    refine OL.nil ?_
    refine hK3 _ _ ?_
    refine PW.keep (T' := [(0, _), (3, _), (4, _)]) ⟨rfl, rfl, rfl, trivial⟩ ?_
    refine PW.ops ?_
    refine OL.det trivial (Yields.pure rfl) ?_
    refine OL.det trivial (Yields.add64 rfl rfl (by omega) (by omega)) ?_
    refine OL.det trivial (Yields.pure rfl) ?_
    refine OL.nil ?_
    repeat rw [inBlk_n]
    rw [thenK_n]
    refine LoopEnd.mk (T'' := [(0, _), (3, _), (4, _)]) ⟨rfl, rfl, rfl, trivial⟩ ?_
    refine ⟨ls.length - (k + 1), by omega, k + 1, s ++ ls[k] ++ ⟨#[10]⟩, ⟨by omega, rfl, ?_⟩, by simp, rfl⟩
    rw [join_take hkl, app_list, app_list, hs, List.append_assoc]
  · try simp only [decide_eq_true_eq, decide_eq_false_iff_not, beq_iff_eq, bne_iff_ne, beq_eq_false_iff_ne, bne_eq_false_iff_eq, Bool.not_eq_true', Bool.not_eq_false', Bool.not_eq_true, ne_eq, Decidable.not_not] at c8
    refine PW.exit ?_
    refine hK1 _ _ ?_
    refine PW.keep (T' := [(3, _)]) ⟨rfl, trivial⟩ ?_
    refine PW.seqOps ?_
    refine OL.det trivial (Yields.pure rfl) ?_
    refine OL.det trivial (Yields.pure rfl) ?_
    refine OL.nil ?_
    refine PW.keep (T' := [(2, _)]) ⟨rfl, trivial⟩ ?_
    refine PW.ret ?_
    change (Exit.ret = Exit.normal ∨ Exit.ret = Exit.ret) ∧ ∃ v, resV _ _ = some v ∧ _
    obtain rfl : k = ls.length := by omega
    rw [List.take_length] at hs
    exact ⟨.inr rfl, _, rfl, congrArg Value.string (ba_ext hs), rfl⟩

end Go.Proofs
