/- Walks and plain facts for the laws of this seat: what each function answers, for every input. -/
import Derived.Test.YtpeikdbejafgbaaCoW19
set_option linter.unusedVariables false
set_option linter.unusedSimpArgs false
namespace Go.Proofs
open Go.SL Go.RowKit
set_option maxHeartbeats 1000000

def n32 (z : Int) : Int := IntKind.i64.wrap ((BitVec.ofInt 64 z &&& BitVec.ofInt 64 4294967295).toNat : Int)
theorem n32_bound (z : Int) : 0 ≤ n32 z ∧ n32 z ≤ 4294967295 := by
  have h : (BitVec.ofInt 64 z &&& BitVec.ofInt 64 4294967295).toNat ≤ 4294967295 := by
    rw [BitVec.toNat_and]
    exact Nat.le_trans Nat.and_le_right (by decide)
  unfold n32
  rw [wrap_i64 (by omega) (by omega)]
  omega
def fixV (x : Val) : Val := { x with lv := a15 x.lv, z := n32 x.z - 2 }
theorem setAt_z {x : Val} (hh : x.h.length = 32) (z : Int) : setAt (valC x) 37 [.int .i64 z] = valC { x with z := z } := by
  rw [setAt_eq _ _ _ (by rw [valC_len hh]; simp)]
  have h1 : (valC x).take 37 = x.head ++ [.int .i64 x.lv, .int .u64 (x.c : Int)] := by
    unfold valC
    rw [List.take_append, head_len hh, List.take_of_length_le (by rw [head_len hh]; omega)]
    rfl
  have h2 : (valC x).drop 38 = [.int .i64 x.mo] := by
    unfold valC
    rw [show 38 = x.head.length + 3 by rw [head_len hh], List.drop_append]
    simp
  rw [h1, show 37 + ([Value.int .i64 z]).length = 38 from rfl, h2]
  simp [valC, Val.head]
theorem valC_one (x : Val) : (valC x).all (·.oneCell') = true := by
  unfold valC Val.head
  rw [List.all_append, List.all_append, bytesC_all]
  rfl
def zv : List Value := .int .u8 0 :: .int .u64 0 :: .string ⟨#[]⟩ :: (List.replicate 32 (.int .u8 0) ++ [.int .i64 0, .int .u64 0, .int .i64 0, .int .i64 0])
theorem zv_set {x : Val} (hh : x.h.length = 32) : setAt zv 0 (valC x) = valC x := setAll (by rw [valC_len hh]; rfl)
theorem valsC_take {l : List Val} {k : Nat} (h : k < l.length) : valsC (l.take (k + 1)) = valsC (l.take k) ++ valC l[k] := by
  rw [List.take_add_one, List.getElem?_eq_getElem h]
  simp only [valsC, Option.toList, List.flatMap_append, List.flatMap_cons, List.flatMap_nil, List.append_nil]
def bsOf (l : List Val) : List UInt8 := l.flatMap wB
theorem bsOf_take {l : List Val} {k : Nat} (h : k < l.length) : bsOf (l.take (k + 1)) = bsOf (l.take k) ++ wB l[k] := by
  rw [List.take_add_one, List.getElem?_eq_getElem h]
  simp only [bsOf, Option.toList, List.flatMap_append, List.flatMap_cons, List.flatMap_nil, List.append_nil]
theorem bsOf_split {l : List Val} {k : Nat} (h : k < l.length) : bsOf l = bsOf (l.take k) ++ (wB l[k] ++ bsOf (l.drop (k + 1))) := by
  have e : l = l.take k ++ l[k] :: l.drop (k + 1) := by rw [List.getElem_cons_drop]; simp
  conv => lhs; rw [e]
  simp only [bsOf, List.flatMap_append, List.flatMap_cons]
theorem bsOf_len {l : List Val} (h : ∀ x ∈ l, x.h.length = 32 ∧ x.t.size ≤ 300) : (bsOf l).length ≤ l.length * 400 := by
  induction l with
  | nil => simp [bsOf]
  | cons x l ih =>
    have h1 := ih fun y hy => h y (by simp [hy])
    have h2 := wB_len (h x (by simp)).1 (h x (by simp)).2
    simp only [bsOf, List.flatMap_cons, List.length_append, List.length_cons] at h1 ⊢
    omega
theorem back_fc {w0 : World} {S : SS} {A B : Option Addr} {ca cb : Nat} {a : List UInt8} {l : List Val} (ha : Rd w0 S A (bytesC a)) (hac : a.length ≤ ca) (han : A = none → ca = 0) (hx : Rd w0 S B (valsC l)) (hh : ∀ x ∈ l, x.h.length = 32 ∧ x.nu < 18446744073709551616 ∧ x.c < 18446744073709551616) (hb : l.length ≤ 1000000000000000) :
    FC Try.prog w0 6 [.slice B l.length cb, .slice A a.length ca] S (fun v S' => v = .bool true) := by
  refine FC.ofD Try.known6 (by simp) ?_
  unfold Try.pc6
  simp only [argT]
  refine PW.seqOps ?_
  refine OL.det trivial (Yields.pure rfl) ?_
  refine OL.nil ?_
  refine PW.keep (T' := [(0, _), (1, _)]) ⟨rfl, rfl, trivial⟩ ?_
  refine PW.seq fun K1 hK1 => ?_
  refine PW.seqOps ?_
  refine OL.det trivial (Yields.pure rfl) ?_
  refine OL.call trivial rfl (few_fc hx (fun x h => (hh x h).1) hb) ?_
  rintro _ Sx ⟨b12, rfl, hSx, hb12⟩
  rw [hSx]
  clear hSx
  refine OL.det trivial (Yields.pure rfl) ?_
  refine OL.nil ?_
  refine PW.keep (T' := [(0, _), (1, _), (13, _)]) ⟨rfl, rfl, rfl, trivial⟩ ?_
  refine PW.cond rfl (fun c13 => ?_) (fun c13 => ?_)
  · try simp only [decide_eq_true_eq, decide_eq_false_iff_not, beq_iff_eq, bne_iff_ne, beq_eq_false_iff_ne, bne_eq_false_iff_eq, Bool.not_eq_true', Bool.not_eq_false', Bool.not_eq_true, ne_eq, Decidable.not_not] at c13
    obtain rfl : b12 = false := by simpa using c13
    refine PW.seqOps ?_
    refine OL.call trivial rfl (works_fc) ?_
    rintro _ _ ⟨rfl, rfl⟩
    refine OL.det trivial (Yields.pure rfl) ?_
    refine OL.nil ?_
    refine PW.keep (T' := [(4, _)]) ⟨rfl, trivial⟩ ?_
    refine PW.ret ?_
    change (Exit.ret = Exit.normal ∨ Exit.ret = Exit.ret) ∧ ∃ v, resV _ _ = some v ∧ _
    exact ⟨.inr rfl, _, rfl, _, Sub.refl _, rfl⟩
  · try simp only [decide_eq_true_eq, decide_eq_false_iff_not, beq_iff_eq, bne_iff_ne, beq_eq_false_iff_ne, bne_eq_false_iff_eq, Bool.not_eq_true', Bool.not_eq_false', Bool.not_eq_true, ne_eq, Decidable.not_not] at c13
    obtain rfl : b12 = true := by simpa using c13
    obtain ⟨hl20, ht⟩ := hb12 rfl
    refine PW.skip ?_
    refine hK1 _ _ ?_
    refine PW.keep (T' := [(0, _), (1, _)]) ⟨rfl, rfl, trivial⟩ ?_
    refine PW.seqOps ?_
    refine OL.det trivial (Yields.pure rfl) ?_
    refine OL.nil ?_
    refine PW.keep (T' := [(0, _), (1, _), (5, _)]) ⟨rfl, rfl, rfl, trivial⟩ ?_
    refine PW.seqOps ?_
    refine OL.nilseg ?_
    refine OL.nilseg ?_
    refine OL.det trivial (Yields.pure rfl) ?_
    refine OL.nil ?_
    refine PW.keep (T' := [(0, _), (1, _), (5, _), (6, _)]) ⟨rfl, rfl, rfl, rfl, trivial⟩ ?_
    refine PW.seq fun K2 hK2 => ?_
    refine PW.seqOps ?_
    refine OL.det trivial (Yields.pure rfl) ?_
    refine OL.nil ?_
    refine PW.keep (T' := [(0, _), (1, _), (5, _), (6, _), (7, _)]) ⟨rfl, rfl, rfl, rfl, rfl, trivial⟩ ?_
    refine PW.block ?_
    refine PW.keep (T' := [(0, _), (1, _), (5, _), (6, _), (7, _)]) ⟨rfl, rfl, rfl, rfl, rfl, trivial⟩ ?_
    refine PW.loopK (I := fun m T S' => ∃ (k : Nat) (u w : Value) (sm sb : Seg), (k ≤ l.length ∧ m = l.length - k ∧ SlV 28 39 u k (valsC ((l.map fixV).take k)) sm ∧ SlV 5 1 w (bsOf ((l.map fixV).take k)).length (bytesC (bsOf ((l.map fixV).take k))) sb ∧ (bsOf ((l.map fixV).take k)).length ≤ k * 400) ∧ T = ([(0, .slice B l.length cb), (1, .slice A a.length ca), (5, u), (6, w), (7, .int .i64 k)] : TT) ∧ S' = sm :: sb :: S) (m := l.length) ⟨0, _, _, [], [], ⟨by omega, by omega, SlV.nil 28 39, SlV.nil 5 1, by simp [bsOf]⟩, rfl, rfl⟩ ?_
    rintro m _ _ ⟨k, u, w, sm, sb, ⟨hk, hm, hsm, hsb, hbl⟩, rfl, rfl⟩
    refine PW.seq fun K3 hK3 => ?_
    refine PW.seqOps ?_
    refine OL.det trivial (Yields.pure rfl) ?_
    refine OL.det trivial (Yields.pure rfl) ?_
    refine OL.det trivial (Yields.pure rfl) ?_
    refine OL.det trivial (Yields.pure rfl) ?_
    refine OL.nil ?_
    refine PW.keep (T' := [(0, _), (1, _), (5, _), (6, _), (7, _), (18, _)]) ⟨rfl, rfl, rfl, rfl, rfl, rfl, trivial⟩ ?_
    refine PW.cond rfl (fun c18 => ?_) (fun c18 => ?_)
    · try simp only [decide_eq_true_eq, decide_eq_false_iff_not, beq_iff_eq, bne_iff_ne, beq_eq_false_iff_ne, bne_eq_false_iff_eq, Bool.not_eq_true', Bool.not_eq_false', Bool.not_eq_true, ne_eq, Decidable.not_not] at c18
      obtain ⟨b0, rfl⟩ := hx.some (valsC_ne (by omega))
      have hkl : k < l.length := by omega
      have hxk := hh l[k] (List.getElem_mem hkl)
      have htk := ht l[k] (List.getElem_mem hkl)
      refine PW.skip ?_
      refine hK3 _ _ ?_
      refine PW.keep (T' := [(0, _), (1, _), (5, _), (6, _), (7, _)]) ⟨rfl, rfl, rfl, rfl, rfl, trivial⟩ ?_
      refine PW.seq fun K4 hK4 => ?_
      refine PW.block ?_
      refine PW.seqOps ?_
      refine OL.det trivial (Yields.pure rfl) ?_
      refine OL.det trivial (Yields.pure rfl) ?_
      refine OL.det trivial (Yields.ixN rfl rfl rfl (by omega)) ?_
      refine OL.det trivial (Yields.ldA rfl (cs := valC l[k]) (valC_len hxk.1) (fun j v hj => val_at hx.cons.cons (fun x h => (hh x h).1) hkl j (by have := (List.getElem?_eq_some_iff.1 hj).1; rw [valC_len hxk.1] at this; exact this) hj)) ?_
      refine OL.cons trivial OW.al ?_
      rintro _ _ ⟨r8, rfl, rfl⟩
      refine OL.cons trivial (OW.st (k := 0) rfl rfl rfl (by rw [agg_size]; exact valC_len hxk.1) (by decide) (valC_one _)) ?_
      rintro _ _ rfl
      change OL _ _ _ _ _ ([(r8, .cells (setAt zv 0 (valC l[k])) 28 39)] :: sm :: sb :: S) _
      rw [zv_set hxk.1]
      refine OL.nil ?_
      refine PW.keep (T' := [(0, _), (1, _), (5, _), (6, _), (7, _), (8, _)]) ⟨rfl, rfl, rfl, rfl, rfl, rfl, trivial⟩ ?_
      refine PW.seqOps ?_
      refine OL.det trivial (Yields.pure rfl) ?_
      refine OL.det trivial (Yields.pure rfl) ?_
      refine OL.det trivial (Yields.ld rfl (own_at (j := 35) (c := valC l[k]) (E := 28) (tot := 39) (by simp) (by rw [valC_tail hxk.1 0]; rfl))) ?_
      refine OL.det trivial (Yields.pure rfl) ?_
      refine OL.det trivial (Yields.pure rfl) ?_
      refine OL.det trivial (Yields.pure rfl) ?_
      refine OL.cons trivial (OW.st (k := 0) rfl rfl rfl rfl (by rw [valC_len hxk.1]; show 0 + 35 + 1 ≤ 39; omega) rfl) ?_
      rintro _ _ rfl
      change OL _ _ _ _ _ ([(r8, .cells (setAt (valC l[k]) 35 [.int .i64 (a15 l[k].lv)]) 28 39)] :: sm :: sb :: S) _
      rw [setAt_lv hxk.1]
      refine OL.nil ?_
      refine PW.keep (T' := [(0, _), (1, _), (5, _), (6, _), (7, _), (8, _)]) ⟨rfl, rfl, rfl, rfl, rfl, rfl, trivial⟩ ?_
      refine PW.seqOps ?_
      refine OL.det trivial (Yields.pure rfl) ?_
      refine OL.det trivial (Yields.ld rfl (own_at (j := 37) (c := valC { l[k] with lv := a15 l[k].lv }) (E := 28) (tot := 39) (by simp) (by rw [valC_tail (x := { l[k] with lv := a15 l[k].lv }) hxk.1 2]; rfl))) ?_
      refine OL.det trivial (Yields.pure rfl) ?_
      have hnb := n32_bound l[k].z
      refine OL.det trivial (Yields.sub64 (a := n32 l[k].z) rfl rfl (by omega) (by omega)) ?_
      refine OL.det trivial (Yields.pure rfl) ?_
      refine OL.cons trivial (OW.st (k := 0) rfl rfl rfl rfl (by rw [valC_len (x := { l[k] with lv := a15 l[k].lv }) hxk.1]; show 0 + 37 + 1 ≤ 39; omega) rfl) ?_
      rintro _ _ rfl
      change OL _ _ _ _ _ ([(r8, .cells (setAt (valC { l[k] with lv := a15 l[k].lv }) 37 [.int .i64 (n32 l[k].z - 2)]) 28 39)] :: sm :: sb :: S) _
      rw [show setAt (valC { l[k] with lv := a15 l[k].lv }) 37 [.int .i64 (n32 l[k].z - 2)] = valC (fixV l[k]) from setAt_z (x := { l[k] with lv := a15 l[k].lv }) hxk.1 _]
      refine OL.nil ?_
      refine PW.keep (T' := [(0, _), (1, _), (5, _), (6, _), (7, _), (8, _)]) ⟨rfl, rfl, rfl, rfl, rfl, rfl, trivial⟩ ?_
      refine PW.seqOps ?_
      refine OL.det trivial (Yields.pure rfl) ?_
      refine OL.det trivial (Yields.ldA rfl (cs := valC (fixV l[k])) (valC_len (x := fixV l[k]) hxk.1) (fun j v hj => (Rd.own (r := r8) (E := 28) (tot := 39) (by simp)).at hj)) ?_
      apply OL.app1 (k := 1)
      · rfl
      · rfl
      · exact (by rw [agg_size]; exact valC_len (x := fixV l[k]) hxk.1)
      · rfl
      · rfl
      · rfl
      · exact hsm
      · exact valC_one _
      · omega
      · unfold maxLen; omega
      intro v39 seg39 hsl39
      refine OL.det trivial (Yields.pure rfl) ?_
      refine OL.nil ?_
      refine PW.keep (T' := [(0, _), (1, _), (5, _), (6, _), (7, _), (8, _)]) ⟨rfl, rfl, rfl, rfl, rfl, rfl, trivial⟩ ?_
      refine PW.ops ?_
      refine OL.det trivial (Yields.pure rfl) ?_
      refine OL.det trivial (Yields.ldA rfl (cs := valC (fixV l[k])) (valC_len (x := fixV l[k]) hxk.1) (fun j v hj => (Rd.own (r := r8) (E := 28) (tot := 39) (by simp)).at hj)) ?_
      refine OL.nilseg ?_
      refine OL.call trivial rfl (FC.sel [3, 0, 1, 2] 4 rfl (written_fc (x := fixV l[k]) hxk.1 hxk.2.1 hxk.2.2 htk hsb (ys := []) (SlV.nil 5 1) (by omega) (by decide))) ?_
      rintro _ _ ⟨v44, v45, sb', sc', rfl, rfl, hs1, hs2⟩
      refine OL.det trivial (Yields.pure rfl) ?_
      refine OL.det trivial (Yields.pure rfl) ?_
      refine OL.det trivial (Yields.pure rfl) ?_
      refine OL.det trivial (Yields.pure rfl) ?_
      refine OL.nil ?_
      refine hK4 _ _ ?_
      refine PW.keep (T' := [(0, _), (1, _), (5, _), (6, _), (7, _)]) ⟨rfl, rfl, rfl, rfl, rfl, trivial⟩ ?_
      refine PW.ops ?_
      refine OL.det trivial (Yields.pure rfl) ?_
      refine OL.det trivial (Yields.add64 rfl rfl (by omega) (by omega)) ?_
      refine OL.det trivial (Yields.pure rfl) ?_
      refine OL.nil ?_
      repeat rw [inBlk_n]
      rw [thenK_n]
      refine LoopEnd.mkS (Sub.sel [3, 0] 4 rfl (sb' :: sc' :: [(r8, AO.cells (valC (fixV l[k])) 28 39)] :: seg39 :: S)) (T'' := [(0, _), (1, _), (5, _), (6, _), (7, _)]) ⟨rfl, rfl, rfl, rfl, rfl, trivial⟩ ?_
      have hkm : k < (l.map fixV).length := by simpa using hkl
      have hget : (l.map fixV)[k] = fixV l[k] := by simp
      refine ⟨l.length - (k + 1), by omega, k + 1, v39, v44, seg39, sb', ⟨by omega, rfl, ?_, ?_, ?_⟩, by simp, rfl⟩
      · rw [valsC_take hkm, hget]; exact hsl39
      · rw [bsOf_take hkm, hget]; exact hs1
      · rw [bsOf_take hkm, hget, List.length_append]; have := wB_len (x := fixV l[k]) hxk.1 htk; omega
    · try simp only [decide_eq_true_eq, decide_eq_false_iff_not, beq_iff_eq, bne_iff_ne, beq_eq_false_iff_ne, bne_eq_false_iff_eq, Bool.not_eq_true', Bool.not_eq_false', Bool.not_eq_true, ne_eq, Decidable.not_not] at c18
      refine PW.exit ?_
      refine hK2 _ _ ?_
      refine PW.keep (T' := [(1, _), (5, _), (6, _)]) ⟨rfl, rfl, rfl, trivial⟩ ?_
      refine PW.seqOps ?_
      obtain hkk : k = l.length := by omega
      subst hkk
      have htake : (l.map fixV).take l.length = l.map fixV := List.take_of_length_le (by simp)
      rw [htake] at hsm hsb hbl
      have hms : ∀ x ∈ l.map fixV, x.h.length = 32 ∧ x.nu < 18446744073709551616 ∧ x.c < 18446744073709551616 ∧ x.t.size ≤ 300 ∧ (0 ≤ x.lv ∧ x.lv ≤ 15) ∧ (-2 ≤ x.z ∧ x.z ≤ 4294967294) := by
        intro x hx
        obtain ⟨y, hy, rfl⟩ := List.mem_map.1 hx
        have h1 := hh y hy
        have h2 := ht y hy
        have h3 := a15_bound y.lv
        have h4 := n32_bound y.z
        refine ⟨h1.1, h1.2.1, h1.2.2, h2, h3, ?_⟩
        show -2 ≤ n32 y.z - 2 ∧ n32 y.z - 2 ≤ 4294967294
        omega
      obtain ⟨Am, cm, rfl, _, _, qm⟩ := SlV.rd0 (w0 := w0) hsm
      refine OL.det trivial (Yields.pure rfl) ?_
      refine OL.det trivial (Yields.pure rfl) ?_
      refine OL.det trivial (Yields.pure rfl) ?_
      refine OL.det trivial (Yields.pure rfl) ?_
      refine OL.det trivial (Yields.slS (l := 0) (h := min a.length 50) rfl rfl rfl (.inr ⟨rfl, rfl⟩) (.inl (congrArg some (by simp only [Bool.false_eq_true, if_false]; split <;> omega))) (by omega) (by omega)) ?_
      rw [cutV0, show min a.length 50 = (a.take (min a.length 50)).length by simp]
      refine OL.det trivial (Yields.pure rfl) ?_
      refine OL.nil ?_
      refine PW.keep (T' := [(1, _), (5, _), (6, _)]) ⟨rfl, rfl, rfl, trivial⟩ ?_
      refine PW.seqOps ?_
      refine OL.det trivial (Yields.pure rfl) ?_
      refine OL.det trivial (Yields.pure rfl) ?_
      have hl53 : (a.take (min a.length 50)).length ≤ 50 := by simp; omega
      refine OL.cons trivial (OW.appB (k := 1) rfl rfl hsb rfl rfl (Rd.take ha).cons.cons han (by omega)) ?_
      rintro v53 _ ⟨seg53, rfl, hsl53⟩
      change OL _ _ _ _ _ (sm :: seg53 :: S) _
      obtain ⟨Ab, cab, rfl, _, hcab, qb⟩ := SlV.rd0 (w0 := w0) hsl53
      rw [show (bsOf (l.map fixV)).length + (a.take (min a.length 50)).length = (bsOf (l.map fixV) ++ a.take (min a.length 50)).length by simp]
      have hltl : (bsOf (l.map fixV) ++ a.take (min a.length 50)).length ≤ 20000 := by rw [List.length_append]; omega
      have hcab' : (bsOf (l.map fixV) ++ a.take (min a.length 50)).length ≤ cab := by rw [List.length_append]; exact hcab
      have hqb : ∀ S2, Rd w0 (seg53 :: S2) Ab (bytesC (bsOf (l.map fixV) ++ a.take (min a.length 50))) := by
        intro S2
        have := qb S2
        rw [bytesC, List.map_append]
        exact this
      have hbl2 : (bsOf (l.map fixV) ++ a.take (min a.length 50)).length = (bsOf (l.map fixV)).length + (a.take (min a.length 50)).length := by simp
      generalize hlt : bsOf (l.map fixV) ++ a.take (min a.length 50) = lt at *
      refine OL.call trivial rfl (open_fc) ?_
      rintro _ _ ⟨r54, rfl, rfl⟩
      refine OL.det trivial (Yields.pure rfl) ?_
      refine OL.nil ?_
      refine PW.keep (T' := [(1, _), (5, _), (9, _)]) ⟨rfl, rfl, rfl, trivial⟩ ?_
      refine PW.seq fun K5 hK5 => ?_
      refine PW.seqOps ?_
      refine OL.det trivial (Yields.pure rfl) ?_
      refine OL.nil ?_
      refine PW.keep (T' := [(1, _), (5, _), (9, _), (10, _)]) ⟨rfl, rfl, rfl, rfl, trivial⟩ ?_
      refine PW.block ?_
      refine PW.keep (T' := [(1, _), (5, _), (9, _), (10, _)]) ⟨rfl, rfl, rfl, rfl, trivial⟩ ?_
      refine PW.loopK (I := fun m T S' => ∃ (k : Nat), (k ≤ l.length ∧ m = l.length - k) ∧ T = ([(1, .slice A (a.take (min a.length 50)).length ca), (5, .slice Am l.length cm), (9, .pointer (some ⟨r54, 0, none⟩)), (10, .int .i64 k)] : TT) ∧ S' = RB r54 Ab lt.length cab (bsOf ((l.map fixV).take k)).length 0 :: sm :: seg53 :: S) (m := l.length) ⟨0, ⟨by omega, by omega⟩, rfl, by simp [bsOf]; rfl⟩ ?_
      rintro m _ _ ⟨k, ⟨hk, hm⟩, rfl, rfl⟩
      refine PW.seq fun K6 hK6 => ?_
      refine PW.seqOps ?_
      refine OL.det trivial (Yields.pure rfl) ?_
      refine OL.det trivial (Yields.pure rfl) ?_
      refine OL.det trivial (Yields.pure rfl) ?_
      refine OL.det trivial (Yields.pure rfl) ?_
      refine OL.nil ?_
      refine PW.keep (T' := [(1, _), (5, _), (9, _), (10, _), (58, _)]) ⟨rfl, rfl, rfl, rfl, rfl, trivial⟩ ?_
      refine PW.cond rfl (fun c58 => ?_) (fun c58 => ?_)
      · try simp only [decide_eq_true_eq, decide_eq_false_iff_not, beq_iff_eq, bne_iff_ne, beq_eq_false_iff_ne, bne_eq_false_iff_eq, Bool.not_eq_true', Bool.not_eq_false', Bool.not_eq_true, ne_eq, Decidable.not_not] at c58
        have hkl : k < (l.map fixV).length := by rw [List.length_map]; omega
        obtain ⟨bm, rfl⟩ := (qm []).some (valsC_ne (by omega))
        have hxk := hms _ (List.getElem_mem hkl)
        have hrest : lt.drop (bsOf ((l.map fixV).take k)).length = wB (l.map fixV)[k] ++ (bsOf ((l.map fixV).drop (k + 1)) ++ a.take (min a.length 50)) := by
          rw [← hlt, bsOf_split hkl, List.append_assoc, List.drop_left, List.append_assoc]
        have hpre : (bsOf ((l.map fixV).take k)).length ≤ lt.length := by
          rw [← hlt, bsOf_split hkl]; simp
        refine PW.skip ?_
        refine hK6 _ _ ?_
        refine PW.keep (T' := [(1, _), (5, _), (9, _), (10, _)]) ⟨rfl, rfl, rfl, rfl, trivial⟩ ?_
        refine PW.seq fun K7 hK7 => ?_
        refine PW.block ?_
        refine PW.seqOps ?_
        refine OL.det trivial (Yields.pure rfl) ?_
        refine OL.det trivial (Yields.pure rfl) ?_
        refine OL.det trivial (Yields.pure rfl) ?_
        refine OL.det trivial (Yields.ixN rfl rfl rfl (by omega)) ?_
        refine OL.det trivial (Yields.ldA rfl (cs := valC (l.map fixV)[k]) (valC_len hxk.1) (fun j v hj => val_at ((qm (seg53 :: S)).cons ) (fun x h => (hms x h).1) hkl j (by have := (List.getElem?_eq_some_iff.1 hj).1; rw [valC_len hxk.1] at this; exact this) hj)) ?_
        refine OL.call trivial rfl (again_fc (x := (l.map fixV)[k]) (hqb S).cons (by omega) hcab' (by omega) hxk.1 hxk.2.1 hxk.2.2.1 hxk.2.2.2.1 hxk.2.2.2.2.1 hxk.2.2.2.2.2 hrest) ?_
        rintro _ _ ⟨rfl, rfl⟩
        refine OL.det trivial (Yields.pure rfl) ?_
        refine OL.det trivial (Yields.pure rfl) ?_
        refine OL.det rfl (Yields.pure rfl) ?_
        refine OL.call rfl rfl (err_fc (rb := r54) (List.Mem.head _)) ?_
        rintro _ _ ⟨rfl, rfl⟩
        refine OL.det rfl (Yields.pure rfl) ?_
        refine OL.det trivial (Yields.pure rfl) ?_
        refine OL.nil ?_
        refine PW.keep (T' := [(1, _), (5, _), (9, _), (10, _), (72, _)]) ⟨rfl, rfl, rfl, rfl, rfl, trivial⟩ ?_
        refine PW.ite (b := false) rfl ?_
        rw [if_neg Bool.false_ne_true]
        refine PW.skip ?_
        refine hK7 _ _ ?_
        refine PW.keep (T' := [(1, _), (5, _), (9, _), (10, _)]) ⟨rfl, rfl, rfl, rfl, trivial⟩ ?_
        refine PW.ops ?_
        refine OL.det trivial (Yields.pure rfl) ?_
        refine OL.det trivial (Yields.add64 rfl rfl (by omega) (by omega)) ?_
        refine OL.det trivial (Yields.pure rfl) ?_
        refine OL.nil ?_
        repeat rw [inBlk_n]
        rw [thenK_n]
        refine LoopEnd.mk (T'' := [(1, _), (5, _), (9, _), (10, _)]) ⟨rfl, rfl, rfl, rfl, trivial⟩ ?_
        refine ⟨l.length - (k + 1), by omega, k + 1, ⟨by omega, rfl⟩, by simp, ?_⟩
        rw [bsOf_take hkl, List.length_append]
      · try simp only [decide_eq_true_eq, decide_eq_false_iff_not, beq_iff_eq, bne_iff_ne, beq_eq_false_iff_ne, bne_eq_false_iff_eq, Bool.not_eq_true', Bool.not_eq_false', Bool.not_eq_true, ne_eq, Decidable.not_not] at c58
        refine PW.exit ?_
        refine hK5 _ _ ?_
        refine PW.keep (T' := [(1, _), (9, _)]) ⟨rfl, rfl, trivial⟩ ?_
        refine PW.seqOps ?_
        refine OL.det trivial (Yields.pure rfl) ?_
        refine OL.call trivial rfl (done_fc (rb := r54) (List.Mem.head _)) ?_
        rintro _ _ ⟨rfl, rfl⟩
        refine OL.det trivial (Yields.pure rfl) ?_
        refine OL.det trivial (Yields.pure rfl) ?_
        refine OL.det trivial (Yields.pure rfl) ?_
        refine OL.det trivial (Yields.pure rfl) ?_
        refine OL.det trivial (Yields.to (v' := .bool true) (Yields.pure rfl) (by
          have he : k = l.length := by omega
          subst he
          rw [List.take_of_length_le (show (l.map fixV).length ≤ l.length by simp), if_neg (by decide)]
          by_cases hz : (a.take (min a.length 50)).length = 0
          · rw [if_neg (by omega)]; simp [hz]
          · rw [if_pos (by omega)]
            have : ¬ ((a.take (min a.length 50)).length : Int) = 0 := by omega
            simp; intro h0; rw [h0] at hz; simp at hz)) ?_
        refine OL.det trivial (Yields.pure rfl) ?_
        refine OL.call rfl rfl (works_fc) ?_
        rintro _ _ ⟨rfl, rfl⟩
        refine OL.det trivial (Yields.pure rfl) ?_
        refine OL.det trivial (Yields.pure rfl) ?_
        refine OL.nil ?_
        refine PW.keep (T' := [(4, _)]) ⟨rfl, trivial⟩ ?_
        refine PW.ret ?_
        change (Exit.ret = Exit.normal ∨ Exit.ret = Exit.ret) ∧ ∃ v, resV _ _ = some v ∧ _
        exact ⟨.inr rfl, _, rfl, _, Sub.refl _, rfl⟩

end Go.Proofs
