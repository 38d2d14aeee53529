/- Walks and plain facts for the laws of this seat: what each function answers, for every input. -/
import Derived.Test.YtpeikdbejafgbaaCoW12
set_option linter.unusedVariables false
set_option linter.unusedSimpArgs false
namespace Go.Proofs
open Go.SL Go.RowKit
set_option maxHeartbeats 1000000

def wB (x : Val) : List UInt8 := if x.k.tmod 5 = 0 then numB x.nu else if x.k.tmod 5 = 1 then textB x.t else if x.k.tmod 5 = 2 then x.h else if x.k.tmod 5 = 3 then labelB x.lv x.c else vertexB x.h x.z
theorem textB_len (s : ByteArray) : (textB s).length ≤ 10 + s.size := by
  have h := numB_len s.size
  have e : s.data.size = s.size := rfl
  simp only [textB, List.length_append, Array.length_toList]; omega
theorem labelB_len (l : Int) (c : Nat) : (labelB l c).length ≤ 18 := by
  have h := numB_len (uOf l)
  simp only [labelB, List.length_append, beB_len]; omega
theorem vertexB_len {h : List UInt8} (hh : h.length = 32) (z : Int) : (vertexB h z).length ≤ 42 := by
  have h := numB_len (uOf (z + 2))
  simp only [vertexB, List.length_append]; omega
theorem wB_len {x : Val} (hh : x.h.length = 32) (ht : x.t.size ≤ 300) : (wB x).length ≤ 400 := by
  have h1 := numB_len x.nu
  have h2 := textB_len x.t
  have h3 := labelB_len x.lv x.c
  have h4 := vertexB_len hh x.z
  unfold wB
  repeat' split
  all_goals omega
theorem valsC_ne {l : List Val} (h : 0 < l.length) : valsC l ≠ [] := by
  cases l with
  | nil => simp at h
  | cons x l => simp [valsC, valC, Val.head]
theorem slvB {v : Value} {ys l : List UInt8} {seg : Seg} (h : SlV 5 1 v (ys.length + l.length) (bytesC ys ++ bytesC l) seg) : SlV 5 1 v (ys ++ l).length (bytesC (ys ++ l)) seg := by
  rw [List.length_append, bytesC_append]; exact h
theorem valC_hash {w0 : World} {S : SS} {r E tot : Nat} {x : Val} (hh : x.h.length = 32) (hm : (r, AO.cells (valC x) E tot) ∈ S.flatten) : ∀ j v, (bytesC x.h)[j]? = some v → Cell w0 S ((⟨r, 3, none⟩ : Addr).add j) v := by
  intro j v hj
  have : (valC x)[3 + j]? = some v := by
    unfold valC Val.head
    have hl : j < (bytesC x.h).length := (List.getElem?_eq_some_iff.1 hj).1
    rw [List.append_assoc, List.getElem?_append_right (by simp), List.getElem?_append_left (by simpa using hl)]
    simpa using hj
  have h2 := own_at (w0 := w0) (j := 3 + j) hm this
  rw [Addr.add_lit]
  exact h2
def z33 : List Value := List.replicate 32 (.int .u8 0) ++ [.int .i64 0]
theorem z33_hash {h : List UInt8} (hh : h.length = 32) : setAt z33 0 (bytesC h) = bytesC h ++ [.int .i64 0] := by
  rw [setAt_eq _ _ _ (by rw [bytesC_length, hh]; decide), bytesC_length, hh]; rfl
theorem vset {h : List UInt8} (hh : h.length = 32) (z : Int) : setAt (bytesC h ++ [.int .i64 0]) 32 [.int .i64 z] = vertexC h z := by
  rw [setAt_eq _ _ _ (by simp [bytesC_length, hh])]
  rw [List.take_append_of_le_length (by rw [bytesC_length]; omega), List.take_of_length_le (by rw [bytesC_length]; omega), List.drop_eq_nil_of_le (by simp [bytesC_length, hh]), List.append_nil]
  rfl
theorem vertexC_len {h : List UInt8} (hh : h.length = 32) (z : Int) : (vertexC h z).length = 33 := by simp [vertexC, bytesC_length, hh]
theorem fill_vertex {T : TT} {h : List UInt8} {z : Int} {a b : Nat} (hh : h.length = 32) (h1 : Go.SL.look T a = some (.agg (bytesC h).toArray)) (h2 : Go.SL.look T b = some (.int .i64 z)) : fillP T z33 [(0, 32, .t a), (32, 1, .t b)] = some (vertexC h z) := by
  have e1 : (Value.agg (bytesC h).toArray).cells.size = 32 := by simp [Value.cells, bytesC_length, hh]
  have e2 : (Value.agg (bytesC h).toArray).cells.toList = bytesC h := rfl
  simp only [fillP, PV.val, h1, h2]
  rw [if_pos ⟨e1, by decide⟩, e2, z33_hash hh, if_pos ⟨rfl, by simp [bytesC_length, hh]⟩]
  exact congrArg some (vset hh z)
theorem vall {h : List UInt8} (hh : h.length = 32) (z : Int) : setAt z33 0 (vertexC h z) = vertexC h z := by
  rw [setAt_eq _ _ _ (by rw [vertexC_len hh]; decide), vertexC_len hh]
  show List.take 0 z33 ++ vertexC h z ++ List.drop (0 + 33) z33 = _
  simp [z33]
theorem vertexC_one (h : List UInt8) (z : Int) : (vertexC h z).all (·.oneCell') = true := by
  rw [vertexC, List.all_append, bytesC_all]; rfl
theorem few_fc {w0 : World} {S : SS} {A : Option Addr} {cap : Nat} {l : List Val} (hx : Rd w0 S A (valsC l)) (hh : ∀ x ∈ l, x.h.length = 32) (hb : l.length ≤ 1000000000000000) :
    FC Try.prog w0 13 [.slice A l.length cap] S (fun v S' => ∃ b, v = .bool b ∧ S' = S ∧ (b = true → l.length ≤ 20 ∧ ∀ x ∈ l, x.t.size ≤ 300)) := by
  refine FC.of Try.known13 (by simp) ?_
  unfold Try.pc13
  simp only [argT]
  refine PW.seqOps ?_
  refine OL.det trivial (Yields.pure rfl) ?_
  refine OL.nil ?_
  refine PW.keep (T' := [(0, _)]) ⟨rfl, trivial⟩ ?_
  refine PW.seq fun K1 hK1 => ?_
  refine PW.seqOps ?_
  refine OL.det trivial (Yields.pure rfl) ?_
  refine OL.nil ?_
  refine PW.keep (T' := [(0, _), (3, _)]) ⟨rfl, rfl, trivial⟩ ?_
  refine PW.block ?_
  refine PW.keep (T' := [(0, _), (3, _)]) ⟨rfl, rfl, trivial⟩ ?_
  refine PW.loopK (I := fun m T S' => ∃ (k : Nat), (k ≤ l.length ∧ m = l.length - k ∧ (∀ (j : Nat) (h : j < l.length), j < k → l[j].t.size ≤ 300)) ∧ T = ([(0, .slice A l.length cap), (3, .int .i64 k)] : TT) ∧ S' = S) (m := l.length) ⟨0, ⟨by omega, by omega, fun j h h2 => absurd h2 (by omega)⟩, rfl, rfl⟩ ?_
  rintro m _ _ ⟨k, ⟨hk, hm, hall⟩, rfl, rfl⟩
  refine PW.seq fun K2 hK2 => ?_
  refine PW.seqOps ?_
  refine OL.det trivial (Yields.pure rfl) ?_
  refine OL.det trivial (Yields.pure rfl) ?_
  refine OL.det trivial (Yields.pure rfl) ?_
  refine OL.det trivial (Yields.pure rfl) ?_
  refine OL.bool trivial (Yields.pure rfl) (fun g8 => ?_) (fun g8 => ?_)
  · try simp only [decide_eq_true_eq, decide_eq_false_iff_not, beq_iff_eq, bne_iff_ne, beq_eq_false_iff_ne, bne_eq_false_iff_eq, Bool.not_eq_true', Bool.not_eq_false', Bool.not_eq_true, ne_eq, Decidable.not_not] at g8
    obtain ⟨a, rfl⟩ := hx.some (valsC_ne (by omega))
    have hkl : k < l.length := by omega
    refine OL.det rfl (Yields.pure rfl) ?_
    refine OL.det rfl (Yields.pure rfl) ?_
    refine OL.det trivial (Yields.pure rfl) ?_
    refine OL.nil ?_
    refine PW.keep (T' := [(0, _), (3, _), (11, _)]) ⟨rfl, rfl, rfl, trivial⟩ ?_
    refine PW.cond rfl (fun c11 => ?_) (fun c11 => ?_)
    · try simp only [decide_eq_true_eq, decide_eq_false_iff_not, beq_iff_eq, bne_iff_ne, beq_eq_false_iff_ne, bne_eq_false_iff_eq, Bool.not_eq_true', Bool.not_eq_false', Bool.not_eq_true, ne_eq, Decidable.not_not] at c11
      refine PW.skip ?_
      refine hK2 _ _ ?_
      refine PW.keep (T' := [(0, _), (3, _)]) ⟨rfl, rfl, trivial⟩ ?_
      refine PW.seq fun K3 hK3 => ?_
      refine PW.block ?_
      refine PW.seqOps ?_
      refine OL.det trivial (Yields.pure rfl) ?_
      refine OL.det trivial (Yields.pure rfl) ?_
      refine OL.det trivial (Yields.ixN rfl rfl rfl (by omega)) ?_
      refine OL.det trivial (Yields.pure rfl) ?_
      refine OL.det trivial (Yields.ld rfl (val_at hx hh hkl 2 (by omega) rfl)) ?_
      refine OL.det trivial (Yields.pure rfl) ?_
      refine OL.det trivial (Yields.pure rfl) ?_
      refine OL.nil ?_
      refine PW.keep (T' := [(0, _), (3, _), (20, _)]) ⟨rfl, rfl, rfl, trivial⟩ ?_
      refine PW.cond rfl (fun c20 => ?_) (fun c20 => ?_)
      · try simp only [decide_eq_true_eq, decide_eq_false_iff_not, beq_iff_eq, bne_iff_ne, beq_eq_false_iff_ne, bne_eq_false_iff_eq, Bool.not_eq_true', Bool.not_eq_false', Bool.not_eq_true, ne_eq, Decidable.not_not] at c20
        refine PW.seqOps ?_
        refine OL.det trivial (Yields.pure rfl) ?_
        refine OL.nil ?_
        refine PW.keep (T' := [(2, _)]) ⟨rfl, trivial⟩ ?_
        refine PW.ret ?_
        change (Exit.ret = Exit.normal ∨ Exit.ret = Exit.ret) ∧ ∃ v, resV _ _ = some v ∧ _
        exact ⟨.inr rfl, _, rfl, false, rfl, rfl, fun h => nomatch h⟩
      · try simp only [decide_eq_true_eq, decide_eq_false_iff_not, beq_iff_eq, bne_iff_ne, beq_eq_false_iff_ne, bne_eq_false_iff_eq, Bool.not_eq_true', Bool.not_eq_false', Bool.not_eq_true, ne_eq, Decidable.not_not] at c20
        refine PW.skip ?_
        refine hK3 _ _ ?_
        refine PW.keep (T' := [(0, _), (3, _)]) ⟨rfl, rfl, trivial⟩ ?_
        refine PW.ops ?_
        refine OL.det trivial (Yields.pure rfl) ?_
        refine OL.det trivial (Yields.add64 rfl rfl (by omega) (by omega)) ?_
        refine OL.det trivial (Yields.pure rfl) ?_
        refine OL.nil ?_
        repeat rw [inBlk_n]
        rw [thenK_n]
        refine LoopEnd.mk (T'' := [(0, _), (3, _)]) ⟨rfl, rfl, trivial⟩ ?_
        refine ⟨l.length - (k + 1), by omega, k + 1, ⟨by omega, rfl, fun j h h2 => ?_⟩, by simp, rfl⟩
        by_cases e : j = k
        · subst e; omega
        · exact hall j h (by omega)
    · try simp only [decide_eq_true_eq, decide_eq_false_iff_not, beq_iff_eq, bne_iff_ne, beq_eq_false_iff_ne, bne_eq_false_iff_eq, Bool.not_eq_true', Bool.not_eq_false', Bool.not_eq_true, ne_eq, Decidable.not_not] at c11
      refine PW.exit ?_
      refine hK1 _ _ ?_
      refine PW.keep (T' := [(0, _)]) ⟨rfl, trivial⟩ ?_
      refine PW.seqOps ?_
      refine OL.det trivial (Yields.pure rfl) ?_
      refine OL.det trivial (Yields.pure rfl) ?_
      refine OL.det trivial (Yields.pure rfl) ?_
      refine OL.det trivial (Yields.pure rfl) ?_
      refine OL.nil ?_
      refine PW.keep (T' := [(2, _)]) ⟨rfl, trivial⟩ ?_
      refine PW.ret ?_
      change (Exit.ret = Exit.normal ∨ Exit.ret = Exit.ret) ∧ ∃ v, resV _ _ = some v ∧ _
      refine ⟨.inr rfl, _, rfl, _, rfl, rfl, fun h => ?_⟩
      simp only [decide_eq_true_eq] at h
      refine ⟨by omega, fun y hy => ?_⟩
      obtain ⟨i, hi, rfl⟩ := List.getElem_of_mem hy
      exact hall i hi (by omega)
  · try simp only [decide_eq_true_eq, decide_eq_false_iff_not, beq_iff_eq, bne_iff_ne, beq_eq_false_iff_ne, bne_eq_false_iff_eq, Bool.not_eq_true', Bool.not_eq_false', Bool.not_eq_true, ne_eq, Decidable.not_not] at g8
    refine OL.off rfl rfl ?_
    refine OL.off rfl rfl ?_
    refine OL.det trivial (Yields.pure rfl) ?_
    refine OL.nil ?_
    refine PW.keep (T' := [(0, _), (3, _), (11, _)]) ⟨rfl, rfl, rfl, trivial⟩ ?_
    refine PW.ite (b := false) rfl ?_
    rw [if_neg Bool.false_ne_true]
    refine PW.exit ?_
    refine hK1 _ _ ?_
    refine PW.keep (T' := [(0, _)]) ⟨rfl, trivial⟩ ?_
    refine PW.seqOps ?_
    refine OL.det trivial (Yields.pure rfl) ?_
    refine OL.det trivial (Yields.pure rfl) ?_
    refine OL.det trivial (Yields.pure rfl) ?_
    refine OL.det trivial (Yields.pure rfl) ?_
    refine OL.nil ?_
    refine PW.keep (T' := [(2, _)]) ⟨rfl, trivial⟩ ?_
    refine PW.ret ?_
    change (Exit.ret = Exit.normal ∨ Exit.ret = Exit.ret) ∧ ∃ v, resV _ _ = some v ∧ _
    refine ⟨.inr rfl, _, rfl, _, rfl, rfl, fun h => ?_⟩
    simp only [decide_eq_true_eq] at h
    refine ⟨by omega, fun y hy => ?_⟩
    obtain ⟨i, hi, rfl⟩ := List.getElem_of_mem hy
    exact hall i hi (by omega)
theorem written_fc {w0 : World} {S : SS} {vb vc : Value} {sb sc : Seg} {xs ys : List UInt8} {x : Val} (hx : x.h.length = 32) (hxn : x.nu < 18446744073709551616) (hxc : x.c < 18446744073709551616) (ht : x.t.size ≤ 300)
    (hv : SlV 5 1 vb xs.length (bytesC xs) sb) (hw : SlV 5 1 vc ys.length (bytesC ys) sc) (hb : xs.length ≤ 1000000) (hc : ys.length ≤ 1000000) :
    FC Try.prog w0 14 [vb, vc, .agg (valC x).toArray] (sb :: sc :: S) (fun v S' => ∃ vb' vc' sb' sc', v = .tuple #[vb', vc'] ∧ S' = sb' :: sc' :: S ∧ SlV 5 1 vb' (xs ++ wB x).length (bytesC (xs ++ wB x)) sb' ∧ SlV 5 1 vc' (ys ++ wB x).length (bytesC (ys ++ wB x)) sc') := by
  refine FC.ofD Try.known14 (by simp) ?_
  unfold Try.pc14
  simp only [argT]
  refine PW.seqOps ?_
  refine OL.cons trivial (OW.bx rfl) ?_
  rintro _ _ ⟨r5, rfl, rfl⟩
  rw [valC_box, valC_len hx]
  refine OL.det trivial (Yields.pure rfl) ?_
  refine OL.det trivial (Yields.pure rfl) ?_
  refine OL.nil ?_
  refine PW.keep (T' := [(0, _), (1, _), (5, _)]) ⟨rfl, rfl, rfl, trivial⟩ ?_
  refine PW.seq fun K1 hK1 => ?_
  refine PW.seqOps ?_
  refine OL.det trivial (Yields.pure rfl) ?_
  refine OL.det trivial (Yields.ld rfl (own_at (j := 0) (c := valC x) (E := 28) (tot := 39) (List.Mem.head _) rfl)) ?_
  refine OL.det trivial (Yields.rem rfl rfl (by omega)) ?_
  refine OL.nil ?_
  refine PW.keep (T' := [(0, _), (1, _), (5, _), (11, _)]) ⟨rfl, rfl, rfl, rfl, trivial⟩ ?_
  refine PW.block ?_
  refine PW.seqOps ?_
  refine OL.det trivial (Yields.pure rfl) ?_
  refine OL.det trivial (Yields.pure rfl) ?_
  refine OL.nil ?_
  refine PW.keep (T' := [(0, _), (1, _), (5, _), (11, _), (12, _)]) ⟨rfl, rfl, rfl, rfl, rfl, trivial⟩ ?_
  refine PW.cond rfl (fun c12 => ?_) (fun c12 => ?_)
  · try simp only [decide_eq_true_eq, decide_eq_false_iff_not, beq_iff_eq, bne_iff_ne, beq_eq_false_iff_ne, bne_eq_false_iff_eq, Bool.not_eq_true', Bool.not_eq_false', Bool.not_eq_true, ne_eq, Decidable.not_not] at c12
    refine PW.seq fun K2 hK2 => ?_
    refine PW.quiet1K (p := 3) (base := [[(r5, .cells (valC x) 28 39)]]) (K := (fun v' S' => ∃ seg', S' = seg' :: [(r5, .cells (valC x) 28 39)] :: sc :: S ∧ SlV 5 1 v' (xs ++ numB x.nu).length (bytesC (xs ++ numB x.nu)) seg')) Try.mixed rfl rfl rfl (fun _ h => nomatch h) rfl (Over.hd _ _) ?_
    refine QKs.det trivial (fun Sx hSx => Yields.pure rfl) ?_
    refine QKs.det trivial (fun Sx hSx => Yields.pure rfl) ?_
    refine QKs.det trivial (fun Sx hSx => Yields.ld rfl (own_at (j := 1) (c := valC x) (E := 28) (tot := 39) (hSx _ (List.Mem.head _)) rfl)) ?_
    refine QKs.nil ⟨OW.call rfl (FC.sel [1, 0, 2] 3 rfl (num_fc hv hxn (by omega))), (by rintro _ _ ⟨seg', rfl, _⟩; exact (Over.hd _ _).cons), ?_⟩
    refine QKs.det trivial (fun Sx hSx => Yields.pure rfl) ?_
    refine QKs.det trivial (fun Sx hSx => Yields.pure rfl) ?_
    refine QKs.det trivial (fun Sx hSx => Yields.ld rfl (own_at (j := 1) (c := valC x) (E := 28) (tot := 39) (hSx _ (List.Mem.head _)) rfl)) ?_
    refine QKs.nil ?_
    rintro v17 _ ⟨seg17, rfl, hsl17⟩
    change OL _ _ _ [_, _, _, _] _ _ _
    refine OL.call trivial rfl (rnum_fc x.nu hxn) ?_
    rintro v21 _ ⟨seg21, rfl, hsl21⟩
    obtain ⟨Au, cu, rfl, hcu, _, hrdu⟩ := SlV.rd0 (w0 := w0) hsl21
    have hnl := wB_len hx ht
    refine OL.cons trivial (OW.appB (k := 3) rfl rfl hw rfl rfl (hrdu _) hcu (by rw [wB, if_pos c12] at hnl; omega)) ?_
    rintro v22 _ ⟨seg22, rfl, hsl22⟩
    refine OL.det trivial (Yields.pure rfl) ?_
    refine OL.det trivial (Yields.pure rfl) ?_
    refine OL.nil ?_
    refine hK2 _ _ ?_
    refine PW.keep (T' := [(6, _), (7, _)]) ⟨rfl, rfl, trivial⟩ ?_
    refine PW.ret ?_
    change (Exit.ret = Exit.normal ∨ Exit.ret = Exit.ret) ∧ ∃ v, resV _ _ = some v ∧ _
    refine ⟨.inr rfl, _, rfl, seg17 :: seg22 :: S, Sub.drop (Sub.cons (Sub.drop (Sub.cons (Sub.refl _)))), v17, v22, seg17, seg22, rfl, rfl, ?_, ?_⟩
    · rw [wB, if_pos c12]; exact hsl17
    · rw [wB, if_pos c12]; exact slvB hsl22
  · try simp only [decide_eq_true_eq, decide_eq_false_iff_not, beq_iff_eq, bne_iff_ne, beq_eq_false_iff_ne, bne_eq_false_iff_eq, Bool.not_eq_true', Bool.not_eq_false', Bool.not_eq_true, ne_eq, Decidable.not_not] at c12
    refine PW.seqOps ?_
    refine OL.det trivial (Yields.pure rfl) ?_
    refine OL.det trivial (Yields.pure rfl) ?_
    refine OL.nil ?_
    refine PW.keep (T' := [(0, _), (1, _), (5, _), (11, _), (23, _)]) ⟨rfl, rfl, rfl, rfl, rfl, trivial⟩ ?_
    refine PW.cond rfl (fun c23 => ?_) (fun c23 => ?_)
    · try simp only [decide_eq_true_eq, decide_eq_false_iff_not, beq_iff_eq, bne_iff_ne, beq_eq_false_iff_ne, bne_eq_false_iff_eq, Bool.not_eq_true', Bool.not_eq_false', Bool.not_eq_true, ne_eq, Decidable.not_not] at c23
      refine PW.seq fun K3 hK3 => ?_
      refine PW.quiet1K (p := 3) (base := [[(r5, .cells (valC x) 28 39)]]) (K := (fun v' S' => ∃ seg', S' = seg' :: [(r5, .cells (valC x) 28 39)] :: sc :: S ∧ SlV 5 1 v' (xs ++ textB x.t).length (bytesC (xs ++ textB x.t)) seg')) Try.mixed rfl rfl rfl (fun _ h => nomatch h) rfl (Over.hd _ _) ?_
      refine QKs.det trivial (fun Sx hSx => Yields.pure rfl) ?_
      refine QKs.det trivial (fun Sx hSx => Yields.pure rfl) ?_
      refine QKs.det trivial (fun Sx hSx => Yields.ld rfl (own_at (j := 2) (c := valC x) (E := 28) (tot := 39) (hSx _ (List.Mem.head _)) rfl)) ?_
      refine QKs.nil ⟨OW.call rfl (FC.sel [1, 0, 2] 3 rfl (text_fc hv (by omega) (by omega))), (by rintro _ _ ⟨seg', rfl, _⟩; exact (Over.hd _ _).cons), ?_⟩
      refine QKs.det trivial (fun Sx hSx => Yields.pure rfl) ?_
      refine QKs.det trivial (fun Sx hSx => Yields.pure rfl) ?_
      refine QKs.det trivial (fun Sx hSx => Yields.ld rfl (own_at (j := 2) (c := valC x) (E := 28) (tot := 39) (hSx _ (List.Mem.head _)) rfl)) ?_
      refine QKs.nil ?_
      rintro v28 _ ⟨seg28, rfl, hsl28⟩
      change OL _ _ _ [_, _, _, _] _ _ _
      refine OL.call trivial rfl (rtext_fc (by omega)) ?_
      rintro v32 _ ⟨seg32, rfl, hsl32⟩
      obtain ⟨Au, cu, rfl, hcu, _, hrdu⟩ := SlV.rd0 (w0 := w0) hsl32
      have hnl := wB_len hx ht
      refine OL.cons trivial (OW.appB (k := 3) rfl rfl hw rfl rfl (hrdu _) hcu (by rw [wB, if_neg c12, if_pos c23] at hnl; omega)) ?_
      rintro v33 _ ⟨seg33, rfl, hsl33⟩
      refine OL.det trivial (Yields.pure rfl) ?_
      refine OL.det trivial (Yields.pure rfl) ?_
      refine OL.nil ?_
      refine hK3 _ _ ?_
      refine PW.keep (T' := [(6, _), (7, _)]) ⟨rfl, rfl, trivial⟩ ?_
      refine PW.ret ?_
      change (Exit.ret = Exit.normal ∨ Exit.ret = Exit.ret) ∧ ∃ v, resV _ _ = some v ∧ _
      refine ⟨.inr rfl, _, rfl, seg28 :: seg33 :: S, Sub.drop (Sub.cons (Sub.drop (Sub.cons (Sub.refl _)))), v28, v33, seg28, seg33, rfl, rfl, ?_, ?_⟩
      · rw [wB, if_neg c12, if_pos c23]; exact hsl28
      · rw [wB, if_neg c12, if_pos c23]; exact slvB hsl33
    · try simp only [decide_eq_true_eq, decide_eq_false_iff_not, beq_iff_eq, bne_iff_ne, beq_eq_false_iff_ne, bne_eq_false_iff_eq, Bool.not_eq_true', Bool.not_eq_false', Bool.not_eq_true, ne_eq, Decidable.not_not] at c23
      refine PW.seqOps ?_
      refine OL.det trivial (Yields.pure rfl) ?_
      refine OL.det trivial (Yields.pure rfl) ?_
      refine OL.nil ?_
      refine PW.keep (T' := [(0, _), (1, _), (5, _), (11, _), (34, _)]) ⟨rfl, rfl, rfl, rfl, rfl, trivial⟩ ?_
      refine PW.cond rfl (fun c34 => ?_) (fun c34 => ?_)
      · try simp only [decide_eq_true_eq, decide_eq_false_iff_not, beq_iff_eq, bne_iff_ne, beq_eq_false_iff_ne, bne_eq_false_iff_eq, Bool.not_eq_true', Bool.not_eq_false', Bool.not_eq_true, ne_eq, Decidable.not_not] at c34
        refine PW.seq fun K4 hK4 => ?_
        refine PW.quiet1K (p := 3) (base := [[(r5, .cells (valC x) 28 39)]]) (K := (fun v' S' => ∃ seg', S' = seg' :: [(r5, .cells (valC x) 28 39)] :: sc :: S ∧ SlV 5 1 v' (xs ++ x.h).length (bytesC (xs ++ x.h)) seg')) Try.mixed rfl rfl rfl (fun _ h => nomatch h) rfl (Over.hd _ _) ?_
        refine QKs.det trivial (fun Sx hSx => Yields.pure rfl) ?_
        refine QKs.det trivial (fun Sx hSx => Yields.pure rfl) ?_
        refine QKs.det trivial (fun Sx hSx => Yields.ldA rfl (by rw [bytesC_length]; exact hx) (valC_hash hx (hSx _ (List.Mem.head _)))) ?_
        refine QKs.nil ⟨OW.call rfl (FC.sel [1, 0, 2] 3 rfl (hash_fc hv hx (by omega))), (by rintro _ _ ⟨seg', rfl, _⟩; exact (Over.hd _ _).cons), ?_⟩
        refine QKs.det trivial (fun Sx hSx => Yields.pure rfl) ?_
        refine QKs.det trivial (fun Sx hSx => Yields.pure rfl) ?_
        refine QKs.det trivial (fun Sx hSx => Yields.ldA rfl (by rw [bytesC_length]; exact hx) (valC_hash hx (hSx _ (List.Mem.head _)))) ?_
        refine QKs.nil ?_
        rintro v39 _ ⟨seg39, rfl, hsl39⟩
        change OL _ _ _ [_, _, _, _] _ _ _
        refine OL.call trivial rfl (rhash_fc hx) ?_
        rintro v43 _ ⟨seg43, rfl, hsl43⟩
        obtain ⟨Au, cu, rfl, hcu, _, hrdu⟩ := SlV.rd0 (w0 := w0) hsl43
        have hnl := wB_len hx ht
        refine OL.cons trivial (OW.appB (k := 3) rfl rfl hw rfl rfl (hrdu _) hcu (by rw [wB, if_neg c12, if_neg c23, if_pos c34] at hnl; omega)) ?_
        rintro v44 _ ⟨seg44, rfl, hsl44⟩
        refine OL.det trivial (Yields.pure rfl) ?_
        refine OL.det trivial (Yields.pure rfl) ?_
        refine OL.nil ?_
        refine hK4 _ _ ?_
        refine PW.keep (T' := [(6, _), (7, _)]) ⟨rfl, rfl, trivial⟩ ?_
        refine PW.ret ?_
        change (Exit.ret = Exit.normal ∨ Exit.ret = Exit.ret) ∧ ∃ v, resV _ _ = some v ∧ _
        refine ⟨.inr rfl, _, rfl, seg39 :: seg44 :: S, Sub.drop (Sub.cons (Sub.drop (Sub.cons (Sub.refl _)))), v39, v44, seg39, seg44, rfl, rfl, ?_, ?_⟩
        · rw [wB, if_neg c12, if_neg c23, if_pos c34]; exact hsl39
        · rw [wB, if_neg c12, if_neg c23, if_pos c34]; exact slvB hsl44
      · try simp only [decide_eq_true_eq, decide_eq_false_iff_not, beq_iff_eq, bne_iff_ne, beq_eq_false_iff_ne, bne_eq_false_iff_eq, Bool.not_eq_true', Bool.not_eq_false', Bool.not_eq_true, ne_eq, Decidable.not_not] at c34
        refine PW.seqOps ?_
        refine OL.det trivial (Yields.pure rfl) ?_
        refine OL.det trivial (Yields.pure rfl) ?_
        refine OL.nil ?_
        refine PW.keep (T' := [(0, _), (1, _), (5, _), (45, _)]) ⟨rfl, rfl, rfl, rfl, trivial⟩ ?_
        refine PW.cond rfl (fun c45 => ?_) (fun c45 => ?_)
        · try simp only [decide_eq_true_eq, decide_eq_false_iff_not, beq_iff_eq, bne_iff_ne, beq_eq_false_iff_ne, bne_eq_false_iff_eq, Bool.not_eq_true', Bool.not_eq_false', Bool.not_eq_true, ne_eq, Decidable.not_not] at c45
          refine PW.seq fun K5 hK5 => ?_
          refine PW.quiet1K (p := 3) (base := [[(r5, .cells (valC x) 28 39)]]) (K := (fun v' S' => ∃ seg', S' = seg' :: [(r5, .cells (valC x) 28 39)] :: sc :: S ∧ SlV 5 1 v' (xs ++ labelB x.lv x.c).length (bytesC (xs ++ labelB x.lv x.c)) seg')) Try.mixed rfl rfl rfl (fun _ h => nomatch h) rfl (Over.hd _ _) ?_
          refine QKs.det trivial (fun Sx hSx => Yields.pure rfl) ?_
          refine QKs.det trivial (fun Sx hSx => Yields.pure rfl) ?_
          refine QKs.det trivial (fun Sx hSx => Yields.ldA rfl (by first | rfl | simp) (valC_label (E := 28) (tot := 39) (x := x) hx (hSx _ (List.Mem.head _)))) ?_
          refine QKs.nil ⟨OW.call rfl (FC.sel [1, 0, 2] 3 rfl (label_fc hv hxc (by omega))), (by rintro _ _ ⟨seg', rfl, _⟩; exact (Over.hd _ _).cons), ?_⟩
          refine QKs.det trivial (fun Sx hSx => Yields.pure rfl) ?_
          refine QKs.det trivial (fun Sx hSx => Yields.pure rfl) ?_
          refine QKs.det trivial (fun Sx hSx => Yields.ldA rfl (by first | rfl | simp) (valC_label (E := 28) (tot := 39) (x := x) hx (hSx _ (List.Mem.head _)))) ?_
          refine QKs.nil ?_
          rintro v50 _ ⟨seg50, rfl, hsl50⟩
          change OL _ _ _ [_, _, _, _] _ _ _
          refine OL.call trivial rfl (rlabel_fc hxc) ?_
          rintro v54 _ ⟨seg54, rfl, hsl54⟩
          obtain ⟨Au, cu, rfl, hcu, _, hrdu⟩ := SlV.rd0 (w0 := w0) hsl54
          have hnl := wB_len hx ht
          refine OL.cons trivial (OW.appB (k := 3) rfl rfl hw rfl rfl (hrdu _) hcu (by rw [wB, if_neg c12, if_neg c23, if_neg c34, if_pos c45] at hnl; omega)) ?_
          rintro v55 _ ⟨seg55, rfl, hsl55⟩
          refine OL.det trivial (Yields.pure rfl) ?_
          refine OL.det trivial (Yields.pure rfl) ?_
          refine OL.nil ?_
          refine hK5 _ _ ?_
          refine PW.keep (T' := [(6, _), (7, _)]) ⟨rfl, rfl, trivial⟩ ?_
          refine PW.ret ?_
          change (Exit.ret = Exit.normal ∨ Exit.ret = Exit.ret) ∧ ∃ v, resV _ _ = some v ∧ _
          refine ⟨.inr rfl, _, rfl, seg50 :: seg55 :: S, Sub.drop (Sub.cons (Sub.drop (Sub.cons (Sub.refl _)))), v50, v55, seg50, seg55, rfl, rfl, ?_, ?_⟩
          · rw [wB, if_neg c12, if_neg c23, if_neg c34, if_pos c45]; exact hsl50
          · rw [wB, if_neg c12, if_neg c23, if_neg c34, if_pos c45]; exact slvB hsl55
        · try simp only [decide_eq_true_eq, decide_eq_false_iff_not, beq_iff_eq, bne_iff_ne, beq_eq_false_iff_ne, bne_eq_false_iff_eq, Bool.not_eq_true', Bool.not_eq_false', Bool.not_eq_true, ne_eq, Decidable.not_not] at c45
          refine PW.skip ?_
          refine hK1 _ _ ?_
          refine PW.keep (T' := [(0, _), (1, _), (5, _)]) ⟨rfl, rfl, rfl, trivial⟩ ?_
          refine PW.seqOps ?_
          refine OL.det trivial (Yields.pure rfl) ?_
          refine OL.det trivial (Yields.ldA rfl (by rw [bytesC_length]; exact hx) (valC_hash hx (List.Mem.head _))) ?_
          refine OL.det trivial (Yields.pure rfl) ?_
          refine OL.det trivial (Yields.ld rfl (own_at (j := 37) (c := valC x) (E := 28) (tot := 39) (List.Mem.head _) (by rw [valC_tail hx 2]; rfl))) ?_
          refine OL.det trivial (Yields.build (fill_vertex hx rfl rfl)) ?_
          refine OL.cons trivial OW.al ?_
          rintro _ _ ⟨r8, rfl, rfl⟩
          refine OL.cons trivial (OW.st (k := 0) rfl rfl rfl (by rw [show (Value.agg (vertexC x.h x.z).toArray).cells.size = (vertexC x.h x.z).length from by simp [Value.cells]]; exact vertexC_len hx x.z) (by decide) (vertexC_one x.h x.z)) ?_
          rintro _ _ rfl
          refine OL.nil ?_
          refine PW.keep (T' := [(0, _), (1, _), (8, _)]) ⟨rfl, rfl, rfl, trivial⟩ ?_
          refine PW.seq fun K6 hK6 => ?_
          change PW _ _ _ _ _ ([(r8, .cells (setAt z33 0 (vertexC x.h x.z)) 57 33)] :: [(r5, .cells (valC x) 28 39)] :: sb :: sc :: S) _
          rw [vall hx]
          refine PW.quiet1K (p := 2) (base := [[(r8, .cells (vertexC x.h x.z) 57 33)]]) (K := (fun v' S' => ∃ seg', S' = seg' :: [(r8, .cells (vertexC x.h x.z) 57 33)] :: [(r5, .cells (valC x) 28 39)] :: sc :: S ∧ SlV 5 1 v' (xs ++ vertexB x.h x.z).length (bytesC (xs ++ vertexB x.h x.z)) seg')) Try.mixed rfl rfl rfl (fun _ h => nomatch h) rfl (Over.hd _ _) ?_
          refine QKs.det trivial (fun Sx hSx => Yields.pure rfl) ?_
          refine QKs.det trivial (fun Sx hSx => Yields.ldA rfl (vertexC_len hx x.z) (fun j v hj => (Rd.own (hSx _ (List.Mem.head _))).at hj)) ?_
          refine QKs.nil ⟨OW.call rfl (FC.sel [2, 0, 1, 3] 4 rfl (vertex_fc hv hx (by omega))), (by rintro _ _ ⟨seg', rfl, _⟩; exact (Over.hd _ _).cons), ?_⟩
          refine QKs.det trivial (fun Sx hSx => Yields.pure rfl) ?_
          refine QKs.det trivial (fun Sx hSx => Yields.ldA rfl (vertexC_len hx x.z) (fun j v hj => (Rd.own (hSx _ (List.Mem.head _))).at hj)) ?_
          refine QKs.nil ?_
          rintro v63 _ ⟨seg63, rfl, hsl63⟩
          change OL _ _ _ [_, _, _, _] _ _ _
          refine OL.call trivial rfl (rvertex_fc hx) ?_
          rintro v66 _ ⟨seg66, rfl, hsl66⟩
          obtain ⟨Au, cu, rfl, hcu, _, hrdu⟩ := SlV.rd0 (w0 := w0) hsl66
          have hnl := wB_len hx ht
          refine OL.cons trivial (OW.appB (k := 4) rfl rfl hw rfl rfl (hrdu _) hcu (by rw [wB, if_neg c12, if_neg c23, if_neg c34, if_neg c45] at hnl; omega)) ?_
          rintro v67 _ ⟨seg67, rfl, hsl67⟩
          refine OL.det trivial (Yields.pure rfl) ?_
          refine OL.det trivial (Yields.pure rfl) ?_
          refine OL.nil ?_
          refine hK6 _ _ ?_
          refine PW.keep (T' := [(6, _), (7, _)]) ⟨rfl, rfl, trivial⟩ ?_
          refine PW.ret ?_
          change (Exit.ret = Exit.normal ∨ Exit.ret = Exit.ret) ∧ ∃ v, resV _ _ = some v ∧ _
          refine ⟨.inr rfl, _, rfl, seg63 :: seg67 :: S, Sub.drop (Sub.cons (Sub.drop (Sub.drop (Sub.cons (Sub.refl _))))), v63, v67, seg63, seg67, rfl, rfl, ?_, ?_⟩
          · rw [wB, if_neg c12, if_neg c23, if_neg c34, if_neg c45]; exact hsl63
          · rw [wB, if_neg c12, if_neg c23, if_neg c34, if_neg c45]; exact slvB hsl67

end Go.Proofs
