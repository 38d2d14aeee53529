/- Walks and plain facts for the laws of this seat: what each function answers, for every input. -/
import Derived.Test.YtpeikdbejafgbaaCoW10
set_option linter.unusedVariables false
set_option linter.unusedSimpArgs false
namespace Go.Proofs
open Go.SL Go.RowKit
set_option maxHeartbeats 1000000

structure Val where
  k : Int
  nu : Nat
  t : ByteArray
  h : List UInt8
  lv : Int
  c : Nat
  z : Int
  mo : Int
def Val.head (x : Val) : List Value := [.int .u8 x.k, .int .u64 (x.nu : Int), .string x.t] ++ bytesC x.h
def valC (x : Val) : List Value := x.head ++ [.int .i64 x.lv, .int .u64 (x.c : Int), .int .i64 x.z, .int .i64 x.mo]
theorem head_len {x : Val} (hh : x.h.length = 32) : x.head.length = 35 := by simp [Val.head, bytesC_length, hh]
theorem valC_box (x : Val) : (Value.agg (valC x).toArray).cells.toList = valC x := rfl
theorem valC_len {x : Val} (hh : x.h.length = 32) : (valC x).length = 39 := by simp [valC, head_len hh]
theorem valC_tail {x : Val} (hh : x.h.length = 32) (j : Nat) : (valC x)[35 + j]? = ([.int .i64 x.lv, .int .u64 (x.c : Int), .int .i64 x.z, .int .i64 x.mo] : List Value)[j]? := by
  unfold valC
  rw [List.getElem?_append_right (by rw [head_len hh]; omega), head_len hh]
  congr 1; omega
theorem setAt_lv {x : Val} (hh : x.h.length = 32) (l : Int) : setAt (valC x) 35 [.int .i64 l] = valC { x with lv := l } := by
  rw [setAt_eq _ _ _ (by rw [valC_len hh]; simp)]
  have h1 : (valC x).take 35 = x.head := by unfold valC; rw [← head_len hh, List.take_left']; rfl
  have h2 : (valC x).drop 36 = [.int .u64 (x.c : Int), .int .i64 x.z, .int .i64 x.mo] := by
    unfold valC
    rw [show 36 = x.head.length + 1 by rw [head_len hh], List.drop_append]
    simp
  rw [h1, show 35 + ([Value.int .i64 l]).length = 36 from rfl, h2]
  simp [valC, Val.head]
theorem num0_fc {w0 : World} {S : SS} {n : Nat} (hn : n < 18446744073709551616) : FC Try.prog w0 9 [.slice none 0 0, .int .u64 (n : Int)] S (fun v' S' => ∃ seg', S' = seg' :: S ∧ SlV 5 1 v' (numB n).length (bytesC (numB n)) seg') := by
  have h := FC.nilseg (num_fc (w0 := w0) (S := S) (xs := []) (n := n) (SlV.nil 5 1) hn (by decide))
  simpa using h
theorem text0_fc {w0 : World} {S : SS} {s : ByteArray} (hs : s.size ≤ 1000000000000) : FC Try.prog w0 10 [.slice none 0 0, .string s] S (fun v' S' => ∃ seg', S' = seg' :: S ∧ SlV 5 1 v' (textB s).length (bytesC (textB s)) seg') := by
  have h := FC.nilseg (text_fc (w0 := w0) (S := S) (xs := []) (s := s) (SlV.nil 5 1) hs (by decide))
  simpa using h
theorem label0_fc {w0 : World} {S : SS} {lv : Int} {c : Nat} (hc : c < 18446744073709551616) : FC Try.prog w0 11 [.slice none 0 0, .agg (labelC lv c).toArray] S (fun v' S' => ∃ seg', S' = seg' :: S ∧ SlV 5 1 v' (labelB lv c).length (bytesC (labelB lv c)) seg') := by
  have h := FC.nilseg (label_fc (w0 := w0) (S := S) (xs := []) (lv := lv) (c := c) (SlV.nil 5 1) hc (by decide))
  simpa using h
def a15 (l : Int) : Int := IntKind.i64.wrap ((BitVec.ofInt 64 l &&& BitVec.ofInt 64 15).toNat : Int)
theorem a15_bound (l : Int) : 0 ≤ a15 l ∧ a15 l ≤ 15 := by
  have h : (BitVec.ofInt 64 l &&& BitVec.ofInt 64 15).toNat ≤ 15 := by
    rw [BitVec.toNat_and]
    exact Nat.le_trans Nat.and_le_right (by decide)
  unfold a15
  rw [wrap_i64 (by omega) (by omega)]
  omega
theorem a15_inj {x y : Int} (h : uOf (a15 x) = uOf (a15 y)) : a15 x = a15 y := by
  have h1 := a15_bound x
  have h2 := a15_bound y
  unfold uOf at h
  omega
theorem valC_label {w0 : World} {S : SS} {r E tot : Nat} {x : Val} (hh : x.h.length = 32) (hm : (r, AO.cells (valC x) E tot) ∈ S.flatten) : ∀ j v, (labelC x.lv x.c)[j]? = some v → Cell w0 S ((⟨r, 35, none⟩ : Addr).add j) v := by
  intro j v hj
  have : (valC x)[35 + j]? = some v := by
    rw [valC_tail hh]
    have hj2 : j < 2 := by have := (List.getElem?_eq_some_iff.1 hj).1; simpa [labelC] using this
    rw [← hj]
    rcases j with _ | _ | j
    · rfl
    · rfl
    · omega
  have h2 := own_at (w0 := w0) (j := 35 + j) hm this
  rw [Addr.add_lit]
  exact h2

theorem dec_of {p q : Prop} [Decidable p] {b : Bool} (h : p ↔ q) (hb : b = true ↔ q) : (decide p == b) = true := by
  by_cases hq : q
  · rw [decide_eq_true (h.2 hq), hb.2 hq]; rfl
  · rw [decide_eq_false (fun e => hq (h.1 e))]
    cases b with
    | false => rfl
    | true => exact absurd (hb.1 rfl) hq
theorem num_eq {a b : Nat} (ha : a < 18446744073709551616) (hb : b < 18446744073709551616) : (decide ((numB a).take (min (numB a).length (numB b).length) = (numB b).take (min (numB a).length (numB b).length)) == ((a : Int) == (b : Int))) = true :=
  dec_of (q := a = b) ⟨fun h => num_apart ha hb [] [] (by simpa [Begins] using h), fun h => by subst h; rfl⟩ (by rw [beq_iff_eq]; omega)
theorem text_eq {a b : ByteArray} (ha : a.size < 18446744073709551616) (hb : b.size < 18446744073709551616) : (decide ((textB a).take (min (textB a).length (textB b).length) = (textB b).take (min (textB a).length (textB b).length)) == (a.toList == b.toList)) = true :=
  dec_of (q := a = b) ⟨fun h => text_apart ha hb h, fun h => by subst h; rfl⟩ (by
    rw [beq_iff_eq]
    refine ⟨fun h => ?_, fun h => by rw [h]⟩
    rw [← Go.MapKept.bytes_beq, beq_toListBytes]; simp [h])
theorem label_eq {l m : Int} {c e : Nat} (hc : c < 18446744073709551616) (he : e < 18446744073709551616) : (decide ((labelB (a15 l) c).take (min (labelB (a15 l) c).length (labelB (a15 m) e).length) = (labelB (a15 m) e).take (min (labelB (a15 l) c).length (labelB (a15 m) e).length)) == ((a15 l == a15 m) && ((c : Int) == (e : Int)))) = true :=
  dec_of (q := a15 l = a15 m ∧ c = e) ⟨fun h => by obtain ⟨h1, h2⟩ := label_apart hc he h; exact ⟨a15_inj h1, h2⟩, fun ⟨h1, h2⟩ => by rw [h1, h2]⟩ (by
    rw [Bool.and_eq_true, beq_iff_eq, beq_iff_eq]; omega)
theorem apart_fc {w0 : World} {S : SS} {x y : Val} (hx : x.h.length = 32) (hy : y.h.length = 32) (hxn : x.nu < 18446744073709551616) (hyn : y.nu < 18446744073709551616) (hxc : x.c < 18446744073709551616) (hyc : y.c < 18446744073709551616) (hxt : x.t.size ≤ 9223372036854775807) (hyt : y.t.size ≤ 9223372036854775807) :
    FC Try.prog w0 3 [.agg (valC x).toArray, .agg (valC y).toArray] S (fun v S' => v = .bool true) := by
  refine FC.ofD Try.known3 (by simp) ?_
  unfold Try.pc3
  simp only [argT]
  refine PW.seqOps ?_
  refine OL.cons trivial (OW.bx rfl) ?_
  rintro _ _ ⟨r2, rfl, rfl⟩
  rw [valC_box, valC_len hx]
  refine OL.cons trivial (OW.bx rfl) ?_
  rintro _ _ ⟨r3, rfl, rfl⟩
  rw [valC_box, valC_len hy]
  refine OL.det trivial (Yields.pure rfl) ?_
  refine OL.nil ?_
  refine PW.keep (T' := [(2, _), (3, _)]) ⟨rfl, rfl, trivial⟩ ?_
  refine PW.seq fun K1 hK1 => ?_
  refine PW.seqOps ?_
  refine OL.det trivial (Yields.pure rfl) ?_
  refine OL.det trivial (Yields.ld rfl (own_at (j := 2) (c := valC x) (E := 28) (tot := 39) (by simp) rfl)) ?_
  refine OL.det trivial (Yields.pure rfl) ?_
  refine OL.det trivial (Yields.pure rfl) ?_
  refine OL.bool trivial (Yields.pure rfl) (fun g15 => ?_) (fun g15 => ?_)
  · try simp only [decide_eq_true_eq, decide_eq_false_iff_not, beq_iff_eq, bne_iff_ne, beq_eq_false_iff_ne, bne_eq_false_iff_eq, Bool.not_eq_true', Bool.not_eq_false', Bool.not_eq_true, ne_eq, Decidable.not_not] at g15
    refine OL.off rfl rfl ?_
    refine OL.off rfl rfl ?_
    refine OL.off rfl rfl ?_
    refine OL.off rfl rfl ?_
    refine OL.det trivial (Yields.pure rfl) ?_
    refine OL.nil ?_
    refine PW.keep (T' := [(2, _), (3, _), (20, _)]) ⟨rfl, rfl, rfl, trivial⟩ ?_
    refine PW.ite (b := true) rfl ?_
    rw [if_pos rfl]
    refine PW.seqOps ?_
    refine OL.call trivial rfl (works_fc) ?_
    rintro _ _ ⟨rfl, rfl⟩
    refine OL.det trivial (Yields.pure rfl) ?_
    refine OL.nil ?_
    refine PW.keep (T' := [(4, _)]) ⟨rfl, trivial⟩ ?_
    refine PW.ret ?_
    change (Exit.ret = Exit.normal ∨ Exit.ret = Exit.ret) ∧ ∃ v, resV _ _ = some v ∧ _
    exact ⟨.inr rfl, _, rfl, _, Sub.refl _, rfl⟩
  · try simp only [decide_eq_true_eq, decide_eq_false_iff_not, beq_iff_eq, bne_iff_ne, beq_eq_false_iff_ne, bne_eq_false_iff_eq, Bool.not_eq_true', Bool.not_eq_false', Bool.not_eq_true, ne_eq, Decidable.not_not] at g15
    refine OL.det rfl (Yields.pure rfl) ?_
    refine OL.det rfl (Yields.ld rfl (own_at (j := 2) (c := valC y) (E := 28) (tot := 39) (by simp) rfl)) ?_
    refine OL.det rfl (Yields.pure rfl) ?_
    refine OL.det rfl (Yields.pure rfl) ?_
    refine OL.det trivial (Yields.pure rfl) ?_
    refine OL.nil ?_
    refine PW.keep (T' := [(2, _), (3, _), (20, _)]) ⟨rfl, rfl, rfl, trivial⟩ ?_
    refine PW.cond rfl (fun c20 => ?_) (fun c20 => ?_)
    · try simp only [decide_eq_true_eq, decide_eq_false_iff_not, beq_iff_eq, bne_iff_ne, beq_eq_false_iff_ne, bne_eq_false_iff_eq, Bool.not_eq_true', Bool.not_eq_false', Bool.not_eq_true, ne_eq, Decidable.not_not] at c20
      refine PW.seqOps ?_
      refine OL.call trivial rfl (works_fc) ?_
      rintro _ _ ⟨rfl, rfl⟩
      refine OL.det trivial (Yields.pure rfl) ?_
      refine OL.nil ?_
      refine PW.keep (T' := [(4, _)]) ⟨rfl, trivial⟩ ?_
      refine PW.ret ?_
      change (Exit.ret = Exit.normal ∨ Exit.ret = Exit.ret) ∧ ∃ v, resV _ _ = some v ∧ _
      exact ⟨.inr rfl, _, rfl, _, Sub.refl _, rfl⟩
    · try simp only [decide_eq_true_eq, decide_eq_false_iff_not, beq_iff_eq, bne_iff_ne, beq_eq_false_iff_ne, bne_eq_false_iff_eq, Bool.not_eq_true', Bool.not_eq_false', Bool.not_eq_true, ne_eq, Decidable.not_not] at c20
      refine PW.skip ?_
      refine hK1 _ _ ?_
      refine PW.keep (T' := [(2, _), (3, _)]) ⟨rfl, rfl, trivial⟩ ?_
      refine PW.seqOps ?_
      refine OL.det trivial (Yields.pure rfl) ?_
      refine OL.det trivial (Yields.pure rfl) ?_
      refine OL.det trivial (Yields.ld rfl (own_at (j := 35) (c := valC x) (E := 28) (tot := 39) (by simp) (by rw [valC_tail hx 0]; rfl))) ?_
      refine OL.det trivial (Yields.pure rfl) ?_
      refine OL.det trivial (Yields.pure rfl) ?_
      refine OL.det trivial (Yields.pure rfl) ?_
      refine OL.cons trivial (OW.st (k := 1) rfl rfl rfl rfl (by rw [valC_len hx]; show 0 + 35 + 1 ≤ 39; omega) rfl) ?_
      rintro _ _ rfl
      refine OL.nil ?_
      refine PW.keep (T' := [(2, _), (3, _)]) ⟨rfl, rfl, trivial⟩ ?_
      refine PW.seqOps ?_
      change OL _ _ _ _ _ ([(r3, .cells (valC y) 28 39)] :: [(r2, .cells (setAt (valC x) 35 [.int .i64 (a15 x.lv)]) 28 39)] :: S) _
      rw [setAt_lv hx]
      refine OL.det trivial (Yields.pure rfl) ?_
      refine OL.det trivial (Yields.pure rfl) ?_
      refine OL.det trivial (Yields.ld rfl (own_at (j := 35) (c := valC y) (E := 28) (tot := 39) (by simp) (by rw [valC_tail hy 0]; rfl))) ?_
      refine OL.det trivial (Yields.pure rfl) ?_
      refine OL.det trivial (Yields.pure rfl) ?_
      refine OL.det trivial (Yields.pure rfl) ?_
      refine OL.cons trivial (OW.st (k := 0) rfl rfl rfl rfl (by rw [valC_len hy]; show 0 + 35 + 1 ≤ 39; omega) rfl) ?_
      rintro _ _ rfl
      refine OL.nil ?_
      refine PW.keep (T' := [(2, _), (3, _)]) ⟨rfl, rfl, trivial⟩ ?_
      refine PW.seq fun K2 hK2 => ?_
      change PW _ _ _ _ _ ([(r3, .cells (setAt (valC y) 35 [.int .i64 (a15 y.lv)]) 28 39)] :: [(r2, .cells (valC { x with lv := a15 x.lv }) 28 39)] :: S) _
      rw [setAt_lv hy]
      refine PW.quiet1K (p := 2) (base := [(r3, .cells (valC { y with lv := a15 y.lv }) 28 39)] :: [(r2, .cells (valC { x with lv := a15 x.lv }) 28 39)] :: S) (K := (fun v' S' => ∃ seg', S' = seg' :: [(r3, .cells (valC { y with lv := a15 y.lv }) 28 39)] :: [(r2, .cells (valC { x with lv := a15 x.lv }) 28 39)] :: S ∧ SlV 5 1 v' (numB x.nu).length (bytesC (numB x.nu)) seg')) Try.mixed rfl rfl rfl (fun _ h => nomatch h) rfl (Over.refl _) ?_
      refine QKs.det trivial (fun Sx hSx => Yields.pure rfl) ?_
      refine QKs.det trivial (fun Sx hSx => Yields.ld rfl (own_at (j := 1) (c := valC { x with lv := a15 x.lv }) (E := 28) (tot := 39) (hSx _ (by simp)) rfl)) ?_
      refine QKs.nil ⟨OW.call rfl (num0_fc hxn), (by rintro _ _ ⟨seg', rfl, _⟩; exact (Over.refl _).cons), ?_⟩
      refine QKs.det trivial (fun Sx hSx => Yields.pure rfl) ?_
      refine QKs.det trivial (fun Sx hSx => Yields.ld rfl (own_at (j := 1) (c := valC { y with lv := a15 y.lv }) (E := 28) (tot := 39) (hSx _ (by simp)) rfl)) ?_
      refine QKs.nil ?_
      rintro v36 _ ⟨seg36, rfl, hsl36⟩
      change OL _ _ _ [_, _, _] _ _ _
      refine OL.call trivial rfl (num0_fc hyn) ?_
      rintro v39 _ ⟨seg39, rfl, hsl39⟩
      refine OL.det trivial (Yields.pure rfl) ?_
      refine OL.det trivial (Yields.pure rfl) ?_
      refine OL.nil ?_
      refine hK2 _ _ ?_
      refine PW.keep (T' := [(2, _), (3, _), (5, _), (6, _)]) ⟨rfl, rfl, rfl, rfl, trivial⟩ ?_
      refine PW.seq fun K3 hK3 => ?_
      refine PW.quiet1K (p := 2) (base := seg39 :: seg36 :: [(r3, .cells (valC { y with lv := a15 y.lv }) 28 39)] :: [(r2, .cells (valC { x with lv := a15 x.lv }) 28 39)] :: S) (K := (fun v' S' => ∃ seg', S' = seg' :: seg39 :: seg36 :: [(r3, .cells (valC { y with lv := a15 y.lv }) 28 39)] :: [(r2, .cells (valC { x with lv := a15 x.lv }) 28 39)] :: S ∧ SlV 5 1 v' (textB x.t).length (bytesC (textB x.t)) seg')) Try.mixed rfl rfl rfl (fun _ h => nomatch h) rfl (Over.refl _) ?_
      refine QKs.det trivial (fun Sx hSx => Yields.pure rfl) ?_
      refine QKs.det trivial (fun Sx hSx => Yields.ld rfl (own_at (j := 2) (c := valC { x with lv := a15 x.lv }) (E := 28) (tot := 39) (hSx _ (by simp)) rfl)) ?_
      refine QKs.nil ⟨OW.call rfl (text0_fc (s := x.t) (by omega)), (by rintro _ _ ⟨seg', rfl, _⟩; exact (Over.refl _).cons), ?_⟩
      refine QKs.det trivial (fun Sx hSx => Yields.pure rfl) ?_
      refine QKs.det trivial (fun Sx hSx => Yields.ld rfl (own_at (j := 2) (c := valC { y with lv := a15 y.lv }) (E := 28) (tot := 39) (hSx _ (by simp)) rfl)) ?_
      refine QKs.nil ?_
      rintro v42 _ ⟨seg42, rfl, hsl42⟩
      change OL _ _ _ [_, _, _] _ _ _
      refine OL.call trivial rfl (text0_fc (s := y.t) (by omega)) ?_
      rintro v45 _ ⟨seg45, rfl, hsl45⟩
      refine OL.det trivial (Yields.pure rfl) ?_
      refine OL.det trivial (Yields.pure rfl) ?_
      refine OL.nil ?_
      refine hK3 _ _ ?_
      refine PW.keep (T' := [(2, _), (3, _), (5, _), (6, _), (7, _), (8, _)]) ⟨rfl, rfl, rfl, rfl, rfl, rfl, trivial⟩ ?_
      refine PW.seq fun K4 hK4 => ?_
      refine PW.quiet1K (p := 2) (base := seg45 :: seg42 :: seg39 :: seg36 :: [(r3, .cells (valC { y with lv := a15 y.lv }) 28 39)] :: [(r2, .cells (valC { x with lv := a15 x.lv }) 28 39)] :: S) (K := (fun v' S' => ∃ seg', S' = seg' :: seg45 :: seg42 :: seg39 :: seg36 :: [(r3, .cells (valC { y with lv := a15 y.lv }) 28 39)] :: [(r2, .cells (valC { x with lv := a15 x.lv }) 28 39)] :: S ∧ SlV 5 1 v' (labelB (a15 x.lv) x.c).length (bytesC (labelB (a15 x.lv) x.c)) seg')) Try.mixed rfl rfl rfl (fun _ h => nomatch h) rfl (Over.refl _) ?_
      refine QKs.det trivial (fun Sx hSx => Yields.pure rfl) ?_
      refine QKs.det trivial (fun Sx hSx => Yields.ldA rfl (by first | rfl | simp) (valC_label (E := 28) (tot := 39) (x := { x with lv := a15 x.lv }) hx (hSx _ (by simp)))) ?_
      refine QKs.nil ⟨OW.call rfl (label0_fc hxc), (by rintro _ _ ⟨seg', rfl, _⟩; exact (Over.refl _).cons), ?_⟩
      refine QKs.det trivial (fun Sx hSx => Yields.pure rfl) ?_
      refine QKs.det trivial (fun Sx hSx => Yields.ldA rfl (by first | rfl | simp) (valC_label (E := 28) (tot := 39) (x := { y with lv := a15 y.lv }) hy (hSx _ (by simp)))) ?_
      refine QKs.nil ?_
      rintro v48 _ ⟨seg48, rfl, hsl48⟩
      change OL _ _ _ [_, _, _] _ _ _
      refine OL.call trivial rfl (label0_fc hyc) ?_
      rintro v51 _ ⟨seg51, rfl, hsl51⟩
      refine OL.det trivial (Yields.pure rfl) ?_
      refine OL.det trivial (Yields.pure rfl) ?_
      refine OL.nil ?_
      refine hK4 _ _ ?_
      refine PW.keep (T' := [(2, _), (3, _), (5, _), (6, _), (7, _), (8, _), (9, _), (10, _)]) ⟨rfl, rfl, rfl, rfl, rfl, rfl, rfl, rfl, trivial⟩ ?_
      refine PW.seq fun K5 hK5 => ?_
      refine PW.quietK Try.mixed ?_
      obtain ⟨A36, c36, rfl, _, l36, q36⟩ := SlV.rd0 (w0 := w0) hsl36
      obtain ⟨A39, c39, rfl, _, l39, q39⟩ := SlV.rd0 (w0 := w0) hsl39
      obtain ⟨A42, c42, rfl, _, l42, q42⟩ := SlV.rd0 (w0 := w0) hsl42
      obtain ⟨A45, c45, rfl, _, l45, q45⟩ := SlV.rd0 (w0 := w0) hsl45
      obtain ⟨A48, c48, rfl, _, l48, q48⟩ := SlV.rd0 (w0 := w0) hsl48
      obtain ⟨A51, c51, rfl, _, l51, q51⟩ := SlV.rd0 (w0 := w0) hsl51
      refine QK.det trivial (Yields.pure rfl) ?_
      refine QK.det trivial (Yields.pure rfl) ?_
      refine QK.call trivial rfl (begins_fc (q36 _).cons.cons.cons.cons.cons (q39 _).cons.cons.cons.cons l36 l39) ?_
      refine QK.det trivial (Yields.pure rfl) ?_
      refine QK.det trivial (Yields.ld rfl (own_at (j := 1) (c := valC { x with lv := a15 x.lv }) (E := 28) (tot := 39) (by simp) rfl)) ?_
      refine QK.det trivial (Yields.pure rfl) ?_
      refine QK.det trivial (Yields.ld rfl (own_at (j := 1) (c := valC { y with lv := a15 y.lv }) (E := 28) (tot := 39) (by simp) rfl)) ?_
      refine QK.det trivial (Yields.pure rfl) ?_
      refine QK.det trivial (Yields.to (v' := .bool true) (Yields.pure rfl) (congrArg Value.bool (num_eq hxn hyn))) ?_
      refine QK.det trivial (Yields.pure rfl) ?_
      refine QK.det rfl (Yields.pure rfl) ?_
      refine QK.det rfl (Yields.pure rfl) ?_
      refine QK.call rfl rfl (begins_fc (q42 _).cons.cons.cons (q45 _).cons.cons l42 l45) ?_
      refine QK.det rfl (Yields.pure rfl) ?_
      refine QK.det rfl (Yields.ld rfl (own_at (j := 2) (c := valC { x with lv := a15 x.lv }) (E := 28) (tot := 39) (by simp) rfl)) ?_
      refine QK.det rfl (Yields.pure rfl) ?_
      refine QK.det rfl (Yields.ld rfl (own_at (j := 2) (c := valC { y with lv := a15 y.lv }) (E := 28) (tot := 39) (by simp) rfl)) ?_
      refine QK.det rfl (Yields.pure rfl) ?_
      refine QK.det rfl (Yields.to (v' := .bool true) (Yields.pure rfl) (congrArg Value.bool (text_eq (a := x.t) (b := y.t) (by omega) (by omega)))) ?_
      refine QK.det trivial (Yields.pure rfl) ?_
      refine QK.det trivial (Yields.pure rfl) ?_
      refine QK.det rfl (Yields.pure rfl) ?_
      refine QK.det rfl (Yields.pure rfl) ?_
      refine QK.call rfl rfl (begins_fc (q48 _).cons (q51 _) l48 l51) ?_
      refine QK.det rfl (Yields.pure rfl) ?_
      refine QK.det rfl (Yields.ldA rfl (by first | rfl | simp) (valC_label (E := 28) (tot := 39) (x := { x with lv := a15 x.lv }) hx (by simp))) ?_
      refine QK.det rfl (Yields.pure rfl) ?_
      refine QK.det rfl (Yields.ldA rfl (by first | rfl | simp) (valC_label (E := 28) (tot := 39) (x := { y with lv := a15 y.lv }) hy (by simp))) ?_
      refine QK.det rfl (Yields.eqA rfl rfl rfl) ?_
      refine QK.nil ?_
      change OL _ _ _ [_, _, _, _, _, _] _ _ _
      refine OL.det rfl (Yields.to (v' := .bool true) (Yields.pure rfl) (congrArg Value.bool (label_eq hxc hyc))) ?_
      refine OL.det trivial (Yields.pure rfl) ?_
      refine OL.det trivial (Yields.pure rfl) ?_
      refine OL.call rfl rfl (works_fc) ?_
      rintro _ _ ⟨rfl, rfl⟩
      refine OL.det trivial (Yields.pure rfl) ?_
      refine OL.det trivial (Yields.pure rfl) ?_
      refine OL.nil ?_
      refine hK5 _ _ ?_
      refine PW.keep (T' := [(4, _)]) ⟨rfl, trivial⟩ ?_
      refine PW.ret ?_
      change (Exit.ret = Exit.normal ∨ Exit.ret = Exit.ret) ∧ ∃ v, resV _ _ = some v ∧ _
      exact ⟨.inr rfl, _, rfl, _, Sub.refl _, rfl⟩

end Go.Proofs
