/- Walks and plain facts for the laws of this seat: what each function answers, for every input. -/
import Derived.Test.YtpeikdbejafgbaaSl18
import Derived.Test.YtpeikdbejafgbaaCoW18
set_option linter.unusedVariables false
set_option linter.unusedSimpArgs false
namespace Go.Proofs
open Go.SL Go.RowKit
set_option maxHeartbeats 1000000

theorem back_num {a most at_ : Nat} {l r : List UInt8} (ha : a < 18446744073709551616) (hm : a ≤ most) (h : l.drop at_ = numB a ++ r) : readN most l at_ 0 = (a, at_ + (numB a).length, 0) := by
  unfold readN lookN
  rw [h, dec_num ha r]
  have hno : ¬ most < a := by omega
  simp [hno]
theorem back_tk {at_ : Nat} {b l r : List UInt8} (h : l.drop at_ = b ++ r) : tkR b.length l at_ 0 = (b, at_ + b.length, 0) := by
  unfold tkR
  rw [h]
  simp
theorem drop_on {at_ : Nat} {b l r : List UInt8} (h : l.drop at_ = b ++ r) : l.drop (at_ + b.length) = r := by
  rw [← List.drop_drop, h]; simp
theorem back_text {s : ByteArray} {at_ mo : Nat} {l r : List UInt8} (hs : s.size ≤ mo) (hb : mo ≤ 1000000000000) (h : l.drop at_ = textB s ++ r) : textR mo l at_ 0 = (s.data.toList, at_ + (textB s).length, 0) := by
  have h1 : l.drop at_ = numB s.size ++ (s.data.toList ++ r) := by rw [h]; simp [textB]
  have hn := back_num (most := mo) (by omega) hs h1
  unfold textR
  rw [hn]
  have h2 := drop_on h1
  have h3 := back_tk h2
  have e : s.data.toList.length = s.size := by simp
  rw [e] at h3
  simp only
  rw [h3]
  simp [textB]; omega
theorem pad_self {h : List UInt8} (hh : h.length = 32) : padH h = h := by simp [padH, hh]
theorem back_hash {h : List UInt8} {at_ : Nat} {l r : List UInt8} (hh : h.length = 32) (e : l.drop at_ = h ++ r) : hashR l at_ 0 = (h, at_ + 32, 0) := by
  have h3 := back_tk e
  rw [hh] at h3
  unfold hashR
  rw [h3, pad_self hh]
theorem comp_beB (c : Nat) : ∀ (k acc : Nat), (beB c k).foldl (fun c x => 256 * c + x.toNat) acc = acc * 256 ^ k + c % 256 ^ k
  | 0, acc => by simp [beB, Nat.mod_one]
  | k + 1, acc => by
    simp only [beB, List.foldl_cons]
    rw [comp_beB c k]
    have h1 : (2 : Nat) ^ (8 * k) = 256 ^ k := by rw [Nat.pow_mul]
    have h2 : (UInt8.ofNat (c / 2 ^ (8 * k))).toNat = c / 256 ^ k % 256 := by rw [h1]; simp
    rw [h2, Nat.pow_succ, Nat.mod_mul]
    generalize c / 256 ^ k % 256 = q
    generalize 256 ^ k = p
    generalize c % p = s
    rw [Nat.add_mul, Nat.mul_comm 256 acc, Nat.mul_assoc, Nat.mul_comm 256 p, Nat.mul_comm q p]
    omega
theorem back_label {lv : Int} {c at_ : Nat} {l r : List UInt8} (h0 : 0 ≤ lv) (h1 : lv ≤ 15) (hc : c < 18446744073709551616) (e : l.drop at_ = labelB lv c ++ r) : labelR l at_ 0 = ((lv.toNat, c), at_ + (labelB lv c).length, 0) := by
  have hu : uOf lv = lv.toNat := by unfold uOf; omega
  have e1 : l.drop at_ = numB (uOf lv) ++ (beB c 8 ++ r) := by rw [e]; simp [labelB]
  have hn := back_num (most := 15) (by omega) (by omega) e1
  have e2 := drop_on e1
  have h3 := back_tk e2
  rw [beB_len] at h3
  have hf : formN 15 l at_ 0 = (uOf lv, at_ + (numB (uOf lv)).length, 0) := by
    unfold formN
    rw [hn]
    simp
  unfold labelR
  rw [hf]
  simp only
  rw [h3]
  have hcomp : comp (beB c 8) = c := by
    unfold comp
    rw [comp_beB c 8 0, Nat.mod_eq_of_lt (by omega)]
    simp
  simp only [hcomp, if_true, hu, Prod.mk.injEq, and_true, true_and]
  simp [labelB, beB_len, hu]; omega
theorem back_vertex {h : List UInt8} {z : Int} {at_ : Nat} {l r : List UInt8} (hh : h.length = 32) (h0 : -2 ≤ z) (h1 : z ≤ 4294967294) (e : l.drop at_ = vertexB h z ++ r) : vertexR l at_ 0 = ((h, z), at_ + (vertexB h z).length, 0) := by
  have e1 : l.drop at_ = h ++ (numB (uOf (z + 2)) ++ r) := by rw [e]; simp [vertexB]
  have e2 := drop_on e1
  rw [hh] at e2
  have hu : (uOf (z + 2) : Int) = z + 2 := by unfold uOf; omega
  have hn := back_num (most := 4294967296) (by omega) (by omega) e2
  have hf : formN 4294967296 l (at_ + 32) 0 = (uOf (z + 2), at_ + 32 + (numB (uOf (z + 2))).length, 0) := by
    unfold formN
    rw [hn]
    simp
  unfold vertexR
  rw [back_hash hh e1]
  simp only
  rw [hf]
  simp only [if_true, Prod.mk.injEq, true_and, and_true]
  refine ⟨by omega, ?_⟩
  simp [vertexB, hh]; omega
theorem eqL_self {c : Value → CK} : ∀ (h : List UInt8), eqL (List.replicate h.length (.int .u8)) (bytesC h) (bytesC h) = some true
  | [] => rfl
  | b :: h => by
    have := eqL_self (c := c) h
    simp only [List.length_cons, List.replicate_succ, bytesC, List.map_cons, eqL]
    unfold bytesC at this
    rw [this]
    simp [eqCell]
theorem eqL_hash {h : List UInt8} (hh : h.length = 32) : eqL [.int .u8, .int .u8, .int .u8, .int .u8, .int .u8, .int .u8, .int .u8, .int .u8, .int .u8, .int .u8, .int .u8, .int .u8, .int .u8, .int .u8, .int .u8, .int .u8, .int .u8, .int .u8, .int .u8, .int .u8, .int .u8, .int .u8, .int .u8, .int .u8, .int .u8, .int .u8, .int .u8, .int .u8, .int .u8, .int .u8, .int .u8, .int .u8] (bytesC h) (bytesC h) = some true := by
  have := eqL_self (c := fun _ => .str) h
  rw [hh] at this
  exact this
theorem eqL_app : ∀ {s t : List CK} {a b a' b' : List Value} {p q : Bool}, eqL s a a' = some p → eqL t b b' = some q → eqL (s ++ t) (a ++ b) (a' ++ b') = some (p && q)
  | [], t, a, b, a', b', p, q, h, k => by
    obtain ⟨l1, l2⟩ := eqL_len h
    have e1 : a = [] := List.eq_nil_of_length_eq_zero l1
    have e2 : a' = [] := List.eq_nil_of_length_eq_zero l2
    subst e1; subst e2
    have : p = true := by simpa [eqL] using h.symm
    subst this
    simpa using k
  | c :: s, t, a, b, a', b', p, q, h, k => by
    obtain ⟨x, xs, y, ys, p1, q1, rfl, rfl, h1, h2, rfl⟩ := eqL_cons h
    have := eqL_app h2 k
    simp only [List.cons_append, eqL, h1, this]
    rw [Bool.and_assoc]
theorem eqL_vertex {h : List UInt8} {z : Int} (hh : h.length = 32) : eqL [.int .u8, .int .u8, .int .u8, .int .u8, .int .u8, .int .u8, .int .u8, .int .u8, .int .u8, .int .u8, .int .u8, .int .u8, .int .u8, .int .u8, .int .u8, .int .u8, .int .u8, .int .u8, .int .u8, .int .u8, .int .u8, .int .u8, .int .u8, .int .u8, .int .u8, .int .u8, .int .u8, .int .u8, .int .u8, .int .u8, .int .u8, .int .u8, .int .i64] (vertexC h z) (vertexC h z) = some true := by
  have := eqL_app (eqL_hash hh) (show eqL [.int .i64] [.int .i64 z] [.int .i64 z] = some true by simp [eqL, eqCell])
  exact this
theorem begin_le {at_ : Nat} {b l r : List UInt8} (hat : at_ ≤ l.length) (h : l.drop at_ = b ++ r) : at_ + b.length ≤ l.length := by
  have := congrArg List.length h
  simp only [List.length_drop, List.length_append] at this
  omega
theorem again_fc {w0 : World} {S : SS} {A : Option Addr} {cap at_ rb : Nat} {l r : List UInt8} {x : Val} (hx : Rd w0 S A (bytesC l)) (hat : at_ ≤ l.length) (hcap : l.length ≤ cap) (hb : l.length ≤ 1000000000000) (hh : x.h.length = 32) (hxn : x.nu < 18446744073709551616) (hxc : x.c < 18446744073709551616) (ht : x.t.size ≤ 300) (hlv : 0 ≤ x.lv ∧ x.lv ≤ 15) (hz : -2 ≤ x.z ∧ x.z ≤ 4294967294) (hl : l.drop at_ = wB x ++ r) :
    FC Try.prog w0 22 [.pointer (some ⟨rb, 0, none⟩), .agg (valC x).toArray] (RB rb A l.length cap at_ 0 :: S)
      (fun v S' => v = .bool true ∧ S' = RB rb A l.length cap (at_ + (wB x).length) 0 :: S) := by
  refine FC.ofD Try.known22 (by simp) ?_
  unfold Try.pc22
  simp only [argT]
  refine PW.seqOps ?_
  refine OL.cons trivial (OW.bx rfl) ?_
  rintro _ _ ⟨r3, rfl, rfl⟩
  rw [valC_box, valC_len hh]
  refine OL.det trivial (Yields.pure rfl) ?_
  refine OL.nil ?_
  refine PW.keep (T' := [(0, _), (3, _)]) ⟨rfl, rfl, trivial⟩ ?_
  refine PW.seq fun K1 hK1 => ?_
  refine PW.seqOps ?_
  refine OL.det trivial (Yields.pure rfl) ?_
  refine OL.det trivial (Yields.ld rfl (own_at (j := 0) (c := valC x) (E := 28) (tot := 39) (List.Mem.head _) rfl)) ?_
  refine OL.det trivial (Yields.rem rfl rfl (by omega)) ?_
  refine OL.nil ?_
  refine PW.keep (T' := [(0, _), (3, _), (7, _)]) ⟨rfl, rfl, rfl, trivial⟩ ?_
  refine PW.block ?_
  refine PW.seqOps ?_
  refine OL.det trivial (Yields.pure rfl) ?_
  refine OL.det trivial (Yields.pure rfl) ?_
  refine OL.nil ?_
  refine PW.keep (T' := [(0, _), (3, _), (7, _), (8, _)]) ⟨rfl, rfl, rfl, rfl, trivial⟩ ?_
  refine PW.cond rfl (fun c8 => ?_) (fun c8 => ?_)
  · try simp only [decide_eq_true_eq, decide_eq_false_iff_not, beq_iff_eq, bne_iff_ne, beq_eq_false_iff_ne, bne_eq_false_iff_eq, Bool.not_eq_true', Bool.not_eq_false', Bool.not_eq_true, ne_eq, Decidable.not_not] at c8
    refine PW.seq fun K2 hK2 => ?_
    have hw : wB x = numB x.nu := by rw [wB, if_pos c8]
    rw [hw] at hl
    have hread := back_num (most := x.nu) hxn (Nat.le_refl _) hl
    refine PW.quiet1K (p := 3) (base := [[(r3, .cells (valC x) 28 39)]]) (K := (fun v' S' => v' = .int .u64 (x.nu : Int) ∧ S' = RB rb A l.length cap (at_ + (numB x.nu).length) 0 :: [(r3, .cells (valC x) 28 39)] :: S)) Try.mixed rfl rfl rfl (fun _ h => nomatch h) rfl (Over.hd _ _) ?_
    refine QKs.det trivial (fun Sx hSx => Yields.pure rfl) ?_
    refine QKs.det trivial (fun Sx hSx => Yields.pure rfl) ?_
    refine QKs.det trivial (fun Sx hSx => Yields.ld rfl (own_at (j := 1) (c := valC x) (E := 28) (tot := 39) (hSx _ (List.Mem.head _)) rfl)) ?_
    refine QKs.nil ⟨OW.call rfl (FC.sel [1, 0] 2 rfl ((rdnum_fc (most := x.nu) hx.cons hat hcap hb).mono (by rw [hread]; exact fun _ _ h => h))), (by rintro _ _ ⟨rfl, rfl⟩; exact (Over.hd _ _).cons), ?_⟩
    refine QKs.det trivial (fun Sx hSx => Yields.pure rfl) ?_
    refine QKs.det trivial (fun Sx hSx => Yields.ld rfl (own_at (j := 1) (c := valC x) (E := 28) (tot := 39) (hSx _ (List.Mem.head _)) rfl)) ?_
    refine QKs.nil ?_
    rintro _ _ ⟨rfl, rfl⟩
    change OL _ _ _ [_, _] _ _ _
    refine OL.det trivial (Yields.to (v' := .bool true) (Yields.pure rfl) (by simp)) ?_
    refine OL.det trivial (Yields.pure rfl) ?_
    refine OL.nil ?_
    refine hK2 _ _ ?_
    refine PW.keep (T' := [(4, _)]) ⟨rfl, trivial⟩ ?_
    refine PW.ret ?_
    change (Exit.ret = Exit.normal ∨ Exit.ret = Exit.ret) ∧ ∃ v, resV _ _ = some v ∧ _
    exact ⟨.inr rfl, _, rfl, _, Sub.cons (Sub.drop (Sub.refl _)), rfl, by rw [hw]⟩
  · try simp only [decide_eq_true_eq, decide_eq_false_iff_not, beq_iff_eq, bne_iff_ne, beq_eq_false_iff_ne, bne_eq_false_iff_eq, Bool.not_eq_true', Bool.not_eq_false', Bool.not_eq_true, ne_eq, Decidable.not_not] at c8
    refine PW.seqOps ?_
    refine OL.det trivial (Yields.pure rfl) ?_
    refine OL.det trivial (Yields.pure rfl) ?_
    refine OL.nil ?_
    refine PW.keep (T' := [(0, _), (3, _), (7, _), (17, _)]) ⟨rfl, rfl, rfl, rfl, trivial⟩ ?_
    refine PW.cond rfl (fun c17 => ?_) (fun c17 => ?_)
    · try simp only [decide_eq_true_eq, decide_eq_false_iff_not, beq_iff_eq, bne_iff_ne, beq_eq_false_iff_ne, bne_eq_false_iff_eq, Bool.not_eq_true', Bool.not_eq_false', Bool.not_eq_true, ne_eq, Decidable.not_not] at c17
      refine PW.seq fun K3 hK3 => ?_
      have hw : wB x = textB x.t := by rw [wB, if_neg c8, if_pos c17]
      rw [hw] at hl
      have hread := back_text (mo := x.t.size) (Nat.le_refl _) (by omega) hl
      refine PW.quiet1K (p := 4) (base := [[(r3, .cells (valC x) 28 39)]]) (K := (fun v' S' => v' = .string ⟨x.t.data.toList.toArray⟩ ∧ S' = RB rb A l.length cap (at_ + (textB x.t).length) 0 :: [(r3, .cells (valC x) 28 39)] :: S)) Try.mixed rfl rfl rfl (fun _ h => nomatch h) rfl (Over.hd _ _) ?_
      refine QKs.det trivial (fun Sx hSx => Yields.pure rfl) ?_
      refine QKs.det trivial (fun Sx hSx => Yields.pure rfl) ?_
      refine QKs.det trivial (fun Sx hSx => Yields.ld rfl (own_at (j := 2) (c := valC x) (E := 28) (tot := 39) (hSx _ (List.Mem.head _)) rfl)) ?_
      refine QKs.det trivial (fun Sx hSx => Yields.pure rfl) ?_
      refine QKs.nil ⟨OW.call rfl (FC.sel [1, 0] 2 rfl ((rtext_fc' (mo := x.t.size) hx.cons hat hcap hb (by omega)).mono (by rw [hread]; exact fun _ _ h => h))), (by rintro _ _ ⟨rfl, rfl⟩; exact (Over.hd _ _).cons), ?_⟩
      refine QKs.det trivial (fun Sx hSx => Yields.pure rfl) ?_
      refine QKs.det trivial (fun Sx hSx => Yields.ld rfl (own_at (j := 2) (c := valC x) (E := 28) (tot := 39) (hSx _ (List.Mem.head _)) rfl)) ?_
      refine QKs.nil ?_
      rintro _ _ ⟨rfl, rfl⟩
      change OL _ _ _ [_, _] _ _ _
      refine OL.det trivial (Yields.to (v' := .bool true) (Yields.pure rfl) (by simp)) ?_
      refine OL.det trivial (Yields.pure rfl) ?_
      refine OL.nil ?_
      refine hK3 _ _ ?_
      refine PW.keep (T' := [(4, _)]) ⟨rfl, trivial⟩ ?_
      refine PW.ret ?_
      change (Exit.ret = Exit.normal ∨ Exit.ret = Exit.ret) ∧ ∃ v, resV _ _ = some v ∧ _
      exact ⟨.inr rfl, _, rfl, _, Sub.cons (Sub.drop (Sub.refl _)), rfl, by rw [hw]⟩
    · try simp only [decide_eq_true_eq, decide_eq_false_iff_not, beq_iff_eq, bne_iff_ne, beq_eq_false_iff_ne, bne_eq_false_iff_eq, Bool.not_eq_true', Bool.not_eq_false', Bool.not_eq_true, ne_eq, Decidable.not_not] at c17
      refine PW.seqOps ?_
      refine OL.det trivial (Yields.pure rfl) ?_
      refine OL.det trivial (Yields.pure rfl) ?_
      refine OL.nil ?_
      refine PW.keep (T' := [(0, _), (3, _), (7, _), (27, _)]) ⟨rfl, rfl, rfl, rfl, trivial⟩ ?_
      refine PW.cond rfl (fun c27 => ?_) (fun c27 => ?_)
      · try simp only [decide_eq_true_eq, decide_eq_false_iff_not, beq_iff_eq, bne_iff_ne, beq_eq_false_iff_ne, bne_eq_false_iff_eq, Bool.not_eq_true', Bool.not_eq_false', Bool.not_eq_true, ne_eq, Decidable.not_not] at c27
        refine PW.seq fun K4 hK4 => ?_
        have hw : wB x = x.h := by rw [wB, if_neg c8, if_neg c17, if_pos c27]
        rw [hw] at hl
        have hread := back_hash hh hl
        refine PW.quiet1K (p := 1) (base := [[(r3, .cells (valC x) 28 39)]]) (K := (fun v' S' => v' = .agg (bytesC x.h).toArray ∧ S' = RB rb A l.length cap (at_ + 32) 0 :: [(r3, .cells (valC x) 28 39)] :: S)) Try.mixed rfl rfl rfl (fun _ h => nomatch h) rfl (Over.hd _ _) ?_
        refine QKs.det trivial (fun Sx hSx => Yields.pure rfl) ?_
        refine QKs.nil ⟨OW.call rfl (FC.sel [1, 0] 2 rfl ((rdhash_fc hx.cons hat hcap hb).mono (by rw [hread]; exact fun _ _ h => h))), (by rintro _ _ ⟨rfl, rfl⟩; exact (Over.hd _ _).cons), ?_⟩
        refine QKs.det trivial (fun Sx hSx => Yields.pure rfl) ?_
        refine QKs.det trivial (fun Sx hSx => Yields.ldA rfl (by rw [bytesC_length]; exact hh) (valC_hash hh (hSx _ (List.Mem.head _)))) ?_
        refine QKs.nil ?_
        rintro _ _ ⟨rfl, rfl⟩
        change OL _ _ _ [_, _] _ _ _
        refine OL.det trivial (Yields.eqD (neg := false) rfl rfl (eqL_hash hh)) ?_
        refine OL.det trivial (Yields.pure rfl) ?_
        refine OL.nil ?_
        refine hK4 _ _ ?_
        refine PW.keep (T' := [(4, _)]) ⟨rfl, trivial⟩ ?_
        refine PW.ret ?_
        change (Exit.ret = Exit.normal ∨ Exit.ret = Exit.ret) ∧ ∃ v, resV _ _ = some v ∧ _
        exact ⟨.inr rfl, _, rfl, _, Sub.cons (Sub.drop (Sub.refl _)), rfl, by rw [hw, hh]⟩
      · try simp only [decide_eq_true_eq, decide_eq_false_iff_not, beq_iff_eq, bne_iff_ne, beq_eq_false_iff_ne, bne_eq_false_iff_eq, Bool.not_eq_true', Bool.not_eq_false', Bool.not_eq_true, ne_eq, Decidable.not_not] at c27
        refine PW.seqOps ?_
        refine OL.det trivial (Yields.pure rfl) ?_
        refine OL.det trivial (Yields.pure rfl) ?_
        refine OL.nil ?_
        refine PW.keep (T' := [(0, _), (3, _), (34, _)]) ⟨rfl, rfl, rfl, trivial⟩ ?_
        refine PW.cond rfl (fun c34 => ?_) (fun c34 => ?_)
        · try simp only [decide_eq_true_eq, decide_eq_false_iff_not, beq_iff_eq, bne_iff_ne, beq_eq_false_iff_ne, bne_eq_false_iff_eq, Bool.not_eq_true', Bool.not_eq_false', Bool.not_eq_true, ne_eq, Decidable.not_not] at c34
          refine PW.seq fun K5 hK5 => ?_
          have hw : wB x = labelB x.lv x.c := by rw [wB, if_neg c8, if_neg c17, if_neg c27, if_pos c34]
          rw [hw] at hl
          have hread := back_label hlv.1 hlv.2 hxc hl
          refine PW.quiet1K (p := 1) (base := [[(r3, .cells (valC x) 28 39)]]) (K := (fun v' S' => v' = .agg (labelC (x.lv.toNat : Int) x.c).toArray ∧ S' = RB rb A l.length cap (at_ + (labelB x.lv x.c).length) 0 :: [(r3, .cells (valC x) 28 39)] :: S)) Try.mixed rfl rfl rfl (fun _ h => nomatch h) rfl (Over.hd _ _) ?_
          refine QKs.det trivial (fun Sx hSx => Yields.pure rfl) ?_
          refine QKs.nil ⟨OW.call rfl (FC.sel [1, 0] 2 rfl ((rdlabel_fc hx.cons hat hcap hb).mono (by rw [hread]; exact fun _ _ h => h))), (by rintro _ _ ⟨rfl, rfl⟩; exact (Over.hd _ _).cons), ?_⟩
          refine QKs.det trivial (fun Sx hSx => Yields.pure rfl) ?_
          refine QKs.det trivial (fun Sx hSx => Yields.ldA rfl (by first | rfl | simp) (valC_label (E := 28) (tot := 39) (x := x) hh (hSx _ (List.Mem.head _)))) ?_
          refine QKs.nil ?_
          rintro _ _ ⟨rfl, rfl⟩
          change OL _ _ _ [_, _] _ _ _
          refine OL.det trivial (Yields.to (v' := .bool true) (Yields.eqA (r := true) rfl rfl (by rw [Int.toNat_of_nonneg hlv.1]; simp [labelC, eqCells, eqCell])) rfl) ?_
          refine OL.det trivial (Yields.pure rfl) ?_
          refine OL.nil ?_
          refine hK5 _ _ ?_
          refine PW.keep (T' := [(4, _)]) ⟨rfl, trivial⟩ ?_
          refine PW.ret ?_
          change (Exit.ret = Exit.normal ∨ Exit.ret = Exit.ret) ∧ ∃ v, resV _ _ = some v ∧ _
          exact ⟨.inr rfl, _, rfl, _, Sub.cons (Sub.drop (Sub.refl _)), rfl, by rw [hw]⟩
        · try simp only [decide_eq_true_eq, decide_eq_false_iff_not, beq_iff_eq, bne_iff_ne, beq_eq_false_iff_ne, bne_eq_false_iff_eq, Bool.not_eq_true', Bool.not_eq_false', Bool.not_eq_true, ne_eq, Decidable.not_not] at c34
          refine PW.skip ?_
          refine hK1 _ _ ?_
          refine PW.keep (T' := [(0, _), (3, _)]) ⟨rfl, rfl, trivial⟩ ?_
          refine PW.seq fun K6 hK6 => ?_
          have hw : wB x = vertexB x.h x.z := by rw [wB, if_neg c8, if_neg c17, if_neg c27, if_neg c34]
          rw [hw] at hl
          have hread := back_vertex hh hz.1 hz.2 hl
          refine PW.quiet1K (p := 1) (base := [[(r3, .cells (valC x) 28 39)]]) (K := (fun v' S' => v' = .agg (vertexC x.h x.z).toArray ∧ S' = RB rb A l.length cap (at_ + (vertexB x.h x.z).length) 0 :: [(r3, .cells (valC x) 28 39)] :: S)) Try.mixed rfl rfl rfl (fun _ h => nomatch h) rfl (Over.hd _ _) ?_
          refine QKs.det trivial (fun Sx hSx => Yields.pure rfl) ?_
          refine QKs.nil ⟨OW.call rfl (FC.sel [1, 0] 2 rfl ((rdvertex_fc hx.cons hat hcap hb).mono (by rw [hread]; exact fun _ _ h => h))), (by rintro _ _ ⟨rfl, rfl⟩; exact (Over.hd _ _).cons), ?_⟩
          refine QKs.det trivial (fun Sx hSx => Yields.pure rfl) ?_
          refine QKs.det trivial (fun Sx hSx => Yields.ldA rfl (by rw [bytesC_length]; exact hh) (valC_hash hh (hSx _ (List.Mem.head _)))) ?_
          refine QKs.det trivial (fun Sx hSx => Yields.pure rfl) ?_
          refine QKs.det trivial (fun Sx hSx => Yields.ld rfl (own_at (j := 37) (c := valC x) (E := 28) (tot := 39) (hSx _ (List.Mem.head _)) (by rw [valC_tail hh 2]; rfl))) ?_
          refine QKs.det trivial (fun Sx hSx => Yields.build (fill_vertex hh rfl rfl)) ?_
          refine QKs.nil ?_
          rintro _ _ ⟨rfl, rfl⟩
          change OL _ _ _ [_, _] _ _ _
          refine OL.det trivial (Yields.eqD (neg := false) rfl rfl (eqL_vertex hh)) ?_
          refine OL.det trivial (Yields.pure rfl) ?_
          refine OL.nil ?_
          refine hK6 _ _ ?_
          refine PW.keep (T' := [(4, _)]) ⟨rfl, trivial⟩ ?_
          refine PW.ret ?_
          change (Exit.ret = Exit.normal ∨ Exit.ret = Exit.ret) ∧ ∃ v, resV _ _ = some v ∧ _
          exact ⟨.inr rfl, _, rfl, _, Sub.cons (Sub.drop (Sub.refl _)), rfl, by rw [hw]⟩

end Go.Proofs
