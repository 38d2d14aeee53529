/- Walks and plain facts for the laws of this seat: what each function answers, for every input. -/
import Derived.Test.YtpeikdbejafgbaaCoW16
set_option linter.unusedVariables false
set_option linter.unusedSimpArgs false
namespace Go.Proofs
open Go.SL Go.RowKit
set_option maxHeartbeats 1000000

def comp (b : List UInt8) : Nat := b.foldl (fun c x => 256 * c + x.toNat) 0
theorem comp_succ {b : List UInt8} {k : Nat} (h : k < b.length) : comp (b.take (k + 1)) = 256 * comp (b.take k) + b[k].toNat := by
  rw [List.take_add_one, List.getElem?_eq_getElem h]
  simp only [comp, List.foldl_append, Option.toList, List.foldl_cons, List.foldl_nil]
theorem comp_lt (b : List UInt8) (k : Nat) (h : k ≤ b.length) : comp (b.take k) < 256 ^ k := by
  induction k with
  | zero => simp [comp]
  | succ k ih =>
    rw [comp_succ (by omega)]
    have := ih (by omega)
    have h2 := b[k].toNat_lt
    rw [Nat.pow_succ]
    omega
theorem shl8 {c : Nat} (h : 256 * c < 18446744073709551616) : IntKind.u64.wrap ((c : Int) * 2 ^ (min (8 : Int).toNat IntKind.u64.bits)) = ((256 * c : Nat) : Int) := by
  have e : (c : Int) * 2 ^ (min (8 : Int).toNat IntKind.u64.bits) = ((256 * c : Nat) : Int) := by
    have h8 : min (8 : Int).toNat IntKind.u64.bits = 8 := by decide
    rw [h8]; omega
  rw [e, u64_wrap h]
theorem or8 {c b : Nat} (hb : b < 256) (ht : 256 * c + b < 18446744073709551616) : IntKind.u64.wrap ((BitVec.ofInt 64 ((256 * c : Nat) : Int) ||| BitVec.ofInt 64 (b : Int)).toNat : Int) = ((256 * c + b : Nat) : Int) := by
  rw [BitVec.or_comm]
  have := or_u64 (n := b) (e := c) (i := 8) hb (by have e : (2 : Nat) ^ 8 = 256 := rfl; rw [e]; omega)
  rw [show 256 * c = c * 2 ^ 8 by rw [Nat.mul_comm], this]
  congr 1
  omega
def labelR (l : List UInt8) (at_ : Nat) (err : Int) : (Nat × Nat) × Nat × Int :=
  let f := formN 15 l at_ err
  let k := tkR 8 l f.2.1 f.2.2
  (if k.2.2 = 0 then (f.1, comp k.1) else (0, 0), k.2)
def LB (r : Nat) (lv : Int) (c : Nat) : Seg := [(r, .cells (labelC lv c) 26 2)]
theorem labelC_read {w0 : World} {S : SS} {r : Nat} {lv : Int} {c : Nat} (hm : (r, AO.cells (labelC lv c) 26 2) ∈ S.flatten) : ReadsAs w0 S (some 2) ⟨r, 0, none⟩ (.agg (labelC lv c).toArray) :=
  ⟨labelC lv c, rfl, rfl, fun j u hj => (Rd.own hm).at hj⟩
theorem rdlabel_fc {w0 : World} {S : SS} {A : Option Addr} {cap at_ rb : Nat} {err : Int} {l : List UInt8} (hx : Rd w0 S A (bytesC l)) (hat : at_ ≤ l.length) (hcap : l.length ≤ cap) (hb : l.length ≤ 1000000000000) :
    FC Try.prog w0 18 [.pointer (some ⟨rb, 0, none⟩)] (RB rb A l.length cap at_ err :: S)
      (fun v S' => v = .agg (labelC ((labelR l at_ err).1.1 : Int) (labelR l at_ err).1.2).toArray ∧ S' = RB rb A l.length cap (labelR l at_ err).2.1 (labelR l at_ err).2.2 :: S) := by
  have hf := formN_le (most := 15) (err := err) hat
  have hR : labelR l at_ err = (if (tkR 8 l (formN 15 l at_ err).2.1 (formN 15 l at_ err).2.2).2.2 = 0 then ((formN 15 l at_ err).1, comp (tkR 8 l (formN 15 l at_ err).2.1 (formN 15 l at_ err).2.2).1) else (0, 0), (tkR 8 l (formN 15 l at_ err).2.1 (formN 15 l at_ err).2.2).2) := rfl
  rw [hR]
  clear hR
  generalize hfe : formN 15 l at_ err = f at *
  obtain ⟨fv, fa, fe⟩ := f
  simp only at hf ⊢
  have htl := tkR_len 8 l fa fe
  generalize hke : tkR 8 l fa fe = q at *
  obtain ⟨b, ka, ke⟩ := q
  simp only at htl ⊢
  refine FC.ofC Try.known18 (by simp) ?_
  unfold Try.pc18
  simp only [argT]
  refine PW.seqOps ?_
  refine OL.cons trivial OW.al ?_
  rintro _ _ ⟨r2, rfl, rfl⟩
  refine OL.nil ?_
  refine PW.keep (T' := [(0, _), (2, _)]) ⟨rfl, rfl, trivial⟩ ?_
  refine PW.seqOps ?_
  refine OL.det trivial (Yields.pure rfl) ?_
  refine OL.call trivial rfl (FC.sel [1, 0] 2 rfl (form_fc (most := 15) hx.cons hat hcap hb)) ?_
  rw [hfe]
  rintro _ _ ⟨rfl, rfl⟩
  refine OL.det trivial (Yields.to (v' := .int .i64 (fv : Int)) (Yields.pure rfl) (by rw [i64_nat (by omega)])) ?_
  refine OL.det trivial (Yields.build rfl) ?_
  refine OL.cons trivial OW.al ?_
  rintro _ _ ⟨r3, rfl, rfl⟩
  refine OL.cons trivial (OW.st (k := 0) rfl rfl rfl rfl (by first | decide | (simp; done) | (simp; omega)) (by first | rfl | simp)) ?_
  rintro _ _ rfl
  refine OL.nil ?_
  refine PW.keep (T' := [(0, _), (2, _), (3, _)]) ⟨rfl, rfl, rfl, trivial⟩ ?_
  refine PW.seq fun K1 hK1 => ?_
  refine PW.seqOps ?_
  refine OL.det trivial (Yields.pure rfl) ?_
  refine OL.call trivial rfl (FC.sel [1, 0] 2 rfl (take_fc (n := 8) hx.cons.cons hf.2 hcap hb)) ?_
  rw [hke]
  rintro _ _ ⟨B, c, rfl, hrd, rfl⟩
  refine OL.det trivial (Yields.pure rfl) ?_
  refine OL.det trivial (Yields.pure rfl) ?_
  refine OL.nil ?_
  refine PW.keep (T' := [(0, _), (2, _), (3, _), (11, _), (12, _), (13, _)]) ⟨rfl, rfl, rfl, rfl, rfl, rfl, trivial⟩ ?_
  refine PW.block ?_
  refine PW.keep (T' := [(0, _), (2, _), (3, _), (11, _), (12, _), (13, _)]) ⟨rfl, rfl, rfl, rfl, rfl, rfl, trivial⟩ ?_
  refine PW.loopK (I := fun m T S' => ∃ (k : Nat), (k ≤ b.length ∧ m = b.length - k) ∧ T = ([(0, .pointer (some ⟨rb, 0, none⟩)), (2, .pointer (some ⟨r2, 0, none⟩)), (3, .pointer (some ⟨r3, 0, none⟩)), (11, .slice B b.length c), (12, .int .i64 (b.length : Int)), (13, .int .i64 (k : Int))] : TT) ∧ S' = RB rb A l.length cap ka ke :: LB r3 fv (comp (b.take k)) :: LB r2 0 0 :: S) (m := b.length) ⟨0, ⟨by omega, by omega⟩, by rfl, by rfl⟩ ?_
  rintro m _ _ ⟨k, ⟨hk, hm⟩, rfl, rfl⟩
  refine PW.seqOps ?_
  refine OL.det trivial (Yields.pure rfl) ?_
  refine OL.nil ?_
  refine PW.keep (T' := [(0, _), (2, _), (3, _), (11, _), (12, _), (13, _), (14, _)]) ⟨rfl, rfl, rfl, rfl, rfl, rfl, rfl, trivial⟩ ?_
  refine PW.seq fun K2 hK2 => ?_
  refine PW.cond rfl (fun c14 => ?_) (fun c14 => ?_)
  · try simp only [decide_eq_true_eq, decide_eq_false_iff_not, beq_iff_eq, bne_iff_ne, beq_eq_false_iff_ne, bne_eq_false_iff_eq, Bool.not_eq_true', Bool.not_eq_false', Bool.not_eq_true, ne_eq, Decidable.not_not] at c14
    have hrd := hrd (RB rb A l.length cap ka ke :: LB r3 fv (comp (b.take k)) :: LB r2 0 0 :: S) hx.cons.cons.cons
    obtain ⟨ab, rfl⟩ := hrd.some (by intro e; have := congrArg List.length e; rw [bytesC_length] at this; have h2 : b.length = 0 := this; omega)
    have hkl : k < b.length := by omega
    have hcl := comp_lt b k (by omega)
    have hbl := b[k].toNat_lt
    have hp : (256 : Nat) ^ k * 256 ≤ 256 ^ 8 := by rw [← Nat.pow_succ]; exact Nat.pow_le_pow_right (by omega) (by omega)
    have hp8 : (256 : Nat) ^ 8 = 18446744073709551616 := rfl
    have hlt : 256 * comp (b.take k) + b[k].toNat < 18446744073709551616 := by omega
    refine PW.skip ?_
    refine hK2 _ _ ?_
    refine PW.keep (T' := [(0, _), (2, _), (3, _), (11, _), (12, _), (13, _)]) ⟨rfl, rfl, rfl, rfl, rfl, rfl, trivial⟩ ?_
    refine PW.seq fun K3 hK3 => ?_
    refine PW.block ?_
    refine PW.seqOps ?_
    refine OL.det trivial (Yields.ixN1 rfl rfl (show _ = ((k : Nat) : Int) from rfl) (by omega)) ?_
    refine OL.det trivial (Yields.ld rfl (bytes_at hrd hkl)) ?_
    refine OL.det trivial (Yields.pure rfl) ?_
    refine OL.nil ?_
    refine PW.keep (T' := [(0, _), (2, _), (3, _), (5, _), (11, _), (12, _), (13, _)]) ⟨rfl, rfl, rfl, rfl, rfl, rfl, rfl, trivial⟩ ?_
    refine PW.ops ?_
    refine OL.det trivial (Yields.pure rfl) ?_
    refine OL.det trivial (Yields.ld rfl (own_at (j := 1) (c := labelC fv (comp (b.take k))) (E := 26) (tot := 2) (by simp [LB]) rfl)) ?_
    refine OL.det trivial (Yields.shl rfl rfl (by decide)) ?_
    rw [shl8 (c := comp (b.take k)) (by omega)]
    refine OL.det trivial (Yields.pure rfl) ?_
    refine OL.det trivial (Yields.to (v' := .int .u64 (b[k].toNat : Int)) (Yields.pure rfl) (by rw [u64_wrap (a := b[k].toNat) (by omega)])) ?_
    refine OL.det trivial (Yields.to (v' := .int .u64 ((256 * comp (b.take k) + b[k].toNat : Nat) : Int)) (Yields.pure rfl) (congrArg (Value.int .u64) (or8 hbl hlt))) ?_
    refine OL.det trivial (Yields.pure rfl) ?_
    refine OL.cons trivial (OW.st (k := 1) rfl rfl rfl rfl (by show 0 + 1 + 1 ≤ 2; omega) rfl) ?_
    rintro _ _ rfl
    refine OL.nil ?_
    refine hK3 _ _ ?_
    refine PW.keep (T' := [(0, _), (2, _), (3, _), (11, _), (12, _), (13, _)]) ⟨rfl, rfl, rfl, rfl, rfl, rfl, trivial⟩ ?_
    refine PW.ops ?_
    refine OL.det trivial (Yields.add64 rfl rfl (by omega) (by omega)) ?_
    refine OL.det trivial (Yields.pure rfl) ?_
    refine OL.nil ?_
    repeat rw [inBlk_n]
    rw [thenK_n]
    refine LoopEnd.mk (T'' := [(0, _), (2, _), (3, _), (11, _), (12, _), (13, _)]) ⟨rfl, rfl, rfl, rfl, rfl, rfl, trivial⟩ ?_
    refine ⟨b.length - (k + 1), by omega, k + 1, ⟨by omega, rfl⟩, by rfl, ?_⟩
    rw [comp_succ (by omega)]
    rfl
  · try simp only [decide_eq_true_eq, decide_eq_false_iff_not, beq_iff_eq, bne_iff_ne, beq_eq_false_iff_ne, bne_eq_false_iff_eq, Bool.not_eq_true', Bool.not_eq_false', Bool.not_eq_true, ne_eq, Decidable.not_not] at c14
    refine PW.exit ?_
    refine hK1 _ _ ?_
    refine PW.keep (T' := [(0, _), (2, _), (3, _)]) ⟨rfl, rfl, rfl, trivial⟩ ?_
    refine PW.seq fun K4 hK4 => ?_
    refine PW.seqOps ?_
    have hkb : k = b.length := by omega
    rw [hkb, List.take_length]
    refine OL.det trivial (Yields.pure rfl) ?_
    refine OL.call trivial rfl (is_fc (rb := rb) (A := A) (len := l.length) (cap := cap) (at_ := ka) (err := ke) (by simp [RB])) ?_
    rintro _ _ ⟨rfl, rfl⟩
    refine OL.det trivial (Yields.pure rfl) ?_
    refine OL.nil ?_
    refine PW.keep (T' := [(2, _), (3, _), (27, _)]) ⟨rfl, rfl, rfl, trivial⟩ ?_
    refine PW.cond rfl (fun c27 => ?_) (fun c27 => ?_)
    · try simp only [decide_eq_true_eq, decide_eq_false_iff_not, beq_iff_eq, bne_iff_ne, beq_eq_false_iff_ne, bne_eq_false_iff_eq, Bool.not_eq_true', Bool.not_eq_false', Bool.not_eq_true, ne_eq, Decidable.not_not] at c27
      refine PW.seqOps ?_
      refine OL.det trivial (Yields.build rfl) ?_
      refine OL.cons trivial (OW.st (k := 2) rfl rfl rfl rfl (by show 0 + 2 ≤ 2; omega) rfl) ?_
      rintro _ _ rfl
      refine OL.nil ?_
      refine PW.keep (T' := [(2, _)]) ⟨rfl, trivial⟩ ?_
      refine PW.ret ?_
      change (Exit.ret = Exit.normal ∨ Exit.ret = Exit.ret) ∧ ∃ a v, Go.SL.look _ _ = some (.pointer (some a)) ∧ ReadsAs _ _ _ _ _ ∧ _
      refine ⟨.inr rfl, _, _, rfl, labelC_read (r := r2) (lv := 0) (c := 0) (show _ ∈ RB rb A l.length cap ka ke ++ (LB r3 fv (comp b) ++ (LB r2 0 0 ++ S.flatten)) by simp [LB]), _, Sub.cons (Sub.drop (Sub.drop (Sub.refl _))), ?_, rfl⟩
      rw [if_neg c27]
      rfl
    · try simp only [decide_eq_true_eq, decide_eq_false_iff_not, beq_iff_eq, bne_iff_ne, beq_eq_false_iff_ne, bne_eq_false_iff_eq, Bool.not_eq_true', Bool.not_eq_false', Bool.not_eq_true, ne_eq, Decidable.not_not] at c27
      refine PW.skip ?_
      refine hK4 _ _ ?_
      refine PW.keep (T' := [(2, _), (3, _)]) ⟨rfl, rfl, trivial⟩ ?_
      refine PW.seqOps ?_
      refine OL.det trivial (Yields.ldA rfl (cs := labelC fv (comp b)) rfl (fun j v hj => (Rd.own (r := r3) (E := 26) (tot := 2) (by simp [LB])).at hj)) ?_
      refine OL.cons trivial (OW.st (k := 2) rfl rfl rfl rfl (by show 0 + 2 ≤ 2; omega) rfl) ?_
      rintro _ _ rfl
      refine OL.nil ?_
      refine PW.keep (T' := [(2, _)]) ⟨rfl, trivial⟩ ?_
      refine PW.ret ?_
      change (Exit.ret = Exit.normal ∨ Exit.ret = Exit.ret) ∧ ∃ a v, Go.SL.look _ _ = some (.pointer (some a)) ∧ ReadsAs _ _ _ _ _ ∧ _
      refine ⟨.inr rfl, _, _, rfl, labelC_read (r := r2) (lv := fv) (c := comp b) (show _ ∈ RB rb A l.length cap ka ke ++ (LB r3 fv (comp b) ++ (LB r2 fv (comp b) ++ S.flatten)) by simp [LB]), _, Sub.cons (Sub.drop (Sub.drop (Sub.refl _))), ?_, rfl⟩
      rw [if_pos c27]

end Go.Proofs
