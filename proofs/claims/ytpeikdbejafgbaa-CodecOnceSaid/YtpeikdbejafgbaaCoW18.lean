/- Walks and plain facts for the laws of this seat: what each function answers, for every input. -/
import Derived.Test.YtpeikdbejafgbaaCoW17
set_option linter.unusedVariables false
set_option linter.unusedSimpArgs false
namespace Go.Proofs
open Go.SL Go.RowKit
set_option maxHeartbeats 1000000

def vertexR (l : List UInt8) (at_ : Nat) (err : Int) : (List UInt8 × Int) × Nat × Int :=
  let h := hashR l at_ err
  let f := formN 4294967296 l h.2.1 h.2.2
  (if f.2.2 = 0 then (h.1, (f.1 : Int) - 2) else (List.replicate 32 0, 0), f.2)
def VB (r : Nat) (c : List Value) : Seg := [(r, .cells c 57 33)]
theorem fill1 {T : TT} {h : List UInt8} {a : Nat} (hh : h.length = 32) (h1 : Go.SL.look T a = some (.agg (bytesC h).toArray)) : fillP T z33 [(0, 32, .t a)] = some (vertexC h 0) := by
  have e1 : (Value.agg (bytesC h).toArray).cells.size = 32 := by simp [Value.cells, bytesC_length, hh]
  have e2 : (Value.agg (bytesC h).toArray).cells.toList = bytesC h := rfl
  simp only [fillP, PV.val, h1]
  rw [if_pos ⟨e1, by decide⟩, e2, z33_hash hh]
  rfl
theorem z33_v : z33 = vertexC (List.replicate 32 0) 0 := rfl
theorem vertexC_read {w0 : World} {S : SS} {r : Nat} {h : List UInt8} {z : Int} (hh : h.length = 32) (hm : (r, AO.cells (vertexC h z) 57 33) ∈ S.flatten) : ReadsAs w0 S (some 33) ⟨r, 0, none⟩ (.agg (vertexC h z).toArray) :=
  ⟨vertexC h z, rfl, vertexC_len hh z, fun j u hj => (Rd.own hm).at hj⟩
theorem setAll {c d : List Value} (h : c.length = d.length) : setAt c 0 d = d := by
  rw [setAt_eq _ _ _ (by omega), Nat.zero_add, h.symm, List.drop_length]; simp
theorem agg_size (c : List Value) : (Value.agg c.toArray).cells.size = c.length := by simp [Value.cells]
theorem rdvertex_fc {w0 : World} {S : SS} {A : Option Addr} {cap at_ rb : Nat} {err : Int} {l : List UInt8} (hx : Rd w0 S A (bytesC l)) (hat : at_ ≤ l.length) (hcap : l.length ≤ cap) (hb : l.length ≤ 1000000000000) :
    FC Try.prog w0 25 [.pointer (some ⟨rb, 0, none⟩)] (RB rb A l.length cap at_ err :: S)
      (fun v S' => v = .agg (vertexC (vertexR l at_ err).1.1 (vertexR l at_ err).1.2).toArray ∧ S' = RB rb A l.length cap (vertexR l at_ err).2.1 (vertexR l at_ err).2.2 :: S) := by
  have hR : vertexR l at_ err = (if (formN 4294967296 l (hashR l at_ err).2.1 (hashR l at_ err).2.2).2.2 = 0 then ((hashR l at_ err).1, ((formN 4294967296 l (hashR l at_ err).2.1 (hashR l at_ err).2.2).1 : Int) - 2) else (List.replicate 32 0, 0), (formN 4294967296 l (hashR l at_ err).2.1 (hashR l at_ err).2.2).2) := rfl
  rw [hR]
  clear hR
  have hh : (hashR l at_ err).1.length = 32 := padH_len (tkR_len 32 l at_ err)
  have hle : (hashR l at_ err).2.1 ≤ l.length := tkR_le hat
  generalize hhe : hashR l at_ err = g at *
  obtain ⟨h, ha, he⟩ := g
  simp only at hh hle ⊢
  have hf := formN_le (most := 4294967296) (err := he) hle
  generalize hfe : formN 4294967296 l ha he = f at *
  obtain ⟨fv, fa, fe⟩ := f
  simp only at hf ⊢
  refine FC.ofC Try.known25 (by simp) ?_
  unfold Try.pc25
  simp only [argT]
  refine PW.seqOps ?_
  refine OL.cons trivial OW.al ?_
  rintro _ _ ⟨r2, rfl, rfl⟩
  refine OL.nil ?_
  refine PW.keep (T' := [(0, _), (2, _)]) ⟨rfl, rfl, trivial⟩ ?_
  refine PW.seqOps ?_
  refine OL.det trivial (Yields.pure rfl) ?_
  refine OL.call trivial rfl (FC.sel [1, 0] 2 rfl (rdhash_fc hx.cons hat hcap hb)) ?_
  rw [hhe]
  rintro _ _ ⟨rfl, rfl⟩
  refine OL.det trivial (Yields.build (fill1 hh rfl)) ?_
  refine OL.cons trivial OW.al ?_
  rintro _ _ ⟨r3, rfl, rfl⟩
  refine OL.cons trivial (OW.st (k := 0) rfl rfl rfl (by rw [agg_size]; exact vertexC_len hh 0) (by decide) (vertexC_one h 0)) ?_
  rintro _ _ rfl
  change OL _ _ _ _ _ (VB r3 (setAt z33 0 (vertexC h 0)) :: RB rb A l.length cap ha he :: VB r2 z33 :: S) _
  rw [vall hh]
  refine OL.nil ?_
  refine PW.keep (T' := [(0, _), (2, _), (3, _)]) ⟨rfl, rfl, rfl, trivial⟩ ?_
  refine PW.seqOps ?_
  refine OL.det trivial (Yields.pure rfl) ?_
  refine OL.call trivial rfl (FC.sel [1, 0, 2] 3 rfl (form_fc (most := 4294967296) hx.cons.cons hle hcap hb)) ?_
  rw [hfe]
  rintro _ _ ⟨rfl, rfl⟩
  refine OL.det trivial (Yields.to (v' := .int .i64 (fv : Int)) (Yields.pure rfl) (by rw [i64_nat (by omega)])) ?_
  refine OL.det trivial (Yields.sub64 rfl rfl (by omega) (by omega)) ?_
  refine OL.det trivial (Yields.pure rfl) ?_
  refine OL.cons trivial (OW.st (k := 1) rfl rfl rfl rfl (by rw [vertexC_len hh]; show 0 + 32 + 1 ≤ 33; omega) rfl) ?_
  rintro _ _ rfl
  change OL _ _ _ _ _ (RB rb A l.length cap fa fe :: VB r3 (setAt (vertexC h 0) 32 [.int .i64 ((fv : Int) - 2)]) :: VB r2 z33 :: S) _
  rw [show setAt (vertexC h 0) 32 [.int .i64 ((fv : Int) - 2)] = vertexC h ((fv : Int) - 2) from vset hh _]
  refine OL.nil ?_
  refine PW.keep (T' := [(0, _), (2, _), (3, _)]) ⟨rfl, rfl, rfl, trivial⟩ ?_
  refine PW.seq fun K1 hK1 => ?_
  refine PW.seqOps ?_
  refine OL.det trivial (Yields.pure rfl) ?_
  refine OL.call trivial rfl (is_fc (rb := rb) (A := A) (len := l.length) (cap := cap) (at_ := fa) (err := fe) (by simp [RB])) ?_
  rintro _ _ ⟨rfl, rfl⟩
  refine OL.det trivial (Yields.pure rfl) ?_
  refine OL.nil ?_
  refine PW.keep (T' := [(2, _), (3, _), (14, _)]) ⟨rfl, rfl, rfl, trivial⟩ ?_
  refine PW.cond rfl (fun c14 => ?_) (fun c14 => ?_)
  · try simp only [decide_eq_true_eq, decide_eq_false_iff_not, beq_iff_eq, bne_iff_ne, beq_eq_false_iff_ne, bne_eq_false_iff_eq, Bool.not_eq_true', Bool.not_eq_false', Bool.not_eq_true, ne_eq, Decidable.not_not] at c14
    refine PW.seqOps ?_
    refine OL.det trivial (Yields.build (cs := z33) rfl) ?_
    refine OL.cons trivial (OW.st (k := 2) rfl rfl rfl rfl (by decide) (by decide)) ?_
    rintro _ _ rfl
    change OL _ _ _ _ _ (RB rb A l.length cap fa fe :: VB r3 (vertexC h ((fv : Int) - 2)) :: VB r2 (setAt z33 0 z33) :: S) _
    rw [setAll rfl]
    refine OL.nil ?_
    refine PW.keep (T' := [(2, _)]) ⟨rfl, trivial⟩ ?_
    refine PW.ret ?_
    change (Exit.ret = Exit.normal ∨ Exit.ret = Exit.ret) ∧ ∃ a v, Go.SL.look _ _ = some (.pointer (some a)) ∧ ReadsAs _ _ _ _ _ ∧ _
    refine ⟨.inr rfl, _, _, rfl, vertexC_read (r := r2) (h := List.replicate 32 0) (z := 0) rfl (show _ ∈ RB rb A l.length cap fa fe ++ (VB r3 (vertexC h ((fv : Int) - 2)) ++ (VB r2 z33 ++ S.flatten)) by rw [← z33_v]; simp [VB]), _, Sub.cons (Sub.drop (Sub.drop (Sub.refl _))), ?_, rfl⟩
    rw [if_neg c14]
  · try simp only [decide_eq_true_eq, decide_eq_false_iff_not, beq_iff_eq, bne_iff_ne, beq_eq_false_iff_ne, bne_eq_false_iff_eq, Bool.not_eq_true', Bool.not_eq_false', Bool.not_eq_true, ne_eq, Decidable.not_not] at c14
    refine PW.skip ?_
    refine hK1 _ _ ?_
    refine PW.keep (T' := [(2, _), (3, _)]) ⟨rfl, rfl, trivial⟩ ?_
    refine PW.seqOps ?_
    refine OL.det trivial (Yields.ldA rfl (cs := vertexC h ((fv : Int) - 2)) (vertexC_len hh _) (fun j v hj => (Rd.own (r := r3) (E := 57) (tot := 33) (by simp [VB])).at hj)) ?_
    refine OL.cons trivial (OW.st (k := 2) rfl rfl rfl (by rw [agg_size]; exact vertexC_len hh _) (by show 0 + 33 ≤ z33.length; decide) (vertexC_one h _)) ?_
    rintro _ _ rfl
    change OL _ _ _ _ _ (RB rb A l.length cap fa fe :: VB r3 (vertexC h ((fv : Int) - 2)) :: VB r2 (setAt z33 0 (vertexC h ((fv : Int) - 2))) :: S) _
    rw [vall hh]
    refine OL.nil ?_
    refine PW.keep (T' := [(2, _)]) ⟨rfl, trivial⟩ ?_
    refine PW.ret ?_
    change (Exit.ret = Exit.normal ∨ Exit.ret = Exit.ret) ∧ ∃ a v, Go.SL.look _ _ = some (.pointer (some a)) ∧ ReadsAs _ _ _ _ _ ∧ _
    refine ⟨.inr rfl, _, _, rfl, vertexC_read (r := r2) (h := h) (z := (fv : Int) - 2) hh (show _ ∈ RB rb A l.length cap fa fe ++ (VB r3 (vertexC h ((fv : Int) - 2)) ++ (VB r2 (vertexC h ((fv : Int) - 2)) ++ S.flatten)) by simp [VB]), _, Sub.cons (Sub.drop (Sub.drop (Sub.refl _))), ?_, rfl⟩
    rw [if_pos c14]

end Go.Proofs
