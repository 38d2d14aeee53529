/- Walks and plain facts for the laws of this seat: what each function answers, for every input. -/
import Derived.Test.YtpeikdbejafgbaaCoW4
set_option linter.unusedVariables false
set_option linter.unusedSimpArgs false
namespace Go.Proofs
open Go.SL Go.RowKit
set_option maxHeartbeats 1000000

def vertexC (h : List UInt8) (z : Int) : List Value := bytesC h ++ [.int .i64 z]
def vertexB (h : List UInt8) (z : Int) : List UInt8 := h ++ numB (uOf (z + 2))
theorem u64_add2 (z : Int) : IntKind.u64.wrap (IntKind.u64.wrap z + 2) = ((uOf (z + 2) : Nat) : Int) := by
  have h : ∀ x, IntKind.u64.wrap x = x % 18446744073709551616 := fun x => by simp [IntKind.wrap, IntKind.bits, IntKind.signed]
  rw [h, h]; unfold uOf; omega
theorem vertex_last {h : List UInt8} (hh : h.length = 32) (z : Int) : (vertexC h z)[32]? = some (.int .i64 z) := by
  unfold vertexC
  rw [List.getElem?_append_right (by rw [bytesC_length]; omega), bytesC_length, hh]
  rfl
theorem vertex_hash {w0 : World} {S : SS} {r E tot : Nat} {h : List UInt8} {z : Int} (hm : (r, AO.cells (vertexC h z) E tot) ∈ S.flatten) : ∀ j v, (bytesC h)[j]? = some v → Cell w0 S ((⟨r, 0, none⟩ : Addr).add j) v := fun j v hj => ((Rd.own hm).pre ⟨[.int .i64 z], rfl⟩).at hj
theorem vertex_fc {w0 : World} {S : SS} {v : Value} {seg : Seg} {xs h : List UInt8} {z : Int} (hv : SlV 5 1 v xs.length (bytesC xs) seg) (hh : h.length = 32) (hb : xs.length ≤ 100000000000) :
    FC Try.prog w0 24 [v, .agg (vertexC h z).toArray] (seg :: S) (fun v' S' => ∃ seg', S' = seg' :: S ∧ SlV 5 1 v' (xs ++ vertexB h z).length (bytesC (xs ++ vertexB h z)) seg') := by
  refine FC.ofD Try.known24 (by simp) ?_
  unfold Try.pc24
  simp only [argT]
  refine PW.seqOps ?_
  refine OL.cons trivial (OW.bx rfl) ?_
  rintro _ _ ⟨r3, rfl, rfl⟩
  refine OL.det trivial (Yields.pure rfl) ?_
  refine OL.nil ?_
  refine PW.keep (T' := [(0, _), (3, _)]) ⟨rfl, rfl, trivial⟩ ?_
  refine PW.seq fun K1 hK1 => ?_
  refine PW.quiet1K (p := 3) (base := [[(r3, .cells (vertexC h z) 57 (vertexC h z).length)]]) (K := (fun v' S' => ∃ seg', S' = seg' :: [(r3, .cells (vertexC h z) 57 (vertexC h z).length)] :: S ∧ SlV 5 1 v' (xs ++ h).length (bytesC (xs ++ h)) seg')) Try.mixed rfl rfl rfl (fun _ h => nomatch h) rfl (Over.hd _ _) ?_
  refine QKs.det trivial (fun Sx hSx => Yields.pure rfl) ?_
  refine QKs.det trivial (fun Sx hSx => Yields.pure rfl) ?_
  refine QKs.det trivial (fun Sx hSx => Yields.ldA rfl (by rw [bytesC_length]; exact hh) (vertex_hash (hSx _ (List.Mem.head _)))) ?_
  refine QKs.nil ⟨OW.call rfl (FC.sel [1, 0] 2 rfl (hash_fc hv hh (by omega))), (by rintro _ _ ⟨seg', rfl, _⟩; exact (Over.hd _ _).cons), ?_⟩
  refine QKs.det trivial (fun Sx hSx => Yields.pure rfl) ?_
  refine QKs.det trivial (fun Sx hSx => Yields.ld rfl (own_at (c := vertexC h z) (E := 57) (tot := (vertexC h z).length) (hSx _ (List.Mem.head _)) (vertex_last hh z))) ?_
  refine QKs.det trivial (fun Sx hSx => Yields.pure rfl) ?_
  refine QKs.det trivial (fun Sx hSx => Yields.pure rfl) ?_
  rw [u64_add2]
  refine QKs.nil ?_
  rintro v8 _ ⟨seg8, rfl, hsl8⟩
  change OL _ _ _ [_, _] _ _ _
  refine OL.call trivial rfl (num_fc hsl8 (uOf_lt (z + 2)) (by simp only [List.length_append]; omega)) ?_
  rintro v13 _ ⟨seg13, rfl, hsl13⟩
  refine OL.det trivial (Yields.pure rfl) ?_
  refine OL.nil ?_
  refine hK1 _ _ ?_
  refine PW.keep (T' := [(4, _)]) ⟨rfl, trivial⟩ ?_
  refine PW.ret ?_
  change (Exit.ret = Exit.normal ∨ Exit.ret = Exit.ret) ∧ ∃ v, resV _ _ = some v ∧ _
  refine ⟨.inr rfl, _, rfl, seg13 :: S, Sub.cons (Sub.drop (Sub.refl _)), seg13, rfl, ?_⟩
  rw [show xs ++ vertexB h z = xs ++ h ++ numB (uOf (z + 2)) by simp [vertexB]]
  exact hsl13
theorem rvertex_fc {w0 : World} {S : SS} {h : List UInt8} {z : Int} (hh : h.length = 32) :
    FC Try.prog w0 30 [.agg (vertexC h z).toArray] S (fun v' S' => ∃ seg', S' = seg' :: S ∧ SlV 5 1 v' (vertexB h z).length (bytesC (vertexB h z)) seg') := by
  refine FC.ofD Try.known30 (by simp) ?_
  unfold Try.pc30
  simp only [argT]
  refine PW.seqOps ?_
  refine OL.cons trivial (OW.bx rfl) ?_
  rintro _ _ ⟨r1, rfl, rfl⟩
  refine OL.det trivial (Yields.pure rfl) ?_
  refine OL.nil ?_
  refine PW.keep (T' := [(1, _)]) ⟨rfl, trivial⟩ ?_
  refine PW.seq fun K1 hK1 => ?_
  refine PW.quiet1K (p := 2) (base := [[(r1, .cells (vertexC h z) 57 (vertexC h z).length)]]) (K := (fun v' S' => ∃ seg', S' = seg' :: [(r1, .cells (vertexC h z) 57 (vertexC h z).length)] :: S ∧ SlV 5 1 v' h.length (bytesC h) seg')) Try.mixed rfl rfl rfl (fun _ h => nomatch h) rfl (Over.hd _ _) ?_
  refine QKs.det trivial (fun Sx hSx => Yields.pure rfl) ?_
  refine QKs.det trivial (fun Sx hSx => Yields.ldA rfl (by rw [bytesC_length]; exact hh) (vertex_hash (hSx _ (List.Mem.head _)))) ?_
  refine QKs.nil ⟨OW.call rfl (rhash_fc hh), (by rintro _ _ ⟨seg', rfl, _⟩; exact (Over.hd _ _).cons), ?_⟩
  refine QKs.det trivial (fun Sx hSx => Yields.pure rfl) ?_
  refine QKs.det trivial (fun Sx hSx => Yields.ld rfl (own_at (c := vertexC h z) (E := 57) (tot := (vertexC h z).length) (hSx _ (List.Mem.head _)) (vertex_last hh z))) ?_
  refine QKs.det trivial (fun Sx hSx => Yields.pure rfl) ?_
  refine QKs.det trivial (fun Sx hSx => Yields.pure rfl) ?_
  rw [u64_add2]
  refine QKs.nil ?_
  rintro v5 _ ⟨seg5, rfl, hsl5⟩
  change OL _ _ _ [_, _, _] _ _ _
  refine OL.call trivial rfl (rnum_fc (uOf (z + 2)) (uOf_lt (z + 2))) ?_
  rintro v10 _ ⟨seg10, rfl, hsl10⟩
  have hnl := numB_len (uOf (z + 2))
  obtain ⟨Au, cu, rfl, hcu, _, hrdu⟩ := SlV.rd0 (w0 := w0) hsl10
  refine OL.cons trivial (OW.appB (k := 1) rfl rfl hsl5 rfl rfl (hrdu _) hcu (by omega)) ?_
  rintro v11 _ ⟨seg11, rfl, hsl11⟩
  refine OL.det trivial (Yields.pure rfl) ?_
  refine OL.nil ?_
  refine hK1 _ _ ?_
  refine PW.keep (T' := [(2, _)]) ⟨rfl, trivial⟩ ?_
  refine PW.ret ?_
  change (Exit.ret = Exit.normal ∨ Exit.ret = Exit.ret) ∧ ∃ v, resV _ _ = some v ∧ _
  refine ⟨.inr rfl, _, rfl, seg11 :: S, Sub.drop (Sub.cons (Sub.drop (Sub.refl _))), seg11, rfl, ?_⟩
  rw [show (vertexB h z).length = h.length + (numB (uOf (z + 2))).length by simp [vertexB], vertexB, bytesC_append]
  exact hsl11
theorem begins_fc {w0 : World} {S : SS} {A B : Option Addr} {ca cb : Nat} {xs ys : List UInt8} (hx : Rd w0 S A (bytesC xs)) (hy : Rd w0 S B (bytesC ys)) (hca : xs.length ≤ ca) (hcb : ys.length ≤ cb) :
    FC Try.prog w0 12 [.slice A xs.length ca, .slice B ys.length cb] S (fun v S' => v = .bool (decide (xs.take (min xs.length ys.length) = ys.take (min xs.length ys.length))) ∧ S' = S) := by
  refine FC.of Try.known12 (by simp) ?_
  unfold Try.pc12
  simp only [argT]
  refine PW.seqOps ?_
  refine OL.det trivial (Yields.pure rfl) ?_
  refine OL.nil ?_
  refine PW.keep (T' := [(0, _), (1, _)]) ⟨rfl, rfl, trivial⟩ ?_
  refine PW.seqOps ?_
  refine OL.det trivial (Yields.pure rfl) ?_
  refine OL.det trivial (Yields.pure rfl) ?_
  refine OL.det trivial (Yields.pure rfl) ?_
  refine OL.det trivial (Yields.pure rfl) ?_
  refine OL.det trivial (Yields.pure rfl) ?_
  refine OL.det trivial (Yields.pure rfl) ?_
  refine OL.nil ?_
  refine PW.keep (T' := [(0, _), (1, _), (5, _)]) ⟨rfl, rfl, rfl, trivial⟩ ?_
  refine PW.seq fun K1 hK1 => ?_
  refine PW.quietK Try.mixed ?_
  refine QK.det trivial (Yields.pure rfl) ?_
  refine QK.det trivial (Yields.pure rfl) ?_
  refine QK.det trivial (Yields.slS (l := 0) (h := min xs.length ys.length) rfl rfl rfl (.inr ⟨rfl, rfl⟩) (.inl (congrArg some (by simp only [Bool.false_eq_true, if_false]; split <;> omega))) (by omega) (by omega)) ?_
  rw [cutV0]
  refine QK.det trivial (Yields.strOf rfl (l := xs.take (min xs.length ys.length)) (by simp) (hx.pre (by rw [bytesC, bytesC, List.map_take]; exact List.take_prefix _ _))) ?_
  refine QK.det trivial (Yields.pure rfl) ?_
  refine QK.det trivial (Yields.pure rfl) ?_
  refine QK.det trivial (Yields.slS (l := 0) (h := min xs.length ys.length) rfl rfl rfl (.inr ⟨rfl, rfl⟩) (.inl (congrArg some (by simp only [Bool.false_eq_true, if_false]; split <;> omega))) (by omega) (by omega)) ?_
  rw [cutV0]
  refine QK.det trivial (Yields.strOf rfl (l := ys.take (min xs.length ys.length)) (by simp) (hy.pre (by rw [bytesC, bytesC, List.map_take]; exact List.take_prefix _ _))) ?_
  refine QK.nil ?_
  change OL _ _ _ [_, _] _ _ _
  refine OL.det trivial (Yields.pure rfl) ?_
  refine OL.det trivial (Yields.pure rfl) ?_
  refine OL.nil ?_
  refine hK1 _ _ ?_
  refine PW.keep (T' := [(4, _)]) ⟨rfl, trivial⟩ ?_
  refine PW.ret ?_
  change (Exit.ret = Exit.normal ∨ Exit.ret = Exit.ret) ∧ ∃ v, resV _ _ = some v ∧ _
  refine ⟨.inr rfl, _, rfl, ?_, rfl⟩
  generalize xs.take (min xs.length ys.length) = p
  generalize ys.take (min xs.length ys.length) = q
  congr 1
  by_cases e : p = q
  · subst e; simp
  · simp [e]

end Go.Proofs
