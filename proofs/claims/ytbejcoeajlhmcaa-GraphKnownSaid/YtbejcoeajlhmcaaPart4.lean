/- Walks. -/
import Derived.Test.YtbejcoeajlhmcaaPart3
import Derived.Lib.Bytealg
set_option linter.unusedVariables false
set_option linter.unusedSimpArgs false
set_option linter.unusedSectionVars false

namespace Go.Proofs.Gr
open Go.SL Go.RowKit Go.Proofs Go.GP
set_option maxHeartbeats 1000000
theorem strs_one (l : List ByteArray) : (strs l).all (·.oneCell') = true := by
 rw [List.all_eq_true]
 intro v hv
 obtain ⟨a, _, rfl⟩ := List.mem_map.1 hv
 rfl
theorem strs_len (l : List ByteArray) : (strs l).length = l.length := List.length_map _
theorem strs_some {w0 : World} {S : SS} {A : Option Addr} {l : List ByteArray} (h : Rd w0 S A (strs l)) (hk : 0 < l.length) : ∃ a, A = some a :=
 h.some (fun e => by have := strs_len l; rw [e] at this; simp at this; omega)
theorem clone_fc {w0 : World} {S : SS} {A : Option Addr} {c : Nat} {l : List Vtx} (hx : Rd w0 S A (vtxs l)) (hb : l.length <= 1000000000000) :
  FC Try.prog w0 51 [.slice A l.length c] S (fun v S' => ∃ seg, S' = seg :: S /\ SlV 32 33 v l.length (vtxs l) seg) := by
 refine FC.ofD Try.known51 (by simp) ?_
 unfold Try.pc51
 simp only [argT]
 refine PW.seqOps ?_
 refine OL.dp rfl ?_
 refine OL.nil ?_
 refine PW.k1 0 rfl ?_
 refine PW.seq fun K1 hK1 => ?_
 refine PW.seqOps ?_
 refine OL.dp rfl ?_
 refine OL.det trivial (Yields.slNil rfl) ?_
 refine OL.nil ?_
 refine PW.k2 0 4 rfl rfl ?_
 refine PW.cond rfl (fun c4 => ?_) (fun c4 => ?_)
 ·try simp only [decide_eq_true_eq, decide_eq_false_iff_not, beq_iff_eq, bne_iff_ne, beq_eq_false_iff_ne, bne_eq_false_iff_eq, Bool.not_eq_true', Bool.not_eq_false', Bool.not_eq_true, ne_eq, Decidable.not_not] at c4
  refine PW.seqOps ?_
  refine OL.dp rfl ?_
  refine OL.nil ?_
  refine PW.k1 2 rfl ?_
  refine PW.ret ?_
  change (Exit.ret = Exit.normal ∨ Exit.ret = Exit.ret) /\ ∃ v, resV _ _ = some v /\ _
  obtain rfl : A = none := by cases A with
   | none => rfl
   | some a => simp at c4
  have hl : l = [] := by
   cases l with
   | nil => rfl
   | cons x l => obtain ⟨a, e⟩ := vtxs_some hx (by simp); cases e
  subst hl
  exact ⟨.inr rfl, _, rfl, _, Sub.nilL (Sub.refl _), [], rfl, SlV.nil 32 33⟩
 try simp only [decide_eq_true_eq, decide_eq_false_iff_not, beq_iff_eq, bne_iff_ne, beq_eq_false_iff_ne, bne_eq_false_iff_eq, Bool.not_eq_true', Bool.not_eq_false', Bool.not_eq_true, ne_eq, Decidable.not_not] at c4
 refine PW.skip ?_
 refine hK1 _ _ ?_
 refine PW.k1 0 rfl ?_
 refine PW.seqOps ?_
 refine OL.cons trivial OW.bsl0 ?_
 rintro _ _ ⟨r5, rfl, rfl⟩
 refine OL.dp rfl ?_
 obtain ⟨a0, rfl⟩ : ∃ a, A = some a := by cases A with
  | none => simp at c4
  | some a => exact ⟨a, rfl⟩
 refine OL.cons trivial (OW.app (k := 0) (m := 0) (xs := []) rfl rfl (SlV.mk' (cap := 0) rfl (Nat.le_refl 0) (by decide)) rfl (vtxs_len l) (fun j u hj => hx.cons.at hj) (vtxs_one l) (by omega) (by unfold maxLen; omega)) ?_
 rintro v7 _ ⟨seg7, rfl, hsl7⟩
 change OL _ _ _ _ _ (seg7 :: S) _
 rw [Nat.zero_add, List.nil_append] at hsl7
 refine OL.dp rfl ?_
 refine OL.nil ?_
 refine PW.k1 2 rfl ?_
 refine PW.ret ?_
 change (Exit.ret = Exit.normal ∨ Exit.ret = Exit.ret) /\ ∃ v, resV _ _ = some v /\ _
 exact ⟨.inr rfl, _, rfl, _, Sub.refl _, _, rfl, hsl7⟩
theorem cloneS_fc {w0 : World} {S : SS} {A : Option Addr} {c : Nat} {l : List ByteArray} (hx : Rd w0 S A (strs l)) (hb : l.length <= 1000000000000) :
  FC Try.prog w0 57 [.slice A l.length c] S (fun v S' => ∃ seg, S' = seg :: S /\ SlV 9 1 v l.length (strs l) seg) := by
 refine FC.ofD Try.known57 (by simp) ?_
 unfold Try.pc57
 simp only [argT]
 refine PW.seqOps ?_
 refine OL.dp rfl ?_
 refine OL.nil ?_
 refine PW.k1 0 rfl ?_
 refine PW.seq fun K1 hK1 => ?_
 refine PW.seqOps ?_
 refine OL.dp rfl ?_
 refine OL.det trivial (Yields.slNil rfl) ?_
 refine OL.nil ?_
 refine PW.k2 0 4 rfl rfl ?_
 refine PW.cond rfl (fun c4 => ?_) (fun c4 => ?_)
 ·try simp only [decide_eq_true_eq, decide_eq_false_iff_not, beq_iff_eq, bne_iff_ne, beq_eq_false_iff_ne, bne_eq_false_iff_eq, Bool.not_eq_true', Bool.not_eq_false', Bool.not_eq_true, ne_eq, Decidable.not_not] at c4
  refine PW.seqOps ?_
  refine OL.dp rfl ?_
  refine OL.nil ?_
  refine PW.k1 2 rfl ?_
  refine PW.ret ?_
  change (Exit.ret = Exit.normal ∨ Exit.ret = Exit.ret) /\ ∃ v, resV _ _ = some v /\ _
  obtain rfl : A = none := by cases A with
   | none => rfl
   | some a => simp at c4
  have hl : l = [] := by
   cases l with
   | nil => rfl
   | cons x l => obtain ⟨a, e⟩ := strs_some hx (by simp); cases e
  subst hl
  exact ⟨.inr rfl, _, rfl, _, Sub.nilL (Sub.refl _), [], rfl, SlV.nil 9 1⟩
 try simp only [decide_eq_true_eq, decide_eq_false_iff_not, beq_iff_eq, bne_iff_ne, beq_eq_false_iff_ne, bne_eq_false_iff_eq, Bool.not_eq_true', Bool.not_eq_false', Bool.not_eq_true, ne_eq, Decidable.not_not] at c4
 refine PW.skip ?_
 refine hK1 _ _ ?_
 refine PW.k1 0 rfl ?_
 refine PW.seqOps ?_
 refine OL.cons trivial OW.bsl0 ?_
 rintro _ _ ⟨r5, rfl, rfl⟩
 refine OL.dp rfl ?_
 obtain ⟨a0, rfl⟩ : ∃ a, A = some a := by cases A with
  | none => simp at c4
  | some a => exact ⟨a, rfl⟩
 refine OL.cons trivial (OW.app (k := 0) (m := 0) (xs := []) rfl rfl (SlV.mk' (cap := 0) rfl (Nat.le_refl 0) (by decide)) rfl ((strs_len l).trans (Nat.mul_one _).symm) (fun j u hj => hx.cons.at hj) (strs_one l) (by omega) (by unfold maxLen; omega)) ?_
 rintro v7 _ ⟨seg7, rfl, hsl7⟩
 change OL _ _ _ _ _ (seg7 :: S) _
 rw [Nat.zero_add, List.nil_append] at hsl7
 refine OL.dp rfl ?_
 refine OL.nil ?_
 refine PW.k1 2 rfl ?_
 refine PW.ret ?_
 change (Exit.ret = Exit.normal ∨ Exit.ret = Exit.ret) /\ ∃ v, resV _ _ = some v /\ _
 exact ⟨.inr rfl, _, rfl, _, Sub.refl _, _, rfl, hsl7⟩
theorem delete_fc {w0 : World} {S : SS} {r cap i : Nat} {l : List Vtx} (hi : i < l.length) (hc : l.length <= cap) (hm : cap <= maxLen) (hb : l.length <= 1000000000000) :
  FC Try.prog w0 111 [.slice (some ⟨r, 0, none⟩) l.length cap, .int .i64 (i : Int), .int .i64 ((i : Int) + 1)] ([(r, .cells (vtxs l) 32 (cap * 33))] :: S) (fun v S' => ∃ seg, S' = seg :: S /\ SlV 32 33 v (l.length - 1) (vtxs (l.eraseIdx i)) seg) := by
 obtain ⟨z, hz1, hz2⟩ : ∃ z, Try.prog.info? 32 = some z /\ z.size = 33 := Option.map_eq_some_iff.1 (show (Try.prog.info? 32).map (·.size) = some 33 by kernel_rfl)
 have hrd : Rd w0 ([(r, .cells (vtxs l) 32 (cap * 33))] :: S) (some ⟨r, 0, none⟩) (vtxs l) := Rd.own (E := 32) (tot := cap * 33) (by simp)
 obtain ⟨a2, ha2, hrd2⟩ := cut_rd hrd (show i + 1 <= l.length by omega) hc
 have hn33 : (vtxs (l.drop (i + 1))).length = (l.length - (i + 1)) * 33 := by rw [vtxs_len, List.length_drop]
 refine FC.of Try.known111 (by simp) ?_
 unfold Try.pc111
 simp only [argT]
 refine PW.seqOps ?_
 refine OL.dp rfl ?_
 refine OL.nil ?_
 refine PW.k3 0 1 2 rfl rfl rfl ?_
 refine PW.seqOps ?_
 refine OL.dp rfl ?_
 refine OL.dp rfl ?_
 refine OL.dp rfl ?_
 refine OL.dp rfl ?_
 refine OL.dp rfl ?_
 refine OL.det trivial (Yields.sl3 (l := i) (h := i + 1) (m := l.length) (A := some ⟨r, 0, none⟩) (cap := cap) (len := l.length) Try.underlying34 hz1 hz2 rfl rfl rfl rfl (by omega) (by omega) hc) ?_
 refine OL.nil ?_
 refine PW.k3 0 1 2 rfl rfl rfl ?_
 refine PW.seq fun K1 hK1 => ?_
 refine PW.seqOps ?_
 refine OL.dp rfl ?_
 refine OL.dp rfl ?_
 refine OL.det trivial (.to (v' := .bool false) (Yields.pure rfl) (congrArg Value.bool (decide_eq_false (by omega)))) ?_
 refine OL.nil ?_
 refine PW.k4 0 1 2 16 rfl rfl rfl rfl ?_
 refine PW.ite (b := false) rfl ?_
 rw [if_neg Bool.false_ne_true]
 refine PW.skip ?_
 refine hK1 _ _ ?_
 refine PW.k3 0 1 2 rfl rfl rfl ?_
 refine PW.seqOps ?_
 refine OL.dp rfl ?_
 refine OL.dp rfl ?_
 refine OL.dp rfl ?_
 refine OL.nil ?_
 refine PW.k4 0 1 2 7 rfl rfl rfl rfl ?_
 refine PW.seq fun K2 hK2 => ?_
 refine PW.quietK Try.mixed ?_
 refine QK.dp rfl ?_
 refine QK.dp rfl ?_
 refine QK.det trivial (.to (v' := .slice (some ⟨r, 0, none⟩) i cap) (Yields.slS (A := some ⟨r, 0, none⟩) (len := l.length) (cap := cap) (l := 0) (h := i) rfl rfl rfl (.inr ⟨rfl, rfl⟩) (.inl rfl) (by omega) (by omega)) (cutV0 _ _ _ _)) ?_
 refine QK.dp rfl ?_
 refine QK.dp rfl ?_
 refine QK.det trivial (.to (v' := .slice (some a2) (l.length - (i + 1)) (cap - (i + 1))) (Yields.slS (A := some ⟨r, 0, none⟩) (len := l.length) (cap := cap) (l := i + 1) (h := l.length) rfl rfl rfl (.inl rfl) (.inr ⟨rfl, rfl⟩) (by omega) (by omega)) (by unfold cutV; rw [ha2])) ?_
 refine QK.nil ?_
 change OL _ _ _ [_, _] _ _ _
 refine OL.cons trivial (OW.appIn (k := 0) (c := vtxs l) (news := vtxs (l.drop (i + 1))) rfl rfl rfl hn33 hrd2 (vtxs_one _) (by omega) (by rw [hn33, vtxs_len]; omega)) ?_
 rintro _ _ ⟨rfl, rfl⟩
 have hlen1 : i + (l.length - (i + 1)) = l.length - 1 := by omega
 rw [hlen1]
 refine OL.dp rfl ?_
 refine OL.nil ?_
 refine hK2 _ _ ?_
 refine PW.k2 0 7 rfl rfl ?_
 refine PW.seqOps ?_
 refine OL.dp rfl ?_
 refine OL.dp rfl ?_
 refine OL.dp rfl ?_
 refine OL.dp rfl ?_
 refine OL.det trivial (.to (v' := .slice (some ⟨r, (l.length - 1) * 33, none⟩) 1 (cap - (l.length - 1))) (Yields.slS (A := some ⟨r, 0, none⟩) (len := l.length - 1) (cap := cap) (l := l.length - 1) (h := l.length) rfl rfl rfl (.inl rfl) (.inl rfl) (by omega) (by omega)) (by unfold cutV; rw [if_neg (by omega)]; simp [Addr.add_lit]; omega)) ?_
 refine OL.cons trivial (OW.clr (k := 0) (c := setAt (vtxs l) (i * 33) (vtxs (l.drop (i + 1)))) (news := vtxL v0) rfl rfl (by omega) (by decide) (by kernel_rfl) (by rw [setAt_length, vtxs_len, vtxL_len]; omega) (vtxL_one _)) ?_
 rintro _ _ ⟨rfl, rfl⟩
 refine OL.nil ?_
 refine PW.k1 0 rfl ?_
 refine PW.seqOps ?_
 refine OL.tell (k := 0) rfl (fun w h => owns_take ((l.length - 1) * 33) h) ?_
 change OL _ _ _ _ _ ([(r, .cells ((setAt (setAt (vtxs l) (i * 33) (vtxs (l.drop (i + 1)))) ((l.length - 1) * 33) (vtxL v0)).take ((l.length - 1) * 33)) 32 (cap * 33))] :: S) _
 rw [del_cells hi (vtxL_len _)]
 refine OL.det trivial (.pure rfl) ?_
 refine OL.dp rfl ?_
 refine OL.nil ?_
 refine PW.k1 6 rfl ?_
 refine PW.ret ?_
 change (Exit.ret = Exit.normal ∨ Exit.ret = Exit.ret) /\ ∃ v, resV _ _ = some v /\ _
 exact ⟨.inr rfl, _, rfl, _, rfl, SlV.mk' (by rw [vtxs_len, List.length_eraseIdx, if_pos hi]) (by omega) hm⟩
end Go.Proofs.Gr

namespace Go.Proofs.Gr
open Go.SL Go.RowKit Go.Proofs Go.GP
set_option maxHeartbeats 1000000
theorem Sub.join3 {a b c d e : Seg} {S : SS} : Sub (a :: b :: c :: (d ++ e) :: S) (a :: b :: c :: d :: e :: S) := Sub.cons (Sub.cons (Sub.cons Sub.join))
theorem plN_mpt_gr {m : GrM} {a : Vtx} {n : NodeM} {seg : Seg} {k : Nat} : GrM.gr { m with nodes := mpt m.nodes a n, junk := m.junk ++ seg, lim := m.lim + k } = { m.gr with nodes := mpt m.gr.nodes a n.pl } := by
 unfold GrM.gr
 simp only [mpt_plN]
theorem okV_append {l : List Vtx} {b : Vtx} (h : ∀ v ∈ l, okV v) (hb : okV b) : ∀ v ∈ l ++ [b], okV v := fun v hv => by
 rcases List.mem_append.1 hv with h1 | h1
 ·exact h v h1
 rw [List.mem_singleton.1 h1]; exact hb
theorem link_fc {w0 : World} {S X : SS} {m : GrM} (hm : GOk w0 X m) (hX : Over X S) {a b : Vtx} (ha : okV a) (hb : okV b) (t : Bool) (hlim : m.lim + 1 <= 1000000000000) :
  FC Try.prog w0 87 [m.ptr, vtxV a, vtxV b, .bool t] (GS m ++ S) (fun v S' => v = .tuple #[] /\ ∃ m', S' = GS m' ++ S /\ GOk w0 X m' /\ m'.gr = linkG t m.gr (a, b) /\ m'.r = m.r /\ m'.lim = m.lim + 1 /\ ∀ x ∈ m.junk, x ∈ m'.junk) := by
 obtain ⟨z, hz1, hz2⟩ := zero100
 have hS : Over (GS m ++ X) (GS m ++ S) := Over.both hX
 obtain ⟨hb1, hb2, hb3⟩ := behA_ok hm a
 have hbl : ((behA m a).2.2).length <= 1000000000000 := by have := hm.lim; omega
 refine FC.ofD Try.known87 (by simp) ?_
 unfold Try.pc87
 simp only [argT]
 refine PW.seqOps ?_
 refine OL.cons trivial (OW.bx rfl) ?_
 rintro _ _ ⟨r5, rfl, rfl⟩
 rw [vtx_box, vtxL_len]
 refine OL.cons trivial (OW.bx rfl) ?_
 rintro _ _ ⟨r6, rfl, rfl⟩
 rw [vtx_box, vtxL_len]
 refine OL.nil ?_
 refine PW.k4 0 3 5 6 rfl rfl rfl rfl ?_
 refine PW.seqOps ?_
 refine OL.dp rfl ?_
 refine OL.det trivial (.ldA rfl (vtxL_len _) (all_at (List.mem_flatten.2 ⟨_, .tail _ (.head _), List.mem_singleton.2 rfl⟩))) ?_
 refine OL.call trivial rfl (behind_fc hm hS.cons.cons ha) ?_
 rintro _ Sx ⟨rfl, hSx⟩
 rw [hSx]
 clear hSx
 refine OL.call trivial rfl (clone_fc (hb1.junk hS.cons.cons) hbl) ?_
 rintro v14 _ ⟨seg14, rfl, hs14⟩
 obtain ⟨A14, c14, rfl, -, -, hr14⟩ := slv_rdL (w0 := w0) hs14
 refine OL.dp rfl ?_
 refine OL.nil ?_
 refine PW.k5 0 3 5 6 8 rfl rfl rfl rfl rfl ?_
 refine PW.seq fun K1 hK1 => ?_
 refine PW.seqOps ?_
 refine OL.dp rfl ?_
 refine OL.nil ?_
 refine PW.k5 0 5 6 8 15 rfl rfl rfl rfl rfl ?_
 refine PW.cond rfl (fun c15 => ?_) (fun c15 => ?_)
 ·try simp only [cvS] at c15
  refine PW.ops ?_
  refine OL.dp rfl ?_
  refine OL.det trivial (.ldA rfl (vtxL_len _) (all_at (List.mem_flatten.2 ⟨_, .tail _ (.head _), List.mem_singleton.2 rfl⟩))) ?_
  apply OL.app1 (k := 0)
  ·rfl
  ·rfl
  ·exact (List.size_toArray).trans (vtxL_len _)
  ·rfl
  ·rfl
  ·rfl
  ·exact hs14
  ·exact vtxL_one b
  ·omega
  ·unfold maxLen; omega
  intro v19 seg19 hs19
  change OL _ _ _ _ _ (seg19 :: vseg r6 b :: vseg r5 a :: (GS m ++ S)) _
  change SlV 32 33 v19 (_ + 1) (vtxs _ ++ vtxL b) seg19 at hs19
  rw [<- vtxs_one1, <- vtxs_app] at hs19
  obtain ⟨nx, hnx0⟩ : ∃ z, z = (behA m a).2.2 ++ [b] := ⟨_, rfl⟩
  have hnx : nx = if t = true then behindG m.gr a ++ [b] else (behindG m.gr a).erase b := by rw [hnx0]; rw [if_pos c15, behA_gr]
  have hnlen : nx.length <= m.lim + 1 := by rw [hnx0]; simp; omega
  have hnok : ∀ v ∈ nx, okV v := by rw [hnx0]; exact okV_append hb2 hb
  obtain ⟨sgn, hsg0⟩ : ∃ z : Seg, z = seg19 := ⟨_, rfl⟩
  obtain ⟨vn, hvn0⟩ : ∃ z : Value, z = v19 := ⟨_, rfl⟩
  have hsn : SlV 32 33 vn nx.length (vtxs nx) sgn := by rw [hnx0, hsg0, hvn0]; rw [List.length_append]; exact hs19
  rw [<- hsg0, <- hvn0]
  clear hsg0 hvn0 hnx0
  obtain ⟨An, cn, rfl, -, -, hrdn⟩ := slv_rdL (w0 := w0) hsn
  have hS2 : Over (GS m ++ X) (sgn :: vseg r6 b :: vseg r5 a :: (GS m ++ S)) := hS.cons.cons.cons
  refine OL.dp rfl ?_
  refine OL.nil ?_
  refine hK1 _ _ ?_
  refine PW.k3 0 5 8 rfl rfl rfl ?_
  refine PW.seq fun K2 hK2 => ?_
  refine PW.seq fun K3 hK3 => ?_
  refine PW.quietK Try.mixed ?_
  refine QK.det trivial (.ldA rfl (vtxL_len _) (all_at (List.mem_flatten.2 ⟨_, .tail _ (.tail _ (.head _)), List.mem_singleton.2 rfl⟩))) ?_
  refine QK.call trivial rfl (root_fc) ?_
  refine QK.nil ?_
  change OL _ _ _ [_] _ _ _
  refine OL.det trivial (.eqD (neg := false) rfl rfl (eqL_vtx _ _)) ?_
  refine OL.nil ?_
  refine hK3 _ _ ?_
  refine PW.k4 0 5 8 32 rfl rfl rfl rfl ?_
  refine PW.cond rfl (fun c32 => ?_) (fun c32 => ?_)
  ·try simp only [cvS] at c32
   refine PW.seqOps ?_
   refine OL.dp rfl ?_
   refine OL.dp rfl ?_
   refine OL.det trivial (Yields.nilc rfl) ?_
   refine OL.dp rfl ?_
   refine OL.cons trivial (OW.st (k := 3) (c := m.cells) (u := .slice An nx.length cn) rfl rfl rfl rfl (Nat.le_refl 4) rfl) ?_
   rintro _ _ rfl
   refine OL.nil ?_
   refine PW.keep (T' := []) trivial ?_
   refine PW.ret ?_
   change (Exit.ret = Exit.normal ∨ Exit.ret = Exit.ret) /\ ∃ v, resV _ _ = some v /\ _
   refine ⟨.inr rfl, _, rfl, _, (Sub.join3).trans (Sub.sel [3, 4, 5, 6, 0] 7 (by decide) _), rfl, { m with FA := An, fc := cn, first := nx, junk := m.junk ++ sgn, lim := m.lim + 1 }, rfl, hm.first' (hrdn []).junkL hnok hnlen hlim, ?_, rfl, rfl, fun x hx => List.mem_append_left _ hx⟩
   show _ = if a = rootV then { m.gr with first := if t = true then behindG m.gr a ++ [b] else (behindG m.gr a).erase b } else _
   rw [if_pos c32, <- hnx]
   rfl
  try simp only [cvS] at c32
  refine PW.skip ?_
  refine hK2 _ _ ?_
  refine PW.k3 0 5 8 rfl rfl rfl ?_
  refine PW.seq fun K4 hK4 => ?_
  refine PW.quietG (Ss := Over _) (fr := true) [(0, 0), (1, 0), (2, 0), (3, 0), (4, 0), (5, 0), (6, 3)] Try.mixed (by decide +kernel) (Over.refl _) (fun _ _ _ h => h.cons) ?_
  refine GL.dp rfl ?_
  refine GL.det trivial (fun Sx hSx => Yields.nilc rfl) ?_
  refine GL.dp rfl ?_
  refine GL.det trivial (fun Sx hSx => Yields.ld rfl (g_nodes (hS2.trans hSx))) ?_
  refine GL.det trivial (fun Sx hSx => Yields.ldA rfl (vtxL_len _) (all_at (c := vtxL a) (E := 32) (tot := 33) (hSx _ (List.mem_flatten.2 ⟨_, .tail _ (.tail _ (.head _)), List.mem_singleton.2 rfl⟩)))) ?_
  refine GL.det trivial (fun Sx hSx => Yields.lookG (okc := false) (a := a) Try.underlying55 hz1 hz2 keys32 hm.nk ha rfl rfl (GS_mem (hS2.trans hSx)).2.2.1) ?_
  refine GL.fresh trivial fun r10 => ?_
  change OL _ _ _ _ _ ([(r10, .cells [.string ⟨#[]⟩, .int .i64 0, .int .i64 0, .slice none 0 0] 100 4)] :: sgn :: vseg r6 b :: vseg r5 a :: (GS m ++ S)) _
  change OL _ _ _ [_] _ _ _
  refine OL.cons trivial (node_st rfl rfl _ _ _ _) ?_
  rintro _ _ rfl
  obtain ⟨n0, hn0⟩ : ∃ z, z = (mgt m.nodes a).getD zM := ⟨_, rfl⟩
  rw [<- hn0]
  refine OL.nil ?_
  refine hK4 _ _ ?_
  refine PW.k4 0 5 8 10 rfl rfl rfl rfl ?_
  refine PW.seqOps ?_
  refine OL.dp rfl ?_
  refine OL.dp rfl ?_
  refine OL.cons trivial (OW.st (k := 0) (c := nodeC n0) (u := .slice An nx.length cn) rfl rfl rfl rfl (Nat.le_refl 4) rfl) ?_
  rintro _ _ rfl
  obtain ⟨n2, hn2⟩ : ∃ z : NodeM, z = { n0 with A := An, c := cn, next := nx } := ⟨_, rfl⟩
  change OL _ _ _ _ _ ([(r10, .cells (nodeC { n0 with A := An, c := cn, next := nx }) 100 4)] :: sgn :: vseg r6 b :: vseg r5 a :: (GS m ++ S)) _
  rw [<- hn2]
  refine OL.nil ?_
  refine PW.k3 0 5 10 rfl rfl rfl ?_
  refine PW.quietK Try.mixed ?_
  refine QK.dp rfl ?_
  refine QK.det trivial (Yields.nilc rfl) ?_
  refine QK.dp rfl ?_
  refine QK.det trivial (.ld rfl (g_nodes hS2.cons)) ?_
  refine QK.det trivial (.ldA rfl (vtxL_len _) (all_at (c := vtxL a) (E := 32) (tot := 33) (List.mem_flatten.2 ⟨_, .tail _ (.tail _ (.tail _ (.head _))), List.mem_singleton.2 rfl⟩))) ?_
  refine QK.det trivial (.ldA rfl (cs := nodeC n2) rfl (all_at (c := nodeC n2) (E := 100) (tot := 4) (List.mem_flatten.2 ⟨_, .head _, List.mem_singleton.2 rfl⟩))) ?_
  refine QK.nil ?_
  change OL _ _ _ [_] _ _ _
  refine OL.cons trivial (OW.updG (j := 6) (v := n2) Try.underlying55 keys32 hm.nk ha rfl rfl rfl rfl) ?_
  rintro _ _ rfl
  refine OL.nil ?_
  change (Exit.normal = Exit.normal ∨ Exit.normal = Exit.ret) /\ ∃ v, resV _ _ = some v /\ _
  have hn0k := getD_ok hm a
  rw [<- hn0] at hn0k
  refine ⟨.inl rfl, _, rfl, _, (Sub.join3).trans (Sub.sel [4, 5, 6, 7, 1] 8 (by decide) _), rfl, { m with nodes := mpt m.nodes a n2, junk := m.junk ++ sgn, lim := m.lim + 1 }, rfl, hm.node' ha ?_ hlim, ?_, rfl, rfl, fun x hx => List.mem_append_left _ hx⟩
  ·rw [hn2]
   exact ⟨(hrdn []).junkL, hnok, hnlen, (hn0k.grow (b := sgn) (Nat.le_add_right _ 1)).gone, (hn0k.grow (b := sgn) (Nat.le_add_right _ 1)).named⟩
  rw [plN_mpt_gr]
  show _ = if a = rootV then _ else { m.gr with nodes := mpt m.gr.nodes a { nd m.gr.nodes a with next := if t = true then behindG m.gr a ++ [b] else (behindG m.gr a).erase b } }
  rw [if_neg c32, <- hnx, hn2]
  show _ = { m.gr with nodes := mpt m.gr.nodes a { nd (plN m.nodes) a with next := nx } }
  rw [nd_plN, <- hn0]
  rfl
 try simp only [cvS] at c15
 refine PW.seqOps ?_
 refine OL.dp rfl ?_
 refine OL.det trivial (.ldA rfl (vtxL_len _) (all_at (List.mem_flatten.2 ⟨_, .tail _ (.head _), List.mem_singleton.2 rfl⟩))) ?_
 refine OL.call trivial rfl (index_fc (l := (behA m a).2.2) (hr14 _) hbl) ?_
 rintro _ Sx ⟨rfl, hSx⟩
 rw [hSx]
 clear hSx
 refine OL.dp rfl ?_
 refine OL.nil ?_
 refine PW.k4 0 5 8 9 rfl rfl rfl rfl ?_
 refine PW.seqOps ?_
 refine OL.dp rfl ?_
 refine OL.dp rfl ?_
 refine OL.nil ?_
 refine PW.k5 0 5 8 9 24 rfl rfl rfl rfl rfl ?_
 refine PW.cond rfl (fun c24 => ?_) (fun c24 => ?_)
 ·try simp only [cvS] at c24
  obtain ⟨k, hk⟩ := Int.eq_ofNat_of_zero_le c24
  rw [hk]
  obtain ⟨hkl, hke⟩ := erase_idx hk
  obtain ⟨r14, cap14, e14, rfl, hc14, hm14⟩ := slv_own hs14 (by omega)
  simp only [Value.slice.injEq, true_and] at e14
  obtain ⟨rfl, rfl⟩ := e14
  refine PW.ops ?_
  refine OL.dp rfl ?_
  refine OL.dp rfl ?_
  refine OL.dp rfl ?_
  refine OL.det trivial (.add64 rfl rfl (by omega) (by omega)) ?_
  refine OL.call trivial rfl (delete_fc hkl hc14 hm14 hbl) ?_
  rintro v29 _ ⟨seg29, rfl, hs29⟩
  obtain ⟨nx, hnx0⟩ : ∃ z, z = (behA m a).2.2.eraseIdx k := ⟨_, rfl⟩
  have hnx : nx = if t = true then behindG m.gr a ++ [b] else (behindG m.gr a).erase b := by rw [hnx0]; rw [if_neg (by rw [c15]; simp), <- behA_gr, hke]
  have hnlen : nx.length <= m.lim + 1 := by rw [hnx0]; rw [List.length_eraseIdx, if_pos hkl]; omega
  have hnok : ∀ v ∈ nx, okV v := by rw [hnx0]; exact fun v hv => hb2 v (List.mem_of_mem_eraseIdx hv)
  obtain ⟨sgn, hsg0⟩ : ∃ z : Seg, z = seg29 := ⟨_, rfl⟩
  obtain ⟨vn, hvn0⟩ : ∃ z : Value, z = v29 := ⟨_, rfl⟩
  have hsn : SlV 32 33 vn nx.length (vtxs nx) sgn := by rw [hnx0, hsg0, hvn0]; rw [List.length_eraseIdx, if_pos hkl]; exact hs29
  rw [<- hsg0, <- hvn0]
  clear hsg0 hvn0 hnx0
  obtain ⟨An, cn, rfl, -, -, hrdn⟩ := slv_rdL (w0 := w0) hsn
  have hS2 : Over (GS m ++ X) (sgn :: vseg r6 b :: vseg r5 a :: (GS m ++ S)) := hS.cons.cons.cons
  refine OL.dp rfl ?_
  refine OL.nil ?_
  refine hK1 _ _ ?_
  refine PW.k3 0 5 8 rfl rfl rfl ?_
  refine PW.seq fun K5 hK5 => ?_
  refine PW.seq fun K6 hK6 => ?_
  refine PW.quietK Try.mixed ?_
  refine QK.det trivial (.ldA rfl (vtxL_len _) (all_at (List.mem_flatten.2 ⟨_, .tail _ (.tail _ (.head _)), List.mem_singleton.2 rfl⟩))) ?_
  refine QK.call trivial rfl (root_fc) ?_
  refine QK.nil ?_
  change OL _ _ _ [_] _ _ _
  refine OL.det trivial (.eqD (neg := false) rfl rfl (eqL_vtx _ _)) ?_
  refine OL.nil ?_
  refine hK6 _ _ ?_
  refine PW.k4 0 5 8 32 rfl rfl rfl rfl ?_
  refine PW.cond rfl (fun c32 => ?_) (fun c32 => ?_)
  ·try simp only [cvS] at c32
   refine PW.seqOps ?_
   refine OL.dp rfl ?_
   refine OL.dp rfl ?_
   refine OL.det trivial (Yields.nilc rfl) ?_
   refine OL.dp rfl ?_
   refine OL.cons trivial (OW.st (k := 3) (c := m.cells) (u := .slice An nx.length cn) rfl rfl rfl rfl (Nat.le_refl 4) rfl) ?_
   rintro _ _ rfl
   refine OL.nil ?_
   refine PW.keep (T' := []) trivial ?_
   refine PW.ret ?_
   change (Exit.ret = Exit.normal ∨ Exit.ret = Exit.ret) /\ ∃ v, resV _ _ = some v /\ _
   refine ⟨.inr rfl, _, rfl, _, (Sub.join3).trans (Sub.sel [3, 4, 5, 6, 0] 7 (by decide) _), rfl, { m with FA := An, fc := cn, first := nx, junk := m.junk ++ sgn, lim := m.lim + 1 }, rfl, hm.first' (hrdn []).junkL hnok hnlen hlim, ?_, rfl, rfl, fun x hx => List.mem_append_left _ hx⟩
   show _ = if a = rootV then { m.gr with first := if t = true then behindG m.gr a ++ [b] else (behindG m.gr a).erase b } else _
   rw [if_pos c32, <- hnx]
   rfl
  try simp only [cvS] at c32
  refine PW.skip ?_
  refine hK5 _ _ ?_
  refine PW.k3 0 5 8 rfl rfl rfl ?_
  refine PW.seq fun K7 hK7 => ?_
  refine PW.quietG (Ss := Over _) (fr := true) [(0, 0), (1, 0), (2, 0), (3, 0), (4, 0), (5, 0), (6, 3)] Try.mixed (by decide +kernel) (Over.refl _) (fun _ _ _ h => h.cons) ?_
  refine GL.dp rfl ?_
  refine GL.det trivial (fun Sx hSx => Yields.nilc rfl) ?_
  refine GL.dp rfl ?_
  refine GL.det trivial (fun Sx hSx => Yields.ld rfl (g_nodes (hS2.trans hSx))) ?_
  refine GL.det trivial (fun Sx hSx => Yields.ldA rfl (vtxL_len _) (all_at (c := vtxL a) (E := 32) (tot := 33) (hSx _ (List.mem_flatten.2 ⟨_, .tail _ (.tail _ (.head _)), List.mem_singleton.2 rfl⟩)))) ?_
  refine GL.det trivial (fun Sx hSx => Yields.lookG (okc := false) (a := a) Try.underlying55 hz1 hz2 keys32 hm.nk ha rfl rfl (GS_mem (hS2.trans hSx)).2.2.1) ?_
  refine GL.fresh trivial fun r10 => ?_
  change OL _ _ _ _ _ ([(r10, .cells [.string ⟨#[]⟩, .int .i64 0, .int .i64 0, .slice none 0 0] 100 4)] :: sgn :: vseg r6 b :: vseg r5 a :: (GS m ++ S)) _
  change OL _ _ _ [_] _ _ _
  refine OL.cons trivial (node_st rfl rfl _ _ _ _) ?_
  rintro _ _ rfl
  obtain ⟨n0, hn0⟩ : ∃ z, z = (mgt m.nodes a).getD zM := ⟨_, rfl⟩
  rw [<- hn0]
  refine OL.nil ?_
  refine hK7 _ _ ?_
  refine PW.k4 0 5 8 10 rfl rfl rfl rfl ?_
  refine PW.seqOps ?_
  refine OL.dp rfl ?_
  refine OL.dp rfl ?_
  refine OL.cons trivial (OW.st (k := 0) (c := nodeC n0) (u := .slice An nx.length cn) rfl rfl rfl rfl (Nat.le_refl 4) rfl) ?_
  rintro _ _ rfl
  obtain ⟨n2, hn2⟩ : ∃ z : NodeM, z = { n0 with A := An, c := cn, next := nx } := ⟨_, rfl⟩
  change OL _ _ _ _ _ ([(r10, .cells (nodeC { n0 with A := An, c := cn, next := nx }) 100 4)] :: sgn :: vseg r6 b :: vseg r5 a :: (GS m ++ S)) _
  rw [<- hn2]
  refine OL.nil ?_
  refine PW.k3 0 5 10 rfl rfl rfl ?_
  refine PW.quietK Try.mixed ?_
  refine QK.dp rfl ?_
  refine QK.det trivial (Yields.nilc rfl) ?_
  refine QK.dp rfl ?_
  refine QK.det trivial (.ld rfl (g_nodes hS2.cons)) ?_
  refine QK.det trivial (.ldA rfl (vtxL_len _) (all_at (c := vtxL a) (E := 32) (tot := 33) (List.mem_flatten.2 ⟨_, .tail _ (.tail _ (.tail _ (.head _))), List.mem_singleton.2 rfl⟩))) ?_
  refine QK.det trivial (.ldA rfl (cs := nodeC n2) rfl (all_at (c := nodeC n2) (E := 100) (tot := 4) (List.mem_flatten.2 ⟨_, .head _, List.mem_singleton.2 rfl⟩))) ?_
  refine QK.nil ?_
  change OL _ _ _ [_] _ _ _
  refine OL.cons trivial (OW.updG (j := 6) (v := n2) Try.underlying55 keys32 hm.nk ha rfl rfl rfl rfl) ?_
  rintro _ _ rfl
  refine OL.nil ?_
  change (Exit.normal = Exit.normal ∨ Exit.normal = Exit.ret) /\ ∃ v, resV _ _ = some v /\ _
  have hn0k := getD_ok hm a
  rw [<- hn0] at hn0k
  refine ⟨.inl rfl, _, rfl, _, (Sub.join3).trans (Sub.sel [4, 5, 6, 7, 1] 8 (by decide) _), rfl, { m with nodes := mpt m.nodes a n2, junk := m.junk ++ sgn, lim := m.lim + 1 }, rfl, hm.node' ha ?_ hlim, ?_, rfl, rfl, fun x hx => List.mem_append_left _ hx⟩
  ·rw [hn2]
   exact ⟨(hrdn []).junkL, hnok, hnlen, (hn0k.grow (b := sgn) (Nat.le_add_right _ 1)).gone, (hn0k.grow (b := sgn) (Nat.le_add_right _ 1)).named⟩
  rw [plN_mpt_gr]
  show _ = if a = rootV then _ else { m.gr with nodes := mpt m.gr.nodes a { nd m.gr.nodes a with next := if t = true then behindG m.gr a ++ [b] else (behindG m.gr a).erase b } }
  rw [if_neg c32, <- hnx, hn2]
  show _ = { m.gr with nodes := mpt m.gr.nodes a { nd (plN m.nodes) a with next := nx } }
  rw [nd_plN, <- hn0]
  rfl
 try simp only [cvS] at c24
 obtain ⟨nx, hnx0⟩ : ∃ z, z = (behA m a).2.2 := ⟨_, rfl⟩
 have hnx : nx = if t = true then behindG m.gr a ++ [b] else (behindG m.gr a).erase b := by rw [hnx0]; rw [if_neg (by rw [c15]; simp), <- behA_gr, erase_no (by omega)]
 have hnlen : nx.length <= m.lim + 1 := by rw [hnx0]; omega
 have hnok : ∀ v ∈ nx, okV v := by rw [hnx0]; exact hb2
 obtain ⟨sgn, hsg0⟩ : ∃ z : Seg, z = seg14 := ⟨_, rfl⟩
 obtain ⟨vn, hvn0⟩ : ∃ z : Value, z = .slice A14 (behA m a).2.2.length c14 := ⟨_, rfl⟩
 have hsn : SlV 32 33 vn nx.length (vtxs nx) sgn := by rw [hnx0, hsg0, hvn0]; exact hs14
 rw [<- hsg0, <- hvn0]
 clear hsg0 hvn0 hnx0
 obtain ⟨An, cn, rfl, -, -, hrdn⟩ := slv_rdL (w0 := w0) hsn
 have hS2 : Over (GS m ++ X) (sgn :: vseg r6 b :: vseg r5 a :: (GS m ++ S)) := hS.cons.cons.cons
 refine PW.skip ?_
 refine hK1 _ _ ?_
 refine PW.k3 0 5 8 rfl rfl rfl ?_
 refine PW.seq fun K8 hK8 => ?_
 refine PW.seq fun K9 hK9 => ?_
 refine PW.quietK Try.mixed ?_
 refine QK.det trivial (.ldA rfl (vtxL_len _) (all_at (List.mem_flatten.2 ⟨_, .tail _ (.tail _ (.head _)), List.mem_singleton.2 rfl⟩))) ?_
 refine QK.call trivial rfl (root_fc) ?_
 refine QK.nil ?_
 change OL _ _ _ [_] _ _ _
 refine OL.det trivial (.eqD (neg := false) rfl rfl (eqL_vtx _ _)) ?_
 refine OL.nil ?_
 refine hK9 _ _ ?_
 refine PW.k4 0 5 8 32 rfl rfl rfl rfl ?_
 refine PW.cond rfl (fun c32 => ?_) (fun c32 => ?_)
 ·try simp only [cvS] at c32
  refine PW.seqOps ?_
  refine OL.dp rfl ?_
  refine OL.dp rfl ?_
  refine OL.det trivial (Yields.nilc rfl) ?_
  refine OL.dp rfl ?_
  refine OL.cons trivial (OW.st (k := 3) (c := m.cells) (u := .slice An nx.length cn) rfl rfl rfl rfl (Nat.le_refl 4) rfl) ?_
  rintro _ _ rfl
  refine OL.nil ?_
  refine PW.keep (T' := []) trivial ?_
  refine PW.ret ?_
  change (Exit.ret = Exit.normal ∨ Exit.ret = Exit.ret) /\ ∃ v, resV _ _ = some v /\ _
  refine ⟨.inr rfl, _, rfl, _, (Sub.join3).trans (Sub.sel [3, 4, 5, 6, 0] 7 (by decide) _), rfl, { m with FA := An, fc := cn, first := nx, junk := m.junk ++ sgn, lim := m.lim + 1 }, rfl, hm.first' (hrdn []).junkL hnok hnlen hlim, ?_, rfl, rfl, fun x hx => List.mem_append_left _ hx⟩
  show _ = if a = rootV then { m.gr with first := if t = true then behindG m.gr a ++ [b] else (behindG m.gr a).erase b } else _
  rw [if_pos c32, <- hnx]
  rfl
 try simp only [cvS] at c32
 refine PW.skip ?_
 refine hK8 _ _ ?_
 refine PW.k3 0 5 8 rfl rfl rfl ?_
 refine PW.seq fun K10 hK10 => ?_
 refine PW.quietG (Ss := Over _) (fr := true) [(0, 0), (1, 0), (2, 0), (3, 0), (4, 0), (5, 0), (6, 3)] Try.mixed (by decide +kernel) (Over.refl _) (fun _ _ _ h => h.cons) ?_
 refine GL.dp rfl ?_
 refine GL.det trivial (fun Sx hSx => Yields.nilc rfl) ?_
 refine GL.dp rfl ?_
 refine GL.det trivial (fun Sx hSx => Yields.ld rfl (g_nodes (hS2.trans hSx))) ?_
 refine GL.det trivial (fun Sx hSx => Yields.ldA rfl (vtxL_len _) (all_at (c := vtxL a) (E := 32) (tot := 33) (hSx _ (List.mem_flatten.2 ⟨_, .tail _ (.tail _ (.head _)), List.mem_singleton.2 rfl⟩)))) ?_
 refine GL.det trivial (fun Sx hSx => Yields.lookG (okc := false) (a := a) Try.underlying55 hz1 hz2 keys32 hm.nk ha rfl rfl (GS_mem (hS2.trans hSx)).2.2.1) ?_
 refine GL.fresh trivial fun r10 => ?_
 change OL _ _ _ _ _ ([(r10, .cells [.string ⟨#[]⟩, .int .i64 0, .int .i64 0, .slice none 0 0] 100 4)] :: sgn :: vseg r6 b :: vseg r5 a :: (GS m ++ S)) _
 change OL _ _ _ [_] _ _ _
 refine OL.cons trivial (node_st rfl rfl _ _ _ _) ?_
 rintro _ _ rfl
 obtain ⟨n0, hn0⟩ : ∃ z, z = (mgt m.nodes a).getD zM := ⟨_, rfl⟩
 rw [<- hn0]
 refine OL.nil ?_
 refine hK10 _ _ ?_
 refine PW.k4 0 5 8 10 rfl rfl rfl rfl ?_
 refine PW.seqOps ?_
 refine OL.dp rfl ?_
 refine OL.dp rfl ?_
 refine OL.cons trivial (OW.st (k := 0) (c := nodeC n0) (u := .slice An nx.length cn) rfl rfl rfl rfl (Nat.le_refl 4) rfl) ?_
 rintro _ _ rfl
 obtain ⟨n2, hn2⟩ : ∃ z : NodeM, z = { n0 with A := An, c := cn, next := nx } := ⟨_, rfl⟩
 change OL _ _ _ _ _ ([(r10, .cells (nodeC { n0 with A := An, c := cn, next := nx }) 100 4)] :: sgn :: vseg r6 b :: vseg r5 a :: (GS m ++ S)) _
 rw [<- hn2]
 refine OL.nil ?_
 refine PW.k3 0 5 10 rfl rfl rfl ?_
 refine PW.quietK Try.mixed ?_
 refine QK.dp rfl ?_
 refine QK.det trivial (Yields.nilc rfl) ?_
 refine QK.dp rfl ?_
 refine QK.det trivial (.ld rfl (g_nodes hS2.cons)) ?_
 refine QK.det trivial (.ldA rfl (vtxL_len _) (all_at (c := vtxL a) (E := 32) (tot := 33) (List.mem_flatten.2 ⟨_, .tail _ (.tail _ (.tail _ (.head _))), List.mem_singleton.2 rfl⟩))) ?_
 refine QK.det trivial (.ldA rfl (cs := nodeC n2) rfl (all_at (c := nodeC n2) (E := 100) (tot := 4) (List.mem_flatten.2 ⟨_, .head _, List.mem_singleton.2 rfl⟩))) ?_
 refine QK.nil ?_
 change OL _ _ _ [_] _ _ _
 refine OL.cons trivial (OW.updG (j := 6) (v := n2) Try.underlying55 keys32 hm.nk ha rfl rfl rfl rfl) ?_
 rintro _ _ rfl
 refine OL.nil ?_
 change (Exit.normal = Exit.normal ∨ Exit.normal = Exit.ret) /\ ∃ v, resV _ _ = some v /\ _
 have hn0k := getD_ok hm a
 rw [<- hn0] at hn0k
 refine ⟨.inl rfl, _, rfl, _, (Sub.join3).trans (Sub.sel [4, 5, 6, 7, 1] 8 (by decide) _), rfl, { m with nodes := mpt m.nodes a n2, junk := m.junk ++ sgn, lim := m.lim + 1 }, rfl, hm.node' ha ?_ hlim, ?_, rfl, rfl, fun x hx => List.mem_append_left _ hx⟩
 ·rw [hn2]
  exact ⟨(hrdn []).junkL, hnok, hnlen, (hn0k.grow (b := sgn) (Nat.le_add_right _ 1)).gone, (hn0k.grow (b := sgn) (Nat.le_add_right _ 1)).named⟩
 rw [plN_mpt_gr]
 show _ = if a = rootV then _ else { m.gr with nodes := mpt m.gr.nodes a { nd m.gr.nodes a with next := if t = true then behindG m.gr a ++ [b] else (behindG m.gr a).erase b } }
 rw [if_neg c32, <- hnx, hn2]
 show _ = { m.gr with nodes := mpt m.gr.nodes a { nd (plN m.nodes) a with next := nx } }
 rw [nd_plN, <- hn0]
 rfl
end Go.Proofs.Gr

namespace Go.Proofs.Gr
open Go.SL Go.RowKit Go.Proofs Go.GP
set_option maxHeartbeats 1000000
theorem ptr_eq {m m' : GrM} (h : m'.r = m.r) : m'.ptr = m.ptr := by unfold GrM.ptr; rw [h]
theorem _root_.Go.SL.Rd.appR {w0 : World} {A B : SS} {a : Option Addr} {l : List Value} (h : Rd w0 B a l) : Rd w0 (A ++ B) a l := h.mono fun p hp => by simp only [List.flatten_append, List.mem_append]; exact .inr hp
def wayK (p : PartM) (k : Nat) : List Vtx := p.up :: (List.range k).map p.pl.vtx
theorem wayK_len (p : PartM) (k : Nat) : (wayK p k).length = k + 1 := by simp [wayK]
theorem wayK_succ (p : PartM) (k : Nat) : wayK p (k + 1) = wayK p k ++ [p.pl.vtx k] := by unfold wayK; rw [List.range_succ, List.map_append]; rfl
theorem way_eq (p : PartM) : wayK p p.lines.length ++ [p.down] = way p.pl := rfl
theorem way_ok {p : PartM} (hp : PartR p) : ∀ v ∈ way p.pl, okV v := by
 intro v hv
 unfold way at hv
 rcases List.mem_cons.1 hv with rfl | hv
 ·exact hp.up
 rcases List.mem_append.1 hv with h | h
 ·obtain ⟨i, hi, rfl⟩ := mem_own.1 h
  exact hp.vtx hi
 rw [List.mem_singleton.1 h]; exact hp.down
theorem links_fc {w0 : World} {S X : SS} {m : GrM} (hm : GOk w0 X m) (hX : Over X S) {p : PartM} (hp : PartR p) (t : Bool) (hlim : m.lim + p.lines.length + 1 <= 1000000000000) :
  FC Try.prog w0 59 [m.ptr, partV p, .bool t] (GS m ++ S) (fun v S' => v = .tuple #[] /\ ∃ m', S' = GS m' ++ S /\ GOk w0 X m' /\ m'.gr = linksG t m.gr (edges p.pl) /\ m'.r = m.r /\ m'.lim <= m.lim + p.lines.length + 1 /\ ∀ x ∈ m.junk, x ∈ m'.junk) := by
 have hll := hp.lines
 have hwl := way_len p.pl
 have hpl : p.pl.lines.length = p.lines.length := rfl
 refine FC.ofD Try.known59 (by simp) ?_
 unfold Try.pc59
 simp only [argT]
 refine PW.seqOps ?_
 refine OL.cons trivial (OW.bx rfl) ?_
 rintro _ _ ⟨r4, rfl, rfl⟩
 rw [part_box, partC_len]
 refine OL.nil ?_
 refine PW.k3 0 2 4 rfl rfl rfl ?_
 refine PW.seq fun K1 hK1 => ?_
 refine PW.seqOps ?_
 refine OL.dp rfl ?_
 refine OL.det trivial (.ld rfl (part_lines (p := p) (E := 36) (tot := 102) (List.mem_flatten.2 ⟨_, .head _, List.mem_singleton.2 rfl⟩))) ?_
 refine OL.dp rfl ?_
 refine OL.dp rfl ?_
 refine OL.nil ?_
 refine PW.k4 0 2 4 12 rfl rfl rfl rfl ?_
 refine PW.cond rfl (fun c12 => ?_) (fun c12 => ?_)
 ·try simp only [cvS] at c12
  refine PW.ret ?_
  change (Exit.ret = Exit.normal ∨ Exit.ret = Exit.ret) /\ ∃ v, resV _ _ = some v /\ _
  have he : edges p.pl = [] := by unfold edges; rw [if_pos (by omega)]
  refine ⟨.inr rfl, _, rfl, _, Sub.drop (Sub.refl _), rfl, m, rfl, hm, by rw [he]; rfl, rfl, by omega, fun _ h => h⟩
 try simp only [cvS] at c12
 refine PW.skip ?_
 refine hK1 _ _ ?_
 refine PW.k3 0 2 4 rfl rfl rfl ?_
 refine PW.seqOps ?_
 refine OL.dp rfl ?_
 refine OL.det trivial (.ldA rfl (vtxL_len _) (part_up (p := p) (E := 36) (tot := 102) (List.mem_flatten.2 ⟨_, .head _, List.mem_singleton.2 rfl⟩))) ?_
 refine OL.cons trivial (OW.bsl (fill_one (v := p.up) rfl rfl)) ?_
 rintro _ _ ⟨r15, rfl, rfl⟩
 rw [vtxL_len]
 have hs15 : SlV 32 33 (.slice (some ⟨r15, 0, none⟩) 1 1) (wayK p 0).length (vtxs (wayK p 0)) [(r15, .cells (vtxL p.up) 32 33)] := by
  have := SlV.mk' (E := 32) (sz := 33) (m := 1) (cap := 1) (r := r15) (xs := vtxL p.up) (by rw [vtxL_len]) (Nat.le_refl _) (by decide)
  simpa [wayK, vtxs] using this
 refine OL.dp rfl ?_
 refine OL.nil ?_
 refine PW.k4 0 2 4 6 rfl rfl rfl rfl ?_
 refine PW.seq fun K2 hK2 => ?_
 refine PW.seqOps ?_
 refine OL.dp rfl ?_
 refine OL.det trivial (.ld rfl (part_lines (p := p) (E := 36) (tot := 102) (List.mem_flatten.2 ⟨_, .tail _ (.head _), List.mem_singleton.2 rfl⟩))) ?_
 refine OL.dp rfl ?_
 refine OL.dp rfl ?_
 refine OL.nil ?_
 refine PW.k6 0 2 4 6 18 19 rfl rfl rfl rfl rfl rfl ?_
 refine PW.block ?_
 refine PW.k6 0 2 4 6 18 19 rfl rfl rfl rfl rfl rfl ?_
 refine PW.loopK (I := fun mm T S' => ∃ (k : Nat) (v : Value) (sg : Seg), (k <= p.lines.length /\ mm = p.lines.length - k /\ SlV 32 33 v (wayK p k).length (vtxs (wayK p k)) sg) /\ T = ([(0, m.ptr), (2, .bool t), (4, .pointer (some ⟨r4, 0, none⟩)), (6, v), (18, .int .i64 (p.lines.length : Int)), (19, .int .i64 k)] : TT) /\ S' = sg :: pseg r4 p :: (GS m ++ S)) (m := p.lines.length) ⟨0, _, _, ⟨by omega, by omega, hs15⟩, rfl, rfl⟩ ?_
 rintro mm _ _ ⟨k, v, sg, ⟨hk, hmm, hs⟩, rfl, rfl⟩
 refine PW.seqOps ?_
 refine OL.dp rfl ?_
 refine OL.nil ?_
 refine PW.k7 0 2 4 6 18 19 20 rfl rfl rfl rfl rfl rfl rfl ?_
 refine PW.seq fun K3 hK3 => ?_
 refine PW.cond rfl (fun c20 => ?_) (fun c20 => ?_)
 ·try simp only [cvS] at c20
  have hkl : k < p.lines.length := by omega
  refine PW.skip ?_
  refine hK3 _ _ ?_
  refine PW.k6 0 2 4 6 18 19 rfl rfl rfl rfl rfl rfl ?_
  refine PW.seq fun K4 hK4 => ?_
  refine PW.block ?_
  refine PW.seqOps ?_
  refine OL.dp rfl ?_
  refine OL.dp rfl ?_
  refine OL.nil ?_
  refine PW.k7 0 2 4 6 7 18 19 rfl rfl rfl rfl rfl rfl rfl ?_
  refine PW.ops ?_
  refine OL.dp rfl ?_
  refine OL.det trivial (.ldA rfl (partC_len _) (all_at (List.mem_flatten.2 ⟨_, .tail _ (.head _), List.mem_singleton.2 rfl⟩))) ?_
  refine OL.dp rfl ?_
  refine OL.call trivial rfl (vertex_fc (i := k) hp (by omega)) ?_
  rintro _ Sx ⟨rfl, hSx⟩
  rw [hSx]
  clear hSx
  apply OL.app1 (k := 0)
  ·rfl
  ·rfl
  ·exact (List.size_toArray).trans (vtxL_len _)
  ·rfl
  ·rfl
  ·rfl
  ·exact hs
  ·exact vtxL_one _
  ·rw [wayK_len]; omega
  ·rw [wayK_len]; unfold maxLen; omega
  intro v27 seg27 hs27
  change OL _ _ _ _ _ (seg27 :: pseg r4 p :: (GS m ++ S)) _
  change SlV 32 33 v27 (_ + 1) (vtxs _ ++ vtxL (p.pl.vtx k)) seg27 at hs27
  rw [<- vtxs_one1, <- vtxs_app, <- wayK_succ, wayK_len, <- wayK_len p (k + 1)] at hs27
  refine OL.dp rfl ?_
  refine OL.nil ?_
  refine hK4 _ _ ?_
  refine PW.k6 0 2 4 6 18 19 rfl rfl rfl rfl rfl rfl ?_
  refine PW.ops ?_
  refine OL.det trivial (.add64 rfl rfl (by omega) (by omega)) ?_
  refine OL.dp rfl ?_
  refine OL.nil ?_
  repeat rw [inBlk_n]
  try rw [thenK_n]
  refine LoopEnd.mk (T'' := [(0, _), (2, _), (4, _), (6, _), (18, _), (19, _)]) ⟨rfl, rfl, rfl, rfl, rfl, rfl, trivial⟩ ?_
  refine ⟨p.lines.length - (k + 1), by omega, k + 1, v27, seg27, ⟨by omega, rfl, hs27⟩, rfl, rfl⟩
 try simp only [cvS] at c20
 refine PW.exit ?_
 refine hK2 _ _ ?_
 refine PW.k4 0 2 4 6 rfl rfl rfl rfl ?_
 refine PW.seqOps ?_
 refine OL.dp rfl ?_
 refine OL.dp rfl ?_
 refine OL.det trivial (.ldA rfl (vtxL_len _) (part_down (p := p) (E := 36) (tot := 102) (List.mem_flatten.2 ⟨_, .tail _ (.head _), List.mem_singleton.2 rfl⟩))) ?_
 apply OL.app1 (k := 0)
 ·rfl
 ·rfl
 ·exact (List.size_toArray).trans (vtxL_len _)
 ·rfl
 ·rfl
 ·rfl
 ·exact hs
 ·exact vtxL_one _
 ·rw [wayK_len]; omega
 ·rw [wayK_len]; unfold maxLen; omega
 intro v33 seg33 hs33
 change OL _ _ _ _ _ (seg33 :: pseg r4 p :: (GS m ++ S)) _
 change SlV 32 33 v33 (_ + 1) (vtxs _ ++ vtxL p.down) seg33 at hs33
 obtain rfl : k = p.lines.length := by omega
 rw [<- vtxs_one1, <- vtxs_app, way_eq, wayK_len, <- hpl, show p.pl.lines.length + 1 + 1 = (way p.pl).length by omega] at hs33
 obtain ⟨Aw, cw, rfl, -, -, hrdw⟩ := slv_rdL (w0 := w0) hs33
 obtain ⟨aw, rfl⟩ := vtxs_some (hrdw []) (by omega)
 refine OL.dp rfl ?_
 refine OL.nil ?_
 refine PW.k3 0 2 6 rfl rfl rfl ?_
 refine PW.seqOps ?_
 refine OL.subS (S' := GS m ++ (seg33 :: pseg r4 p :: S)) (Sub.sel [2, 3, 4, 5, 0, 1] 6 (by decide) (seg33 :: pseg r4 p :: (GS m ++ S))) ?_
 refine OL.det trivial (.pure rfl) ?_
 refine OL.nil ?_
 refine PW.k4 0 2 6 8 rfl rfl rfl rfl ?_
 refine PW.block ?_
 refine PW.k4 0 2 6 8 rfl rfl rfl rfl ?_
 refine PW.loopK (I := fun mm T S' => ∃ (i : Nat) (m1 : GrM), (i + 1 <= (way p.pl).length /\ mm = (way p.pl).length - (i + 1) /\ GOk w0 X m1 /\ m1.gr = linksG t m.gr ((edgeL (way p.pl)).take i) /\ m1.r = m.r /\ m1.lim <= m.lim + i /\ ∀ x ∈ m.junk, x ∈ m1.junk) /\ T = ([(0, m.ptr), (2, .bool t), (6, .slice (some aw) (way p.pl).length cw), (8, .int .i64 ((i : Int) + 1))] : TT) /\ S' = GS m1 ++ (seg33 :: pseg r4 p :: S)) (m := (way p.pl).length - 1) ⟨0, m, ⟨by omega, by omega, hm, rfl, rfl, Nat.le_refl _, fun _ h => h⟩, rfl, rfl⟩ ?_
 rintro mm _ _ ⟨i, m1, ⟨hi, hmm, hm1, hg1, hr1, hl1, hj1⟩, rfl, rfl⟩
 refine PW.seq fun K5 hK5 => ?_
 refine PW.seqOps ?_
 refine OL.dp rfl ?_
 refine OL.dp rfl ?_
 refine OL.dp rfl ?_
 refine OL.dp rfl ?_
 refine OL.nil ?_
 refine PW.k5 0 2 6 8 37 rfl rfl rfl rfl rfl ?_
 refine PW.cond rfl (fun c37 => ?_) (fun c37 => ?_)
 ·try simp only [cvS] at c37
  have hlt : i + 1 < (way p.pl).length := by omega
  refine PW.skip ?_
  refine hK5 _ _ ?_
  refine PW.k4 0 2 6 8 rfl rfl rfl rfl ?_
  refine PW.seq fun K6 hK6 => ?_
  refine PW.block ?_
  refine PW.quietK Try.mixed ?_
  refine QK.dp rfl ?_
  refine QK.dp rfl ?_
  refine QK.dp rfl ?_
  refine QK.det trivial (.sub64 rfl rfl (by omega) (by omega)) ?_
  refine QK.det trivial (.ixN rfl rfl (show (i : Int) + 1 - 1 = (i : Int) by omega) (by omega)) ?_
  refine QK.det trivial (.ldA rfl (vtxL_len _) (vtx_at (Rd.appR (hrdw _)) (k := i) (by omega))) ?_
  refine QK.dp rfl ?_
  refine QK.dp rfl ?_
  refine QK.det trivial (.ixN rfl rfl rfl (by omega)) ?_
  refine QK.det trivial (.ldA rfl (vtxL_len _) (vtx_at (Rd.appR (hrdw _)) (k := i + 1) hlt)) ?_
  refine QK.dp rfl ?_
  refine QK.nil ?_
  change OL _ _ _ [_] _ _ _
  refine OL.call trivial rfl (by rw [<- ptr_eq hr1]; exact link_fc hm1 hX.cons.cons (way_ok hp _ (List.getElem_mem _)) (way_ok hp _ (List.getElem_mem _)) t (by omega)) ?_
  rintro _ _ ⟨rfl, m2, rfl, hm2, hg2, hr2, hl2, hj2⟩
  refine OL.nil ?_
  refine hK6 _ _ ?_
  refine PW.k4 0 2 6 8 rfl rfl rfl rfl ?_
  refine PW.ops ?_
  refine OL.dp rfl ?_
  refine OL.det trivial (.add64 rfl rfl (by omega) (by omega)) ?_
  refine OL.dp rfl ?_
  refine OL.nil ?_
  repeat rw [inBlk_n]
  try rw [thenK_n]
  refine LoopEnd.mk (T'' := [(0, _), (2, _), (6, _), (8, _)]) ⟨rfl, rfl, rfl, rfl, trivial⟩ ?_
  refine ⟨(way p.pl).length - (i + 2), by omega, i + 1, m2, ⟨by omega, by omega, hm2, ?_, hr2.trans hr1, by omega, fun x hx => hj2 x (hj1 x hx)⟩, rfl, rfl⟩
  rw [hg2, hg1, edgeL_take hlt, linksG_snoc]
 try simp only [cvS] at c37
 refine PW.exit ?_
 change (Exit.normal = Exit.normal ∨ Exit.normal = Exit.ret) /\ ∃ v, resV _ _ = some v /\ _
 have he : edges p.pl = edgeL (way p.pl) := by unfold edges; rw [if_neg (by omega)]
 have hie : i + 1 = (way p.pl).length := by omega
 refine ⟨.inl rfl, _, rfl, _, Sub.sel [0, 1, 2, 3] 6 (by decide) _, rfl, m1, rfl, hm1, ?_, hr1, by omega, hj1⟩
 rw [hg1, he, List.take_of_length_le (by rw [edgeL_len]; omega)]
end Go.Proofs.Gr

namespace Go.Proofs.Gr
open Go.SL Go.RowKit Go.Proofs Go.GP
set_option maxHeartbeats 1000000
theorem names_ok {p : PartM} (hp : PartR p) : ∀ v ∈ names p.pl, okV v := by
 intro v hv
 unfold names at hv
 rcases List.mem_cons.1 hv with rfl | hv
 ·exact hp.up
 rcases List.mem_cons.1 hv with rfl | hv
 ·exact hp.down
 exact hp.gone v hv
theorem foldl_snoc {α β : Type} (f : β -> α -> β) (b : β) {l : List α} {k : Nat} (hk : k < l.length) : (l.take (k + 1)).foldl f b = f ((l.take k).foldl f b) l[k] := by
 rw [List.take_add_one, List.getElem?_eq_getElem hk, List.foldl_append]; rfl
def okD (d : Int) : Prop := d = 1 ∨ d = -1
theorem count_fc {w0 : World} {S X : SS} {m : GrM} (hm : GOk w0 X m) (hX : Over X S) {p : PartM} (hp : PartR p) (hgo : Rd w0 S p.GA (vtxs p.gone) ∨ Rd w0 (m.junk :: X) p.GA (vtxs p.gone)) {d : Int} (hd : okD d) (hlim : m.lim + (p.gone.length + 2) + p.gone.length <= 1000000000000) :
  FC Try.prog w0 60 [m.ptr, partV p, .int .i64 d] (GS m ++ S) (fun v S' => v = .tuple #[] /\ ∃ m', S' = GS m' ++ S /\ GOk w0 X m' /\ m'.gr = { m.gr with nodes := countG d m.gr.nodes p.pl } /\ m'.r = m.r /\ m'.lim <= m.lim + (p.gone.length + 2) + p.gone.length /\ ∀ x ∈ m.junk, x ∈ m'.junk) := by
 have hgl := hp.gones
 have hnl : (names p.pl).length = p.gone.length + 2 := names_len p.pl
 obtain ⟨z, hz1, hz2⟩ := zero100
 have hdr : -1 <= d /\ d <= 1 := by rcases hd with rfl | rfl <;> decide
 have hgo2 : ∀ m1 : GrM, m1.junk = m.junk -> ∀ Y, Rd w0 (GS m1 ++ (Y ++ S)) p.GA (vtxs p.gone) := fun m1 hj Y => by
  rcases hgo with h | h
  ·exact (h.appR (A := Y)).appR
  exact (hj ▸ h).junk (Over.both (Over.appR hX))
 refine FC.ofD Try.known60 (by simp) ?_
 unfold Try.pc60
 simp only [argT]
 refine PW.seqOps ?_
 refine OL.cons trivial (OW.bx rfl) ?_
 rintro _ _ ⟨r4, rfl, rfl⟩
 rw [part_box, partC_len]
 refine OL.nil ?_
 refine PW.k3 0 2 4 rfl rfl rfl ?_
 refine PW.seq fun K1 hK1 => ?_
 refine PW.seqOps ?_
 refine OL.dp rfl ?_
 refine OL.det trivial (.ldA rfl (vtxL_len _) (part_up (p := p) (E := 36) (tot := 102) (List.mem_flatten.2 ⟨_, .head _, List.mem_singleton.2 rfl⟩))) ?_
 refine OL.dp rfl ?_
 refine OL.det trivial (.ldA rfl (vtxL_len _) (part_down (p := p) (E := 36) (tot := 102) (List.mem_flatten.2 ⟨_, .head _, List.mem_singleton.2 rfl⟩))) ?_
 refine OL.cons trivial (OW.bsl (fill_two (v := p.up) (u := p.down) rfl rfl rfl)) ?_
 rintro _ _ ⟨r17, rfl, rfl⟩
 rw [vtxs_len]
 have hs17 : SlV 32 33 (.slice (some ⟨r17, 0, none⟩) 2 2) 2 (vtxs [p.up, p.down]) [(r17, .cells (vtxs [p.up, p.down]) 32 66)] := SlV.mk' (by rw [vtxs_len]; rfl) (Nat.le_refl _) (by decide)
 refine OL.dp rfl ?_
 refine OL.det trivial (.ld rfl (part_gone (p := p) (E := 36) (tot := 102) (List.mem_flatten.2 ⟨_, .tail _ (.head _), List.mem_singleton.2 rfl⟩))) ?_
 refine OL.cons trivial (OW.appL (k := 0) (m := 2) (xs := vtxs [p.up, p.down]) (news := vtxs p.gone) rfl rfl hs17 rfl (vtxs_len _) (hgo2 m rfl []).cons.cons (by decide) hp.gnil (vtxs_one _) (by omega) (by unfold maxLen; omega)) ?_
 rintro v20 _ ⟨seg20, rfl, hs20⟩
 change OL _ _ _ _ _ (seg20 :: pseg r4 p :: (GS m ++ S)) _
 rw [<- vtxs_app] at hs20
 change SlV 32 33 v20 (2 + p.gone.length) (vtxs (names p.pl)) seg20 at hs20
 rw [show 2 + p.gone.length = (names p.pl).length by rw [hnl]; omega] at hs20
 obtain ⟨Aw, cw, rfl, -, -, hrdw⟩ := slv_rdL (w0 := w0) hs20
 obtain ⟨aw, rfl⟩ := vtxs_some (hrdw []) (by omega)
 refine OL.subS (S' := GS m ++ (seg20 :: pseg r4 p :: S)) (Sub.sel [2, 3, 4, 5, 0, 1] 6 (by decide) (seg20 :: pseg r4 p :: (GS m ++ S))) ?_
 refine OL.dp rfl ?_
 refine OL.dp rfl ?_
 refine OL.nil ?_
 refine PW.k6 0 2 4 20 21 22 rfl rfl rfl rfl rfl rfl ?_
 refine PW.block ?_
 refine PW.k6 0 2 4 20 21 22 rfl rfl rfl rfl rfl rfl ?_
 refine PW.loopK (I := fun mm T S' => ∃ (k : Nat) (m1 : GrM), (k <= (names p.pl).length /\ mm = (names p.pl).length - k /\ GOk w0 X m1 /\ m1.parts = m.parts /\ m1.first = m.first /\ plN m1.nodes = ((names p.pl).take k).foldl (name1 d) m.gr.nodes /\ m1.r = m.r /\ m1.lim <= m.lim + k /\ m1.junk = m.junk) /\ T = ([(0, m.ptr), (2, .int .i64 d), (4, .pointer (some ⟨r4, 0, none⟩)), (20, .slice (some aw) (names p.pl).length cw), (21, .int .i64 ((names p.pl).length : Int)), (22, .int .i64 k)] : TT) /\ S' = GS m1 ++ (seg20 :: pseg r4 p :: S)) (m := (names p.pl).length) ⟨0, m, ⟨by omega, by omega, hm, rfl, rfl, rfl, rfl, Nat.le_refl _, rfl⟩, rfl, rfl⟩ ?_
 rintro mm _ _ ⟨k, m1, ⟨hk, hmm, hm1, hp1, hf1, hg1, hr1, hl1, hj1⟩, rfl, rfl⟩
 refine PW.seqOps ?_
 refine OL.dp rfl ?_
 refine OL.nil ?_
 refine PW.k7 0 2 4 20 21 22 23 rfl rfl rfl rfl rfl rfl rfl ?_
 refine PW.seq fun K2 hK2 => ?_
 refine PW.cond rfl (fun c23 => ?_) (fun c23 => ?_)
 ·try simp only [cvS] at c23
  have hkl : k < (names p.pl).length := by omega
  refine PW.skip ?_
  refine hK2 _ _ ?_
  refine PW.k6 0 2 4 20 21 22 rfl rfl rfl rfl rfl rfl ?_
  refine PW.seq fun K3 hK3 => ?_
  refine PW.block ?_
  refine PW.seqOps ?_
  refine OL.det trivial (.ixN rfl rfl rfl (by omega)) ?_
  refine OL.det trivial (.ldA rfl (vtxL_len _) (vtx_at (Rd.appR (hrdw _)) hkl)) ?_
  refine OL.cons trivial OW.al ?_
  rintro _ _ ⟨r7, rfl, rfl⟩
  refine OL.cons trivial (vtx_st rfl rfl rfl) ?_
  rintro _ _ rfl
  obtain ⟨v, hv⟩ : ∃ z, z = (names p.pl)[k] := ⟨_, rfl⟩
  rw [<- hv]
  have hov : okV v := by rw [hv]; exact names_ok hp _ (List.getElem_mem hkl)
  have hS1 : Over (GS m1 ++ X) (vseg r7 v :: (GS m1 ++ (seg20 :: pseg r4 p :: S))) := (Over.both hX.cons.cons).cons
  refine OL.nil ?_
  refine PW.k7 0 2 4 7 20 21 22 rfl rfl rfl rfl rfl rfl rfl ?_
  refine PW.seq fun K4 hK4 => ?_
  refine PW.quietG (Ss := Over (vseg r7 v :: (GS m1 ++ (seg20 :: pseg r4 p :: S)))) (fr := false) [(0, 0), (1, 0), (2, 0), (3, 0), (4, 0), (5, 0), (6, 0), (7, 0), (8, 0), (9, 2), (10, 2)] Try.mixed (by decide +kernel) (Over.refl _) (fun h => by cases h) ?_
  refine GL.dp rfl ?_
  refine GL.det trivial (fun Sx hSx => Yields.nilc rfl) ?_
  refine GL.dp rfl ?_
  refine GL.det trivial (fun Sx hSx => Yields.ld rfl (by rw [<- hr1]; exact g_nodes (hS1.trans hSx))) ?_
  refine GL.det trivial (fun Sx hSx => Yields.ldA rfl (vtxL_len _) (all_at (c := vtxL v) (E := 32) (tot := 33) (hSx _ (List.mem_flatten.2 ⟨_, .head _, List.mem_singleton.2 rfl⟩)))) ?_
  refine GL.det trivial (fun Sx hSx => Yields.lookG (okc := true) (a := v) Try.underlying55 hz1 hz2 keys32 hm1.nk hov rfl rfl (GS_mem (hS1.trans hSx)).2.2.1) ?_
  refine GL.dp rfl ?_
  refine GL.dp rfl ?_
  refine GL.dp rfl ?_
  refine GL.lo trivial (OW.mono (OW.al) ?_)
  rintro _ _ ⟨r8, rfl, rfl⟩
  refine ⟨(Over.refl _).cons, ?_⟩
  refine GL.lo trivial (OW.mono (node_st rfl rfl _ _ _ _) ?_)
  rintro _ _ rfl
  refine ⟨(Over.refl _).cons, ?_⟩
  obtain ⟨n0, hn0⟩ : ∃ z, z = (mgt m1.nodes v).getD zM := ⟨_, rfl⟩
  rw [<- hn0]
  have hok0 := getD_ok hm1 v
  rw [<- hn0] at hok0
  change OL _ _ _ [_] _ _ _
  refine OL.dp rfl ?_
  refine OL.nil ?_
  refine hK4 _ _ ?_
  refine PW.k9 0 2 4 7 8 9 20 21 22 rfl rfl rfl rfl rfl rfl rfl rfl rfl ?_
  refine PW.seqOps ?_
  refine OL.dp rfl ?_
  refine OL.nil ?_
  refine PW.k9 0 2 4 7 8 20 21 22 35 rfl rfl rfl rfl rfl rfl rfl rfl rfl ?_
  refine PW.cond rfl (fun c35 => ?_) (fun c35 => ?_)
  ·skip
   have hsm : mgt m1.nodes v = some n0 := by
    cases h : mgt m1.nodes v with
    | none => rw [h] at c35; cases c35
    | some n => rw [h] at hn0; rw [hn0]; rfl
   refine PW.seqOps ?_
   refine OL.dp rfl ?_
   refine OL.det trivial (.ld rfl (own_at (j := 2) (c := nodeC n0) (E := 100) (tot := 4) (List.mem_flatten.2 ⟨_, .head _, List.mem_singleton.2 rfl⟩) rfl)) ?_
   refine OL.dp rfl ?_
   refine OL.det trivial (.add64 rfl rfl (by have := hok0.named; omega) (by have := hok0.named; omega)) ?_
   refine OL.dp rfl ?_
   refine OL.cons trivial (OW.st (k := 0) (c := nodeC n0) (u := .int .i64 (n0.named + d)) rfl rfl rfl rfl (Nat.le_succ 3) rfl) ?_
   rintro _ _ rfl
   obtain ⟨n2, hn2⟩ : ∃ z : NodeM, z = { n0 with named := n0.named + d } := ⟨_, rfl⟩
   change OL _ _ _ _ _ ([(r8, .cells (nodeC { n0 with named := n0.named + d }) 100 4)] :: vseg r7 v :: GS m1 ++ (seg20 :: pseg r4 p :: S)) _
   rw [<- hn2]
   refine OL.nil ?_
   refine PW.k8 0 2 4 7 8 20 21 22 rfl rfl rfl rfl rfl rfl rfl rfl ?_
   refine PW.quietK Try.mixed ?_
   refine QK.dp rfl ?_
   refine QK.det trivial (Yields.nilc rfl) ?_
   refine QK.dp rfl ?_
   refine QK.det trivial (.ld rfl (by rw [<- hr1]; exact g_nodes hS1.cons)) ?_
   refine QK.det trivial (.ldA rfl (vtxL_len _) (all_at (c := vtxL v) (E := 32) (tot := 33) (List.mem_flatten.2 ⟨_, .tail _ (.head _), List.mem_singleton.2 rfl⟩))) ?_
   refine QK.det trivial (.ldA rfl (cs := nodeC n2) rfl (all_at (c := nodeC n2) (E := 100) (tot := 4) (List.mem_flatten.2 ⟨_, .head _, List.mem_singleton.2 rfl⟩))) ?_
   refine QK.nil ?_
   change OL _ _ _ [_] _ _ _
   refine OL.cons trivial (OW.updG (j := 4) (v := n2) Try.underlying55 keys32 hm1.nk hov rfl rfl rfl rfl) ?_
   rintro _ _ rfl
   refine OL.nil ?_
   refine hK3 _ _ ?_
   refine PW.k6 0 2 4 20 21 22 rfl rfl rfl rfl rfl rfl ?_
   refine PW.ops ?_
   refine OL.det trivial (.add64 rfl rfl (by omega) (by omega)) ?_
   refine OL.dp rfl ?_
   refine OL.nil ?_
   repeat rw [inBlk_n]
   try rw [thenK_n]
   refine LoopEnd.mkS (Sub.drop (Sub.drop (Sub.refl _))) (T'' := [(0, _), (2, _), (4, _), (20, _), (21, _), (22, _)]) ⟨rfl, rfl, rfl, rfl, rfl, rfl, trivial⟩ ?_
   refine ⟨(names p.pl).length - (k + 1), by omega, k + 1, { m1 with nodes := mpt m1.nodes v n2, lim := m1.lim + 1 }, ⟨by omega, rfl, hm1.node0 hov ?_ (by omega), hp1, hf1, ?_, hr1, (by show m1.lim + 1 <= _; omega), hj1⟩, rfl, rfl⟩
   ·rw [hn2]
    exact ⟨hok0.rd, hok0.ok, Nat.le_trans hok0.len (Nat.le_add_right _ _), (hok0.grow (b := []) (Nat.le_add_right _ 1)).gone, (by have := hok0.named; show -((m1.lim + 1 : Nat) : Int) <= n0.named + d /\ n0.named + d <= ((m1.lim + 1 : Nat) : Int); omega)⟩
   show plN (mpt m1.nodes v n2) = _
   rw [mpt_plN, foldl_snoc _ _ hkl, <- hg1, <- hv]
   unfold name1
   rw [mgt_plN, hsm, hn2]
   rfl
  skip
  have hsm : mgt m1.nodes v = none := by
   cases h : mgt m1.nodes v with
   | none => rfl
   | some n => rw [h] at c35; cases c35
  refine PW.skip ?_
  refine hK3 _ _ ?_
  refine PW.k6 0 2 4 20 21 22 rfl rfl rfl rfl rfl rfl ?_
  refine PW.ops ?_
  refine OL.det trivial (.add64 rfl rfl (by omega) (by omega)) ?_
  refine OL.dp rfl ?_
  refine OL.nil ?_
  repeat rw [inBlk_n]
  try rw [thenK_n]
  refine LoopEnd.mkS (Sub.drop (Sub.drop (Sub.refl _))) (T'' := [(0, _), (2, _), (4, _), (20, _), (21, _), (22, _)]) ⟨rfl, rfl, rfl, rfl, rfl, rfl, trivial⟩ ?_
  refine ⟨(names p.pl).length - (k + 1), by omega, k + 1, m1, ⟨by omega, rfl, hm1, hp1, hf1, ?_, hr1, by omega, hj1⟩, rfl, rfl⟩
  rw [foldl_snoc _ _ hkl, <- hg1, <- hv]
  unfold name1
  rw [mgt_plN, hsm]
  rfl
 try simp only [cvS] at c23
 refine PW.exit ?_
 refine hK1 _ _ ?_
 refine PW.k3 0 2 4 rfl rfl rfl ?_
 refine PW.seqOps ?_
 have hg1e : plN m1.nodes = (names p.pl).foldl (name1 d) m.gr.nodes := by rw [hg1, List.take_of_length_le (by omega)]
 refine OL.dp rfl ?_
 refine OL.det trivial (.ld rfl (part_gone (p := p) (E := 36) (tot := 102) (by simp))) ?_
 refine OL.dp rfl ?_
 refine OL.dp rfl ?_
 refine OL.nil ?_
 refine PW.k5 0 2 49 50 51 rfl rfl rfl rfl rfl ?_
 refine PW.block ?_
 refine PW.k5 0 2 49 50 51 rfl rfl rfl rfl rfl ?_
 refine PW.loopK (I := fun mm T S' => ∃ (k : Nat) (m1 : GrM), (k <= p.gone.length /\ mm = p.gone.length - k /\ GOk w0 X m1 /\ m1.parts = m.parts /\ m1.first = m.first /\ plN m1.nodes = (p.gone.take k).foldl (gone1 d) ((names p.pl).foldl (name1 d) m.gr.nodes) /\ m1.r = m.r /\ m1.lim <= m.lim + (p.gone.length + 2) + k /\ m1.junk = m.junk) /\ T = ([(0, m.ptr), (2, .int .i64 d), (49, .slice p.GA p.gone.length p.gc), (50, .int .i64 (p.gone.length : Int)), (51, .int .i64 k)] : TT) /\ S' = GS m1 ++ (seg20 :: pseg r4 p :: S)) (m := p.gone.length) ⟨0, m1, ⟨by omega, by omega, hm1, hp1, hf1, hg1e, hr1, by omega, hj1⟩, rfl, rfl⟩ ?_
 rintro mm _ _ ⟨k, m1, ⟨hk, hmm, hm1, hp1, hf1, hg1, hr1, hl1, hj1⟩, rfl, rfl⟩
 refine PW.seqOps ?_
 refine OL.dp rfl ?_
 refine OL.nil ?_
 refine PW.k6 0 2 49 50 51 52 rfl rfl rfl rfl rfl rfl ?_
 refine PW.seq fun K5 hK5 => ?_
 refine PW.cond rfl (fun c52 => ?_) (fun c52 => ?_)
 ·try simp only [cvS] at c52
  have hkl : k < p.gone.length := by omega
  have hrg0 := hgo2 m1 hj1 [seg20, pseg r4 p]
  obtain ⟨ag, hag⟩ := vtxs_some hrg0 (by omega)
  have hrg : Rd w0 (GS m1 ++ (seg20 :: pseg r4 p :: S)) (some ag) (vtxs p.gone) := by rw [<- hag]; exact hrg0
  refine PW.skip ?_
  refine hK5 _ _ ?_
  refine PW.k5 0 2 49 50 51 rfl rfl rfl rfl rfl ?_
  refine PW.seq fun K6 hK6 => ?_
  refine PW.block ?_
  refine PW.seqOps ?_
  rw [hag]
  refine OL.det trivial (.ixN rfl rfl rfl (by omega)) ?_
  refine OL.det trivial (.ldA rfl (vtxL_len _) (vtx_at hrg hkl)) ?_
  refine OL.cons trivial OW.al ?_
  rintro _ _ ⟨r11, rfl, rfl⟩
  refine OL.cons trivial (vtx_st rfl rfl rfl) ?_
  rintro _ _ rfl
  obtain ⟨v, hv⟩ : ∃ z, z = p.gone[k] := ⟨_, rfl⟩
  rw [<- hv]
  have hov : okV v := by rw [hv]; exact hp.gone _ (List.getElem_mem hkl)
  have hS1 : Over (GS m1 ++ X) (vseg r11 v :: (GS m1 ++ (seg20 :: pseg r4 p :: S))) := (Over.both hX.cons.cons).cons
  refine OL.nil ?_
  refine PW.k6 0 2 11 49 50 51 rfl rfl rfl rfl rfl rfl ?_
  refine PW.seq fun K7 hK7 => ?_
  refine PW.quietG (Ss := Over _) (fr := true) [(0, 0), (1, 0), (2, 0), (3, 0), (4, 0), (5, 0), (6, 3)] Try.mixed (by decide +kernel) (Over.refl _) (fun _ _ _ h => h.cons) ?_
  refine GL.dp rfl ?_
  refine GL.det trivial (fun Sx hSx => Yields.nilc rfl) ?_
  refine GL.dp rfl ?_
  refine GL.det trivial (fun Sx hSx => Yields.ld rfl (by rw [<- hr1]; exact g_nodes (hS1.trans hSx))) ?_
  refine GL.det trivial (fun Sx hSx => Yields.ldA rfl (vtxL_len _) (all_at (c := vtxL v) (E := 32) (tot := 33) (hSx _ (List.mem_flatten.2 ⟨_, .head _, List.mem_singleton.2 rfl⟩)))) ?_
  refine GL.det trivial (fun Sx hSx => Yields.lookG (okc := false) (a := v) Try.underlying55 hz1 hz2 keys32 hm1.nk hov rfl rfl (GS_mem (hS1.trans hSx)).2.2.1) ?_
  refine GL.fresh trivial fun r12 => ?_
  change OL _ _ _ _ _ ([(r12, .cells [.string ⟨#[]⟩, .int .i64 0, .int .i64 0, .slice none 0 0] 100 4)] :: vseg r11 v :: (GS m1 ++ (seg20 :: pseg r4 p :: S))) _
  change OL _ _ _ [_] _ _ _
  refine OL.cons trivial (node_st rfl rfl _ _ _ _) ?_
  rintro _ _ rfl
  obtain ⟨n0, hn0⟩ : ∃ z, z = (mgt m1.nodes v).getD zM := ⟨_, rfl⟩
  rw [<- hn0]
  have hok0 := getD_ok hm1 v
  rw [<- hn0] at hok0
  refine OL.nil ?_
  refine hK7 _ _ ?_
  refine PW.k7 0 2 11 12 49 50 51 rfl rfl rfl rfl rfl rfl rfl ?_
  refine PW.seqOps ?_
  refine OL.dp rfl ?_
  refine OL.det trivial (.ld rfl (own_at (j := 1) (c := nodeC n0) (E := 100) (tot := 4) (List.mem_flatten.2 ⟨_, .head _, List.mem_singleton.2 rfl⟩) rfl)) ?_
  refine OL.dp rfl ?_
  refine OL.det trivial (.add64 rfl rfl (by have := hok0.gone; omega) (by have := hok0.gone; omega)) ?_
  refine OL.dp rfl ?_
  refine OL.cons trivial (OW.st (k := 0) (c := nodeC n0) (u := .int .i64 (n0.gone + d)) rfl rfl rfl rfl (Nat.le_add_right 2 2) rfl) ?_
  rintro _ _ rfl
  obtain ⟨n2, hn2⟩ : ∃ z : NodeM, z = { n0 with gone := n0.gone + d } := ⟨_, rfl⟩
  change OL _ _ _ _ _ ([(r12, .cells (nodeC { n0 with gone := n0.gone + d }) 100 4)] :: vseg r11 v :: GS m1 ++ (seg20 :: pseg r4 p :: S)) _
  rw [<- hn2]
  refine OL.nil ?_
  refine PW.k7 0 2 11 12 49 50 51 rfl rfl rfl rfl rfl rfl rfl ?_
  refine PW.quietK Try.mixed ?_
  refine QK.dp rfl ?_
  refine QK.det trivial (Yields.nilc rfl) ?_
  refine QK.dp rfl ?_
  refine QK.det trivial (.ld rfl (by rw [<- hr1]; exact g_nodes hS1.cons)) ?_
  refine QK.det trivial (.ldA rfl (vtxL_len _) (all_at (c := vtxL v) (E := 32) (tot := 33) (List.mem_flatten.2 ⟨_, .tail _ (.head _), List.mem_singleton.2 rfl⟩))) ?_
  refine QK.det trivial (.ldA rfl (cs := nodeC n2) rfl (all_at (c := nodeC n2) (E := 100) (tot := 4) (List.mem_flatten.2 ⟨_, .head _, List.mem_singleton.2 rfl⟩))) ?_
  refine QK.nil ?_
  change OL _ _ _ [_] _ _ _
  refine OL.cons trivial (OW.updG (j := 4) (v := n2) Try.underlying55 keys32 hm1.nk hov rfl rfl rfl rfl) ?_
  rintro _ _ rfl
  refine OL.nil ?_
  refine hK6 _ _ ?_
  refine PW.k5 0 2 49 50 51 rfl rfl rfl rfl rfl ?_
  refine PW.ops ?_
  refine OL.det trivial (.add64 rfl rfl (by omega) (by omega)) ?_
  refine OL.dp rfl ?_
  refine OL.nil ?_
  repeat rw [inBlk_n]
  try rw [thenK_n]
  refine LoopEnd.mkS (Sub.drop (Sub.drop (Sub.refl _))) (T'' := [(0, _), (2, _), (49, _), (50, _), (51, _)]) ⟨rfl, rfl, rfl, rfl, rfl, trivial⟩ ?_
  rw [hag]
  refine ⟨p.gone.length - (k + 1), by omega, k + 1, { m1 with nodes := mpt m1.nodes v n2, lim := m1.lim + 1 }, ⟨by omega, rfl, hm1.node0 hov ?_ (by omega), hp1, hf1, ?_, hr1, (by show m1.lim + 1 <= _; omega), hj1⟩, rfl, rfl⟩
  ·rw [hn2]
   exact ⟨hok0.rd, hok0.ok, Nat.le_trans hok0.len (Nat.le_add_right _ _), (by have := hok0.gone; show -((m1.lim + 1 : Nat) : Int) <= n0.gone + d /\ n0.gone + d <= ((m1.lim + 1 : Nat) : Int); omega), (hok0.grow (b := []) (Nat.le_add_right _ 1)).named⟩
  show plN (mpt m1.nodes v n2) = _
  rw [mpt_plN, foldl_snoc _ _ hkl, <- hg1, <- hv]
  unfold gone1
  rw [nd_plN, <- hn0, hn2]
  rfl
 try simp only [cvS] at c52
 refine PW.exit ?_
 change (Exit.normal = Exit.normal ∨ Exit.normal = Exit.ret) /\ ∃ v, resV _ _ = some v /\ _
 have hke : k = p.gone.length := by omega
 refine ⟨.inl rfl, _, rfl, _, Sub.sel [0, 1, 2, 3] 6 (by decide) _, rfl, m1, rfl, hm1, ?_, hr1, by omega, fun x hx => hj1 ▸ hx⟩
 rw [hke, List.take_length] at hg1
 unfold GrM.gr
 rw [hp1, hf1, hg1]
 rfl
end Go.Proofs.Gr

namespace Go.GP
open Go.SL
theorem mem_EG {N : List (Vtx × NodeP)} (hn : (mks N).Nodup) {v w : Vtx} : (v, w) ∈ EG N ↔ w ∈ (nd N v).next := by
 unfold EG
 simp only [List.mem_flatMap, List.mem_map, Prod.mk.injEq]
 constructor
 ·rintro ⟨p, hp, x, hx, rfl, rfl⟩
  have : mgt N p.1 = some p.2 := (mgt_mem hn).2 hp
  unfold nd
  rw [this]; exact hx
 intro h
 unfold nd at h
 cases e : mgt N v with
 | none => rw [e] at h; simp [zN] at h
 | some n => rw [e] at h; exact ⟨(v, n), mgt_some_mem e, w, h, rfl, rfl⟩
def unS (T s : List Vtx) : Nat := (T.filter fun x => !decide (x ∈ s)).length
theorem unS_le (T s : List Vtx) : unS T s <= T.length := List.length_filter_le _ _
theorem unS_lt {T s s' : List Vtx} {w : Vtx} (hw : w ∈ T) (hs : w ∉ s) (h1 : w ∈ s') (h2 : ∀ x ∈ s, x ∈ s') : unS T s' + 1 <= unS T s := by
 unfold unS
 induction T with
 | nil => simp at hw
 | cons x T ih =>
  have mono : (T.filter fun x => !decide (x ∈ s')).length <= (T.filter fun x => !decide (x ∈ s)).length := by
   clear ih hw
   induction T with
   | nil => simp
   | cons y T ih2 =>
    simp only [List.filter_cons]
    by_cases hy : y ∈ s
    ·simp [hy, h2 y hy, ih2]
    by_cases hy2 : y ∈ s'
    ·simp only [hy, hy2, decide_true, Bool.not_true, decide_false, Bool.not_false, if_true, Bool.false_eq_true, if_false, List.length_cons]; omega
    simp only [hy, hy2, decide_false, Bool.not_false, if_true, List.length_cons]; omega
  simp only [List.filter_cons]
  by_cases hx : x = w
  ·subst hx
   simp only [hs, h1, decide_true, Bool.not_true, decide_false, Bool.not_false, if_true, Bool.false_eq_true, if_false, List.length_cons]
   omega
  have hw2 : w ∈ T := by
   rcases List.mem_cons.1 hw with h | h
   ·exact absurd h.symm hx
   exact h
  have := ih hw2
  by_cases hy : x ∈ s
  ·simp only [hy, h2 x hy, decide_true, Bool.not_true, Bool.false_eq_true, if_false]; omega
  by_cases hy2 : x ∈ s'
  ·simp only [hy, hy2, decide_true, Bool.not_true, decide_false, Bool.not_false, if_true, Bool.false_eq_true, if_false, List.length_cons]; omega
  simp only [hy, hy2, decide_false, Bool.not_false, if_true, List.length_cons]; omega
structure Bfs (E : List (Vtx × Vtx)) (a b : Vtx) (seen opn : List Vtx) (part : Vtx -> Vtx -> Prop) : Prop where
 ain : a ∈ seen
 rch : ∀ v ∈ seen, v = a ∨ Rch E a v
 sub : ∀ v ∈ opn, v ∈ seen
 nob : b ∉ seen
 done : ∀ v ∈ seen, v ∉ opn -> ∀ w, (v, w) ∈ E -> w ∈ seen ∨ part v w
variable {E : List (Vtx × Vtx)} {a b : Vtx} {seen opn : List Vtx}
theorem Bfs.start (hab : a ≠ b) : Bfs E a b [a] [a] fun _ _ => False :=
 ⟨by simp, fun v hv => .inl (List.mem_singleton.1 hv), fun v hv => hv, fun h => hab (List.mem_singleton.1 h).symm, fun v hv hn => absurd hv hn⟩
theorem Bfs.fin (h : Bfs E a b seen [] fun _ _ => False) : ¬ Rch E a b := by
 intro hr
 have key : ∀ {x y}, Rch E x y -> x ∈ seen -> y ∈ seen := by
  intro x y hxy
  induction hxy with
  | one h1 => exact fun hx => ((h.done _ hx (by simp) _ h1).resolve_right id)
  | cons h1 _ ih => exact fun hx => ih ((h.done _ hx (by simp) _ h1).resolve_right id)
 exact h.nob (key hr h.ain)
theorem Bfs.pop {v : Vtx} {nx : List Vtx} (h : Bfs E a b seen (opn ++ [v]) fun _ _ => False) (hnx : ∀ w, (v, w) ∈ E -> w ∈ nx) : Bfs E a b seen opn fun u w => u = v /\ w ∈ nx.drop 0 :=
 ⟨h.ain, h.rch, fun u hu => h.sub u (List.mem_append_left _ hu), h.nob, fun u hu hn w hw => by
  by_cases e : u = v
  ·subst e; exact .inr ⟨rfl, by simpa using hnx w hw⟩
  exact .inl ((h.done u hu (fun hm => by
   rcases List.mem_append.1 hm with h1 | h1
   ·exact hn h1
   exact e (List.mem_singleton.1 h1)) w hw).resolve_right id)⟩
theorem Bfs.pass {v : Vtx} {nx : List Vtx} {k : Nat} (hk : k < nx.length) (h : Bfs E a b seen opn fun u w => u = v /\ w ∈ nx.drop k) (hs : nx[k] ∈ seen) : Bfs E a b seen opn fun u w => u = v /\ w ∈ nx.drop (k + 1) :=
 ⟨h.ain, h.rch, h.sub, h.nob, fun u hu hn w hw => by
  rcases h.done u hu hn w hw with h1 | ⟨h1, h2⟩
  ·exact .inl h1
  rw [List.drop_eq_getElem_cons hk] at h2
  rcases List.mem_cons.1 h2 with rfl | h2
  ·exact .inl hs
  exact .inr ⟨h1, h2⟩⟩
theorem Bfs.push {v : Vtx} {nx : List Vtx} {k : Nat} (hk : k < nx.length) (h : Bfs E a b seen opn fun u w => u = v /\ w ∈ nx.drop k) (hv : v ∈ seen) (he : (v, nx[k]) ∈ E) (hb : nx[k] ≠ b) : Bfs E a b (seen ++ [nx[k]]) (opn ++ [nx[k]]) fun u w => u = v /\ w ∈ nx.drop (k + 1) where
 ain := List.mem_append_left _ h.ain
 rch := fun u hu => by
  rcases List.mem_append.1 hu with h1 | h1
  ·exact h.rch u h1
  rw [List.mem_singleton.1 h1]
  rcases h.rch v hv with rfl | h2
  ·exact .inr (.one he)
  exact .inr (h2.trans (.one he))
 sub := fun u hu => by
  rcases List.mem_append.1 hu with h1 | h1
  ·exact List.mem_append_left _ (h.sub u h1)
  exact List.mem_append_right _ h1
 nob := fun hm => by
  rcases List.mem_append.1 hm with h1 | h1
  ·exact h.nob h1
  exact hb (List.mem_singleton.1 h1).symm
 done := fun u hu hn w hw => by
  rcases List.mem_append.1 hu with h1 | h1
  ·rcases h.done u h1 (fun h2 => hn (List.mem_append_left _ h2)) w hw with h3 | ⟨h3, h4⟩
   ·exact .inl (List.mem_append_left _ h3)
   rw [List.drop_eq_getElem_cons hk] at h4
   rcases List.mem_cons.1 h4 with rfl | h4
   ·exact .inl (List.mem_append_right _ (by simp))
   exact .inr ⟨h3, h4⟩
  exact absurd (List.mem_append_right _ h1) hn
theorem Bfs.over {v : Vtx} {nx : List Vtx} {k : Nat} (hk : nx.length <= k) (h : Bfs E a b seen opn fun u w => u = v /\ w ∈ nx.drop k) : Bfs E a b seen opn fun _ _ => False :=
 ⟨h.ain, h.rch, h.sub, h.nob, fun u hu hn w hw => (h.done u hu hn w hw).imp_right fun ⟨_, h2⟩ => by rw [List.drop_eq_nil_of_le hk] at h2; exact absurd h2 (by simp)⟩
end Go.GP

namespace Go.Proofs.Gr
open Go.SL Go.RowKit Go.Proofs Go.GP
set_option maxHeartbeats 1000000
open Classical in
noncomputable def befB (G : Gr) (a b : Vtx) : Bool := decide (BefG G a b)
open Classical in
theorem befB_true {G : Gr} {a b : Vtx} (h : BefG G a b) : befB G a b = true := by unfold befB; exact decide_eq_true h
open Classical in
theorem befB_false {G : Gr} {a b : Vtx} (h : ¬ BefG G a b) : befB G a b = false := by unfold befB; exact decide_eq_false h
def metV : Unit -> Value := fun _ => .agg #[]
theorem zero116 : ∃ i, Try.prog.info? 116 = some i /\ i.zero = some (metV ()) := Option.bind_eq_some_iff.1 (show (Try.prog.info? 116).bind (·.zero) = some (metV ()) by kernel_rfl)
theorem before_fc {w0 : World} {S X : SS} {m : GrM} (hm : GOk w0 X m) (hS : Over (GS m ++ X) S) {a b : Vtx} (ha : okV a) (hb : okV b) (hroot : ∀ e ∈ EG m.gr.nodes, e.2 ≠ rootV) (hE : (EG m.gr.nodes).length <= 1000000000) :
  FC Try.prog w0 18 [m.ptr, vtxV a, vtxV b] S (fun u S' => u = .bool (befB m.gr a b) /\ S' = S) := by
 have hml := hm.lim
 obtain ⟨zi, hz1, hz2⟩ := zero116
 have hnk : (mks m.gr.nodes).Nodup := by show (mks (plN m.nodes)).Nodup; rw [mks_plN]; exact hm.nkd
 have hS2 : ∀ x y, Over (GS m ++ X) (vseg x b :: vseg y a :: S) := fun x y => hS.cons.cons
 refine FC.ofD Try.known18 (by simp) ?_
 unfold Try.pc18
 simp only [argT]
 refine PW.seqOps ?_
 refine OL.cons trivial (OW.bx rfl) ?_
 rintro _ _ ⟨r4, rfl, rfl⟩
 rw [vtx_box, vtxL_len]
 refine OL.cons trivial (OW.bx rfl) ?_
 rintro _ _ ⟨r5, rfl, rfl⟩
 rw [vtx_box, vtxL_len]
 refine OL.dp rfl ?_
 refine OL.nil ?_
 refine PW.k3 0 4 5 rfl rfl rfl ?_
 refine PW.seq fun K1 hK1 => ?_
 refine PW.block ?_
 refine PW.seq fun K2 hK2 => ?_
 refine PW.quietK Try.mixed ?_
 refine QK.dp rfl ?_
 refine QK.det trivial (.ldA rfl (vtxL_len _) (all_at (List.mem_flatten.2 ⟨_, .tail _ (.head _), List.mem_singleton.2 rfl⟩))) ?_
 refine QK.call trivial rfl (has_fc hm (hS2 _ _) ha) ?_
 refine QK.dp rfl ?_
 refine QK.bool trivial (Yields.pure rfl) (fun g19 => ?_) (fun g19 => ?_)
 ·try simp only [cvS] at g19
  refine QK.off rfl rfl ?_
  refine QK.off rfl rfl ?_
  refine QK.off rfl rfl ?_
  refine QK.off rfl rfl ?_
  refine QK.dp rfl ?_
  refine QK.dp rfl ?_
  refine QK.off rfl rfl ?_
  refine QK.off rfl rfl ?_
  refine QK.off rfl rfl ?_
  refine QK.dp rfl ?_
  refine QK.dp rfl ?_
  refine QK.off rfl rfl ?_
  refine QK.off rfl rfl ?_
  refine QK.off rfl rfl ?_
  refine QK.dp rfl ?_
  refine QK.dp rfl ?_
  refine QK.off rfl rfl ?_
  refine QK.off rfl rfl ?_
  refine QK.nil ?_
  change OL _ _ _ [_, _, _] _ _ _
  refine OL.off rfl rfl ?_
  refine OL.dp rfl ?_
  refine OL.dp rfl ?_
  refine OL.nil ?_
  refine hK2 _ _ ?_
  refine PW.k4 0 4 5 14 rfl rfl rfl rfl ?_
  refine PW.ite (b := true) rfl ?_
  rw [if_pos rfl]
  refine PW.seqOps ?_
  refine OL.dp rfl ?_
  refine OL.nil ?_
  refine PW.k1 6 rfl ?_
  refine PW.ret ?_
  change (Exit.ret = Exit.normal ∨ Exit.ret = Exit.ret) /\ ∃ v, resV _ _ = some v /\ _
  exact ⟨.inr rfl, _, rfl, _, Sub.drop (Sub.drop (Sub.refl _)), congrArg Value.bool (befB_false fun h => by first | exact g19 h.1 | exact g25 h.2.1 | exact h.2.2.1 g30 | exact h.2.2.2.1 g35 | exact h.2.2.2.2.1 c14).symm, rfl⟩
 try simp only [cvS] at g19
 refine QK.det rfl (.pure rfl) ?_
 refine QK.det rfl (.ldA rfl (vtxL_len _) (all_at (List.mem_flatten.2 ⟨_, .head _, List.mem_singleton.2 rfl⟩))) ?_
 refine QK.call rfl rfl (has_fc hm (hS2 _ _) hb) ?_
 refine QK.det rfl (.pure rfl) ?_
 refine QK.dp rfl ?_
 refine QK.bool trivial (Yields.pure rfl) (fun g25 => ?_) (fun g25 => ?_)
 ·try simp only [cvS] at g25
  refine QK.off rfl rfl ?_
  refine QK.off rfl rfl ?_
  refine QK.off rfl rfl ?_
  refine QK.dp rfl ?_
  refine QK.dp rfl ?_
  refine QK.off rfl rfl ?_
  refine QK.off rfl rfl ?_
  refine QK.off rfl rfl ?_
  refine QK.dp rfl ?_
  refine QK.dp rfl ?_
  refine QK.off rfl rfl ?_
  refine QK.off rfl rfl ?_
  refine QK.nil ?_
  change OL _ _ _ [_, _, _] _ _ _
  refine OL.off rfl rfl ?_
  refine OL.dp rfl ?_
  refine OL.dp rfl ?_
  refine OL.nil ?_
  refine hK2 _ _ ?_
  refine PW.k4 0 4 5 14 rfl rfl rfl rfl ?_
  refine PW.ite (b := true) rfl ?_
  rw [if_pos rfl]
  refine PW.seqOps ?_
  refine OL.dp rfl ?_
  refine OL.nil ?_
  refine PW.k1 6 rfl ?_
  refine PW.ret ?_
  change (Exit.ret = Exit.normal ∨ Exit.ret = Exit.ret) /\ ∃ v, resV _ _ = some v /\ _
  exact ⟨.inr rfl, _, rfl, _, Sub.drop (Sub.drop (Sub.refl _)), congrArg Value.bool (befB_false fun h => by first | exact g19 h.1 | exact g25 h.2.1 | exact h.2.2.1 g30 | exact h.2.2.2.1 g35 | exact h.2.2.2.2.1 c14).symm, rfl⟩
 try simp only [cvS] at g25
 refine QK.det rfl (.ldA rfl (vtxL_len _) (all_at (List.mem_flatten.2 ⟨_, .tail _ (.head _), List.mem_singleton.2 rfl⟩))) ?_
 refine QK.det rfl (.ldA rfl (vtxL_len _) (all_at (List.mem_flatten.2 ⟨_, .head _, List.mem_singleton.2 rfl⟩))) ?_
 refine QK.det rfl (.eqD (neg := false) rfl rfl (eqL_vtx _ _)) ?_
 refine QK.dp rfl ?_
 refine QK.bool trivial (Yields.pure rfl) (fun g30 => ?_) (fun g30 => ?_)
 ·try simp only [cvS] at g30
  refine QK.off rfl rfl ?_
  refine QK.off rfl rfl ?_
  refine QK.off rfl rfl ?_
  refine QK.dp rfl ?_
  refine QK.dp rfl ?_
  refine QK.off rfl rfl ?_
  refine QK.off rfl rfl ?_
  refine QK.nil ?_
  change OL _ _ _ [_, _, _] _ _ _
  refine OL.off rfl rfl ?_
  refine OL.dp rfl ?_
  refine OL.dp rfl ?_
  refine OL.nil ?_
  refine hK2 _ _ ?_
  refine PW.k4 0 4 5 14 rfl rfl rfl rfl ?_
  refine PW.ite (b := true) rfl ?_
  rw [if_pos rfl]
  refine PW.seqOps ?_
  refine OL.dp rfl ?_
  refine OL.nil ?_
  refine PW.k1 6 rfl ?_
  refine PW.ret ?_
  change (Exit.ret = Exit.normal ∨ Exit.ret = Exit.ret) /\ ∃ v, resV _ _ = some v /\ _
  exact ⟨.inr rfl, _, rfl, _, Sub.drop (Sub.drop (Sub.refl _)), congrArg Value.bool (befB_false fun h => by first | exact g19 h.1 | exact g25 h.2.1 | exact h.2.2.1 g30 | exact h.2.2.2.1 g35 | exact h.2.2.2.2.1 c14).symm, rfl⟩
 try simp only [cvS] at g30
 refine QK.det rfl (.ldA rfl (vtxL_len _) (all_at (List.mem_flatten.2 ⟨_, .tail _ (.head _), List.mem_singleton.2 rfl⟩))) ?_
 refine QK.call rfl rfl (end_fc) ?_
 refine QK.det rfl (.eqD (neg := false) rfl rfl (eqL_vtx _ _)) ?_
 refine QK.dp rfl ?_
 refine QK.bool trivial (Yields.pure rfl) (fun g35 => ?_) (fun g35 => ?_)
 ·try simp only [cvS] at g35
  refine QK.off rfl rfl ?_
  refine QK.off rfl rfl ?_
  refine QK.nil ?_
  change OL _ _ _ [_, _, _] _ _ _
  refine OL.off rfl rfl ?_
  refine OL.dp rfl ?_
  refine OL.dp rfl ?_
  refine OL.nil ?_
  refine hK2 _ _ ?_
  refine PW.k4 0 4 5 14 rfl rfl rfl rfl ?_
  refine PW.ite (b := true) rfl ?_
  rw [if_pos rfl]
  refine PW.seqOps ?_
  refine OL.dp rfl ?_
  refine OL.nil ?_
  refine PW.k1 6 rfl ?_
  refine PW.ret ?_
  change (Exit.ret = Exit.normal ∨ Exit.ret = Exit.ret) /\ ∃ v, resV _ _ = some v /\ _
  exact ⟨.inr rfl, _, rfl, _, Sub.drop (Sub.drop (Sub.refl _)), congrArg Value.bool (befB_false fun h => by first | exact g19 h.1 | exact g25 h.2.1 | exact h.2.2.1 g30 | exact h.2.2.2.1 g35 | exact h.2.2.2.2.1 c14).symm, rfl⟩
 try simp only [cvS] at g35
 refine QK.det rfl (.ldA rfl (vtxL_len _) (all_at (List.mem_flatten.2 ⟨_, .head _, List.mem_singleton.2 rfl⟩))) ?_
 refine QK.call rfl rfl (root_fc) ?_
 refine QK.nil ?_
 change OL _ _ _ [_, _, _] _ _ _
 refine OL.det rfl (.eqD (neg := false) rfl rfl (eqL_vtx _ _)) ?_
 refine OL.dp rfl ?_
 refine OL.dp rfl ?_
 refine OL.nil ?_
 refine hK2 _ _ ?_
 refine PW.k4 0 4 5 14 rfl rfl rfl rfl ?_
 refine PW.cond rfl (fun c14 => ?_) (fun c14 => ?_)
 ·try simp only [cvS] at c14
  refine PW.seqOps ?_
  refine OL.dp rfl ?_
  refine OL.nil ?_
  refine PW.k1 6 rfl ?_
  refine PW.ret ?_
  change (Exit.ret = Exit.normal ∨ Exit.ret = Exit.ret) /\ ∃ v, resV _ _ = some v /\ _
  exact ⟨.inr rfl, _, rfl, _, Sub.drop (Sub.drop (Sub.refl _)), congrArg Value.bool (befB_false fun h => by first | exact g19 h.1 | exact g25 h.2.1 | exact h.2.2.1 g30 | exact h.2.2.2.1 g35 | exact h.2.2.2.2.1 c14).symm, rfl⟩
 try simp only [cvS] at c14
 refine PW.seq fun K3 hK3 => ?_
 refine PW.quietK Try.mixed ?_
 refine QK.det trivial (.ldA rfl (vtxL_len _) (all_at (List.mem_flatten.2 ⟨_, .tail _ (.head _), List.mem_singleton.2 rfl⟩))) ?_
 refine QK.call trivial rfl (root_fc) ?_
 refine QK.det trivial (.eqD (neg := false) rfl rfl (eqL_vtx _ _)) ?_
 refine QK.bool trivial (Yields.pure rfl) (fun g44 => ?_) (fun g44 => ?_)
 ·try simp only [cvS] at g44
  refine QK.off rfl rfl ?_
  refine QK.off rfl rfl ?_
  refine QK.nil ?_
  change OL _ _ _ [_, _, _] _ _ _
  refine OL.off rfl rfl ?_
  refine OL.dp rfl ?_
  refine OL.dp rfl ?_
  refine OL.nil ?_
  refine hK3 _ _ ?_
  refine PW.k4 0 4 5 40 rfl rfl rfl rfl ?_
  refine PW.ite (b := true) rfl ?_
  rw [if_pos rfl]
  refine PW.seqOps ?_
  refine OL.dp rfl ?_
  refine OL.nil ?_
  refine PW.k1 6 rfl ?_
  refine PW.ret ?_
  change (Exit.ret = Exit.normal ∨ Exit.ret = Exit.ret) /\ ∃ v, resV _ _ = some v /\ _
  exact ⟨.inr rfl, _, rfl, _, Sub.drop (Sub.drop (Sub.refl _)), congrArg Value.bool (befB_true ⟨g19, g25, g30, g35, c14, by first | exact .inl g44 | exact .inr (.inl c40)⟩).symm, rfl⟩
 try simp only [cvS] at g44
 refine QK.det rfl (.ldA rfl (vtxL_len _) (all_at (List.mem_flatten.2 ⟨_, .head _, List.mem_singleton.2 rfl⟩))) ?_
 refine QK.call rfl rfl (end_fc) ?_
 refine QK.nil ?_
 change OL _ _ _ [_, _, _] _ _ _
 refine OL.det rfl (.eqD (neg := false) rfl rfl (eqL_vtx _ _)) ?_
 refine OL.dp rfl ?_
 refine OL.dp rfl ?_
 refine OL.nil ?_
 refine hK3 _ _ ?_
 refine PW.k4 0 4 5 40 rfl rfl rfl rfl ?_
 refine PW.cond rfl (fun c40 => ?_) (fun c40 => ?_)
 ·try simp only [cvS] at c40
  refine PW.seqOps ?_
  refine OL.dp rfl ?_
  refine OL.nil ?_
  refine PW.k1 6 rfl ?_
  refine PW.ret ?_
  change (Exit.ret = Exit.normal ∨ Exit.ret = Exit.ret) /\ ∃ v, resV _ _ = some v /\ _
  exact ⟨.inr rfl, _, rfl, _, Sub.drop (Sub.drop (Sub.refl _)), congrArg Value.bool (befB_true ⟨g19, g25, g30, g35, c14, by first | exact .inl g44 | exact .inr (.inl c40)⟩).symm, rfl⟩
 try simp only [cvS] at c40
 refine PW.skip ?_
 refine hK1 _ _ ?_
 refine PW.k3 0 4 5 rfl rfl rfl ?_
 refine PW.seqOps ?_
 refine OL.cons trivial OW.mkG ?_
 rintro _ _ ⟨r49, rfl, rfl⟩
 change OL _ _ _ _ _ ([(r49, .gm (gmL vtxV metV []))] :: vseg r5 b :: vseg r4 a :: S) _
 refine OL.det trivial (.ldA rfl (vtxL_len _) (all_at (List.mem_flatten.2 ⟨_, .tail _ (.tail _ (.head _)), List.mem_singleton.2 rfl⟩))) ?_
 refine OL.det trivial (.build rfl) ?_
 refine OL.cons trivial (OW.insG (j := 0) (l := []) (a := a) (v := ()) Try.underlying117 keys32 (fun p hp => by simp at hp) ha rfl rfl rfl rfl) ?_
 rintro _ _ rfl
 change OL _ _ _ _ _ ([(r49, .gm (gmL vtxV metV [(a, ())]))] :: vseg r5 b :: vseg r4 a :: S) _
 refine OL.dp rfl ?_
 refine OL.dp rfl ?_
 refine OL.nil ?_
 refine PW.k4 0 4 5 7 rfl rfl rfl rfl ?_
 refine PW.seqOps ?_
 refine OL.det trivial (.ldA rfl (vtxL_len _) (all_at (List.mem_flatten.2 ⟨_, .tail _ (.tail _ (.head _)), List.mem_singleton.2 rfl⟩))) ?_
 refine OL.cons trivial (OW.bsl (fill_one (v := a) rfl rfl)) ?_
 rintro _ _ ⟨r54, rfl, rfl⟩
 rw [vtxL_len]
 have hs54 : SlV 32 33 (.slice (some ⟨r54, 0, none⟩) 1 1) [a].length (vtxs [a]) [(r54, .cells (vtxL a) 32 33)] := by
  have := SlV.mk' (E := 32) (sz := 33) (m := 1) (cap := 1) (r := r54) (xs := vtxL a) (by rw [vtxL_len]) (Nat.le_refl _) (by decide)
  simpa [vtxs] using this
 obtain ⟨T0, hT0⟩ : ∃ T0, T0 = (EG m.gr.nodes).map (·.2) := ⟨_, rfl⟩
 have hTl : T0.length <= 1000000000 := by rw [hT0, List.length_map]; exact hE
 have hul := unS_le T0 [a]
 refine OL.dp rfl ?_
 refine OL.nil ?_
 refine PW.k4 0 5 7 8 rfl rfl rfl rfl ?_
 refine PW.seq fun K4 hK4 => ?_
 refine PW.block ?_
 refine PW.k4 0 5 7 8 rfl rfl rfl rfl ?_
 refine PW.loopK (I := fun mm T S' => ∃ (opn : List Vtx) (seen : List (Vtx × Unit)) (vo : Value) (sgo : Seg), (Bfs (EG m.gr.nodes) a b (mks seen) opn (fun _ _ => False) /\ SlV 32 33 vo opn.length (vtxs opn) sgo /\ (∀ v ∈ opn, okV v) /\ (∀ p ∈ seen, okV p.1) /\ mm = unS T0 (mks seen) + opn.length /\ mm <= 1000000001) /\ T = ([(0, m.ptr), (5, .pointer (some ⟨r5, 0, none⟩)), (7, .map (some r49)), (8, vo)] : TT) /\ S' = sgo :: [(r49, .gm (gmL vtxV metV seen))] :: vseg r5 b :: vseg r4 a :: S) (m := unS T0 [a] + 1) ⟨[a], [(a, ())], _, _, ⟨Bfs.start g30, hs54, by simpa using ha, by simpa using ha, rfl, by omega⟩, rfl, rfl⟩ ?_
 rintro mm _ _ ⟨opn, seen, vo, sgo, ⟨hB, hso, hok, hks, hmm, hmb⟩, rfl, rfl⟩
 obtain ⟨Ao, co, rfl, -, -, hrdo⟩ := slv_rdL (w0 := w0) hso
 refine PW.seq fun K5 hK5 => ?_
 refine PW.seqOps ?_
 refine OL.dp rfl ?_
 refine OL.dp rfl ?_
 refine OL.dp rfl ?_
 refine OL.nil ?_
 refine PW.k5 0 5 7 8 57 rfl rfl rfl rfl rfl ?_
 refine PW.cond rfl (fun c57 => ?_) (fun c57 => ?_)
 ·try simp only [cvS] at c57
  rcases List.eq_nil_or_concat opn with rfl | ⟨op, v, e⟩
  ·exfalso; simp at c57
  rw [List.concat_eq_append] at e
  subst e
  obtain ⟨ro, capo, eo, rfl, hc1, hc2⟩ := slv_own hso (by simp)
  simp only [Value.slice.injEq, true_and] at eo
  obtain ⟨rfl, rfl⟩ := eo
  have hlen : (op ++ [v]).length = op.length + 1 := by simp
  have hvat : ∀ (S' : SS) (j : Nat) (u : Value), (vtxL v)[j]? = some u -> Cell w0 ([(ro, .cells (vtxs (op ++ [v])) 32 (co * 33))] :: S') (((⟨ro, 0, none⟩ : Addr).add (op.length * 33)).add j) u := fun S' j u hj => vtx_at (hrdo S') (k := op.length) (by simp) j u (by simpa using hj)
  have htk : (vtxs (op ++ [v])).take (op.length * 33) = vtxs op := by rw [vtxs_take _ _ (by simp), List.take_left]
  have hov : okV v := hok v (by simp)
  have hvs : v ∈ mks seen := hB.sub v (by simp)
  have hvr : v ≠ rootV := by
   rcases hB.rch v hvs with rfl | h
   ·exact g44
   obtain ⟨c, hc⟩ := h.tgt
   exact hroot _ hc
  have hso2 : SlV 32 33 (.slice (some ⟨ro, 0, none⟩) op.length co) op.length (vtxs op) [(ro, .cells (vtxs op) 32 (co * 33))] := SlV.mk' (vtxs_len _) (by omega) hc2
  refine PW.skip ?_
  refine hK5 _ _ ?_
  refine PW.k4 0 5 7 8 rfl rfl rfl rfl ?_
  refine PW.block ?_
  refine PW.seqOps ?_
  refine OL.dp rfl ?_
  refine OL.dp rfl ?_
  refine OL.dp rfl ?_
  refine OL.det trivial (.sub64 rfl rfl (by omega) (by omega)) ?_
  refine OL.det trivial (.ixN rfl rfl (show (((op ++ [v]).length : Nat) : Int) - 1 = (op.length : Int) by omega) (by omega)) ?_
  refine OL.det trivial (.ldA rfl (vtxL_len v) (hvat _)) ?_
  refine OL.cons trivial OW.al ?_
  rintro _ _ ⟨r9, rfl, rfl⟩
  refine OL.cons trivial (vtx_st rfl rfl rfl) ?_
  rintro _ _ rfl
  refine OL.nil ?_
  refine PW.k5 0 5 7 8 9 rfl rfl rfl rfl rfl ?_
  refine PW.seqOps ?_
  refine OL.dp rfl ?_
  refine OL.dp rfl ?_
  refine OL.dp rfl ?_
  refine OL.det trivial (.sub64 rfl rfl (by omega) (by omega)) ?_
  refine OL.det trivial (.to (v' := .slice (some ⟨ro, 0, none⟩) op.length co) (Yields.slS (A := some ⟨ro, 0, none⟩) (len := (op ++ [v]).length) (cap := co) (l := 0) (h := op.length) rfl rfl rfl (.inr ⟨rfl, rfl⟩) (.inl (congrArg some (by omega))) (by omega) (by omega)) (cutV0 _ _ _ _)) ?_
  refine OL.tell (k := 1) rfl (fun w h => owns_take (op.length * 33) h) ?_
  change OL _ _ _ _ _ (vseg r9 v :: [(ro, .cells ((vtxs (op ++ [v])).take (op.length * 33)) 32 (co * 33))] :: [(r49, .gm (gmL vtxV metV seen))] :: vseg r5 b :: vseg r4 a :: S) _
  rw [htk]
  refine OL.det trivial (.pure rfl) ?_
  refine OL.nil ?_
  refine PW.k5 0 5 7 8 9 rfl rfl rfl rfl rfl ?_
  refine PW.seqOps ?_
  refine OL.dp rfl ?_
  refine OL.det trivial (.ldA rfl (vtxL_len _) (all_at (List.mem_flatten.2 ⟨_, .head _, List.mem_singleton.2 rfl⟩))) ?_
  refine OL.call trivial rfl (behind_fc hm hS.cons.cons.cons.cons.cons hov) ?_
  rintro _ Sx ⟨rfl, hSx⟩
  rw [hSx]
  clear hSx
  obtain ⟨An, cn, nx, hbv, hnx, hrn, hno, hnl⟩ : ∃ An cn nx, behV m v = .slice An nx.length cn /\ nx = (nd m.gr.nodes v).next /\ Rd w0 (m.junk :: X) An (vtxs nx) /\ (∀ w ∈ nx, okV w) /\ nx.length <= m.lim := ⟨_, _, _, rfl, by rw [behA_gr]; exact if_neg hvr, behA_ok hm v⟩
  rw [hbv]
  have hnx2 : ∀ w, (v, w) ∈ EG m.gr.nodes ↔ w ∈ nx := fun w => by rw [mem_EG hnk, hnx]
  refine OL.dp rfl ?_
  refine OL.dp rfl ?_
  refine OL.nil ?_
  refine PW.k7 0 5 7 8 71 72 73 rfl rfl rfl rfl rfl rfl rfl ?_
  refine PW.block ?_
  refine PW.k7 0 5 7 8 71 72 73 rfl rfl rfl rfl rfl rfl rfl ?_
  refine PW.loopK (I := fun mi T S' => ∃ (k : Nat) (op1 : List Vtx) (seen1 : List (Vtx × Unit)) (vo1 : Value) (sgo1 : Seg), (k <= nx.length /\ mi = nx.length - k /\ Bfs (EG m.gr.nodes) a b (mks seen1) op1 (fun u w => u = v /\ w ∈ nx.drop k) /\ SlV 32 33 vo1 op1.length (vtxs op1) sgo1 /\ (∀ v ∈ op1, okV v) /\ (∀ p ∈ seen1, okV p.1) /\ unS T0 (mks seen1) + op1.length + 1 <= mm /\ v ∈ mks seen1) /\ T = ([(0, m.ptr), (5, .pointer (some ⟨r5, 0, none⟩)), (7, .map (some r49)), (8, vo1), (71, .slice An nx.length cn), (72, .int .i64 (nx.length : Int)), (73, .int .i64 k)] : TT) /\ S' = vseg r9 v :: sgo1 :: [(r49, .gm (gmL vtxV metV seen1))] :: vseg r5 b :: vseg r4 a :: S) (m := nx.length) ⟨0, op, seen, _, _, ⟨by omega, by omega, hB.pop (fun w hw => (hnx2 w).1 hw), hso2, fun x hx => hok x (List.mem_append_left _ hx), hks, by omega, hvs⟩, rfl, rfl⟩ ?_
  rintro mi _ _ ⟨k, op1, seen1, vo1, sgo1, ⟨hk, hmi, hB1, hso1, hok1, hks1, hm1, hvs1⟩, rfl, rfl⟩
  refine PW.seqOps ?_
  refine OL.dp rfl ?_
  refine OL.nil ?_
  refine PW.k8 0 5 7 8 71 72 73 74 rfl rfl rfl rfl rfl rfl rfl rfl ?_
  refine PW.seq fun K6 hK6 => ?_
  refine PW.cond rfl (fun c74 => ?_) (fun c74 => ?_)
  ·try simp only [cvS] at c74
   have hkl : k < nx.length := by omega
   obtain ⟨an, rfl⟩ := vtxs_some hrn (by omega)
   refine PW.skip ?_
   refine hK6 _ _ ?_
   refine PW.k7 0 5 7 8 71 72 73 rfl rfl rfl rfl rfl rfl rfl ?_
   refine PW.seq fun K7 hK7 => ?_
   refine PW.block ?_
   refine PW.seqOps ?_
   refine OL.det trivial (.ixN rfl rfl rfl (by omega)) ?_
   refine OL.det trivial (.ldA rfl (vtxL_len _) (vtx_at (hrn.junk hS.cons.cons.cons.cons.cons) hkl)) ?_
   refine OL.cons trivial OW.al ?_
   rintro _ _ ⟨r11, rfl, rfl⟩
   refine OL.cons trivial (vtx_st rfl rfl rfl) ?_
   rintro _ _ rfl
   obtain ⟨w, hw⟩ : ∃ z, z = nx[k] := ⟨_, rfl⟩
   rw [<- hw]
   have how : okV w := by rw [hw]; exact hno _ (List.getElem_mem hkl)
   have hedge : (v, w) ∈ EG m.gr.nodes := (hnx2 w).2 (by rw [hw]; exact List.getElem_mem hkl)
   refine OL.nil ?_
   refine PW.k8 0 5 7 8 11 71 72 73 rfl rfl rfl rfl rfl rfl rfl rfl ?_
   refine PW.seq fun K8 hK8 => ?_
   refine PW.seqOps ?_
   refine OL.det trivial (.ldA rfl (vtxL_len _) (all_at (List.mem_flatten.2 ⟨_, .head _, List.mem_singleton.2 rfl⟩))) ?_
   refine OL.det trivial (.ldA rfl (vtxL_len _) (all_at (List.mem_flatten.2 ⟨_, .tail _ (.tail _ (.tail _ (.tail _ (.head _)))), List.mem_singleton.2 rfl⟩))) ?_
   refine OL.det trivial (.eqD (neg := false) rfl rfl (eqL_vtx _ _)) ?_
   refine OL.nil ?_
   refine PW.k9 0 5 7 8 11 71 72 73 79 rfl rfl rfl rfl rfl rfl rfl rfl rfl ?_
   refine PW.cond rfl (fun c79 => ?_) (fun c79 => ?_)
   ·try simp only [cvS] at c79
    refine PW.seqOps ?_
    refine OL.dp rfl ?_
    refine OL.nil ?_
    refine PW.k1 6 rfl ?_
    refine PW.ret ?_
    change (Exit.ret = Exit.normal ∨ Exit.ret = Exit.ret) /\ ∃ v, resV _ _ = some v /\ _
    refine ⟨.inr rfl, _, rfl, _, Sub.drop (Sub.drop (Sub.drop (Sub.drop (Sub.drop (Sub.drop (Sub.refl _)))))), congrArg Value.bool (befB_true ⟨g19, g25, g30, g35, c14, .inr (.inr ?_)⟩).symm, rfl⟩
    rw [<- c79]
    rcases hB1.rch v hvs1 with rfl | h
    ·exact .one hedge
    exact h.snoc hedge
   try simp only [cvS] at c79
   refine PW.skip ?_
   refine hK8 _ _ ?_
   refine PW.k8 0 5 7 8 11 71 72 73 rfl rfl rfl rfl rfl rfl rfl rfl ?_
   refine PW.seqOps ?_
   refine OL.dp rfl ?_
   refine OL.det trivial (.ldA rfl (vtxL_len _) (all_at (List.mem_flatten.2 ⟨_, .head _, List.mem_singleton.2 rfl⟩))) ?_
   refine OL.det trivial (.lookG (okc := true) (a := w) Try.underlying117 hz1 hz2 keys32 hks1 how rfl rfl (List.mem_flatten.2 ⟨_, .tail _ (.tail _ (.tail _ (.head _))), List.mem_singleton.2 rfl⟩)) ?_
   refine OL.dp rfl ?_
   refine OL.dp rfl ?_
   refine OL.dp rfl ?_
   refine OL.cons trivial OW.al ?_
   rintro _ _ ⟨r12, rfl, rfl⟩
   refine OL.cons trivial (OW.st (k := 0) (c := []) (u := .agg #[]) rfl rfl rfl rfl (Nat.le_refl 0) rfl) ?_
   rintro _ _ rfl
   change OL _ _ _ _ _ ([(r12, .cells [] 116 0)] :: vseg r11 w :: vseg r9 v :: sgo1 :: [(r49, .gm (gmL vtxV metV seen1))] :: vseg r5 b :: vseg r4 a :: S) _
   refine OL.dp rfl ?_
   refine OL.nil ?_
   refine PW.k9 0 5 7 8 11 13 71 72 73 rfl rfl rfl rfl rfl rfl rfl rfl rfl ?_
   refine PW.seqOps ?_
   refine OL.dp rfl ?_
   refine OL.dp rfl ?_
   refine OL.nil ?_
   refine PW.k9 0 5 7 8 11 71 72 73 87 rfl rfl rfl rfl rfl rfl rfl rfl rfl ?_
   refine PW.cond rfl (fun c87 => ?_) (fun c87 => ?_)
   ·skip
    have hns : w ∉ mks seen1 := by
     rw [isSome_mks] at c87
     simpa using c87
    have hmk : mks (mpt seen1 w ()) = mks seen1 ++ [w] := by rw [mks_mpt, if_neg hns]
    have hlt := unS_lt (T := T0) (s := mks seen1) (s' := mks seen1 ++ [w]) (w := w) (by rw [hT0]; exact List.mem_map.2 ⟨_, hedge, rfl⟩) hns (by simp) (fun x hx => List.mem_append_left _ hx)
    refine PW.seqOps ?_
    refine OL.dp rfl ?_
    refine OL.det trivial (.ldA rfl (vtxL_len _) (all_at (List.mem_flatten.2 ⟨_, .tail _ (.head _), List.mem_singleton.2 rfl⟩))) ?_
    refine OL.det trivial (.build rfl) ?_
    refine OL.cons trivial (OW.updG (j := 4) (v := ()) Try.underlying117 keys32 hks1 how rfl rfl rfl rfl) ?_
    rintro _ _ rfl
    change OL _ _ _ _ _ ([(r12, .cells [] 116 0)] :: vseg r11 w :: vseg r9 v :: sgo1 :: [(r49, .gm (gmL vtxV metV (mpt seen1 w ())))] :: vseg r5 b :: vseg r4 a :: S) _
    refine OL.nil ?_
    refine PW.k8 0 5 7 8 11 71 72 73 rfl rfl rfl rfl rfl rfl rfl rfl ?_
    refine PW.ops ?_
    refine OL.dp rfl ?_
    refine OL.det trivial (.ldA rfl (vtxL_len _) (all_at (List.mem_flatten.2 ⟨_, .tail _ (.head _), List.mem_singleton.2 rfl⟩))) ?_
    apply OL.app1 (k := 3)
    ·rfl
    ·rfl
    ·exact (List.size_toArray).trans (vtxL_len _)
    ·rfl
    ·rfl
    ·rfl
    ·exact hso1
    ·exact vtxL_one _
    ·omega
    ·unfold maxLen; omega
    intro v94 seg94 hs94
    change OL _ _ _ _ _ ([(r12, .cells [] 116 0)] :: vseg r11 w :: vseg r9 v :: seg94 :: [(r49, .gm (gmL vtxV metV (mpt seen1 w ())))] :: vseg r5 b :: vseg r4 a :: S) _
    change SlV 32 33 v94 (_ + 1) (vtxs _ ++ vtxL w) seg94 at hs94
    rw [<- vtxs_one1, <- vtxs_app, show op1.length + 1 = (op1 ++ [w]).length by simp] at hs94
    refine OL.dp rfl ?_
    refine OL.nil ?_
    refine hK7 _ _ ?_
    refine PW.k7 0 5 7 8 71 72 73 rfl rfl rfl rfl rfl rfl rfl ?_
    refine PW.ops ?_
    refine OL.det trivial (.add64 rfl rfl (by omega) (by omega)) ?_
    refine OL.dp rfl ?_
    refine OL.nil ?_
    repeat rw [inBlk_n]
    try rw [thenK_n]
    refine LoopEnd.mkS (Sub.drop (Sub.drop (Sub.refl _))) (T'' := [(0, _), (5, _), (7, _), (8, _), (71, _), (72, _), (73, _)]) ⟨rfl, rfl, rfl, rfl, rfl, rfl, rfl, trivial⟩ ?_
    refine ⟨nx.length - (k + 1), by omega, k + 1, op1 ++ [w], mpt seen1 w (), v94, seg94, ⟨by omega, rfl, ?_, hs94, ?_, ?_, ?_, ?_⟩, rfl, rfl⟩
    ·rw [hmk]
     have := hB1.push hkl hvs1 (by rw [<- hw]; exact hedge) (by rw [<- hw]; exact c79)
     rwa [<- hw] at this
    ·intro x hx
     rcases List.mem_append.1 hx with h | h
     ·exact hok1 x h
     rw [List.mem_singleton.1 h]; exact how
    ·intro q hq
     rcases mem_mpt hq with rfl | h
     ·exact how
     exact hks1 q h
    ·rw [hmk, List.length_append, List.length_singleton]
     omega
    rw [hmk]; exact List.mem_append_left _ hvs1
   skip
   have hns : w ∈ mks seen1 := by
    rw [isSome_mks] at c87
    simpa using c87
   refine PW.skip ?_
   refine hK7 _ _ ?_
   refine PW.k7 0 5 7 8 71 72 73 rfl rfl rfl rfl rfl rfl rfl ?_
   refine PW.ops ?_
   refine OL.det trivial (.add64 rfl rfl (by omega) (by omega)) ?_
   refine OL.dp rfl ?_
   refine OL.nil ?_
   repeat rw [inBlk_n]
   try rw [thenK_n]
   refine LoopEnd.mkS (Sub.drop (Sub.drop (Sub.refl _))) (T'' := [(0, _), (5, _), (7, _), (8, _), (71, _), (72, _), (73, _)]) ⟨rfl, rfl, rfl, rfl, rfl, rfl, rfl, trivial⟩ ?_
   refine ⟨nx.length - (k + 1), by omega, k + 1, op1, seen1, vo1, sgo1, ⟨by omega, rfl, hB1.pass hkl (by rw [<- hw]; exact hns), hso1, hok1, hks1, hm1, hvs1⟩, rfl, rfl⟩
  try simp only [cvS] at c74
  refine PW.exit ?_
  repeat rw [inBlk_n]
  try rw [thenK_n]
  refine LoopEnd.mkS (Sub.drop (Sub.refl _)) (T'' := [(0, _), (5, _), (7, _), (8, _)]) ⟨rfl, rfl, rfl, rfl, trivial⟩ ?_
  refine ⟨unS T0 (mks seen1) + op1.length, by omega, op1, seen1, vo1, sgo1, ⟨hB1.over (by omega), hso1, hok1, hks1, rfl, by omega⟩, rfl, rfl⟩
 try simp only [cvS] at c57
 refine PW.exit ?_
 refine hK4 _ _ ?_
 refine PW.keep (T' := []) trivial ?_
 refine PW.seqOps ?_
 refine OL.dp rfl ?_
 refine OL.nil ?_
 refine PW.k1 6 rfl ?_
 refine PW.ret ?_
 change (Exit.ret = Exit.normal ∨ Exit.ret = Exit.ret) /\ ∃ v, resV _ _ = some v /\ _
 obtain rfl : opn = [] := List.eq_nil_of_length_eq_zero (by omega)
 exact ⟨.inr rfl, _, rfl, _, Sub.drop (Sub.drop (Sub.drop (Sub.drop (Sub.refl _)))), congrArg Value.bool (befB_false fun h => h.2.2.2.2.2.elim g44 fun h => h.elim c40 hB.fin).symm, rfl⟩
end Go.Proofs.Gr

namespace Go.Proofs.Gr
open Go.SL Go.RowKit Go.Proofs Go.GP
set_option maxHeartbeats 1000000
theorem GOk.junk' {w0 : World} {X : SS} {m : GrM} (hm : GOk w0 X m) (seg : Seg) : GOk w0 X { m with junk := m.junk ++ seg } where
 pk := hm.pk
 part := fun q hq => (hm.part q hq).grow
 nk := hm.nk
 node := fun q hq => (hm.node q hq).grow (Nat.le_refl _)
 first := hm.first.junkR
 firstOk := hm.firstOk
 firstLen := hm.firstLen
 lim := hm.lim
 pkd := hm.pkd
 nkd := hm.nkd
theorem GOk.part' {w0 : World} {X : SS} {m : GrM} (hm : GOk w0 X m) {a : Vtx} {p : PartM} (ha : okV a) (hp : PartOk' w0 (m.junk :: X) p) : GOk w0 X { m with parts := mpt m.parts a p } where
 pk := fun q hq => by
  rcases mem_mpt hq with rfl | h
  ·exact ha
  exact hm.pk q h
 part := fun q hq => by
  rcases mem_mpt hq with rfl | h
  ·exact hp
  exact hm.part q h
 nk := hm.nk
 node := hm.node
 first := hm.first
 firstOk := hm.firstOk
 firstLen := hm.firstLen
 lim := hm.lim
 pkd := mpt_nodup hm.pkd _ _
 nkd := hm.nkd
theorem part_setL (p : PartM) (A : Option Addr) (c : Nat) : setAt (partC p) 100 [.slice A p.lines.length c] = partC { p with LA := A, lc := c } := by
 have h1 := hb_len p.patch
 have h2 := vtxL_len p.up
 have h3 := vtxL_len p.down
 obtain ⟨X, hX⟩ : ∃ X, X = bytesC p.patch.1 ++ [Value.int .i64 p.at_, .int .i64 p.first] ++ vtxL p.up ++ vtxL p.down := ⟨_, rfl⟩
 have hXl : X.length = 100 := by rw [hX]; simp [h1, h2, h3]
 show setAt (bytesC p.patch.1 ++ [Value.int .i64 p.at_, .int .i64 p.first] ++ vtxL p.up ++ vtxL p.down ++ _) _ _ = bytesC p.patch.1 ++ [Value.int .i64 p.at_, .int .i64 p.first] ++ vtxL p.up ++ vtxL p.down ++ _
 rw [<- hX, setAt_eq _ _ _ (by simp [hXl])]
 rw [List.take_append_of_le_length (by omega), List.take_of_length_le (by omega), List.append_assoc, List.drop_append, List.drop_eq_nil_of_le (by simp [hXl])]
 simp [hXl]
theorem part_setG (p : PartM) (A : Option Addr) (c : Nat) : setAt (partC p) 101 [.slice A p.gone.length c] = partC { p with GA := A, gc := c } := by
 have h1 := hb_len p.patch
 have h2 := vtxL_len p.up
 have h3 := vtxL_len p.down
 obtain ⟨X, hX⟩ : ∃ X, X = bytesC p.patch.1 ++ [Value.int .i64 p.at_, .int .i64 p.first] ++ vtxL p.up ++ vtxL p.down := ⟨_, rfl⟩
 have hXl : X.length = 100 := by rw [hX]; simp [h1, h2, h3]
 show setAt (bytesC p.patch.1 ++ [Value.int .i64 p.at_, .int .i64 p.first] ++ vtxL p.up ++ vtxL p.down ++ _) _ _ = bytesC p.patch.1 ++ [Value.int .i64 p.at_, .int .i64 p.first] ++ vtxL p.up ++ vtxL p.down ++ _
 rw [<- hX, setAt_eq _ _ _ (by simp [hXl])]
 rw [List.take_append, List.take_of_length_le (by omega)]
 simp [hXl]
theorem laidN_succ (N : List (Vtx × NodeP)) (p : PartP) (k : Nat) : laidN N p (k + 1) = mpt (laidN N p k) (p.vtx k) ⟨p.lines[k]!, 0, 0, []⟩ := by
 unfold laidN
 rw [List.range_succ, List.foldl_append]
 rfl
instance {l : List Vtx} {N : List (Vtx × NodeM)} : Decidable (∃ v ∈ l, v ∉ mks N) := inferInstance
noncomputable def addE (G : Gr) (p : PartP) : Int :=
 if ThereG G p then 6 else if ¬ Formed p then 4 else if ¬ HasG G p.up ∨ ¬ HasG G p.down ∨ ∃ v ∈ p.gone, v ∉ mks G.nodes then 10 else if befB G p.up p.down = false then 4 else 0
noncomputable def addT (G : Gr) (p : PartP) : Gr := if addE G p = 0 then addG G p else G
def addL (p : PartM) : Nat := p.lines.length + 2 * p.gone.length + 3
theorem addE_there {G : Gr} {p : PartP} (h : ThereG G p) : addE G p = 6 := by unfold addE; rw [if_pos h]
theorem addE_form {G : Gr} {p : PartP} (h : ¬ ThereG G p) (h2 : ¬ Formed p) : addE G p = 4 := by unfold addE; rw [if_neg h, if_pos h2]
theorem addE_dep {G : Gr} {p : PartP} (h : ¬ ThereG G p) (h2 : Formed p) (h3 : ¬ HasG G p.up ∨ ¬ HasG G p.down ∨ ∃ v ∈ p.gone, v ∉ mks G.nodes) : addE G p = 10 := by unfold addE; rw [if_neg h, if_neg (fun k => k h2), if_pos h3]
theorem addE_bef {G : Gr} {p : PartP} (h : ¬ ThereG G p) (h2 : Formed p) (h3 : HasG G p.up) (h4 : HasG G p.down) (h5 : ∀ v ∈ p.gone, v ∈ mks G.nodes) : addE G p = if befB G p.up p.down = false then 4 else 0 := by
 unfold addE
 rw [if_neg h, if_neg (fun k => k h2), if_neg]
 rintro (k | k | ⟨v, k1, k2⟩)
 ·exact k h3
 ·exact k h4
 exact k2 (h5 v k1)
theorem Sub.join5 {a b c d e x y z : Seg} {S : SS} : Sub (a :: b :: c :: d :: e :: (x ++ (y ++ z)) :: S) (a :: b :: c :: d :: e :: x :: y :: z :: S) := Sub.cons (Sub.cons (Sub.cons (Sub.cons (Sub.cons ((Sub.join).trans (Sub.cons Sub.join))))))
theorem gone_any {p : PartM} {N : List (Vtx × NodeM)} : (p.gone.any fun v => !decide (v ∈ mks N)) = true ↔ ∃ v ∈ p.gone, v ∉ mks N := by simp
abbrev gseg (r : Nat) (m : GrM) : Seg := [(r, .cells [m.ptr] 25 1)]
theorem one_node (s : ByteArray) (w0 : World) (B : SS) (lim : Nat) : NodeOk' w0 B lim ⟨s, 0, 0, none, 0, []⟩ := ⟨Rd.nil, by simp, by simp, by simp, by simp⟩
theorem str_at {w0 : World} {S : SS} {a : Addr} {l : List ByteArray} (h : Rd w0 S (some a) (strs l)) {k : Nat} (hk : k < l.length) : Cell w0 S (a.add k) (.string l[k]) := h.at (by unfold strs; rw [List.getElem?_map, List.getElem?_eq_getElem hk]; rfl)
theorem add_fc {w0 : World} {S X : SS} {m : GrM} (hm : GOk w0 X m) (hX : Over X S) {p : PartM} (hp : PartR p) (hrL : Rd w0 S p.LA (strs p.lines)) (hrG : Rd w0 S p.GA (vtxs p.gone)) (hroot : ∀ e ∈ EG m.gr.nodes, e.2 ≠ rootV) (hE : (EG m.gr.nodes).length <= 1000000000) (hlim : m.lim + addL p <= 1000000000000) :
    FC Try.prog w0 16 [m.ptr, partV p] (GS m ++ S) (fun v S' => ∃ m', v = .int .i64 (addE m.gr p.pl) /\ S' = GS m' ++ S /\ GOk w0 X m' /\ m'.gr = addT m.gr p.pl /\ m'.r = m.r /\ m'.lim <= m.lim + addL p /\ ∀ x ∈ m.junk, x ∈ m'.junk) := by
  have hS : Over (GS m ++ X) (GS m ++ S) := Over.both hX
  unfold addL at hlim
  have hpl := hp.lines
  have hpgl := hp.gones
  refine FC.ofD Try.known16 (by simp) ?_
  unfold Try.pc16
  simp only [argT]
  refine PW.seqOps ?_
  refine OL.cons trivial (OW.bx rfl) ?_
  rintro _ _ ⟨r2, rfl, rfl⟩
  change OL _ _ _ _ _ (gseg r2 m :: (GS m ++ S)) _
  refine OL.cons trivial (OW.bx rfl) ?_
  rintro _ _ ⟨r3, rfl, rfl⟩
  rw [part_box, partC_len]
  refine OL.dp rfl ?_
  refine OL.nil ?_
  refine PW.k2 2 3 rfl rfl ?_
  refine PW.seq fun K1 hK1 => ?_
  refine PW.block ?_
  refine PW.seqOps ?_
  refine OL.det trivial (.ld rfl (own_at (j := 0) (c := [m.ptr]) (E := 25) (tot := 1) (List.mem_flatten.2 ⟨_, .tail _ (.head _), List.mem_singleton.2 rfl⟩) rfl)) ?_
  refine OL.call trivial rfl (is_fc hS.cons.cons) ?_
  rintro _ Sx ⟨rfl, hSx⟩
  rw [hSx]
  clear hSx
  refine OL.dp rfl ?_
  refine OL.dp rfl ?_
  refine OL.nil ?_
  refine PW.k3 2 3 7 rfl rfl rfl ?_
  refine PW.ite (b := false) rfl ?_
  rw [if_neg Bool.false_ne_true]
  refine PW.seqOps ?_
  refine OL.det trivial (.ld rfl (own_at (j := 0) (c := [m.ptr]) (E := 25) (tot := 1) (List.mem_flatten.2 ⟨_, .tail _ (.head _), List.mem_singleton.2 rfl⟩) rfl)) ?_
  refine OL.det trivial (.ldA rfl (partC_len _) (all_at (List.mem_flatten.2 ⟨_, .head _, List.mem_singleton.2 rfl⟩))) ?_
  refine OL.call trivial rfl (there_fc hm hS.cons.cons hp) ?_
  rintro _ Sx ⟨rfl, hSx⟩
  rw [hSx]
  clear hSx
  refine OL.dp rfl ?_
  refine OL.nil ?_
  refine PW.k3 2 3 11 rfl rfl rfl ?_
  refine PW.cond rfl (fun c11 => ?_) (fun c11 => ?_)
  · try simp only [cvS] at c11
    refine PW.seqOps ?_
    refine OL.dp rfl ?_
    refine OL.nil ?_
    refine PW.k1 4 rfl ?_
    refine PW.ret ?_
    change (Exit.ret = Exit.normal ∨ Exit.ret = Exit.ret) /\ ∃ v, resV _ _ = some v /\ _
    exact ⟨.inr rfl, _, rfl, _, Sub.drop (Sub.drop (Sub.refl _)), m, by rw [addE_there c11], rfl, hm, (by unfold addT; rw [addE_there c11]; rfl), rfl, by unfold addL; omega, fun _ h => h⟩
  try simp only [cvS] at c11
  refine PW.seqOps ?_
  refine OL.det trivial (.ldA rfl (partC_len _) (all_at (List.mem_flatten.2 ⟨_, .head _, List.mem_singleton.2 rfl⟩))) ?_
  refine OL.call trivial rfl (formed_fc ⟨hrL.appR.cons.cons, hrG.appR.cons.cons, hp⟩) ?_
  rintro _ Sx ⟨rfl, hSx⟩
  rw [hSx]
  clear hSx
  refine OL.dp rfl ?_
  refine OL.dp rfl ?_
  refine OL.nil ?_
  refine PW.k3 2 3 15 rfl rfl rfl ?_
  refine PW.cond rfl (fun c15 => ?_) (fun c15 => ?_)
  · try simp only [cvS] at c15
    refine PW.seqOps ?_
    refine OL.dp rfl ?_
    refine OL.nil ?_
    refine PW.k1 4 rfl ?_
    refine PW.ret ?_
    change (Exit.ret = Exit.normal ∨ Exit.ret = Exit.ret) /\ ∃ v, resV _ _ = some v /\ _
    exact ⟨.inr rfl, _, rfl, _, Sub.drop (Sub.drop (Sub.refl _)), m, by rw [addE_form c11 c15], rfl, hm, (by unfold addT; rw [addE_form c11 c15]; rfl), rfl, by unfold addL; omega, fun _ h => h⟩
  try simp only [cvS] at c15
  refine PW.seqOps ?_
  refine OL.det trivial (.ld rfl (own_at (j := 0) (c := [m.ptr]) (E := 25) (tot := 1) (List.mem_flatten.2 ⟨_, .tail _ (.head _), List.mem_singleton.2 rfl⟩) rfl)) ?_
  refine OL.dp rfl ?_
  refine OL.det trivial (.ldA rfl (vtxL_len _) (part_up (p := p) (E := 36) (tot := 102) (List.mem_flatten.2 ⟨_, .head _, List.mem_singleton.2 rfl⟩))) ?_
  refine OL.call trivial rfl (has_fc hm hS.cons.cons hp.up) ?_
  rintro _ Sx ⟨rfl, hSx⟩
  rw [hSx]
  clear hSx
  refine OL.dp rfl ?_
  refine OL.bool trivial (Yields.pure rfl) (fun g25 => ?_) (fun g25 => ?_)
  · try simp only [cvS] at g25
    refine OL.off rfl rfl ?_
    refine OL.off rfl rfl ?_
    refine OL.off rfl rfl ?_
    refine OL.off rfl rfl ?_
    refine OL.off rfl rfl ?_
    refine OL.dp rfl ?_
    refine OL.dp rfl ?_
    refine OL.off rfl rfl ?_
    refine OL.off rfl rfl ?_
    refine OL.off rfl rfl ?_
    refine OL.off rfl rfl ?_
    refine OL.dp rfl ?_
    refine OL.dp rfl ?_
    refine OL.nil ?_
    refine PW.k3 2 3 19 rfl rfl rfl ?_
    refine PW.ite (b := true) rfl ?_
    rw [if_pos rfl]
    refine PW.seqOps ?_
    refine OL.dp rfl ?_
    refine OL.nil ?_
    refine PW.k1 4 rfl ?_
    refine PW.ret ?_
    change (Exit.ret = Exit.normal ∨ Exit.ret = Exit.ret) /\ ∃ v, resV _ _ = some v /\ _
    have hdep : ¬ HasG m.gr p.pl.up ∨ ¬ HasG m.gr p.pl.down ∨ ∃ v ∈ p.pl.gone, v ∉ mks m.gr.nodes := by
      first
        | exact .inl g25
        | exact .inr (.inl g32)
        | (refine .inr (.inr ?_)
           show ∃ v ∈ p.gone, v ∉ mks (plN m.nodes)
           rw [mks_plN]
           exact gone_any.1 c19)
    exact ⟨.inr rfl, _, rfl, _, Sub.drop (Sub.drop (Sub.refl _)), m, by rw [addE_dep c11 c15 hdep], rfl, hm, (by unfold addT; rw [addE_dep c11 c15 hdep]; rfl), rfl, by unfold addL; omega, fun _ h => h⟩
  try simp only [cvS] at g25
  refine OL.det rfl (.ld rfl (own_at (j := 0) (c := [m.ptr]) (E := 25) (tot := 1) (List.mem_flatten.2 ⟨_, .tail _ (.head _), List.mem_singleton.2 rfl⟩) rfl)) ?_
  refine OL.det rfl (.pure rfl) ?_
  refine OL.det rfl (.ldA rfl (vtxL_len _) (part_down (p := p) (E := 36) (tot := 102) (List.mem_flatten.2 ⟨_, .head _, List.mem_singleton.2 rfl⟩))) ?_
  refine OL.call rfl rfl (has_fc hm hS.cons.cons hp.down) ?_
  rintro _ Sx ⟨rfl, hSx⟩
  rw [hSx]
  clear hSx
  refine OL.det rfl (.pure rfl) ?_
  refine OL.dp rfl ?_
  refine OL.bool trivial (Yields.pure rfl) (fun g32 => ?_) (fun g32 => ?_)
  · try simp only [cvS] at g32
    refine OL.off rfl rfl ?_
    refine OL.off rfl rfl ?_
    refine OL.off rfl rfl ?_
    refine OL.off rfl rfl ?_
    refine OL.dp rfl ?_
    refine OL.dp rfl ?_
    refine OL.nil ?_
    refine PW.k3 2 3 19 rfl rfl rfl ?_
    refine PW.ite (b := true) rfl ?_
    rw [if_pos rfl]
    refine PW.seqOps ?_
    refine OL.dp rfl ?_
    refine OL.nil ?_
    refine PW.k1 4 rfl ?_
    refine PW.ret ?_
    change (Exit.ret = Exit.normal ∨ Exit.ret = Exit.ret) /\ ∃ v, resV _ _ = some v /\ _
    have hdep : ¬ HasG m.gr p.pl.up ∨ ¬ HasG m.gr p.pl.down ∨ ∃ v ∈ p.pl.gone, v ∉ mks m.gr.nodes := by
      first
        | exact .inl g25
        | exact .inr (.inl g32)
        | (refine .inr (.inr ?_)
           show ∃ v ∈ p.gone, v ∉ mks (plN m.nodes)
           rw [mks_plN]
           exact gone_any.1 c19)
    exact ⟨.inr rfl, _, rfl, _, Sub.drop (Sub.drop (Sub.refl _)), m, by rw [addE_dep c11 c15 hdep], rfl, hm, (by unfold addT; rw [addE_dep c11 c15 hdep]; rfl), rfl, by unfold addL; omega, fun _ h => h⟩
  try simp only [cvS] at g32
  refine OL.det rfl (.pure rfl) ?_
  refine OL.det rfl (.ld rfl (part_gone (p := p) (E := 36) (tot := 102) (List.mem_flatten.2 ⟨_, .head _, List.mem_singleton.2 rfl⟩))) ?_
  refine OL.det rfl (Yields.mkF rfl) ?_
  refine OL.call rfl rfl (containsFunc_fc (q := fun v => !decide (v ∈ mks m.nodes)) (ca := [.pointer (some ⟨r2, 0, none⟩)]) hrG.appR.cons.cons (by omega) (by kernel_rfl) (fun x hx => add1_fc hm hS.cons.cons (hp.gone x hx) (own_at (j := 0) (c := [m.ptr]) (E := 25) (tot := 1) (List.mem_flatten.2 ⟨_, .tail _ (.head _), List.mem_singleton.2 rfl⟩) rfl))) ?_
  rintro _ Sx ⟨rfl, hSx⟩
  rw [hSx]
  clear hSx
  refine OL.dp rfl ?_
  refine OL.dp rfl ?_
  refine OL.nil ?_
  refine PW.k3 2 3 19 rfl rfl rfl ?_
  refine PW.cond rfl (fun c19 => ?_) (fun c19 => ?_)
  · skip
    refine PW.seqOps ?_
    refine OL.dp rfl ?_
    refine OL.nil ?_
    refine PW.k1 4 rfl ?_
    refine PW.ret ?_
    change (Exit.ret = Exit.normal ∨ Exit.ret = Exit.ret) /\ ∃ v, resV _ _ = some v /\ _
    have hdep : ¬ HasG m.gr p.pl.up ∨ ¬ HasG m.gr p.pl.down ∨ ∃ v ∈ p.pl.gone, v ∉ mks m.gr.nodes := by
      first
        | exact .inl g25
        | exact .inr (.inl g32)
        | (refine .inr (.inr ?_)
           show ∃ v ∈ p.gone, v ∉ mks (plN m.nodes)
           rw [mks_plN]
           exact gone_any.1 c19)
    exact ⟨.inr rfl, _, rfl, _, Sub.drop (Sub.drop (Sub.refl _)), m, by rw [addE_dep c11 c15 hdep], rfl, hm, (by unfold addT; rw [addE_dep c11 c15 hdep]; rfl), rfl, by unfold addL; omega, fun _ h => h⟩
  skip
  have hgn : ∀ v ∈ p.pl.gone, v ∈ mks m.gr.nodes := by
    intro v hv
    show v ∈ mks (plN m.nodes)
    rw [mks_plN]
    exact Classical.byContradiction fun h => by
      rw [gone_any.2 ⟨v, hv, h⟩] at c19
      cases c19
  refine PW.seqOps ?_
  refine OL.det trivial (.ld rfl (own_at (j := 0) (c := [m.ptr]) (E := 25) (tot := 1) (List.mem_flatten.2 ⟨_, .tail _ (.head _), List.mem_singleton.2 rfl⟩) rfl)) ?_
  refine OL.dp rfl ?_
  refine OL.det trivial (.ldA rfl (vtxL_len _) (part_up (p := p) (E := 36) (tot := 102) (List.mem_flatten.2 ⟨_, .head _, List.mem_singleton.2 rfl⟩))) ?_
  refine OL.dp rfl ?_
  refine OL.det trivial (.ldA rfl (vtxL_len _) (part_down (p := p) (E := 36) (tot := 102) (List.mem_flatten.2 ⟨_, .head _, List.mem_singleton.2 rfl⟩))) ?_
  refine OL.call trivial rfl (before_fc hm hS.cons.cons hp.up hp.down hroot hE) ?_
  rintro _ Sx ⟨rfl, hSx⟩
  rw [hSx]
  clear hSx
  refine OL.dp rfl ?_
  refine OL.dp rfl ?_
  refine OL.nil ?_
  refine PW.k3 2 3 38 rfl rfl rfl ?_
  refine PW.cond rfl (fun c38 => ?_) (fun c38 => ?_)
  · try simp only [cvS] at c38
    refine PW.seqOps ?_
    refine OL.dp rfl ?_
    refine OL.nil ?_
    refine PW.k1 4 rfl ?_
    refine PW.ret ?_
    change (Exit.ret = Exit.normal ∨ Exit.ret = Exit.ret) /\ ∃ v, resV _ _ = some v /\ _
    have hbe := addE_bef (G := m.gr) (p := p.pl) c11 c15 g25 g32 hgn
    rw [show befB m.gr p.pl.up p.pl.down = false from c38] at hbe
    exact ⟨.inr rfl, _, rfl, _, Sub.drop (Sub.drop (Sub.refl _)), m, by rw [hbe]; rfl, rfl, hm, (by unfold addT; rw [hbe]; rfl), rfl, by unfold addL; omega, fun _ h => h⟩
  try simp only [cvS] at c38
  refine PW.skip ?_
  refine hK1 _ _ ?_
  refine PW.k2 2 3 rfl rfl ?_
  refine PW.seq fun K2 hK2 => ?_
  refine PW.quietG (Ss := Over (pseg r3 p :: gseg r2 m :: (GS m ++ S))) (fr := false) [(0, 0), (1, 0), (3, 0), (4, 0), (2, 2), (6, 0), (5, 2)] Try.mixed (by decide +kernel) (Over.refl _) (fun h => by cases h) ?_
  refine GL.dp rfl ?_
  refine GL.det trivial (fun Sx hSx => Yields.ld rfl (part_lines (p := p) (E := 36) (tot := 102) (hSx _ (List.mem_flatten.2 ⟨_, .head _, List.mem_singleton.2 rfl⟩)))) ?_
  refine GL.dp rfl ?_
  refine GL.det trivial (fun Sx hSx => Yields.ld rfl (part_gone (p := p) (E := 36) (tot := 102) (hSx _ (List.mem_flatten.2 ⟨_, .head _, List.mem_singleton.2 rfl⟩)))) ?_
  refine GL.lo trivial (OW.mono (OW.call rfl (cloneS_fc hrL.appR.cons.cons (by omega))) ?_)
  rintro v48 _ ⟨seg48, rfl, hs48⟩
  refine ⟨(Over.refl _).cons, ?_⟩
  refine GL.dp rfl ?_
  refine GL.lo trivial (OW.mono (OW.call rfl (clone_fc hrG.appR.cons.cons.cons (by omega))) ?_)
  rintro v51 _ ⟨seg51, rfl, hs51⟩
  refine ⟨(Over.refl _).cons.cons, ?_⟩
  obtain ⟨LA, lc, rfl, hLn, hLc, hrL2⟩ := slv_rdL (w0 := w0) hs48
  obtain ⟨GA, gc, rfl, hGn, hGc, hrG2⟩ := slv_rdL (w0 := w0) hs51
  change OL _ _ _ [_, _, _] _ _ _
  refine OL.cons trivial (OW.st (k := 2) (c := partC p) (u := .slice LA p.lines.length lc) rfl rfl rfl rfl (by rw [partC_len]; show 100 + 1 <= 102; decide) rfl) ?_
  rintro _ _ rfl
  change OL _ _ _ _ _ (seg51 :: seg48 :: [(r3, .cells (setAt (partC p) 100 [.slice LA p.lines.length lc]) 36 102)] :: gseg r2 m :: (GS m ++ S)) _
  rw [part_setL]
  refine OL.dp rfl ?_
  refine OL.cons trivial (OW.st (k := 2) (c := partC { p with LA := LA, lc := lc }) (u := .slice GA p.gone.length gc) rfl rfl rfl rfl (by rw [partC_len]; show 101 + 1 <= 102; decide) rfl) ?_
  rintro _ _ rfl
  change OL _ _ _ _ _ (seg51 :: seg48 :: [(r3, .cells (setAt (partC { p with LA := LA, lc := lc }) 101 [.slice GA { p with LA := LA, lc := lc }.gone.length gc]) 36 102)] :: gseg r2 m :: (GS m ++ S)) _
  rw [part_setG]
  obtain ⟨p2, hp2⟩ : ∃ z : PartM, z = { p with LA := LA, lc := lc, GA := GA, gc := gc } := ⟨_, rfl⟩
  change OL _ _ _ _ _ (seg51 :: seg48 :: pseg r3 { p with LA := LA, lc := lc, GA := GA, gc := gc } :: gseg r2 m :: (GS m ++ S)) _
  rw [<- hp2]
  have hpp : p2.pl = p.pl := by rw [hp2]; rfl
  have hlp : p2.lines = p.lines := by rw [hp2]
  have hgp : p2.gone = p.gone := by rw [hp2]
  have hp2R : PartR p2 := by rw [hp2]; exact ⟨hp.at_, hp.first, hp.lines, hp.gones, hGc, hGn, hp.up, hp.down, hp.gone⟩
  obtain ⟨m1, hm1d⟩ : ∃ z : GrM, z = { m with junk := m.junk ++ (seg48 ++ seg51) } := ⟨_, rfl⟩
  have hm1 : GOk w0 X m1 := by rw [hm1d]; exact hm.junk' _
  have hr1 : m1.r = m.r := by rw [hm1d]
  have hpo : PartOk' w0 (m1.junk :: X) p2 := ⟨by rw [hm1d, hp2]; exact ((hrL2 []).junkR (b := seg51)).junkL, by rw [hm1d, hp2]; exact ((hrG2 []).junkL (a := seg48)).junkL, hp2R⟩
  refine OL.subS (S' := pseg r3 p2 :: gseg r2 m :: (GS m1 ++ S)) (by rw [hm1d]; exact (Sub.join5).trans (Sub.sel [2, 3, 4, 5, 6, 7, 1, 0] 8 (by decide) (seg51 :: seg48 :: pseg r3 p2 :: gseg r2 m :: (GS m ++ S)))) ?_
  refine OL.nil ?_
  refine hK2 _ _ ?_
  refine PW.k2 2 3 rfl rfl ?_
  refine PW.seq fun K3 hK3 => ?_
  refine PW.quietK Try.mixed ?_
  refine QK.det trivial (.ld rfl (own_at (j := 0) (c := [m.ptr]) (E := 25) (tot := 1) (List.mem_flatten.2 ⟨_, .tail _ (.head _), List.mem_singleton.2 rfl⟩) rfl)) ?_
  refine QK.det trivial (Yields.nilc rfl) ?_
  refine QK.dp rfl ?_
  refine QK.det trivial (.ld rfl (by rw [<- hr1]; exact g_parts (Over.both hX).cons.cons)) ?_
  refine QK.dp rfl ?_
  refine QK.det trivial (.ldA rfl (hb_len _) (part_patch (p := p2) (E := 36) (tot := 102) (List.mem_flatten.2 ⟨_, .head _, List.mem_singleton.2 rfl⟩))) ?_
  refine QK.dp rfl ?_
  refine QK.det trivial (.ld rfl (part_at (p := p2) (E := 36) (tot := 102) (List.mem_flatten.2 ⟨_, .head _, List.mem_singleton.2 rfl⟩))) ?_
  refine QK.det trivial (.build (fill_vtx rfl rfl)) ?_
  refine QK.det trivial (.ldA rfl (partC_len _) (all_at (c := partC p2) (E := 36) (tot := 102) (List.mem_flatten.2 ⟨_, .head _, List.mem_singleton.2 rfl⟩))) ?_
  refine QK.nil ?_
  change OL _ _ _ [_] _ _ _
  refine OL.cons trivial (OW.updG (j := 3) (l := m1.parts) (a := p2.pl.name) (v := p2) Try.underlying54 keys97 hm1.pk hp2R.name rfl rfl rfl rfl) ?_
  rintro _ _ rfl
  obtain ⟨m2, hm2d⟩ : ∃ z : GrM, z = { m1 with parts := mpt m1.parts p2.pl.name p2 } := ⟨_, rfl⟩
  have hm2 : GOk w0 X m2 := by rw [hm2d]; exact hm1.part' hp2R.name hpo
  change OL _ _ _ _ _ (pseg r3 p2 :: gseg r2 m :: (GS { m1 with parts := mpt m1.parts p2.pl.name p2 } ++ S)) _
  rw [<- hm2d]
  have hr2 : m2.r = m.r := by rw [hm2d, hm1d]
  have hl2 : m2.lim = m.lim := by rw [hm2d, hm1d]
  have hn2 : m2.nodes = m.nodes := by rw [hm2d, hm1d]
  have hf2 : m2.first = m.first := by rw [hm2d, hm1d]
  have hpp2 : plP m2.parts = mpt (plP m.parts) p.pl.name p.pl := by rw [hm2d, hm1d]; show plP (mpt m.parts p2.pl.name p2) = _; rw [mpt_plP, hpp]
  have hj2 : ∀ x ∈ m.junk, x ∈ m2.junk := by rw [hm2d, hm1d]; exact fun x hx => List.mem_append_left _ hx
  have hpo2 : PartOk' w0 (m2.junk :: X) p2 := by rw [hm2d]; exact hpo
  refine OL.nil ?_
  refine hK3 _ _ ?_
  refine PW.k2 2 3 rfl rfl ?_
  refine PW.seq fun K4 hK4 => ?_
  refine PW.seqOps ?_
  refine OL.dp rfl ?_
  refine OL.det trivial (.ld rfl (part_lines (p := p2) (E := 36) (tot := 102) (List.mem_flatten.2 ⟨_, .head _, List.mem_singleton.2 rfl⟩))) ?_
  refine OL.dp rfl ?_
  refine OL.dp rfl ?_
  refine OL.nil ?_
  refine PW.k5 2 3 65 66 67 rfl rfl rfl rfl rfl ?_
  refine PW.block ?_
  refine PW.k5 2 3 65 66 67 rfl rfl rfl rfl rfl ?_
  refine PW.loopK (I := fun mm T S' => ∃ (k : Nat) (m3 : GrM), (k <= p2.lines.length /\ mm = p2.lines.length - k /\ GOk w0 X m3 /\ m3.parts = m2.parts /\ m3.first = m2.first /\ plN m3.nodes = laidN (plN m2.nodes) p2.pl k /\ m3.r = m.r /\ m3.lim = m.lim /\ m3.junk = m2.junk) /\ T = ([(2, .pointer (some ⟨r2, 0, none⟩)), (3, .pointer (some ⟨r3, 0, none⟩)), (65, .slice p2.LA p2.lines.length p2.lc), (66, .int .i64 (p2.lines.length : Int)), (67, .int .i64 k)] : TT) /\ S' = pseg r3 p2 :: gseg r2 m :: (GS m3 ++ S)) (m := p2.lines.length) ⟨0, m2, ⟨by omega, by omega, hm2, rfl, rfl, rfl, hr2, hl2, rfl⟩, rfl, rfl⟩ ?_
  rintro mm _ _ ⟨k, m3, ⟨hk, hmm, hm3, hp3, hf3, hn3, hr3, hl3, hj3⟩, rfl, rfl⟩
  refine PW.seqOps ?_
  refine OL.dp rfl ?_
  refine OL.nil ?_
  refine PW.k6 2 3 65 66 67 68 rfl rfl rfl rfl rfl rfl ?_
  refine PW.seq fun K5 hK5 => ?_
  refine PW.cond rfl (fun c68 => ?_) (fun c68 => ?_)
  · try simp only [cvS] at c68
    have hp2l := hp2R.lines
    have hkl : k < p2.lines.length := by omega
    obtain ⟨al, hal⟩ := strs_some hpo2.rdL (by omega)
    have hrL4 : Rd w0 (pseg r3 p2 :: gseg r2 m :: (GS m3 ++ S)) (some al) (strs p2.lines) := by
      rw [<- hal]
      exact ((hpo2.rdL.jmono (b := m3.junk) fun x hx => hj3 ▸ hx).junk (Over.both hX)).cons.cons
    refine PW.skip ?_
    refine hK5 _ _ ?_
    refine PW.k5 2 3 65 66 67 rfl rfl rfl rfl rfl ?_
    refine PW.seq fun K6 hK6 => ?_
    refine PW.block ?_
    refine PW.seqOps ?_
    refine OL.dp rfl ?_
    rw [hal]
    refine OL.det trivial (.ixN1 rfl rfl rfl (by omega)) ?_
    refine OL.det trivial (.ld rfl (str_at hrL4 hkl)) ?_
    refine OL.dp rfl ?_
    refine OL.dp rfl ?_
    refine OL.nil ?_
    refine PW.k7 2 3 5 6 65 66 67 rfl rfl rfl rfl rfl rfl rfl ?_
    refine PW.quietK Try.mixed ?_
    refine QK.det trivial (.ld rfl (own_at (j := 0) (c := [m.ptr]) (E := 25) (tot := 1) (List.mem_flatten.2 ⟨_, .tail _ (.head _), List.mem_singleton.2 rfl⟩) rfl)) ?_
    refine QK.det trivial (Yields.nilc rfl) ?_
    refine QK.dp rfl ?_
    refine QK.det trivial (.ld rfl (by rw [<- hr3]; exact g_nodes (Over.both hX).cons.cons)) ?_
    refine QK.det trivial (.ldA rfl (partC_len _) (all_at (c := partC p2) (E := 36) (tot := 102) (List.mem_flatten.2 ⟨_, .head _, List.mem_singleton.2 rfl⟩))) ?_
    refine QK.dp rfl ?_
    refine QK.call trivial rfl (vertex_fc (i := k) hp2R (by have := hp2R.lines; omega)) ?_
    refine QK.dp rfl ?_
    refine QK.det trivial (.build rfl) ?_
    refine QK.nil ?_
    change OL _ _ _ [_] _ _ _
    refine OL.cons trivial (OW.updG (j := 4) (l := m3.nodes) (a := p2.pl.vtx k) (v := ⟨p2.lines[k], 0, 0, none, 0, []⟩) Try.underlying55 keys32 hm3.nk (hp2R.vtx hkl) rfl rfl rfl rfl) ?_
    rintro _ _ rfl
    refine OL.nil ?_
    refine hK6 _ _ ?_
    refine PW.k5 2 3 65 66 67 rfl rfl rfl rfl rfl ?_
    refine PW.ops ?_
    refine OL.det trivial (.add64 rfl rfl (by omega) (by omega)) ?_
    refine OL.dp rfl ?_
    refine OL.nil ?_
    repeat rw [inBlk_n]
    try rw [thenK_n]
    refine LoopEnd.mk (T'' := [(2, _), (3, _), (65, _), (66, _), (67, _)]) ⟨rfl, rfl, rfl, rfl, rfl, trivial⟩ ?_
    rw [hal]
    refine ⟨p2.lines.length - (k + 1), by omega, k + 1, { m3 with nodes := mpt m3.nodes (p2.pl.vtx k) ⟨p2.lines[k], 0, 0, none, 0, []⟩, lim := m3.lim + 0 }, ⟨by omega, rfl, hm3.node0 (k := 0) (hp2R.vtx hkl) (one_node _ _ _ _) (by omega), hp3, hf3, ?_, hr3, hl3, hj3⟩, rfl, rfl⟩
    show plN (mpt m3.nodes (p2.pl.vtx k) ⟨p2.lines[k], 0, 0, none, 0, []⟩) = _
    rw [mpt_plN, hn3, laidN_succ, getElem!_pos p2.pl.lines k hkl]
    rfl
  try simp only [cvS] at c68
  refine PW.exit ?_
  refine hK4 _ _ ?_
  refine PW.k2 2 3 rfl rfl ?_
  refine PW.seqOps ?_
  refine OL.subS (S' := GS m3 ++ (pseg r3 p2 :: gseg r2 m :: S)) (Sub.sel [2, 3, 4, 5, 0, 1] 6 (by decide) (pseg r3 p2 :: gseg r2 m :: (GS m3 ++ S))) ?_
  refine OL.det trivial (.ld rfl (own_at (j := 0) (c := [m.ptr]) (E := 25) (tot := 1) (by simp) rfl)) ?_
  refine OL.det trivial (.ldA rfl (partC_len _) (all_at (c := partC p2) (E := 36) (tot := 102) (by simp))) ?_
  refine OL.call trivial rfl (by rw [<- ptr_eq hr3]; exact links_fc hm3 hX.cons.cons hp2R true (by rw [hlp]; omega)) ?_
  rintro _ _ ⟨rfl, m4, rfl, hm4, hg4, hr4, hl4, hj4⟩
  refine OL.nil ?_
  refine PW.k2 2 3 rfl rfl ?_
  refine PW.seqOps ?_
  refine OL.det trivial (.ld rfl (own_at (j := 0) (c := [m.ptr]) (E := 25) (tot := 1) (by simp) rfl)) ?_
  refine OL.det trivial (.ldA rfl (partC_len _) (all_at (c := partC p2) (E := 36) (tot := 102) (by simp))) ?_
  refine OL.call trivial rfl (by rw [<- ptr_eq (hr4.trans hr3)]; exact count_fc hm4 hX.cons.cons hp2R (.inr (hpo2.rdG.jmono fun x hx => hj4 x (hj3 ▸ hx))) (.inl rfl) (by rw [hlp] at hl4; rw [hgp]; omega)) ?_
  rintro _ _ ⟨rfl, m5, rfl, hm5, hg5, hr5, hl5, hj5⟩
  refine OL.nil ?_
  refine PW.keep (T' := []) trivial ?_
  refine PW.seqOps ?_
  refine OL.dp rfl ?_
  refine OL.nil ?_
  refine PW.k1 4 rfl ?_
  refine PW.ret ?_
  change (Exit.ret = Exit.normal ∨ Exit.ret = Exit.ret) /\ ∃ v, resV _ _ = some v /\ _
  have hbe := addE_bef (G := m.gr) (p := p.pl) c11 c15 g25 g32 hgn
  rw [show befB m.gr p.pl.up p.pl.down = true from c38] at hbe
  have hbe0 : addE m.gr p.pl = 0 := hbe
  have hke : k = p2.lines.length := by omega
  refine ⟨.inr rfl, _, rfl, _, Sub.sel [0, 1, 2, 3] 6 (by decide) _, m5, by rw [hbe0], rfl, hm5, ?_, hr5.trans (hr4.trans hr3), by unfold addL; rw [hlp] at hl4; rw [hgp] at hl5; omega, fun x hx => hj5 x (hj4 x (hj3 ▸ hj2 x hx))⟩
  unfold addT
  rw [if_pos hbe0, hg5, hg4, hpp]
  have h3 : m3.gr = { parts := mpt m.gr.parts p.pl.name p.pl, nodes := laidN m.gr.nodes p.pl p.pl.lines.length, first := m.gr.first } := by
    unfold GrM.gr
    rw [hp3, hf3, hn3, hf2, hn2, hpp2, hpp, hke, hlp]
    rfl
  rw [h3]
  rfl
end Go.Proofs.Gr

namespace Go.Proofs.Gr
open Go.SL Go.RowKit Go.Proofs Go.GP
set_option maxHeartbeats 1000000
theorem GOk.delNode {w0 : World} {X : SS} {m : GrM} (hm : GOk w0 X m) (a : Vtx) : GOk w0 X { m with nodes := mdl m.nodes a } where
 pk := hm.pk
 part := hm.part
 nk := fun q hq => hm.nk q (mem_mdl hq)
 node := fun q hq => hm.node q (mem_mdl hq)
 first := hm.first
 firstOk := hm.firstOk
 firstLen := hm.firstLen
 lim := hm.lim
 pkd := hm.pkd
 nkd := mdl_nodup hm.nkd _
theorem GOk.delPart {w0 : World} {X : SS} {m : GrM} (hm : GOk w0 X m) (a : Vtx) : GOk w0 X { m with parts := mdl m.parts a } where
 pk := fun q hq => hm.pk q (mem_mdl hq)
 part := fun q hq => hm.part q (mem_mdl hq)
 nk := hm.nk
 node := hm.node
 first := hm.first
 firstOk := hm.firstOk
 firstLen := hm.firstLen
 lim := hm.lim
 pkd := mdl_nodup hm.pkd _
 nkd := hm.nkd
def remE (G : Gr) (nm : HashB × Int) : Int := match mgt G.parts nm with
 | none => 5
 | some p => if ∃ v ∈ own p, (nd G.nodes v).named > 0 then 10 else 0
def remT (G : Gr) (nm : HashB × Int) : Gr := match mgt G.parts nm with
 | none => G
 | some p => if remE G nm = 0 then remG G p else G
def hashV (h : HashB) : Value := .agg (bytesC h.1).toArray
abbrev hseg (r : Nat) (h : HashB) : Seg := [(r, .cells (bytesC h.1) 30 32)]
theorem remG_eq (G : Gr) (p : PartP) : remG G p = { parts := mdl (linksG false G (edges p)).parts p.name, nodes := (own p).foldl mdl (countG (-1) (linksG false G (edges p)).nodes p), first := (linksG false G (edges p)).first } := rfl
theorem own_eq (p : PartM) : own p.pl = (List.range p.lines.length).map p.pl.vtx := rfl
theorem remove_fc {w0 : World} {S X : SS} {m : GrM} (hm : GOk w0 X m) (hX : Over X S) {h : HashB} {at_ : Int} (hat : okV (h, at_)) (hnm : ∀ q ∈ m.parts, q.1 = q.2.pl.name) (hlim : m.lim + 4000000000 <= 1000000000000) :
  FC Try.prog w0 21 [m.ptr, hashV h, .int .i64 at_] (GS m ++ S) (fun v S' => ∃ m', v = .int .i64 (remE m.gr (h, at_)) /\ S' = GS m' ++ S /\ GOk w0 X m' /\ m'.gr = remT m.gr (h, at_) /\ m'.r = m.r /\ m'.lim <= m.lim + 4000000000 /\ (remE m.gr (h, at_) ≠ 0 -> m' = m)) := by
 have hS : Over (GS m ++ X) (GS m ++ S) := Over.both hX
 obtain ⟨z, hz1, hz2⟩ := zero36
 obtain ⟨z', hy1, hy2⟩ := zero100
 have hgp : mgt m.gr.parts (h, at_) = (mgt m.parts (h, at_)).map PartM.pl := mgt_plP _ _
 refine FC.ofD Try.known21 (by simp) ?_
 unfold Try.pc21
 simp only [argT]
 refine PW.seqOps ?_
 refine OL.cons trivial (OW.bx rfl) ?_
 rintro _ _ ⟨r4, rfl, rfl⟩
 rw [show (hashV h).cells.toList = bytesC h.1 from rfl, hb_len]
 refine OL.dp rfl ?_
 refine OL.nil ?_
 refine PW.k3 0 2 4 rfl rfl rfl ?_
 refine PW.seq fun K1 hK1 => ?_
 refine PW.seqOps ?_
 refine OL.dp rfl ?_
 refine OL.call trivial rfl (is_fc hS.cons) ?_
 rintro _ Sx ⟨rfl, hSx⟩
 rw [hSx]
 clear hSx
 refine OL.dp rfl ?_
 refine OL.nil ?_
 refine PW.k4 0 2 4 13 rfl rfl rfl rfl ?_
 refine PW.ite (b := false) rfl ?_
 rw [if_neg Bool.false_ne_true]
 refine PW.skip ?_
 refine hK1 _ _ ?_
 refine PW.k3 0 2 4 rfl rfl rfl ?_
 refine PW.seq fun K2 hK2 => ?_
 refine PW.quietG (Ss := Over (hseg r4 h :: (GS m ++ S))) (fr := false) [(0, 0), (1, 0), (2, 0), (3, 0), (4, 0), (5, 0), (6, 0), (7, 0), (8, 0), (9, 0), (10, 0), (11, 2), (12, 2)] Try.mixed (by decide +kernel) (Over.refl _) (fun h => by cases h) ?_
 refine GL.dp rfl ?_
 refine GL.det trivial (fun Sx hSx => Yields.nilc rfl) ?_
 refine GL.dp rfl ?_
 refine GL.det trivial (fun Sx hSx => Yields.ld rfl (g_parts (hS.cons.trans hSx))) ?_
 refine GL.det trivial (fun Sx hSx => Yields.ldA rfl (hb_len h) (all_at (c := bytesC h.1) (E := 30) (tot := 32) (hSx _ (List.mem_flatten.2 ⟨_, .head _, List.mem_singleton.2 rfl⟩)))) ?_
 refine GL.dp rfl ?_
 refine GL.det trivial (fun Sx hSx => Yields.build (fill_vtx rfl rfl)) ?_
 refine GL.det trivial (fun Sx hSx => Yields.lookG (okc := true) (a := (h, at_)) Try.underlying54 hz1 hz2 keys97 hm.pk hat rfl rfl (GS_mem (hS.cons.trans hSx)).2.1) ?_
 refine GL.dp rfl ?_
 refine GL.dp rfl ?_
 refine GL.dp rfl ?_
 refine GL.lo trivial (OW.mono (OW.al) ?_)
 rintro _ _ ⟨r7, rfl, rfl⟩
 refine ⟨(Over.refl _).cons, ?_⟩
 refine GL.lo trivial (OW.mono (part_st rfl rfl rfl) ?_)
 rintro _ _ rfl
 refine ⟨(Over.refl _).cons, ?_⟩
 obtain ⟨p, hpd⟩ : ∃ z, z = (mgt m.parts (h, at_)).getD zPart := ⟨_, rfl⟩
 rw [<- hpd]
 change OL _ _ _ [_] _ _ _
 refine OL.dp rfl ?_
 refine OL.nil ?_
 refine hK2 _ _ ?_
 refine PW.k5 0 2 4 7 8 rfl rfl rfl rfl rfl ?_
 refine PW.seq fun K3 hK3 => ?_
 refine PW.seqOps ?_
 refine OL.dp rfl ?_
 refine OL.dp rfl ?_
 refine OL.nil ?_
 refine PW.k5 0 2 4 7 26 rfl rfl rfl rfl rfl ?_
 refine PW.cond rfl (fun c26 => ?_) (fun c26 => ?_)
 ·skip
  have hsm : mgt m.parts (h, at_) = none := by
   cases e : mgt m.parts (h, at_) with
   | none => rfl
   | some n => rw [e] at c26; cases c26
  rw [hsm] at hgp
  refine PW.seqOps ?_
  refine OL.dp rfl ?_
  refine OL.nil ?_
  refine PW.k1 6 rfl ?_
  refine PW.ret ?_
  change (Exit.ret = Exit.normal ∨ Exit.ret = Exit.ret) /\ ∃ v, resV _ _ = some v /\ _
  exact ⟨.inr rfl, _, rfl, _, Sub.drop (Sub.drop (Sub.refl _)), m, (by unfold remE; rw [hgp]; rfl), rfl, hm, (by unfold remT; rw [hgp]; rfl), rfl, by omega, fun _ => rfl⟩
 skip
 have hsm : mgt m.parts (h, at_) = some p := by
  cases e : mgt m.parts (h, at_) with
  | none => rw [e] at c26; cases c26
  | some n => rw [e] at hpd; rw [hpd]; rfl
 rw [hsm] at hgp
 have hpo : PartOk' w0 (m.junk :: X) p := hm.part _ (mgt_some_mem hsm)
 have hpn : p.pl.name = (h, at_) := (hnm _ (mgt_some_mem hsm)).symm
 have hpl := hpo.rng.lines
 have hpgl := hpo.rng.gones
 refine PW.skip ?_
 refine hK3 _ _ ?_
 refine PW.k4 0 2 4 7 rfl rfl rfl rfl ?_
 refine PW.seq fun K4 hK4 => ?_
 refine PW.seqOps ?_
 refine OL.dp rfl ?_
 refine OL.det trivial (.ld rfl (part_lines (p := p) (E := 36) (tot := 102) (List.mem_flatten.2 ⟨_, .head _, List.mem_singleton.2 rfl⟩))) ?_
 refine OL.dp rfl ?_
 refine OL.dp rfl ?_
 refine OL.nil ?_
 refine PW.k6 0 2 4 7 29 30 rfl rfl rfl rfl rfl rfl ?_
 refine PW.block ?_
 refine PW.k6 0 2 4 7 29 30 rfl rfl rfl rfl rfl rfl ?_
 refine PW.loopK (I := fun mm T S' => ∃ (k : Nat), (k <= p.lines.length /\ mm = p.lines.length - k /\ ∀ i, i < k -> ¬ (nd m.gr.nodes (p.pl.vtx i)).named > 0) /\ T = ([(0, m.ptr), (2, .int .i64 at_), (4, .pointer (some ⟨r4, 0, none⟩)), (7, .pointer (some ⟨r7, 0, none⟩)), (29, .int .i64 (p.lines.length : Int)), (30, .int .i64 k)] : TT) /\ S' = pseg r7 p :: hseg r4 h :: (GS m ++ S)) (m := p.lines.length) ⟨0, ⟨by omega, by omega, fun i h => absurd h (by omega)⟩, rfl, rfl⟩ ?_
 rintro mm _ _ ⟨k, ⟨hk, hmm, hall⟩, rfl, rfl⟩
 refine PW.seqOps ?_
 refine OL.dp rfl ?_
 refine OL.nil ?_
 refine PW.k7 0 2 4 7 29 30 31 rfl rfl rfl rfl rfl rfl rfl ?_
 refine PW.seq fun K5 hK5 => ?_
 refine PW.cond rfl (fun c31 => ?_) (fun c31 => ?_)
 ·try simp only [cvS] at c31
  have hkl : k < p.lines.length := by omega
  refine PW.skip ?_
  refine hK5 _ _ ?_
  refine PW.k6 0 2 4 7 29 30 rfl rfl rfl rfl rfl rfl ?_
  refine PW.seq fun K6 hK6 => ?_
  refine PW.block ?_
  refine PW.seqOps ?_
  refine OL.dp rfl ?_
  refine OL.dp rfl ?_
  refine OL.nil ?_
  refine PW.k7 0 2 4 7 9 29 30 rfl rfl rfl rfl rfl rfl rfl ?_
  refine PW.seq fun K7 hK7 => ?_
  refine PW.quietK Try.mixed ?_
  refine QK.dp rfl ?_
  refine QK.det trivial (Yields.nilc rfl) ?_
  refine QK.dp rfl ?_
  refine QK.det trivial (.ld rfl (g_nodes hS.cons.cons)) ?_
  refine QK.det trivial (.ldA rfl (partC_len _) (all_at (c := partC p) (E := 36) (tot := 102) (List.mem_flatten.2 ⟨_, .head _, List.mem_singleton.2 rfl⟩))) ?_
  refine QK.dp rfl ?_
  refine QK.call trivial rfl (vertex_fc (i := k) hpo.rng (by omega)) ?_
  refine QK.nil ?_
  change OL _ _ _ [_, _, _] _ _ _
  refine OL.det trivial (.lookG (okc := false) (a := p.pl.vtx k) Try.underlying55 hy1 hy2 keys32 hm.nk (hpo.rng.vtx hkl) rfl rfl (GS_mem hS.cons.cons).2.2.1) ?_
  refine OL.det trivial (Yields.fld rfl rfl) ?_
  refine OL.dp rfl ?_
  refine OL.nil ?_
  refine hK7 _ _ ?_
  refine PW.k7 0 2 4 7 29 30 42 rfl rfl rfl rfl rfl rfl rfl ?_
  refine PW.cond rfl (fun c42 => ?_) (fun c42 => ?_)
  ·try simp only [cvS] at c42
   refine PW.seqOps ?_
   refine OL.dp rfl ?_
   refine OL.nil ?_
   refine PW.k1 6 rfl ?_
   refine PW.ret ?_
   change (Exit.ret = Exit.normal ∨ Exit.ret = Exit.ret) /\ ∃ v, resV _ _ = some v /\ _
   have he : remE m.gr (h, at_) = 10 := by
    unfold remE
    rw [hgp]
    refine if_pos ⟨p.pl.vtx k, mem_own.2 ⟨k, hkl, rfl⟩, ?_⟩
    show (nd (plN m.nodes) _).named > 0
    rw [nd_plN]
    exact c42
   exact ⟨.inr rfl, _, rfl, _, Sub.drop (Sub.drop (Sub.refl _)), m, by rw [he], rfl, hm, (by unfold remT; rw [hgp]; exact (if_neg (by rw [he]; decide)).symm), rfl, by omega, fun _ => rfl⟩
  try simp only [cvS] at c42
  refine PW.skip ?_
  refine hK6 _ _ ?_
  refine PW.k6 0 2 4 7 29 30 rfl rfl rfl rfl rfl rfl ?_
  refine PW.ops ?_
  refine OL.det trivial (.add64 rfl rfl (by omega) (by omega)) ?_
  refine OL.dp rfl ?_
  refine OL.nil ?_
  repeat rw [inBlk_n]
  try rw [thenK_n]
  refine LoopEnd.mk (T'' := [(0, _), (2, _), (4, _), (7, _), (29, _), (30, _)]) ⟨rfl, rfl, rfl, rfl, rfl, rfl, trivial⟩ ?_
  refine ⟨p.lines.length - (k + 1), by omega, k + 1, ⟨by omega, rfl, fun i hi => ?_⟩, rfl, rfl⟩
  by_cases e : i = k
  ·subst e
   show ¬ (nd (plN m.nodes) _).named > 0
   rw [nd_plN]
   exact c42
  exact hall i (by omega)
 try simp only [cvS] at c31
 refine PW.exit ?_
 refine hK4 _ _ ?_
 refine PW.k4 0 2 4 7 rfl rfl rfl rfl ?_
 refine PW.seqOps ?_
 have he : remE m.gr (h, at_) = 0 := by
  unfold remE
  rw [hgp]
  refine if_neg ?_
  rintro ⟨v, hv, hn⟩
  obtain ⟨i, hi, rfl⟩ := mem_own.1 hv
  exact hall i (by have : i < p.lines.length := hi; omega) hn
 refine OL.subS (S' := GS m ++ (pseg r7 p :: hseg r4 h :: S)) (Sub.sel [2, 3, 4, 5, 0, 1] 6 (by decide) (pseg r7 p :: hseg r4 h :: (GS m ++ S))) ?_
 refine OL.det trivial (.pure rfl) ?_
 refine OL.det trivial (.ldA rfl (partC_len _) (all_at (c := partC p) (E := 36) (tot := 102) (by simp))) ?_
 refine OL.call trivial rfl (links_fc hm hX.cons.cons hpo.rng false (by omega)) ?_
 rintro _ _ ⟨rfl, m3, rfl, hm3, hg3, hr3, hl3, hj3⟩
 refine OL.nil ?_
 refine PW.k4 0 2 4 7 rfl rfl rfl rfl ?_
 refine PW.seqOps ?_
 refine OL.dp rfl ?_
 refine OL.det trivial (.ldA rfl (partC_len _) (all_at (c := partC p) (E := 36) (tot := 102) (by simp))) ?_
 refine OL.call trivial rfl (by rw [<- ptr_eq hr3]; exact count_fc hm3 hX.cons.cons hpo.rng (.inr (hpo.rdG.jmono hj3)) (.inr rfl) (by omega)) ?_
 rintro _ _ ⟨rfl, m4, rfl, hm4, hg4, hr4, hl4, hj4⟩
 refine OL.nil ?_
 refine PW.k4 0 2 4 7 rfl rfl rfl rfl ?_
 refine PW.seq fun K8 hK8 => ?_
 refine PW.seqOps ?_
 refine OL.dp rfl ?_
 refine OL.det trivial (.ld rfl (part_lines (p := p) (E := 36) (tot := 102) (by simp))) ?_
 refine OL.dp rfl ?_
 refine OL.dp rfl ?_
 refine OL.nil ?_
 refine PW.k6 0 2 4 7 52 53 rfl rfl rfl rfl rfl rfl ?_
 refine PW.block ?_
 refine PW.k6 0 2 4 7 52 53 rfl rfl rfl rfl rfl rfl ?_
 refine PW.loopK (I := fun mm T S' => ∃ (k : Nat) (m5 : GrM), (k <= p.lines.length /\ mm = p.lines.length - k /\ GOk w0 X m5 /\ m5.parts = m4.parts /\ m5.first = m4.first /\ plN m5.nodes = ((List.range k).map p.pl.vtx).foldl mdl (plN m4.nodes) /\ m5.r = m.r /\ m5.lim = m4.lim) /\ T = ([(0, m.ptr), (2, .int .i64 at_), (4, .pointer (some ⟨r4, 0, none⟩)), (7, .pointer (some ⟨r7, 0, none⟩)), (52, .int .i64 (p.lines.length : Int)), (53, .int .i64 k)] : TT) /\ S' = GS m5 ++ (pseg r7 p :: hseg r4 h :: S)) (m := p.lines.length) ⟨0, m4, ⟨by omega, by omega, hm4, rfl, rfl, rfl, hr4.trans hr3, rfl⟩, rfl, rfl⟩ ?_
 rintro mm _ _ ⟨k, m5, ⟨hk, hmm, hm5, hp5, hf5, hn5, hr5, hl5⟩, rfl, rfl⟩
 refine PW.seqOps ?_
 refine OL.dp rfl ?_
 refine OL.nil ?_
 refine PW.k7 0 2 4 7 52 53 54 rfl rfl rfl rfl rfl rfl rfl ?_
 refine PW.seq fun K9 hK9 => ?_
 refine PW.cond rfl (fun c54 => ?_) (fun c54 => ?_)
 ·try simp only [cvS] at c54
  have hkl : k < p.lines.length := by omega
  refine PW.skip ?_
  refine hK9 _ _ ?_
  refine PW.k6 0 2 4 7 52 53 rfl rfl rfl rfl rfl rfl ?_
  refine PW.seq fun K10 hK10 => ?_
  refine PW.block ?_
  refine PW.seqOps ?_
  refine OL.dp rfl ?_
  refine OL.dp rfl ?_
  refine OL.nil ?_
  refine PW.k7 0 2 4 7 10 52 53 rfl rfl rfl rfl rfl rfl rfl ?_
  refine PW.quietK Try.mixed ?_
  refine QK.dp rfl ?_
  refine QK.det trivial (Yields.nilc rfl) ?_
  refine QK.dp rfl ?_
  refine QK.det trivial (.ld rfl (by rw [<- hr5]; exact g_nodes (Over.both hX.cons.cons))) ?_
  refine QK.det trivial (.ldA rfl (partC_len _) (all_at (c := partC p) (E := 36) (tot := 102) (by simp))) ?_
  refine QK.dp rfl ?_
  refine QK.call trivial rfl (vertex_fc (i := k) hpo.rng (by omega)) ?_
  refine QK.nil ?_
  change OL _ _ _ [_] _ _ _
  refine OL.cons trivial (OW.delG (j := 2) (l := m5.nodes) (a := p.pl.vtx k) Try.underlying55 keys32 hm5.nk (hpo.rng.vtx hkl) rfl rfl rfl) ?_
  rintro _ _ rfl
  refine OL.nil ?_
  refine hK10 _ _ ?_
  refine PW.k6 0 2 4 7 52 53 rfl rfl rfl rfl rfl rfl ?_
  refine PW.ops ?_
  refine OL.det trivial (.add64 rfl rfl (by omega) (by omega)) ?_
  refine OL.dp rfl ?_
  refine OL.nil ?_
  repeat rw [inBlk_n]
  try rw [thenK_n]
  refine LoopEnd.mk (T'' := [(0, _), (2, _), (4, _), (7, _), (52, _), (53, _)]) ⟨rfl, rfl, rfl, rfl, rfl, rfl, trivial⟩ ?_
  refine ⟨p.lines.length - (k + 1), by omega, k + 1, { m5 with nodes := mdl m5.nodes (p.pl.vtx k) }, ⟨by omega, rfl, hm5.delNode _, hp5, hf5, ?_, hr5, hl5⟩, rfl, rfl⟩
  show plN (mdl m5.nodes (p.pl.vtx k)) = _
  rw [mdl_plN, hn5, List.range_succ, List.map_append, List.foldl_append]
  rfl
 try simp only [cvS] at c54
 refine PW.exit ?_
 refine hK8 _ _ ?_
 refine PW.k3 0 2 4 rfl rfl rfl ?_
 refine PW.seq fun K11 hK11 => ?_
 refine PW.quietK Try.mixed ?_
 refine QK.dp rfl ?_
 refine QK.det trivial (Yields.nilc rfl) ?_
 refine QK.dp rfl ?_
 refine QK.det trivial (.ld rfl (by rw [<- hr5]; exact g_parts (Over.both hX.cons.cons))) ?_
 refine QK.det trivial (.ldA rfl (hb_len h) (all_at (c := bytesC h.1) (E := 30) (tot := 32) (by simp))) ?_
 refine QK.dp rfl ?_
 refine QK.det trivial (.build (fill_vtx rfl rfl)) ?_
 refine QK.nil ?_
 change OL _ _ _ [_] _ _ _
 refine OL.cons trivial (OW.delG (j := 1) (l := m5.parts) (a := (h, at_)) Try.underlying54 keys97 hm5.pk hat rfl rfl rfl) ?_
 rintro _ _ rfl
 obtain ⟨m6, hm6d⟩ : ∃ z : GrM, z = { m5 with parts := mdl m5.parts (h, at_) } := ⟨_, rfl⟩
 change OL _ _ _ _ _ (GS { m5 with parts := mdl m5.parts (h, at_) } ++ (pseg r7 p :: hseg r4 h :: S)) _
 rw [<- hm6d]
 refine OL.nil ?_
 refine hK11 _ _ ?_
 refine PW.keep (T' := []) trivial ?_
 refine PW.seqOps ?_
 refine OL.dp rfl ?_
 refine OL.nil ?_
 refine PW.k1 6 rfl ?_
 refine PW.ret ?_
 change (Exit.ret = Exit.normal ∨ Exit.ret = Exit.ret) /\ ∃ v, resV _ _ = some v /\ _
 have hke : k = p.lines.length := by omega
 refine ⟨.inr rfl, _, rfl, _, Sub.sel [0, 1, 2, 3] 6 (by decide) _, m6, by rw [he], rfl, by rw [hm6d]; exact hm5.delPart _, ?_, by rw [hm6d]; exact hr5, by rw [hm6d]; show m5.lim <= _; omega, fun h => absurd he h⟩
 unfold remT
 rw [hgp]
 refine Eq.trans ?_ (if_pos he).symm
 rw [hm6d]
 have hg4n := congrArg Gr.nodes hg4
 have hg4p := congrArg Gr.parts hg4
 have hg4f := congrArg Gr.first hg4
 show ({ parts := plP (mdl m5.parts (h, at_)), nodes := plN m5.nodes, first := m5.first } : Gr) = remG m.gr p.pl
 rw [remG_eq, <- hg3, hpn, mdl_plP, hp5, hf5, hn5, hke, own_eq]
 refine congr (congr (congrArg Gr.mk ?_) ?_) ?_
 ·rw [show plP m4.parts = m3.gr.parts from hg4p]
 ·rw [show plN m4.nodes = countG (-1) m3.gr.nodes p.pl from hg4n]
 exact hg4f
end Go.Proofs.Gr

namespace Go.Proofs.Gr
open Go.SL Go.RowKit Go.Proofs Go.GP
set_option maxHeartbeats 1000000
theorem run_loadBytes {P : Program} {w0 w : World} {S : SS} (hr : Rep w0 S w) : ∀ (l : List UInt8) (a : Addr) (acc : ByteArray), (∀ j v, (bytesC l)[j]? = some v -> Cell w0 S (a.add j) v) -> (Extern.Bytes.loadBytes a l.length acc).run P w = .ok (acc ++ ⟨l.toArray⟩) w
 | [], a, acc, _ => by
  have e : acc ++ ⟨#[]⟩ = acc := ByteArray.ext (by simp)
  simp [Extern.Bytes.loadBytes, Sem.run_pure, e]
 | b :: l, a, acc, h => by
  have h0 := hr.cell (h 0 _ rfl)
  rw [show a.add 0 = a by simp [Addr.add]] at h0
  have ih := run_loadBytes (P := P) hr l (a.add 1) (acc.push b) (fun j v hj => by
   rw [addr_add_add]
   exact h (1 + j) v (by rw [Nat.add_comm]; exact hj))
  have hb : (b.toNat : Int).toNat.toUInt8 = b := by simp
  have e : acc.push b ++ ⟨l.toArray⟩ = acc ++ ⟨(b :: l).toArray⟩ := by
   apply ByteArray.ext
   simp
  simp only [List.length_cons, Extern.Bytes.loadBytes]
  rw [Sem.run_bind]
  have hl : (load a).run P w = .ok (.int .u8 (b.toNat : Int)) w := by simp [load, Sem.run, h0]
  rw [hl]
  simp only [Result.andThen]
  rw [hb, ih, e]
theorem callCmp (vs : Array Value) (w : World) : (callFunc 137 vs).run Try.prog w = ((Extern.BytealgCompare.compare vs).run Try.prog w).andThen fun v w => .ok (.value v) w :=
 run_callFunc_extern Try.func137 (by kernel_rfl) (by kernel_rfl) (by kernel_rfl) (e := Extern.BytealgCompare.compare) (by kernel_rfl) vs w
def orL : List Int -> Int
 | [] => 0
 | x :: r => if x ≠ 0 then x else orL r
theorem orL_at : ∀ {l : List Int} {k : Nat} (hk : k < l.length), (∀ z ∈ l.take k, z = 0) -> l[k] ≠ 0 -> orL l = l[k]
 | x :: r, 0, _, _, h => by simp only [List.getElem_cons_zero] at h ⊢; exact if_pos h
 | x :: r, k + 1, hk, h0, h => by
  have hx : x = 0 := h0 x (by simp)
  simp only [List.getElem_cons_succ] at h ⊢
  rw [<- orL_at (by simpa using hk) (fun z hz => h0 z (by simp [hz])) h]
  exact if_neg (by simp [hx])
theorem orL_zero : ∀ {l : List Int}, (∀ z ∈ l, z = 0) -> orL l = 0
 | [], _ => rfl
 | x :: r, h => by
  have hx : x = 0 := h x (by simp)
  exact (if_neg (by simp [hx])).trans (orL_zero fun z hz => h z (by simp [hz]))
def ints (l : List Int) : List Value := l.map (.int .i64)
def cmpI (x y : Int) : Int := if x < y then -1 else if x > y then 1 else 0
def ordV (a b : Vtx) : Int := orL [Lib.compareBytes a.1.1 b.1.1, cmpI a.2 b.2]
theorem bcompare_fc {w0 : World} {S : SS} {A B : Addr} {x y : List UInt8} {c d : Nat} (hx : Rd w0 S (some A) (bytesC x)) (hy : Rd w0 S (some B) (bytesC y)) :
  FC Try.prog w0 124 [.slice (some A) x.length c, .slice (some B) y.length d] S (fun v S' => v = .int .i64 (Lib.compareBytes x y) /\ S' = S) := by
 refine FC.of Try.known124 (by simp) ?_
 unfold Try.pc124
 simp only [argT]
 refine PW.seqOps ?_
 refine OL.dp rfl ?_
 refine OL.nil ?_
 refine PW.k2 0 1 rfl rfl ?_
 refine PW.seqOps ?_
 refine OL.dp rfl ?_
 refine OL.dp rfl ?_
 refine OL.cons trivial (OW.xf rfl (v := .int .i64 (Lib.compareBytes x y)) fun w hr => ?_) ?_
 ·rw [callCmp]
  have h1 := run_loadBytes (P := Try.prog) hr x A .empty (fun j v hj => hx.at hj)
  have h2 := run_loadBytes (P := Try.prog) hr y B .empty (fun j v hj => hy.at hj)
  rw [show (Extern.BytealgCompare.compare #[.slice (some A) x.length c, .slice (some B) y.length d]).run Try.prog w = .ok (.int .i64 (Lib.compareBytes x y)) w from by
   change Sem.run Try.prog (do pure (goInt (Extern.BytealgCompare.cmp (<- Extern.Bytes.bytesOf (.slice (some A) x.length c)) (<- Extern.Bytes.bytesOf (.slice (some B) y.length d))))) w = _
   simp only [Extern.Bytes.bytesOf, Sem.run_bind, h1, h2, Sem.run_pure, Result.andThen]
   rw [Lib.cmp_eq]
   simp only [goInt]
   congr 2
   all_goals simp]
  rfl
 rintro _ Sx ⟨rfl, hSx⟩
 rw [hSx]
 clear hSx
 refine OL.dp rfl ?_
 refine OL.nil ?_
 refine PW.k1 4 rfl ?_
 refine PW.ret ?_
 change (Exit.ret = Exit.normal ∨ Exit.ret = Exit.ret) /\ ∃ v, resV _ _ = some v /\ _
 exact ⟨.inr rfl, _, rfl, rfl, rfl⟩
theorem isNaN_fc {w0 : World} {S : SS} {x : Int} : FC Try.prog w0 138 [.int .i64 x] S (fun v S' => v = .bool false /\ S' = S) := by
 refine FC.of Try.known138 (by simp) ?_
 unfold Try.pc138
 simp only [argT]
 refine PW.seqOps ?_
 refine OL.dp rfl ?_
 refine OL.nil ?_
 refine PW.k1 0 rfl ?_
 refine PW.seqOps ?_
 refine OL.dp rfl ?_
 refine OL.dp rfl ?_
 refine OL.dp rfl ?_
 refine OL.dp rfl ?_
 refine OL.nil ?_
 refine PW.k1 2 rfl ?_
 refine PW.ret ?_
 change (Exit.ret = Exit.normal ∨ Exit.ret = Exit.ret) /\ ∃ v, resV _ _ = some v /\ _
 exact ⟨.inr rfl, _, rfl, by simp, rfl⟩
theorem cmpI_fc {w0 : World} {S : SS} {x y : Int} : FC Try.prog w0 125 [.int .i64 x, .int .i64 y] S (fun v S' => v = .int .i64 (cmpI x y) /\ S' = S) := by
 refine FC.of Try.known125 (by simp) ?_
 unfold Try.pc125
 simp only [argT]
 refine PW.seqOps ?_
 refine OL.dp rfl ?_
 refine OL.nil ?_
 refine PW.k2 0 1 rfl rfl ?_
 refine PW.seqOps ?_
 refine OL.dp rfl ?_
 refine OL.call trivial rfl (isNaN_fc) ?_
 rintro _ Sx ⟨rfl, hSx⟩
 rw [hSx]
 clear hSx
 refine OL.dp rfl ?_
 refine OL.nil ?_
 refine PW.k3 0 1 5 rfl rfl rfl ?_
 refine PW.seqOps ?_
 refine OL.dp rfl ?_
 refine OL.call trivial rfl (isNaN_fc) ?_
 rintro _ Sx ⟨rfl, hSx⟩
 rw [hSx]
 clear hSx
 refine OL.dp rfl ?_
 refine OL.nil ?_
 refine PW.k4 0 1 5 6 rfl rfl rfl rfl ?_
 refine PW.seq fun K1 hK1 => ?_
 refine PW.seqOps ?_
 refine OL.dp rfl ?_
 refine OL.nil ?_
 refine PW.k4 0 1 6 11 rfl rfl rfl rfl ?_
 refine PW.ite (b := false) rfl ?_
 rw [if_neg Bool.false_ne_true]
 refine PW.skip ?_
 refine hK1 _ _ ?_
 refine PW.k3 0 1 6 rfl rfl rfl ?_
 refine PW.seq fun K2 hK2 => ?_
 refine PW.seqOps ?_
 refine OL.dp rfl ?_
 refine OL.nil ?_
 refine PW.k3 0 1 13 rfl rfl rfl ?_
 refine PW.ite (b := false) rfl ?_
 rw [if_neg Bool.false_ne_true]
 refine PW.skip ?_
 refine hK2 _ _ ?_
 refine PW.k2 0 1 rfl rfl ?_
 refine PW.seq fun K3 hK3 => ?_
 refine PW.seqOps ?_
 refine OL.dp rfl ?_
 refine OL.dp rfl ?_
 refine OL.dp rfl ?_
 refine OL.nil ?_
 refine PW.k3 0 1 16 rfl rfl rfl ?_
 refine PW.cond rfl (fun c16 => ?_) (fun c16 => ?_)
 ·try simp only [cvS] at c16
  refine PW.seqOps ?_
  refine OL.dp rfl ?_
  refine OL.nil ?_
  refine PW.k1 4 rfl ?_
  refine PW.ret ?_
  change (Exit.ret = Exit.normal ∨ Exit.ret = Exit.ret) /\ ∃ v, resV _ _ = some v /\ _
  exact ⟨.inr rfl, _, rfl, by unfold cmpI; rw [if_pos c16], rfl⟩
 try simp only [cvS] at c16
 refine PW.skip ?_
 refine hK3 _ _ ?_
 refine PW.k2 0 1 rfl rfl ?_
 refine PW.seq fun K4 hK4 => ?_
 refine PW.seqOps ?_
 refine OL.dp rfl ?_
 refine OL.dp rfl ?_
 refine OL.dp rfl ?_
 refine OL.nil ?_
 refine PW.k1 19 rfl ?_
 refine PW.cond rfl (fun c19 => ?_) (fun c19 => ?_)
 ·try simp only [cvS] at c19
  refine PW.seqOps ?_
  refine OL.dp rfl ?_
  refine OL.nil ?_
  refine PW.k1 4 rfl ?_
  refine PW.ret ?_
  change (Exit.ret = Exit.normal ∨ Exit.ret = Exit.ret) /\ ∃ v, resV _ _ = some v /\ _
  exact ⟨.inr rfl, _, rfl, by unfold cmpI; rw [if_neg c16, if_pos c19], rfl⟩
 try simp only [cvS] at c19
 refine PW.skip ?_
 refine hK4 _ _ ?_
 refine PW.keep (T' := []) trivial ?_
 refine PW.seqOps ?_
 refine OL.dp rfl ?_
 refine OL.nil ?_
 refine PW.k1 4 rfl ?_
 refine PW.ret ?_
 change (Exit.ret = Exit.normal ∨ Exit.ret = Exit.ret) /\ ∃ v, resV _ _ = some v /\ _
 exact ⟨.inr rfl, _, rfl, by unfold cmpI; rw [if_neg c16, if_neg c19], rfl⟩
theorem cmpOr_fc {w0 : World} {S : SS} {a : Addr} {c : Nat} {l : List Int} (hx : Rd w0 S (some a) (ints l)) (hl : l.length <= 1000) : FC Try.prog w0 123 [.slice (some a) l.length c] S (fun v S' => v = .int .i64 (orL l) /\ S' = S) := by
 refine FC.of Try.known123 (by simp) ?_
 unfold Try.pc123
 simp only [argT]
 refine PW.seqOps ?_
 refine OL.dp rfl ?_
 refine OL.nil ?_
 refine PW.k1 0 rfl ?_
 refine PW.seqOps ?_
 refine OL.dp rfl ?_
 refine OL.nil ?_
 refine PW.k2 0 3 rfl rfl ?_
 refine PW.seq fun K1 hK1 => ?_
 refine PW.seqOps ?_
 refine OL.dp rfl ?_
 refine OL.dp rfl ?_
 refine OL.dp rfl ?_
 refine OL.nil ?_
 refine PW.k4 3 6 7 8 rfl rfl rfl rfl ?_
 refine PW.block ?_
 refine PW.k4 3 6 7 8 rfl rfl rfl rfl ?_
 refine PW.loopK (I := fun mm T S' => ∃ (k : Nat), (k <= l.length /\ mm = l.length - k /\ ∀ z ∈ l.take k, z = 0) /\ T = ([(3, .int .i64 0), (6, .slice (some a) l.length c), (7, .int .i64 (l.length : Int)), (8, .int .i64 k)] : TT) /\ S' = S) (m := l.length) ⟨0, ⟨by omega, by omega, by simp⟩, rfl, rfl⟩ ?_
 rintro mm _ _ ⟨k, ⟨hk, hmm, hall⟩, rfl, rfl⟩
 refine PW.seqOps ?_
 refine OL.dp rfl ?_
 refine OL.nil ?_
 refine PW.k5 3 6 7 8 9 rfl rfl rfl rfl rfl ?_
 refine PW.seq fun K2 hK2 => ?_
 refine PW.cond rfl (fun c9 => ?_) (fun c9 => ?_)
 ·try simp only [cvS] at c9
  have hkl : k < l.length := by omega
  refine PW.skip ?_
  refine hK2 _ _ ?_
  refine PW.k4 3 6 7 8 rfl rfl rfl rfl ?_
  refine PW.seq fun K3 hK3 => ?_
  refine PW.block ?_
  refine PW.seqOps ?_
  refine OL.det trivial (.ixN1 rfl rfl rfl (by omega)) ?_
  refine OL.det trivial (.ld rfl (hx.at (j := k) (by unfold ints; rw [List.getElem?_map, List.getElem?_eq_getElem hkl]; rfl))) ?_
  refine OL.dp rfl ?_
  refine OL.nil ?_
  refine PW.k5 3 5 6 7 8 rfl rfl rfl rfl rfl ?_
  refine PW.seqOps ?_
  refine OL.dp rfl ?_
  refine OL.dp rfl ?_
  refine OL.dp rfl ?_
  refine OL.nil ?_
  refine PW.k6 3 5 6 7 8 14 rfl rfl rfl rfl rfl rfl ?_
  refine PW.cond rfl (fun c14 => ?_) (fun c14 => ?_)
  ·try simp only [cvS] at c14
   refine PW.seqOps ?_
   refine OL.dp rfl ?_
   refine OL.dp rfl ?_
   refine OL.nil ?_
   refine PW.k1 2 rfl ?_
   refine PW.ret ?_
   change (Exit.ret = Exit.normal ∨ Exit.ret = Exit.ret) /\ ∃ v, resV _ _ = some v /\ _
   exact ⟨.inr rfl, _, rfl, by rw [orL_at hkl hall c14], rfl⟩
  try simp only [cvS] at c14
  refine PW.skip ?_
  refine hK3 _ _ ?_
  refine PW.k4 3 6 7 8 rfl rfl rfl rfl ?_
  refine PW.ops ?_
  refine OL.det trivial (.add64 rfl rfl (by omega) (by omega)) ?_
  refine OL.dp rfl ?_
  refine OL.nil ?_
  repeat rw [inBlk_n]
  try rw [thenK_n]
  refine LoopEnd.mk (T'' := [(3, _), (6, _), (7, _), (8, _)]) ⟨rfl, rfl, rfl, rfl, trivial⟩ ?_
  refine ⟨l.length - (k + 1), by omega, k + 1, ⟨by omega, rfl, fun z hz => ?_⟩, rfl, rfl⟩
  rw [List.take_add_one, List.getElem?_eq_getElem hkl, List.mem_append] at hz
  rcases hz with hz | hz
  ·exact hall z hz
  simp at hz; rw [hz]; exact c14
 try simp only [cvS] at c9
 refine PW.exit ?_
 refine hK1 _ _ ?_
 refine PW.k1 3 rfl ?_
 refine PW.seqOps ?_
 refine OL.dp rfl ?_
 refine OL.dp rfl ?_
 refine OL.nil ?_
 refine PW.k1 2 rfl ?_
 refine PW.ret ?_
 change (Exit.ret = Exit.normal ∨ Exit.ret = Exit.ret) /\ ∃ v, resV _ _ = some v /\ _
 exact ⟨.inr rfl, _, rfl, by rw [orL_zero (fun z hz => hall z (by rw [List.take_of_length_le (by omega)]; exact hz))], rfl⟩
theorem order_fc {w0 : World} {S : SS} {a b : Vtx} : FC Try.prog w0 109 [vtxV a, vtxV b] S (fun v S' => v = .int .i64 (ordV a b) /\ S' = S) := by
 refine FC.ofD Try.known109 (by simp) ?_
 unfold Try.pc109
 simp only [argT]
 refine PW.seqOps ?_
 refine OL.cons trivial (OW.bx rfl) ?_
 rintro _ _ ⟨r2, rfl, rfl⟩
 rw [vtx_box, vtxL_len]
 refine OL.cons trivial (OW.bx rfl) ?_
 rintro _ _ ⟨r3, rfl, rfl⟩
 rw [vtx_box, vtxL_len]
 refine OL.dp rfl ?_
 refine OL.nil ?_
 refine PW.k2 2 3 rfl rfl ?_
 refine PW.seq fun K1 hK1 => ?_
 refine PW.quietK Try.mixed ?_
 refine QK.dp rfl ?_
 refine QK.det trivial (Yields.slA rfl) ?_
 refine QK.dp rfl ?_
 refine QK.det trivial (Yields.slA rfl) ?_
 refine QK.call trivial rfl (by have h1 := bcompare_fc (w0 := w0) (S := vseg r3 b :: vseg r2 a :: S) (A := ⟨r2, 0, none⟩) (B := ⟨r3, 0, none⟩) (x := a.1.1) (y := b.1.1) (c := 32) (d := 32) ((Rd.own (E := 32) (tot := 33) (List.mem_flatten.2 ⟨_, .tail _ (.head _), List.mem_singleton.2 rfl⟩)).pre ⟨[.int .i64 a.2], rfl⟩) ((Rd.own (E := 32) (tot := 33) (List.mem_flatten.2 ⟨_, .head _, List.mem_singleton.2 rfl⟩)).pre ⟨[.int .i64 b.2], rfl⟩); rw [a.1.2, b.1.2] at h1; exact h1) ?_
 refine QK.dp rfl ?_
 refine QK.det trivial (.ld rfl (own_at (j := 32) (c := vtxL a) (E := 32) (tot := 33) (List.mem_flatten.2 ⟨_, .tail _ (.head _), List.mem_singleton.2 rfl⟩) (vtxL_last a))) ?_
 refine QK.dp rfl ?_
 refine QK.det trivial (.ld rfl (own_at (j := 32) (c := vtxL b) (E := 32) (tot := 33) (List.mem_flatten.2 ⟨_, .head _, List.mem_singleton.2 rfl⟩) (vtxL_last b))) ?_
 refine QK.nil ?_
 change OL _ _ _ [_, _, _, _] _ _ _
 refine OL.call trivial rfl (cmpI_fc) ?_
 rintro _ Sx ⟨rfl, hSx⟩
 rw [hSx]
 clear hSx
 refine OL.cons trivial (OW.bsl rfl) ?_
 rintro _ _ ⟨r15, rfl, rfl⟩
 change OL _ _ _ _ _ ([(r15, .cells (ints [Lib.compareBytes a.1.1 b.1.1, cmpI a.2 b.2]) 3 2)] :: vseg r3 b :: vseg r2 a :: S) _
 refine OL.call trivial rfl (cmpOr_fc (l := [Lib.compareBytes a.1.1 b.1.1, cmpI a.2 b.2]) (Rd.own (E := 3) (tot := 2) (List.mem_flatten.2 ⟨_, .head _, List.mem_singleton.2 rfl⟩)) (by simp)) ?_
 rintro _ Sx ⟨rfl, hSx⟩
 rw [hSx]
 clear hSx
 refine OL.dp rfl ?_
 refine OL.nil ?_
 refine hK1 _ _ ?_
 refine PW.k1 4 rfl ?_
 refine PW.ret ?_
 change (Exit.ret = Exit.normal ∨ Exit.ret = Exit.ret) /\ ∃ v, resV _ _ = some v /\ _
 exact ⟨.inr rfl, _, rfl, _, Sub.drop (Sub.drop (Sub.drop (Sub.refl _))), rfl, rfl⟩
end Go.Proofs.Gr

namespace Go.Proofs.Gr
open Go.SL Go.RowKit Go.Proofs Go.GP
set_option maxHeartbeats 1000000
def m00 (r p n : Nat) : GrM := ⟨r, p, n, none, 0, [], [], [], [], 0⟩
theorem m00_ok (w0 : World) (X : SS) (r p n : Nat) : GOk w0 X (m00 r p n) := ⟨fun q h => (nomatch h), fun q h => (nomatch h), fun q h => (nomatch h), fun q h => (nomatch h), Rd.nil, fun q h => (nomatch h), Nat.le_refl _, Nat.zero_le _, List.nodup_nil, List.nodup_nil⟩
theorem new_fc {w0 : World} {S X : SS} : FC Try.prog w0 14 [] S (fun v S' => ∃ m, v = m.ptr /\ S' = GS m ++ S /\ GOk w0 X m /\ m.gr = ⟨[], [], []⟩ /\ m.lim = 0) := by
 refine FC.ofD Try.known14 (by simp) ?_
 unfold Try.pc14
 simp only [argT]
 refine PW.seqOps ?_
 refine OL.dp rfl ?_
 refine OL.nil ?_
 refine PW.keep (T' := []) trivial ?_
 refine PW.seqOps ?_
 refine OL.cons trivial OW.mkG ?_
 rintro _ _ ⟨r1, rfl, rfl⟩
 refine OL.cons trivial OW.mkG ?_
 rintro _ _ ⟨r2, rfl, rfl⟩
 refine OL.det trivial (.build rfl) ?_
 refine OL.cons trivial (OW.bx rfl) ?_
 rintro _ _ ⟨r4, rfl, rfl⟩
 change OL _ _ _ _ _ ([(r4, .cells (m00 r4 r1 r2).cells 57 4)] :: [(r2, .gm [])] :: [(r1, .gm [])] :: S) _
 refine OL.dp rfl ?_
 refine OL.nil ?_
 refine PW.k1 0 rfl ?_
 refine PW.ret ?_
 change (Exit.ret = Exit.normal ∨ Exit.ret = Exit.ret) /\ ∃ v, resV _ _ = some v /\ _
 refine ⟨.inr rfl, _, rfl, _, (Sub.cons (Sub.cons (Sub.cons (Sub.nilL (Sub.refl S))))).trans (Sub.sel [0, 2, 1] 3 (by decide) ([(r4, .cells (m00 r4 r1 r2).cells 57 4)] :: [(r2, .gm [])] :: [(r1, .gm [])] :: S)), m00 r4 r1 r2, rfl, rfl, m00_ok _ _ _ _ _, rfl, rfl⟩
theorem GOk.over {w0 : World} {X Y : SS} {m : GrM} (hm : GOk w0 X m) (h : Over X Y) : GOk w0 Y m := by
 have hj : ∀ p ∈ (m.junk :: X).flatten, p ∈ (m.junk :: Y).flatten := fun p hp => by
  rw [List.flatten_cons, List.mem_append] at hp ⊢
  exact hp.imp_right (h p)
 exact ⟨hm.pk, fun q hq => ⟨(hm.part q hq).rdL.mono hj, (hm.part q hq).rdG.mono hj, (hm.part q hq).rng⟩, hm.nk, fun q hq => ⟨(hm.node q hq).rd.mono hj, (hm.node q hq).ok, (hm.node q hq).len, (hm.node q hq).gone, (hm.node q hq).named⟩, hm.first.mono hj, hm.firstOk, hm.firstLen, hm.lim, hm.pkd, hm.nkd⟩
end Go.Proofs.Gr

namespace Go.Proofs.Gr
open Go.SL Go.RowKit Go.Proofs Go.GP
noncomputable def mrow (name : String) : Option (Option (List FieldStep × Option (FuncId × Bool))) := (Try.prog.info? 109).map fun i => (i.methods.find? (·.name == name)).map fun m => (m.path.toList, m.func)
theorem mrow_spec {name : String} {x : List FieldStep × Option (FuncId × Bool)} (h : mrow name = some (some x)) : ∃ i m, Try.prog.info? 109 = some i /\ i.methods.find? (·.name == name) = some m /\ m.path.toList = x.1 /\ m.func = x.2 := by
 unfold mrow at h
 obtain ⟨i, hi, h2⟩ := Option.map_eq_some_iff.1 h
 obtain ⟨m, hm, h3⟩ := Option.map_eq_some_iff.1 h2
 exact ⟨i, m, hi, hm, congrArg Prod.fst h3, congrArg Prod.snd h3⟩
theorem fuel : ∃ k, Try.prog.types.size + Made.depth = k + 1 := ⟨Try.prog.types.size + Made.depth - 1, by have := tsize; omega⟩
theorem meth_ptr {w0 w : World} {S : SS} (hr : Rep w0 S w) {name : String} {f : FuncId} (h : mrow name = some (some ([], some (f, true)))) (v : Value) : (method (Try.prog.types.size + Made.depth) 109 v name).run Try.prog w = .ok (f, v) w := by
 obtain ⟨i, m, h1, h2, h3, h4⟩ := mrow_spec h
 obtain ⟨k, hk⟩ := fuel
 rw [hk]
 unfold method
 simp only [typeInfo, program, Sem.run, h1, h2, h3, h4, follow, Sem.run_bind, Sem.run_pure, Result.andThen_ok, receiverAt, run_underlying Try.underlying109, Place.get]
theorem meth_val {w0 w : World} {S : SS} (hr : Rep w0 S w) {name : String} {f : FuncId} (h : mrow name = some (some ([], some (f, false)))) {a : Addr} {v : Value} (hc : Cell w0 S a v) : (method (Try.prog.types.size + Made.depth) 109 (.pointer (some a)) name).run Try.prog w = .ok (f, v) w := by
 obtain ⟨i, m, h1, h2, h3, h4⟩ := mrow_spec h
 obtain ⟨k, hk⟩ := fuel
 have hl : (loadVar 110 a).run Try.prog w = .ok v w := by
  have := hr.cell hc
  have ha : (isAgg 110).run Try.prog w = .ok false w := by
   rw [run_isAgg Try.underlying110]
   rfl
  simp [loadVar, ha, load, Sem.run, this]
 have hn : (Builtin.ssaWrapNilChk_ #[109] 109 #[.pointer (some a), strVal "", strVal ((name.splitOn ".").getLastD name)]).run Try.prog w = .ok (.pointer (some a)) w := rfl
 have he : m.path.isEmpty = true := by
  rw [Array.isEmpty_iff, <- Array.toList_eq_nil_iff]
  exact h3
 rw [hk]
 unfold method
 simp only [typeInfo, program, Sem.run, h1, h2, h3, h4, he, if_true, follow, Sem.run_bind, Sem.run_pure, Result.andThen_ok, receiverAt, run_underlying Try.underlying109, Place.get]
 rw [hn]
 simp [asAddr, hl]
theorem m_len : mrow "Len" = some (some ([], some (63, false))) := by kernel_rfl
theorem m_less : mrow "Less" = some (some ([], some (161, false))) := by kernel_rfl
theorem m_swap : mrow "Swap" = some (some ([], some (164, false))) := by kernel_rfl
theorem m_push : mrow "Push" = some (some ([], some (163, true))) := by kernel_rfl
theorem m_pop : mrow "Pop" = some (some ([], some (162, true))) := by kernel_rfl
end Go.Proofs.Gr

namespace Go.Proofs.Gr
open Go.SL Go.RowKit Go.Proofs Go.GP
set_option maxHeartbeats 1000000
open Go.HP
def ltV (a b : Vtx) : Bool := decide (ordV a b < 0)
theorem vtxs_set {q : List Vtx} {i : Nat} (hi : i < q.length) (v : Vtx) : setAt (vtxs q) (i * 33) (vtxL v) = vtxs (q.set i v) := by
 have hl := vtxs_len q
 have hv := vtxL_len v
 rw [setAt_eq _ _ _ (by omega), vtxs_take q i (by omega), hv, show i * 33 + 33 = (i + 1) * 33 by omega, vtxs_drop q (i + 1) (by omega), List.set_eq_take_append_cons_drop, if_pos hi, vtxs_app, vtxs_cons, List.append_assoc]
theorem vtx_at! {w0 : World} {S : SS} {a : Addr} {l : List Vtx} (h : Rd w0 S (some a) (vtxs l)) {k : Nat} (hk : k < l.length) : ∀ (j : Nat) (v : Value), (vtxL l[k]!)[j]? = some v -> Cell w0 S ((a.add (k * 33)).add j) v := by
 rw [getElem!_pos l k hk]; exact vtx_at h hk
theorem wlen_fc {w0 : World} {S : SS} {A : Option Addr} {n c : Nat} : FC Try.prog w0 63 [.slice A n c] S (fun u S' => u = .int .i64 (n : Int) /\ S' = S) := by
 refine FC.of Try.known63 (by simp) ?_
 unfold Try.pc63
 simp only [argT]
 refine PW.seqOps ?_
 refine OL.dp rfl ?_
 refine OL.nil ?_
 refine PW.k1 0 rfl ?_
 refine PW.seqOps ?_
 refine OL.dp rfl ?_
 refine OL.dp rfl ?_
 refine OL.dp rfl ?_
 refine OL.nil ?_
 refine PW.k1 2 rfl ?_
 refine PW.ret ?_
 change (Exit.ret = Exit.normal ∨ Exit.ret = Exit.ret) /\ ∃ v, resV _ _ = some v /\ _
 exact ⟨.inr rfl, _, rfl, rfl, rfl⟩
theorem wless_fc {w0 : World} {S : SS} {a : Addr} {c i j : Nat} {q : List Vtx} (hx : Rd w0 S (some a) (vtxs q)) (hi : i < q.length) (hj : j < q.length) : FC Try.prog w0 161 [.slice (some a) q.length c, .int .i64 (i : Int), .int .i64 (j : Int)] S (fun u S' => u = .bool (ltV q[i]! q[j]!) /\ S' = S) := by
 refine FC.of Try.known161 (by simp) ?_
 unfold Try.pc161
 simp only [argT]
 refine PW.seqOps ?_
 refine OL.dp rfl ?_
 refine OL.nil ?_
 refine PW.k3 0 1 2 rfl rfl rfl ?_
 refine PW.seq fun K1 hK1 => ?_
 refine PW.quietK Try.mixed ?_
 refine QK.dp rfl ?_
 refine QK.dp rfl ?_
 refine QK.det trivial (.ixN rfl rfl rfl (by omega)) ?_
 refine QK.det trivial (.ldA rfl (cs := vtxL q[i]!) (vtxL_len _) (vtx_at! hx hi)) ?_
 refine QK.dp rfl ?_
 refine QK.dp rfl ?_
 refine QK.det trivial (.ixN rfl rfl rfl (by omega)) ?_
 refine QK.det trivial (.ldA rfl (cs := vtxL q[j]!) (vtxL_len _) (vtx_at! hx hj)) ?_
 refine QK.nil ?_
 change OL _ _ _ [_, _, _] _ _ _
 refine OL.call trivial rfl (order_fc (a := q[i]!) (b := q[j]!)) ?_
 rintro _ Sx ⟨rfl, hSx⟩
 rw [hSx]
 clear hSx
 refine OL.dp rfl ?_
 refine OL.dp rfl ?_
 refine OL.nil ?_
 refine hK1 _ _ ?_
 refine PW.k1 6 rfl ?_
 refine PW.ret ?_
 change (Exit.ret = Exit.normal ∨ Exit.ret = Exit.ret) /\ ∃ v, resV _ _ = some v /\ _
 exact ⟨.inr rfl, _, rfl, rfl, rfl⟩
theorem wswap_fc {w0 : World} {S : SS} {r tot c i j k : Nat} {q : List Vtx} (hk : S[k]? = some [(r, .cells (vtxs q) 32 tot)]) (hi : i < q.length) (hj : j < q.length) : FC Try.prog w0 164 [.slice (some ⟨r, 0, none⟩) q.length c, .int .i64 (i : Int), .int .i64 (j : Int)] S (fun u S' => u = .tuple #[] /\ S' = S.set k [(r, .cells (vtxs (swapL q i j)) 32 tot)]) := by
 have hx : Rd w0 S (some ⟨r, 0, none⟩) (vtxs q) := Rd.own (mem_at hk)
 have hkl : k < S.length := (List.getElem?_eq_some_iff.1 hk).1
 refine FC.of Try.known164 (by simp) ?_
 unfold Try.pc164
 simp only [argT]
 refine PW.quietK Try.mixed ?_
 refine QK.dp rfl ?_
 refine QK.dp rfl ?_
 refine QK.dp rfl ?_
 refine QK.dp rfl ?_
 refine QK.dp rfl ?_
 refine QK.dp rfl ?_
 refine QK.det trivial (.ixN rfl rfl rfl (by omega)) ?_
 refine QK.det trivial (.ldA rfl (cs := vtxL q[j]!) (vtxL_len _) (vtx_at! hx hj)) ?_
 refine QK.dp rfl ?_
 refine QK.dp rfl ?_
 refine QK.det trivial (.ixN rfl rfl rfl (by omega)) ?_
 refine QK.det trivial (.ldA rfl (cs := vtxL q[i]!) (vtxL_len _) (vtx_at! hx hi)) ?_
 refine QK.nil ?_
 change OL _ _ _ [_, _, _, _] _ _ _
 refine OL.det trivial (Yields.ixO rfl rfl rfl hi) ?_
 refine OL.cons trivial (OW.st (k := k) (c := vtxs q) (u := vtxV q[j]!) rfl rfl hk ((List.size_toArray).trans (vtxL_len _)) (by rw [vtxs_len]; omega) (vtxL_one _)) ?_
 rintro _ _ rfl
 rw [vtx_box, vtxs_set hi]
 refine OL.det trivial (Yields.ixO rfl rfl rfl hj) ?_
 refine OL.cons trivial (OW.st (k := k) (c := vtxs (q.set i q[j]!)) (u := vtxV q[i]!) rfl rfl (by rw [List.getElem?_set_self hkl]) ((List.size_toArray).trans (vtxL_len _)) (by rw [vtxs_len]; rw [List.length_set]; omega) (vtxL_one _)) ?_
 rintro _ _ rfl
 rw [vtx_box, vtxs_set (by rw [List.length_set]; exact hj)]
 rw [List.set_set]
 refine OL.nil ?_
 change (Exit.normal = Exit.normal ∨ Exit.normal = Exit.ret) /\ ∃ v, resV _ _ = some v /\ _
 exact ⟨.inl rfl, _, rfl, rfl, rfl⟩
end Go.Proofs.Gr

namespace Go.Proofs.Gr
open Go.SL Go.RowKit Go.Proofs Go.GP
set_option maxHeartbeats 1000000
open Go.HP
abbrev wseg (r : Nat) (v : Value) : Seg := [(r, .cells [v] 110 1)]
abbrev qseg (r tot : Nat) (q : List Vtx) : Seg := [(r, .cells (vtxs q) 32 tot)]
theorem Yields.half {P : Program} {w0 : World} {n : Nat} {T : TT} {S : SS} {x : PV} {j : Nat} (hx : x.val T = some (.int .i64 ((j : Int) - 1))) (hj : j <= 10000000000000) : SL.Yields P w0 n (.bin .quo x (.v (.int .i64 2))) T S (.int .i64 (((j - 1) / 2 : Nat) : Int)) := by
 refine (SL.Yields.quo hx rfl (by decide)).to ?_
 have h : ((j : Int) - 1).tdiv 2 = (((j - 1) / 2 : Nat) : Int) := by
  cases j with
  | zero => rfl
  | succ j =>
   rw [show (((j + 1 : Nat) : Int) - 1) = (j : Int) by omega, Int.tdiv_eq_ediv_of_nonneg (by omega)]
   rw [Nat.add_sub_cancel]
   omega
 rw [h, wrap_i64 (by omega) (by omega)]
def wI (rw : Nat) : Value := .iface 109 (.pointer (some ⟨rw, 0, none⟩))
theorem wpush_fc {w0 : World} {S : SS} {rw : Nat} {v : Value} {sg : Seg} {q : List Vtx} {x : Vtx} (hs : SlV 32 33 v q.length (vtxs q) sg) (hq : q.length <= 1000000000000) :
  FC Try.prog w0 163 [.pointer (some ⟨rw, 0, none⟩), .iface 32 (vtxV x)] (wseg rw v :: sg :: S) (fun u S' => u = .tuple #[] /\ ∃ v' sg', S' = wseg rw v' :: sg' :: S /\ SlV 32 33 v' (q ++ [x]).length (vtxs (q ++ [x])) sg') := by
 refine FC.ofD Try.known163 (by simp) ?_
 unfold Try.pc163
 simp only [argT]
 refine PW.seqOps ?_
 refine OL.dp rfl ?_
 refine OL.det trivial (Yields.tas (ok := true) rfl Try.underlying32 (by intro ms h; cases h)) ?_
 refine OL.dp rfl ?_
 refine OL.dp rfl ?_
 refine OL.dp rfl ?_
 refine OL.cons trivial OW.al ?_
 rintro _ _ ⟨r4, rfl, rfl⟩
 refine OL.cons trivial (vtx_st rfl rfl rfl) ?_
 rintro _ _ rfl
 refine OL.dp rfl ?_
 refine OL.nil ?_
 refine PW.k3 0 4 5 rfl rfl rfl ?_
 refine PW.seqOps ?_
 refine OL.dp rfl ?_
 refine OL.nil ?_
 refine PW.k3 0 4 11 rfl rfl rfl ?_
 refine PW.ite (b := true) rfl ?_
 rw [if_pos rfl]
 refine PW.quietG (Ss := Over (vseg r4 x :: wseg rw v :: sg :: S)) (fr := false) [(0, 0), (1, 0), (2, 0), (3, 0), (4, 0), (5, 2)] Try.mixed (by decide +kernel) (Over.refl _) (fun h => by cases h) ?_
 refine GL.dp rfl ?_
 refine GL.dp rfl ?_
 refine GL.det trivial (fun Sx hSx => Yields.nilc rfl) ?_
 refine GL.det trivial (fun Sx hSx => Yields.ld rfl (own_at (j := 0) (c := [v]) (E := 110) (tot := 1) (hSx _ (List.mem_flatten.2 ⟨_, .tail _ (.head _), List.mem_singleton.2 rfl⟩)) rfl)) ?_
 refine GL.det trivial (fun Sx hSx => Yields.ldA rfl (vtxL_len _) (all_at (c := vtxL x) (E := 32) (tot := 33) (hSx _ (List.mem_flatten.2 ⟨_, .head _, List.mem_singleton.2 rfl⟩)))) ?_
 refine GL.lo trivial (OW.mono (K := fun u S' => ∃ r, u = .slice (some ⟨r, 0, none⟩) 1 1 /\ S' = vseg r x :: vseg r4 x :: wseg rw v :: sg :: S) (OW.mono (OW.bsl (fill_one (v := x) rfl rfl)) (fun u S' ⟨r, h1, h2⟩ => ⟨r, h1, by rw [h2, vtxL_len]⟩)) fun v S2 hk => ⟨(fun u S' ⟨r, _, h⟩ => by rw [h]; exact (Over.refl _).cons) v S2 hk, ?_⟩)
 revert v S2
 rintro _ _ ⟨r17, rfl, rfl⟩
 change OL _ _ _ [_, _, _] _ _ _
 refine OL.cons trivial (OW.app (k := 3) (m := q.length) (xs := vtxs q) (news := vtxL x) rfl rfl hs rfl (vtxL_len _) (all_at (c := vtxL x) (E := 32) (tot := 33) (List.mem_flatten.2 ⟨_, .head _, List.mem_singleton.2 rfl⟩)) (vtxL_one _) (by omega) (by unfold maxLen; omega)) ?_
 rintro v18 _ ⟨sg18, rfl, hs18⟩
 rw [<- vtxs_one1, <- vtxs_app, show q.length + 1 = (q ++ [x]).length by simp] at hs18
 obtain ⟨A18, c18, rfl, -, -, -⟩ := slv_rdL (w0 := w0) hs18
 refine OL.det trivial (Yields.nilc rfl) ?_
 refine OL.cons trivial (OW.st (k := 2) (c := [v]) (u := .slice A18 (q ++ [x]).length c18) rfl rfl rfl rfl (Nat.le_refl 1) rfl) ?_
 rintro _ _ rfl
 refine OL.nil ?_
 change (Exit.normal = Exit.normal ∨ Exit.normal = Exit.ret) /\ ∃ v, resV _ _ = some v /\ _
 exact ⟨.inl rfl, _, rfl, _, Sub.drop (Sub.drop (Sub.refl _)), rfl, _, _, rfl, hs18⟩
theorem wpop_fc {w0 : World} {S : SS} {rw r c : Nat} {q : List Vtx} (h0 : 0 < q.length) (hc : q.length <= c) (hcm : c <= maxLen) (hq : q.length <= 1000000000000) :
  FC Try.prog w0 162 [.pointer (some ⟨rw, 0, none⟩)] (wseg rw (.slice (some ⟨r, 0, none⟩) q.length c) :: qseg r (c * 33) q :: S) (fun u S' => u = .iface 32 (vtxV q[q.length - 1]!) /\ S' = wseg rw (.slice (some ⟨r, 0, none⟩) (q.length - 1) c) :: qseg r (c * 33) (q.take (q.length - 1)) :: S) := by
 have hx : ∀ S1 : SS, Rd w0 (wseg rw (.slice (some ⟨r, 0, none⟩) q.length c) :: qseg r (c * 33) q :: S1) (some ⟨r, 0, none⟩) (vtxs q) := fun S1 => Rd.own (E := 32) (tot := c * 33) (by simp)
 refine FC.ofD Try.known162 (by simp) ?_
 unfold Try.pc162
 simp only [argT]
 refine PW.seqOps ?_
 refine OL.dp rfl ?_
 refine OL.nil ?_
 refine PW.k1 0 rfl ?_
 refine PW.seqOps ?_
 refine OL.dp rfl ?_
 refine OL.det trivial (Yields.nilc rfl) ?_
 refine OL.det trivial (.ld rfl (own_at (j := 0) (c := [.slice (some ⟨r, 0, none⟩) q.length c]) (E := 110) (tot := 1) (List.mem_flatten.2 ⟨_, .head _, List.mem_singleton.2 rfl⟩) rfl)) ?_
 refine OL.dp rfl ?_
 refine OL.det trivial (.sub64 rfl rfl (by omega) (by omega)) ?_
 refine OL.dp rfl ?_
 refine OL.nil ?_
 refine PW.k2 0 3 rfl rfl ?_
 refine PW.seqOps ?_
 refine OL.dp rfl ?_
 refine OL.det trivial (Yields.nilc rfl) ?_
 refine OL.det trivial (.ld rfl (own_at (j := 0) (c := [.slice (some ⟨r, 0, none⟩) q.length c]) (E := 110) (tot := 1) (List.mem_flatten.2 ⟨_, .head _, List.mem_singleton.2 rfl⟩) rfl)) ?_
 refine OL.dp rfl ?_
 refine OL.det trivial (.ixN rfl rfl (show ((q.length : Nat) : Int) - 1 = ((q.length - 1 : Nat) : Int) by omega) (by omega)) ?_
 refine OL.det trivial (.ldA rfl (cs := vtxL q[q.length - 1]!) (vtxL_len _) (vtx_at! (hx _) (by omega))) ?_
 refine OL.cons trivial OW.al ?_
 rintro _ _ ⟨r4, rfl, rfl⟩
 refine OL.cons trivial (vtx_st rfl rfl rfl) ?_
 rintro _ _ rfl
 refine OL.nil ?_
 refine PW.k3 0 3 4 rfl rfl rfl ?_
 refine PW.seqOps ?_
 refine OL.dp rfl ?_
 refine OL.dp rfl ?_
 refine OL.det trivial (Yields.nilc rfl) ?_
 refine OL.det trivial (.ld rfl (own_at (j := 0) (c := [.slice (some ⟨r, 0, none⟩) q.length c]) (E := 110) (tot := 1) (List.mem_flatten.2 ⟨_, .tail _ (.head _), List.mem_singleton.2 rfl⟩) rfl)) ?_
 refine OL.dp rfl ?_
 refine OL.det trivial (.to (v' := .slice (some ⟨r, 0, none⟩) (q.length - 1) c) (Yields.slS (A := some ⟨r, 0, none⟩) (len := q.length) (cap := c) (l := 0) (h := q.length - 1) rfl rfl rfl (.inr ⟨rfl, rfl⟩) (.inl (congrArg some (by omega))) (by omega) (by omega)) (cutV0 _ _ _ _)) ?_
 refine OL.det trivial (Yields.nilc rfl) ?_
 refine OL.cons trivial (OW.st (k := 1) (c := [.slice (some ⟨r, 0, none⟩) q.length c]) (u := .slice (some ⟨r, 0, none⟩) (q.length - 1) c) rfl rfl rfl rfl (Nat.le_refl 1) rfl) ?_
 rintro _ _ rfl
 refine OL.tell (k := 2) rfl (fun w h => owns_take ((q.length - 1) * 33) h) ?_
 change OL _ _ _ _ _ (vseg r4 q[q.length - 1]! :: wseg rw (.slice (some ⟨r, 0, none⟩) (q.length - 1) c) :: [(r, .cells ((vtxs q).take ((q.length - 1) * 33)) 32 (c * 33))] :: S) _
 rw [vtxs_take _ _ (by omega)]
 refine OL.nil ?_
 refine PW.k1 4 rfl ?_
 refine PW.seqOps ?_
 refine OL.det trivial (.ldA rfl (vtxL_len _) (all_at (List.mem_flatten.2 ⟨_, .head _, List.mem_singleton.2 rfl⟩))) ?_
 refine OL.det trivial (Yields.mkI rfl) ?_
 refine OL.dp rfl ?_
 refine OL.nil ?_
 refine PW.k1 2 rfl ?_
 refine PW.ret ?_
 change (Exit.ret = Exit.normal ∨ Exit.ret = Exit.ret) /\ ∃ v, resV _ _ = some v /\ _
 exact ⟨.inr rfl, _, rfl, _, Sub.drop (Sub.refl _), rfl, rfl⟩
theorem wup_fc {w0 : World} {S : SS} {rw r c tot j0 : Nat} {q : List Vtx} (hj0 : j0 < q.length) (hq : q.length <= 1000000000000) :
    FC Try.prog w0 88 [wI rw, .int .i64 (j0 : Int)] (wseg rw (.slice (some ⟨r, 0, none⟩) q.length c) :: qseg r tot q :: S) (fun u S' => u = .tuple #[] /\ S' = wseg rw (.slice (some ⟨r, 0, none⟩) q.length c) :: qseg r tot (upL ltV j0 q j0) :: S) := by
  refine FC.of Try.known88 (by simp) ?_
  unfold Try.pc88
  simp only [argT]
  refine PW.block ?_
  refine PW.k2 0 1 rfl rfl ?_
  refine PW.loopK (I := fun mm T S' => ∃ (j f : Nat) (l : List Vtx), (j < l.length /\ j <= f /\ l.length = q.length /\ upL ltV f l j = upL ltV j0 q j0 /\ mm = j) /\ T = ([(0, wI rw), (1, .int .i64 (j : Int))] : TT) /\ S' = wseg rw (.slice (some ⟨r, 0, none⟩) q.length c) :: qseg r tot l :: S) (m := j0) ⟨j0, j0, q, ⟨hj0, Nat.le_refl _, rfl, rfl, rfl⟩, rfl, rfl⟩ ?_
  rintro mm _ _ ⟨j, f, l, ⟨hj, hjf, hl, hu, hmm⟩, rfl, rfl⟩
  have hi2 : (j - 1) / 2 < l.length := by omega
  refine PW.block ?_
  refine PW.seqOps ?_
  refine OL.dp rfl ?_
  refine OL.det trivial (.sub64 rfl rfl (by omega) (by omega)) ?_
  refine OL.det trivial (Yields.half rfl (by omega)) ?_
  refine OL.dp rfl ?_
  refine OL.nil ?_
  refine PW.k3 0 1 4 rfl rfl rfl ?_
  refine PW.seq fun K1 hK1 => ?_
  refine PW.seqOps ?_
  refine OL.dp rfl ?_
  refine OL.dp rfl ?_
  refine OL.dp rfl ?_
  refine OL.bool trivial (Yields.pure rfl) (fun g11 => ?_) (fun g11 => ?_)
  · try simp only [cvS] at g11
    refine OL.off rfl rfl ?_
    refine OL.off rfl rfl ?_
    refine OL.off rfl rfl ?_
    refine OL.off rfl rfl ?_
    refine OL.off rfl rfl ?_
    refine OL.dp rfl ?_
    refine OL.nil ?_
    refine PW.k4 0 1 4 17 rfl rfl rfl rfl ?_
    refine PW.ite (b := true) rfl ?_
    rw [if_pos rfl]
    refine PW.exit ?_
    change (Exit.normal = Exit.normal ∨ Exit.normal = Exit.ret) /\ ∃ v, resV _ _ = some v /\ _
    first
      | (refine ⟨.inl rfl, _, rfl, rfl, ?_⟩
         rw [<- hu]
         cases f with
         | zero => rfl
         | succ f => rw [show upL ltV (f + 1) l j = l from by unfold upL; rw [if_pos (show j = 0 by omega)]])
      | (refine ⟨.inl rfl, _, rfl, rfl, ?_⟩
         rw [<- hu]
         cases f with
         | zero => rfl
         | succ f => rw [show upL ltV (f + 1) l j = l from by unfold upL; rw [if_neg (show ¬ j = 0 by omega), if_neg (by rw [c17]; simp)]])
  try simp only [cvS] at g11
  refine OL.det rfl (.pure rfl) ?_
  refine OL.det rfl (.pure rfl) ?_
  refine OL.det rfl (.pure rfl) ?_
  refine OL.cons rfl (OW.inv (k := 161) (rv := .slice (some ⟨r, 0, none⟩) q.length c) rfl rfl (fun w hr => meth_val hr m_less (own_at (j := 0) (c := [.slice (some ⟨r, 0, none⟩) q.length c]) (E := 110) (tot := 1) (List.mem_flatten.2 ⟨_, .head _, List.mem_singleton.2 rfl⟩) rfl)) (by kernel_rfl) (by have h := wless_fc (w0 := w0) (S := wseg rw (.slice (some ⟨r, 0, none⟩) q.length c) :: qseg r tot l :: S) (c := c) (Rd.own (E := 32) (tot := tot) (List.mem_flatten.2 ⟨_, .tail _ (.head _), List.mem_singleton.2 rfl⟩)) hj hi2; rw [hl] at h; exact h)) ?_
  rintro _ Sx ⟨rfl, hSx⟩
  rw [hSx]
  clear hSx
  refine OL.det rfl (.pure rfl) ?_
  refine OL.dp rfl ?_
  refine OL.nil ?_
  refine PW.k4 0 1 4 17 rfl rfl rfl rfl ?_
  refine PW.cond rfl (fun c17 => ?_) (fun c17 => ?_)
  · try simp only [cvS] at c17
    refine PW.exit ?_
    change (Exit.normal = Exit.normal ∨ Exit.normal = Exit.ret) /\ ∃ v, resV _ _ = some v /\ _
    first
      | (refine ⟨.inl rfl, _, rfl, rfl, ?_⟩
         rw [<- hu]
         cases f with
         | zero => rfl
         | succ f => rw [show upL ltV (f + 1) l j = l from by unfold upL; rw [if_pos (show j = 0 by omega)]])
      | (refine ⟨.inl rfl, _, rfl, rfl, ?_⟩
         rw [<- hu]
         cases f with
         | zero => rfl
         | succ f => rw [show upL ltV (f + 1) l j = l from by unfold upL; rw [if_neg (show ¬ j = 0 by omega), if_neg (by rw [c17]; simp)]])
  try simp only [cvS] at c17
  refine PW.skip ?_
  refine hK1 _ _ ?_
  refine PW.k3 0 1 4 rfl rfl rfl ?_
  refine PW.seqOps ?_
  refine OL.dp rfl ?_
  refine OL.dp rfl ?_
  refine OL.dp rfl ?_
  refine OL.cons trivial (OW.inv (k := 164) (rv := .slice (some ⟨r, 0, none⟩) q.length c) rfl rfl (fun w hr => meth_val hr m_swap (own_at (j := 0) (c := [.slice (some ⟨r, 0, none⟩) q.length c]) (E := 110) (tot := 1) (List.mem_flatten.2 ⟨_, .head _, List.mem_singleton.2 rfl⟩) rfl)) (by kernel_rfl) (by have h := wswap_fc (w0 := w0) (S := wseg rw (.slice (some ⟨r, 0, none⟩) q.length c) :: qseg r tot l :: S) (c := c) (k := 1) rfl hi2 hj; rw [hl] at h; exact h)) ?_
  rintro _ Sx ⟨rfl, hSx⟩
  rw [hSx]
  clear hSx
  refine OL.nil ?_
  refine PW.k2 0 4 rfl rfl ?_
  refine PW.ops ?_
  refine OL.dp rfl ?_
  refine OL.dp rfl ?_
  refine OL.nil ?_
  repeat rw [inBlk_n]
  try rw [thenK_n]
  refine LoopEnd.mk (T'' := [(0, _), (1, _)]) ⟨rfl, rfl, trivial⟩ ?_
  refine ⟨(j - 1) / 2, by omega, (j - 1) / 2, f - 1, swapL l ((j - 1) / 2) j, ⟨by rw [swapL_len]; omega, by omega, by rw [swapL_len]; exact hl, ?_, rfl⟩, rfl, rfl⟩
  rw [<- hu]
  obtain ⟨f', rfl⟩ : ∃ f', f = f' + 1 := ⟨f - 1, by omega⟩
  refine Eq.symm ((if_neg (show ¬ j = 0 by omega)).trans (if_pos c17))
end Go.Proofs.Gr

namespace Go.Proofs.Gr
open Go.SL Go.RowKit Go.Proofs Go.GP
set_option maxHeartbeats 1000000
open Go.HP
theorem wdown_fc {w0 : World} {S : SS} {rw r c tot n f0 : Nat} {q : List Vtx} (hn : n <= q.length) (hq : q.length <= 1000000000000) (hf0 : n <= f0) :
    FC Try.prog w0 89 [wI rw, .int .i64 0, .int .i64 (n : Int)] (wseg rw (.slice (some ⟨r, 0, none⟩) q.length c) :: qseg r tot q :: S) (fun u S' => ∃ b, u = .bool b /\ S' = wseg rw (.slice (some ⟨r, 0, none⟩) q.length c) :: qseg r tot (downL ltV f0 q 0 n) :: S) := by
  refine FC.of Try.known89 (by simp) ?_
  unfold Try.pc89
  simp only [argT]
  refine PW.seqOps ?_
  refine OL.dp rfl ?_
  refine OL.nil ?_
  refine PW.k3 0 1 2 rfl rfl rfl ?_
  refine PW.seqOps ?_
  refine OL.dp rfl ?_
  refine OL.dp rfl ?_
  refine OL.nil ?_
  refine PW.k4 0 1 2 7 rfl rfl rfl rfl ?_
  refine PW.seq fun K1 hK1 => ?_
  refine PW.block ?_
  refine PW.k4 0 1 2 7 rfl rfl rfl rfl ?_
  refine PW.loopK (I := fun mm T S' => ∃ (i f : Nat) (l : List Vtx), (n <= f + i /\ l.length = q.length /\ downL ltV f l i n = downL ltV f0 q 0 n /\ mm = n - i /\ i <= n) /\ T = ([(0, wI rw), (1, .int .i64 0), (2, .int .i64 (n : Int)), (7, .int .i64 (i : Int))] : TT) /\ S' = wseg rw (.slice (some ⟨r, 0, none⟩) q.length c) :: qseg r tot l :: S) (m := n) ⟨0, f0, q, ⟨by omega, rfl, rfl, rfl, by omega⟩, rfl, rfl⟩ ?_
  rintro mm _ _ ⟨i, f, l, ⟨hfi, hl, hu, hmm, hin⟩, rfl, rfl⟩
  refine PW.block ?_
  refine PW.seqOps ?_
  refine OL.dp rfl ?_
  refine OL.det trivial (Yields.mul64 rfl rfl (by omega) (by omega)) ?_
  refine OL.det trivial (.to (v' := .int .i64 ((2 * i + 1 : Nat) : Int)) (Yields.add64 rfl rfl (by omega) (by omega)) (congrArg (Value.int .i64) (by omega))) ?_
  refine OL.dp rfl ?_
  refine OL.nil ?_
  refine PW.k5 0 1 2 7 8 rfl rfl rfl rfl rfl ?_
  refine PW.seq fun K2 hK2 => ?_
  refine PW.seqOps ?_
  refine OL.dp rfl ?_
  refine OL.dp rfl ?_
  refine OL.dp rfl ?_
  refine OL.bool trivial (Yields.pure rfl) (fun g18 => ?_) (fun g18 => ?_)
  · try simp only [cvS] at g18
    refine OL.off rfl rfl ?_
    refine OL.off rfl rfl ?_
    refine OL.dp rfl ?_
    refine OL.nil ?_
    refine PW.k6 0 1 2 7 8 21 rfl rfl rfl rfl rfl rfl ?_
    refine PW.ite (b := true) rfl ?_
    rw [if_pos rfl]
    refine PW.exit ?_
    refine hK1 _ _ ?_
    refine PW.k2 1 7 rfl rfl ?_
    refine PW.seqOps ?_
    refine OL.dp rfl ?_
    refine OL.dp rfl ?_
    refine OL.dp rfl ?_
    refine OL.dp rfl ?_
    refine OL.nil ?_
    refine PW.k1 6 rfl ?_
    refine PW.ret ?_
    change (Exit.ret = Exit.normal ∨ Exit.ret = Exit.ret) /\ ∃ v, resV _ _ = some v /\ _
    first
      | (refine ⟨.inr rfl, _, rfl, _, rfl, ?_⟩
         rw [<- hu]
         cases f with
         | zero => rfl
         | succ f => rw [show downL ltV (f + 1) l i n = l from if_pos (by omega)])
      | (refine ⟨.inr rfl, _, rfl, _, rfl, ?_⟩
         rw [<- hu]
         obtain ⟨f', rfl⟩ : ∃ f', f = f' + 1 := ⟨f - 1, by omega⟩
         rw [show downL ltV (f' + 1) l i n = l from (if_neg (by omega)).trans (if_neg (by rw [c39]; simp))])
  try simp only [cvS] at g18
  refine OL.det rfl (.pure rfl) ?_
  refine OL.det rfl (.pure rfl) ?_
  refine OL.dp rfl ?_
  refine OL.nil ?_
  refine PW.k6 0 1 2 7 8 21 rfl rfl rfl rfl rfl rfl ?_
  refine PW.cond rfl (fun c21 => ?_) (fun c21 => ?_)
  · try simp only [cvS] at c21
    exfalso; omega
    -- done
  try simp only [cvS] at c21
  refine PW.skip ?_
  refine hK2 _ _ ?_
  refine PW.k5 0 1 2 7 8 rfl rfl rfl rfl rfl ?_
  refine PW.seqOps ?_
  refine OL.dp rfl ?_
  refine OL.dp rfl ?_
  refine OL.nil ?_
  refine PW.k6 0 1 2 7 8 9 rfl rfl rfl rfl rfl rfl ?_
  refine PW.seq fun K3 hK3 => ?_
  refine PW.seqOps ?_
  refine OL.dp rfl ?_
  refine OL.det trivial (.to (v' := .int .i64 ((2 * i + 2 : Nat) : Int)) (Yields.add64 rfl rfl (by omega) (by omega)) (congrArg (Value.int .i64) (by omega))) ?_
  refine OL.dp rfl ?_
  refine OL.nil ?_
  refine PW.k7 0 1 2 7 8 9 10 rfl rfl rfl rfl rfl rfl rfl ?_
  refine PW.seqOps ?_
  refine OL.dp rfl ?_
  refine OL.dp rfl ?_
  refine OL.dp rfl ?_
  refine OL.bool trivial (Yields.pure rfl) (fun g28 => ?_) (fun g28 => ?_)
  · try simp only [cvS] at g28
    refine OL.det rfl (.pure rfl) ?_
    refine OL.det rfl (.pure rfl) ?_
    refine OL.det rfl (.pure rfl) ?_
    refine OL.cons rfl (OW.inv (k := 161) (rv := .slice (some ⟨r, 0, none⟩) q.length c) rfl rfl (fun w hr => meth_val hr m_less (own_at (j := 0) (c := [.slice (some ⟨r, 0, none⟩) q.length c]) (E := 110) (tot := 1) (List.mem_flatten.2 ⟨_, .head _, List.mem_singleton.2 rfl⟩) rfl)) (by kernel_rfl) (by have h := wless_fc (w0 := w0) (S := wseg rw (.slice (some ⟨r, 0, none⟩) q.length c) :: qseg r tot l :: S) (c := c) (i := 2 * i + 2) (j := 2 * i + 1) (Rd.own (E := 32) (tot := tot) (List.mem_flatten.2 ⟨_, .tail _ (.head _), List.mem_singleton.2 rfl⟩)) (by omega) (by omega); rw [hl] at h; exact h)) ?_
    rintro _ Sx ⟨rfl, hSx⟩
    rw [hSx]
    clear hSx
    refine OL.dp rfl ?_
    refine OL.nil ?_
    refine PW.k7 0 1 2 7 9 10 33 rfl rfl rfl rfl rfl rfl rfl ?_
    refine PW.cond rfl (fun c33 => ?_) (fun c33 => ?_)
    · try simp only [cvS] at c33
      have hJ : downJ ltV l i n = 2 * i + 2 := if_pos ⟨by omega, c33⟩
      refine PW.ops ?_
      refine OL.dp rfl ?_
      refine OL.dp rfl ?_
      refine OL.nil ?_
      refine hK3 _ _ ?_
      refine PW.k5 0 1 2 7 9 rfl rfl rfl rfl rfl ?_
      refine PW.seq fun K4 hK4 => ?_
      refine PW.seqOps ?_
      have hJr : 2 * i + 1 <= downJ ltV l i n /\ downJ ltV l i n < n := by unfold downJ; split <;> omega
      refine OL.dp rfl ?_
      refine OL.det trivial (.to (v' := .int .i64 ((downJ ltV l i n : Nat) : Int)) (Yields.pure rfl) (by rw [hJ])) ?_
      refine OL.dp rfl ?_
      refine OL.cons trivial (OW.inv (k := 161) (rv := .slice (some ⟨r, 0, none⟩) q.length c) rfl rfl (fun w hr => meth_val hr m_less (own_at (j := 0) (c := [.slice (some ⟨r, 0, none⟩) q.length c]) (E := 110) (tot := 1) (List.mem_flatten.2 ⟨_, .head _, List.mem_singleton.2 rfl⟩) rfl)) (by kernel_rfl) (by have h := wless_fc (w0 := w0) (S := wseg rw (.slice (some ⟨r, 0, none⟩) q.length c) :: qseg r tot l :: S) (c := c) (i := downJ ltV l i n) (j := i) (Rd.own (E := 32) (tot := tot) (List.mem_flatten.2 ⟨_, .tail _ (.head _), List.mem_singleton.2 rfl⟩)) (by omega) (by omega); rw [hl] at h; exact h)) ?_
      rintro _ Sx ⟨rfl, hSx⟩
      rw [hSx]
      clear hSx
      refine OL.dp rfl ?_
      refine OL.nil ?_
      refine PW.k6 0 1 2 7 9 39 rfl rfl rfl rfl rfl rfl ?_
      refine PW.cond rfl (fun c39 => ?_) (fun c39 => ?_)
      · try simp only [cvS] at c39
        refine PW.exit ?_
        refine hK1 _ _ ?_
        refine PW.k2 1 7 rfl rfl ?_
        refine PW.seqOps ?_
        refine OL.dp rfl ?_
        refine OL.dp rfl ?_
        refine OL.dp rfl ?_
        refine OL.dp rfl ?_
        refine OL.nil ?_
        refine PW.k1 6 rfl ?_
        refine PW.ret ?_
        change (Exit.ret = Exit.normal ∨ Exit.ret = Exit.ret) /\ ∃ v, resV _ _ = some v /\ _
        first
          | (refine ⟨.inr rfl, _, rfl, _, rfl, ?_⟩
             rw [<- hu]
             cases f with
             | zero => rfl
             | succ f => rw [show downL ltV (f + 1) l i n = l from if_pos (by omega)])
          | (refine ⟨.inr rfl, _, rfl, _, rfl, ?_⟩
             rw [<- hu]
             obtain ⟨f', rfl⟩ : ∃ f', f = f' + 1 := ⟨f - 1, by omega⟩
             rw [show downL ltV (f' + 1) l i n = l from (if_neg (by omega)).trans (if_neg (by rw [c39]; simp))])
      try simp only [cvS] at c39
      refine PW.skip ?_
      refine hK4 _ _ ?_
      refine PW.k5 0 1 2 7 9 rfl rfl rfl rfl rfl ?_
      refine PW.seqOps ?_
      refine OL.dp rfl ?_
      refine OL.dp rfl ?_
      refine OL.det trivial (.to (v' := .int .i64 ((downJ ltV l i n : Nat) : Int)) (Yields.pure rfl) (by rw [hJ])) ?_
      refine OL.cons trivial (OW.inv (k := 164) (rv := .slice (some ⟨r, 0, none⟩) q.length c) rfl rfl (fun w hr => meth_val hr m_swap (own_at (j := 0) (c := [.slice (some ⟨r, 0, none⟩) q.length c]) (E := 110) (tot := 1) (List.mem_flatten.2 ⟨_, .head _, List.mem_singleton.2 rfl⟩) rfl)) (by kernel_rfl) (by have h := wswap_fc (w0 := w0) (S := wseg rw (.slice (some ⟨r, 0, none⟩) q.length c) :: qseg r tot l :: S) (c := c) (k := 1) (i := i) (j := downJ ltV l i n) rfl (by omega) (by omega); rw [hl] at h; exact h)) ?_
      rintro _ Sx ⟨rfl, hSx⟩
      rw [hSx]
      clear hSx
      refine OL.nil ?_
      refine PW.k4 0 1 2 9 rfl rfl rfl rfl ?_
      refine PW.ops ?_
      refine OL.det trivial (.to (v' := .int .i64 ((downJ ltV l i n : Nat) : Int)) (Yields.pure rfl) (by rw [hJ])) ?_
      refine OL.dp rfl ?_
      refine OL.nil ?_
      repeat rw [inBlk_n]
      try rw [thenK_n]
      refine LoopEnd.mk (T'' := [(0, _), (1, _), (2, _), (7, _)]) ⟨rfl, rfl, rfl, rfl, trivial⟩ ?_
      obtain ⟨f', rfl⟩ : ∃ f', f = f' + 1 := ⟨f - 1, by omega⟩
      refine ⟨n - downJ ltV l i n, by omega, downJ ltV l i n, f', swapL l i (downJ ltV l i n), ⟨by omega, by rw [swapL_len]; exact hl, ?_, rfl, by omega⟩, rfl, rfl⟩
      rw [<- hu]
      exact ((if_neg (by omega)).trans (if_pos c39)).symm
    try simp only [cvS] at c33
    have hJ : downJ ltV l i n = 2 * i + 1 := if_neg (fun h => absurd h.2 (by rw [c33]; simp))
    refine PW.skip ?_
    refine hK3 _ _ ?_
    refine PW.k5 0 1 2 7 9 rfl rfl rfl rfl rfl ?_
    refine PW.seq fun K5 hK5 => ?_
    refine PW.seqOps ?_
    have hJr : 2 * i + 1 <= downJ ltV l i n /\ downJ ltV l i n < n := by unfold downJ; split <;> omega
    refine OL.dp rfl ?_
    refine OL.det trivial (.to (v' := .int .i64 ((downJ ltV l i n : Nat) : Int)) (Yields.pure rfl) (by rw [hJ])) ?_
    refine OL.dp rfl ?_
    refine OL.cons trivial (OW.inv (k := 161) (rv := .slice (some ⟨r, 0, none⟩) q.length c) rfl rfl (fun w hr => meth_val hr m_less (own_at (j := 0) (c := [.slice (some ⟨r, 0, none⟩) q.length c]) (E := 110) (tot := 1) (List.mem_flatten.2 ⟨_, .head _, List.mem_singleton.2 rfl⟩) rfl)) (by kernel_rfl) (by have h := wless_fc (w0 := w0) (S := wseg rw (.slice (some ⟨r, 0, none⟩) q.length c) :: qseg r tot l :: S) (c := c) (i := downJ ltV l i n) (j := i) (Rd.own (E := 32) (tot := tot) (List.mem_flatten.2 ⟨_, .tail _ (.head _), List.mem_singleton.2 rfl⟩)) (by omega) (by omega); rw [hl] at h; exact h)) ?_
    rintro _ Sx ⟨rfl, hSx⟩
    rw [hSx]
    clear hSx
    refine OL.dp rfl ?_
    refine OL.nil ?_
    refine PW.k6 0 1 2 7 9 39 rfl rfl rfl rfl rfl rfl ?_
    refine PW.cond rfl (fun c39 => ?_) (fun c39 => ?_)
    · try simp only [cvS] at c39
      refine PW.exit ?_
      refine hK1 _ _ ?_
      refine PW.k2 1 7 rfl rfl ?_
      refine PW.seqOps ?_
      refine OL.dp rfl ?_
      refine OL.dp rfl ?_
      refine OL.dp rfl ?_
      refine OL.dp rfl ?_
      refine OL.nil ?_
      refine PW.k1 6 rfl ?_
      refine PW.ret ?_
      change (Exit.ret = Exit.normal ∨ Exit.ret = Exit.ret) /\ ∃ v, resV _ _ = some v /\ _
      first
        | (refine ⟨.inr rfl, _, rfl, _, rfl, ?_⟩
           rw [<- hu]
           cases f with
           | zero => rfl
           | succ f => rw [show downL ltV (f + 1) l i n = l from if_pos (by omega)])
        | (refine ⟨.inr rfl, _, rfl, _, rfl, ?_⟩
           rw [<- hu]
           obtain ⟨f', rfl⟩ : ∃ f', f = f' + 1 := ⟨f - 1, by omega⟩
           rw [show downL ltV (f' + 1) l i n = l from (if_neg (by omega)).trans (if_neg (by rw [c39]; simp))])
    try simp only [cvS] at c39
    refine PW.skip ?_
    refine hK5 _ _ ?_
    refine PW.k5 0 1 2 7 9 rfl rfl rfl rfl rfl ?_
    refine PW.seqOps ?_
    refine OL.dp rfl ?_
    refine OL.dp rfl ?_
    refine OL.det trivial (.to (v' := .int .i64 ((downJ ltV l i n : Nat) : Int)) (Yields.pure rfl) (by rw [hJ])) ?_
    refine OL.cons trivial (OW.inv (k := 164) (rv := .slice (some ⟨r, 0, none⟩) q.length c) rfl rfl (fun w hr => meth_val hr m_swap (own_at (j := 0) (c := [.slice (some ⟨r, 0, none⟩) q.length c]) (E := 110) (tot := 1) (List.mem_flatten.2 ⟨_, .head _, List.mem_singleton.2 rfl⟩) rfl)) (by kernel_rfl) (by have h := wswap_fc (w0 := w0) (S := wseg rw (.slice (some ⟨r, 0, none⟩) q.length c) :: qseg r tot l :: S) (c := c) (k := 1) (i := i) (j := downJ ltV l i n) rfl (by omega) (by omega); rw [hl] at h; exact h)) ?_
    rintro _ Sx ⟨rfl, hSx⟩
    rw [hSx]
    clear hSx
    refine OL.nil ?_
    refine PW.k4 0 1 2 9 rfl rfl rfl rfl ?_
    refine PW.ops ?_
    refine OL.det trivial (.to (v' := .int .i64 ((downJ ltV l i n : Nat) : Int)) (Yields.pure rfl) (by rw [hJ])) ?_
    refine OL.dp rfl ?_
    refine OL.nil ?_
    repeat rw [inBlk_n]
    try rw [thenK_n]
    refine LoopEnd.mk (T'' := [(0, _), (1, _), (2, _), (7, _)]) ⟨rfl, rfl, rfl, rfl, trivial⟩ ?_
    obtain ⟨f', rfl⟩ : ∃ f', f = f' + 1 := ⟨f - 1, by omega⟩
    refine ⟨n - downJ ltV l i n, by omega, downJ ltV l i n, f', swapL l i (downJ ltV l i n), ⟨by omega, by rw [swapL_len]; exact hl, ?_, rfl, by omega⟩, rfl, rfl⟩
    rw [<- hu]
    exact ((if_neg (by omega)).trans (if_pos c39)).symm
  try simp only [cvS] at g28
  have hJ : downJ ltV l i n = 2 * i + 1 := if_neg (fun h => absurd h.1 (by omega))
  refine OL.off rfl rfl ?_
  refine OL.off rfl rfl ?_
  refine OL.off rfl rfl ?_
  refine OL.off rfl rfl ?_
  refine OL.dp rfl ?_
  refine OL.nil ?_
  refine PW.k7 0 1 2 7 9 10 33 rfl rfl rfl rfl rfl rfl rfl ?_
  refine PW.ite (b := false) rfl ?_
  rw [if_neg Bool.false_ne_true]
  refine PW.skip ?_
  refine hK3 _ _ ?_
  refine PW.k5 0 1 2 7 9 rfl rfl rfl rfl rfl ?_
  refine PW.seq fun K6 hK6 => ?_
  refine PW.seqOps ?_
  have hJr : 2 * i + 1 <= downJ ltV l i n /\ downJ ltV l i n < n := by unfold downJ; split <;> omega
  refine OL.dp rfl ?_
  refine OL.det trivial (.to (v' := .int .i64 ((downJ ltV l i n : Nat) : Int)) (Yields.pure rfl) (by rw [hJ])) ?_
  refine OL.dp rfl ?_
  refine OL.cons trivial (OW.inv (k := 161) (rv := .slice (some ⟨r, 0, none⟩) q.length c) rfl rfl (fun w hr => meth_val hr m_less (own_at (j := 0) (c := [.slice (some ⟨r, 0, none⟩) q.length c]) (E := 110) (tot := 1) (List.mem_flatten.2 ⟨_, .head _, List.mem_singleton.2 rfl⟩) rfl)) (by kernel_rfl) (by have h := wless_fc (w0 := w0) (S := wseg rw (.slice (some ⟨r, 0, none⟩) q.length c) :: qseg r tot l :: S) (c := c) (i := downJ ltV l i n) (j := i) (Rd.own (E := 32) (tot := tot) (List.mem_flatten.2 ⟨_, .tail _ (.head _), List.mem_singleton.2 rfl⟩)) (by omega) (by omega); rw [hl] at h; exact h)) ?_
  rintro _ Sx ⟨rfl, hSx⟩
  rw [hSx]
  clear hSx
  refine OL.dp rfl ?_
  refine OL.nil ?_
  refine PW.k6 0 1 2 7 9 39 rfl rfl rfl rfl rfl rfl ?_
  refine PW.cond rfl (fun c39 => ?_) (fun c39 => ?_)
  · try simp only [cvS] at c39
    refine PW.exit ?_
    refine hK1 _ _ ?_
    refine PW.k2 1 7 rfl rfl ?_
    refine PW.seqOps ?_
    refine OL.dp rfl ?_
    refine OL.dp rfl ?_
    refine OL.dp rfl ?_
    refine OL.dp rfl ?_
    refine OL.nil ?_
    refine PW.k1 6 rfl ?_
    refine PW.ret ?_
    change (Exit.ret = Exit.normal ∨ Exit.ret = Exit.ret) /\ ∃ v, resV _ _ = some v /\ _
    first
      | (refine ⟨.inr rfl, _, rfl, _, rfl, ?_⟩
         rw [<- hu]
         cases f with
         | zero => rfl
         | succ f => rw [show downL ltV (f + 1) l i n = l from if_pos (by omega)])
      | (refine ⟨.inr rfl, _, rfl, _, rfl, ?_⟩
         rw [<- hu]
         obtain ⟨f', rfl⟩ : ∃ f', f = f' + 1 := ⟨f - 1, by omega⟩
         rw [show downL ltV (f' + 1) l i n = l from (if_neg (by omega)).trans (if_neg (by rw [c39]; simp))])
  try simp only [cvS] at c39
  refine PW.skip ?_
  refine hK6 _ _ ?_
  refine PW.k5 0 1 2 7 9 rfl rfl rfl rfl rfl ?_
  refine PW.seqOps ?_
  refine OL.dp rfl ?_
  refine OL.dp rfl ?_
  refine OL.det trivial (.to (v' := .int .i64 ((downJ ltV l i n : Nat) : Int)) (Yields.pure rfl) (by rw [hJ])) ?_
  refine OL.cons trivial (OW.inv (k := 164) (rv := .slice (some ⟨r, 0, none⟩) q.length c) rfl rfl (fun w hr => meth_val hr m_swap (own_at (j := 0) (c := [.slice (some ⟨r, 0, none⟩) q.length c]) (E := 110) (tot := 1) (List.mem_flatten.2 ⟨_, .head _, List.mem_singleton.2 rfl⟩) rfl)) (by kernel_rfl) (by have h := wswap_fc (w0 := w0) (S := wseg rw (.slice (some ⟨r, 0, none⟩) q.length c) :: qseg r tot l :: S) (c := c) (k := 1) (i := i) (j := downJ ltV l i n) rfl (by omega) (by omega); rw [hl] at h; exact h)) ?_
  rintro _ Sx ⟨rfl, hSx⟩
  rw [hSx]
  clear hSx
  refine OL.nil ?_
  refine PW.k4 0 1 2 9 rfl rfl rfl rfl ?_
  refine PW.ops ?_
  refine OL.det trivial (.to (v' := .int .i64 ((downJ ltV l i n : Nat) : Int)) (Yields.pure rfl) (by rw [hJ])) ?_
  refine OL.dp rfl ?_
  refine OL.nil ?_
  repeat rw [inBlk_n]
  try rw [thenK_n]
  refine LoopEnd.mk (T'' := [(0, _), (1, _), (2, _), (7, _)]) ⟨rfl, rfl, rfl, rfl, trivial⟩ ?_
  obtain ⟨f', rfl⟩ : ∃ f', f = f' + 1 := ⟨f - 1, by omega⟩
  refine ⟨n - downJ ltV l i n, by omega, downJ ltV l i n, f', swapL l i (downJ ltV l i n), ⟨by omega, by rw [swapL_len]; exact hl, ?_, rfl, by omega⟩, rfl, rfl⟩
  rw [<- hu]
  exact ((if_neg (by omega)).trans (if_pos c39)).symm
end Go.Proofs.Gr

namespace Go.Proofs.Gr
open Go.SL Go.RowKit Go.Proofs Go.GP
set_option maxHeartbeats 1000000
open Go.HP
theorem upL_len : ∀ (f : Nat) (l : List Vtx) (j : Nat), (upL ltV f l j).length = l.length
 | 0, l, j => rfl
 | f + 1, l, j => by
  unfold upL
  split
  ·rfl
  split
  ·rw [upL_len f, swapL_len]
  rfl
theorem downL_len : ∀ (f : Nat) (l : List Vtx) (i n : Nat), (downL ltV f l i n).length = l.length
 | 0, l, i, n => rfl
 | f + 1, l, i, n => by
  unfold downL
  split
  ·rfl
  split
  ·rw [downL_len f, swapL_len]
  rfl
theorem hpush_fc {w0 : World} {S : SS} {rw : Nat} {v : Value} {sg : Seg} {q : List Vtx} {x : Vtx} (hs : SlV 32 33 v q.length (vtxs q) sg) (hq : q.length <= 100000000000) :
  FC Try.prog w0 62 [wI rw, .iface 32 (vtxV x)] (wseg rw v :: sg :: S) (fun u S' => u = .tuple #[] /\ ∃ v' sg', S' = wseg rw v' :: sg' :: S /\ SlV 32 33 v' (pushL ltV q x).length (vtxs (pushL ltV q x)) sg') := by
 have hql : (q ++ [x]).length = q.length + 1 := by simp
 refine FC.of Try.known62 (by simp) ?_
 unfold Try.pc62
 simp only [argT]
 refine PW.seqOps ?_
 refine OL.dp rfl ?_
 refine OL.dp rfl ?_
 refine OL.cons trivial (OW.inv (k := 163) (rv := .pointer (some ⟨rw, 0, none⟩)) rfl rfl (fun w hr => meth_ptr hr m_push _) (by kernel_rfl) (wpush_fc hs (by omega))) ?_
 rintro _ _ ⟨rfl, v6, sg6, rfl, hs6⟩
 obtain ⟨r, c, rfl, rfl, hc, hcm⟩ := slv_own hs6 (by omega)
 refine OL.nil ?_
 refine PW.k1 0 rfl ?_
 refine PW.ops ?_
 refine OL.dp rfl ?_
 refine OL.dp rfl ?_
 refine OL.cons trivial (OW.inv (k := 63) (rv := .slice (some ⟨r, 0, none⟩) (q ++ [x]).length c) rfl rfl (fun w hr => meth_val hr m_len (own_at (j := 0) (c := [.slice (some ⟨r, 0, none⟩) (q ++ [x]).length c]) (E := 110) (tot := 1) (List.mem_flatten.2 ⟨_, .head _, List.mem_singleton.2 rfl⟩) rfl)) (by kernel_rfl) (wlen_fc)) ?_
 rintro _ Sx ⟨rfl, hSx⟩
 rw [hSx]
 clear hSx
 refine OL.det trivial (.to (v' := .int .i64 ((q.length : Nat) : Int)) (Yields.sub64 rfl rfl (by omega) (by omega)) (congrArg (Value.int .i64) (by omega))) ?_
 refine OL.call trivial rfl (wup_fc (q := q ++ [x]) (j0 := q.length) (c := c) (tot := c * 33) (by omega) (by omega)) ?_
 rintro _ _ ⟨rfl, rfl⟩
 refine OL.nil ?_
 change (Exit.normal = Exit.normal ∨ Exit.normal = Exit.ret) /\ ∃ v, resV _ _ = some v /\ _
 have hpl : (pushL ltV q x).length = (q ++ [x]).length := upL_len _ _ _
 refine ⟨.inl rfl, _, rfl, rfl, _, _, rfl, ?_⟩
 rw [<- hpl]
 exact SlV.mk' (vtxs_len _) (by rw [hpl]; exact hc) hcm
theorem hpop_fc {w0 : World} {S : SS} {rw r c : Nat} {q : List Vtx} (h0 : 0 < q.length) (hc : q.length <= c) (hcm : c <= maxLen) (hq : q.length <= 100000000000) :
  FC Try.prog w0 64 [wI rw] (wseg rw (.slice (some ⟨r, 0, none⟩) q.length c) :: qseg r (c * 33) q :: S) (fun u S' => u = .iface 32 (vtxV (downL ltV q.length (swapL q 0 (q.length - 1)) 0 (q.length - 1))[q.length - 1]!) /\ S' = wseg rw (.slice (some ⟨r, 0, none⟩) (q.length - 1) c) :: qseg r (c * 33) (popL ltV q) :: S) := by
 refine FC.of Try.known64 (by simp) ?_
 unfold Try.pc64
 simp only [argT]
 refine PW.seqOps ?_
 refine OL.dp rfl ?_
 refine OL.nil ?_
 refine PW.k1 0 rfl ?_
 refine PW.seqOps ?_
 refine OL.dp rfl ?_
 refine OL.cons trivial (OW.inv (k := 63) (rv := .slice (some ⟨r, 0, none⟩) q.length c) rfl rfl (fun w hr => meth_val hr m_len (own_at (j := 0) (c := [.slice (some ⟨r, 0, none⟩) q.length c]) (E := 110) (tot := 1) (List.mem_flatten.2 ⟨_, .head _, List.mem_singleton.2 rfl⟩) rfl)) (by kernel_rfl) (wlen_fc)) ?_
 rintro _ Sx ⟨rfl, hSx⟩
 rw [hSx]
 clear hSx
 refine OL.det trivial (.to (v' := .int .i64 ((q.length - 1 : Nat) : Int)) (Yields.sub64 rfl rfl (by omega) (by omega)) (congrArg (Value.int .i64) (by omega))) ?_
 refine OL.dp rfl ?_
 refine OL.nil ?_
 refine PW.k2 0 3 rfl rfl ?_
 refine PW.seqOps ?_
 refine OL.dp rfl ?_
 refine OL.dp rfl ?_
 refine OL.cons trivial (OW.inv (k := 164) (rv := .slice (some ⟨r, 0, none⟩) q.length c) rfl rfl (fun w hr => meth_val hr m_swap (own_at (j := 0) (c := [.slice (some ⟨r, 0, none⟩) q.length c]) (E := 110) (tot := 1) (List.mem_flatten.2 ⟨_, .head _, List.mem_singleton.2 rfl⟩) rfl)) (by kernel_rfl) (wswap_fc (c := c) (k := 1) (i := 0) (j := q.length - 1) rfl h0 (by omega))) ?_
 rintro _ _ ⟨rfl, rfl⟩
 change OL _ _ _ _ _ (wseg rw (.slice (some ⟨r, 0, none⟩) q.length c) :: qseg r (c * 33) (swapL q 0 (q.length - 1)) :: S) _
 refine OL.nil ?_
 refine PW.k2 0 3 rfl rfl ?_
 refine PW.seqOps ?_
 refine OL.dp rfl ?_
 refine OL.dp rfl ?_
 refine OL.call trivial rfl (by have h := wdown_fc (w0 := w0) (S := S) (rw := rw) (r := r) (c := c) (tot := c * 33) (n := q.length - 1) (f0 := q.length) (q := swapL q 0 (q.length - 1)) (by rw [swapL_len]; omega) (by rw [swapL_len]; omega) (by omega); rw [swapL_len] at h; exact h) ?_
 rintro _ _ ⟨b, rfl, rfl⟩
 refine OL.nil ?_
 refine PW.k1 0 rfl ?_
 refine PW.seqOps ?_
 refine OL.dp rfl ?_
 refine OL.cons trivial (OW.inv (k := 162) (rv := .pointer (some ⟨rw, 0, none⟩)) rfl rfl (fun w hr => meth_ptr hr m_pop _) (by kernel_rfl) (by have h := wpop_fc (w0 := w0) (S := S) (rw := rw) (r := r) (c := c) (q := (downL ltV q.length (swapL q 0 (q.length - 1)) 0 (q.length - 1))) (by rw [downL_len, swapL_len]; exact h0) (by rw [downL_len, swapL_len]; exact hc) hcm (by rw [downL_len, swapL_len]; omega); rw [downL_len, swapL_len] at h; exact h)) ?_
 rintro _ _ ⟨rfl, rfl⟩
 refine OL.dp rfl ?_
 refine OL.nil ?_
 refine PW.k1 2 rfl ?_
 refine PW.ret ?_
 change (Exit.ret = Exit.normal ∨ Exit.ret = Exit.ret) /\ ∃ v, resV _ _ = some v /\ _
 exact ⟨.inr rfl, _, rfl, rfl, rfl⟩
end Go.Proofs.Gr

namespace Go.GP
open Go.SL
def tgts (N : List (Vtx × NodeP)) : List Vtx := N.flatMap fun p => p.2.next
theorem EG_tgts (N : List (Vtx × NodeP)) : (EG N).map (·.2) = tgts N := by
 unfold EG tgts
 induction N with
 | nil => rfl
 | cons p N ih => rw [List.flatMap_cons, List.flatMap_cons, List.map_append, ih, List.map_map]; simp [Function.comp_def]
theorem tgts_len (N : List (Vtx × NodeP)) : (tgts N).length = (EG N).length := by rw [<- EG_tgts, List.length_map]
theorem tgts_perm {A B : List (Vtx × NodeP)} (h : A.Perm B) : (tgts A).Perm (tgts B) := h.flatMap_right _
def inN (N : List (Vtx × NodeP)) (v : Vtx) : Int := cntV v (tgts N)
theorem inN_perm {A B : List (Vtx × NodeP)} (h : A.Perm B) (v : Vtx) : inN A v = inN B v := by unfold inN cntV; rw [(tgts_perm h).count_eq]
theorem cntV_le (v : Vtx) (l : List Vtx) : 0 <= cntV v l /\ cntV v l <= l.length := by unfold cntV; have := List.count_le_length (a := v) (l := l); omega
end Go.GP

namespace Go.SL
open Go.RowKit
section
variable {P : Program} {w0 : World} {n : Nat} {T : TT} {S : SS} {α β : Type} [DecidableEq α] {f : α -> Value} {g : β -> Value} {kt et t : TypeId} {ok : α -> Prop}
def OpS (f : α -> Value) (g : β -> Value) (l : List (α × β)) (a : α) (z : β) (b : Nat) (A R : SS) (S' : SS) : Prop :=
 S' = A ++ [(b, .gm (gmL f g l))] :: R ∨ ∃ en clk, Opened f g en clk (entL l a z) /\ S' = A ++ [(b, .obj (.map en clk))] :: R
theorem OpS.over {l : List (α × β)} {a : α} {z : β} {b : Nat} {A R S' : SS} (h : OpS f g l a z b A R S') : Over (A ++ R) S' := by
 intro q hq
 rw [List.flatten_append, List.mem_append] at hq
 rcases h with rfl | ⟨en, clk, _, rfl⟩ <;> (rw [List.flatten_append, List.mem_append, List.flatten_cons, List.mem_append]; exact hq.imp_right .inr)
theorem mgt_entL {l : List (α × β)} {a u : α} {z : β} : (mgt (entL l a z) u).getD z = (mgt l u).getD z := by
 unfold entL
 rw [mgt_mpt]
 split
 ·rename_i h; subst h; rfl
 rfl
theorem entL_ok {l : List (α × β)} {a : α} {z : β} (hl : ∀ p ∈ l, ok p.1) (ha : ok a) : ∀ p ∈ entL l a z, ok p.1 := by
 intro p hp
 unfold entL at hp
 have key : ∀ (l : List (α × β)) (b : β), (∀ p ∈ l, ok p.1) -> ∀ p ∈ mpt l a b, ok p.1 := by
  intro l b
  induction l with
  | nil => intro _ p hp; simp only [mpt, List.mem_singleton] at hp; subst hp; exact ha
  | cons x l ih =>
   intro h p hp
   unfold mpt at hp
   split at hp
   ·rcases List.mem_cons.1 hp with rfl | hp
    ·exact ha
    exact h p (List.mem_cons_of_mem _ hp)
   rcases List.mem_cons.1 hp with rfl | hp
   ·exact h _ List.mem_cons_self
   exact ih (fun p hp => h p (List.mem_cons_of_mem _ hp)) p hp
 exact key l _ hl p hp
theorem Yields.lookOp {m k : Operand} {i : TypeInfo} {b : Nat} {l : List (α × β)} {a u : α} {z : β} {A R S' : SS} (hu : P.underlying t = some (.map kt et)) (hi : P.info? et = some i) (hz : i.zero = some (g z)) (K : Keys P kt f ok) (hl : ∀ p ∈ l, ok p.1) (ha : ok a) (hau : ok u)
  (hm : (cV m).val T = some (.map (some b))) (hx : (cV k).val T = some (f u)) (hS : OpS f g l a z b A R S') :
  Yields P w0 n (.more (.other (.gen (.lookup t m k false)))) T S' (g ((mgt l u).getD z)) := by
 rcases hS with rfl | ⟨en, clk, ho, rfl⟩
 ·have := Yields.lookG (P := P) (w0 := w0) (n := n) (T := T) (S := A ++ [(b, .gm (gmL f g l))] :: R) (okc := false) hu hi hz K hl hau hm hx (by simp)
  simpa using this
 have := Yields.lookO (P := P) (w0 := w0) (n := n) (T := T) (S := A ++ [(b, .obj (.map en clk))] :: R) (okc := false) hu hi hz K (entL_ok hl ha) hau hm hx ho (by simp)
 rw [mgt_entL] at this
 simpa using this
end
end Go.SL
