/- Walks. -/
import Derived.Test.YtbidjnjbiibdeaaGreatDoorPart3
import Derived.Shelf.Strconv.Itoa3
import Derived.Ground.NamesProg
import Derived.Lib.AppendIntMem
import Derived.Test.YtbidjnjbiibdeaaGreatDoorChecked
import Derived.Lib.UnsafeStr
import Derived.Shelf.Strings.Builder1
import Derived.Lib.MakeNoZero
set_option linter.unusedVariables false
set_option linter.unusedSimpArgs false
set_option linter.unusedSectionVars false

namespace Go.Proofs.Lb
open Go.SL Go.RowKit Go.Proofs
set_option maxHeartbeats 1000000
def ltP (a b : LabB) : Prop := a.1 < b.1 ∨ (a.1 = b.1 /\ a.2.toNat < b.2.toNat)
theorem orZ_lt (a b : LabB) : orZ a b < 0 ↔ ltP a b := by
 have := ltOf_orZ a b
 unfold ltOf at this
 rwa [decide_eq_decide] at this
theorem ltP_tot {a b : LabB} (h1 : ¬ ltP a b) (h2 : ¬ ltP b a) : a = b := by
 unfold ltP at *
 exact Prod.ext (by omega) (BitVec.eq_of_toNat_eq (by omega))
theorem ltP_trans {a b c : LabB} (h1 : ltP a b) (h2 : ltP b c) : ltP a c := by unfold ltP at *; omega
theorem ltP_irr {a : LabB} : ¬ ltP a a := by unfold ltP; omega
theorem uniq : ∀ (l l' : List LabB), l.Pairwise ltP -> l'.Pairwise ltP -> (∀ x, x ∈ l ↔ x ∈ l') -> l = l'
 | [], [], _, _, _ => rfl
 | [], b :: l', _, _, h => absurd ((h b).2 (by simp)) (by simp)
 | a :: l, [], _, _, h => absurd ((h a).1 (by simp)) (by simp)
 | a :: l, b :: l', p, p', h => by
  rw [List.pairwise_cons] at p p'
  obtain rfl : a = b := by
   rcases List.mem_cons.1 ((h a).1 (by simp)) with e | e
   ·exact e
   rcases List.mem_cons.1 ((h b).2 (by simp)) with e' | e'
   ·exact e'.symm
   exact absurd (ltP_trans (p.1 b e') (p'.1 a e)) ltP_irr
  rw [uniq l l' p.2 p'.2 fun x => ?_]
  constructor
  ·intro hx
   rcases List.mem_cons.1 ((h x).1 (by simp [hx])) with e | e
   ·subst e; exact absurd (p.1 _ hx) ltP_irr
   exact e
  intro hx
  rcases List.mem_cons.1 ((h x).2 (by simp [hx])) with e | e
  ·subst e; exact absurd (p'.1 _ hx) ltP_irr
  exact e
theorem mem_insP (a x : LabB) : ∀ l, x ∈ insP a l ↔ x = a ∨ x ∈ l
 | [] => by simp [insP]
 | y :: l => by
  unfold insP
  split
  ·simp only [List.mem_cons, mem_insP a x l]
   constructor
   ·rintro (h | h | h) <;> simp [h]
   rintro (h | h | h) <;> simp [h]
  split
  ·rename_i h; subst h; simp
  simp
theorem pw_insP (a : LabB) : ∀ l, l.Pairwise ltP -> (insP a l).Pairwise ltP
 | [], _ => by simp [insP]
 | y :: l, p => by
  have p0 := List.pairwise_cons.1 p
  unfold insP
  split
  ·rename_i h
   rw [orZ_lt] at h
   refine List.pairwise_cons.2 ⟨fun z hz => ?_, pw_insP a l p0.2⟩
   rcases (mem_insP a z l).1 hz with rfl | hz
   ·exact h
   exact p0.1 z hz
  split
  ·exact p
  rename_i h h2
  rw [orZ_lt] at h
  have hay : ltP a y := Classical.byContradiction fun e => h2 (ltP_tot h e)
  refine List.pairwise_cons.2 ⟨fun z hz => ?_, p⟩
  rcases List.mem_cons.1 hz with rfl | hz
  ·exact hay
  exact ltP_trans hay (p0.1 z hz)
theorem refS_ok : ∀ (l acc : List LabB), acc.Pairwise ltP -> (l.foldl (fun acc a => insP a acc) acc).Pairwise ltP /\ ∀ x, x ∈ l.foldl (fun acc a => insP a acc) acc ↔ x ∈ acc ∨ x ∈ l
 | [], acc, p => ⟨p, fun x => by simp⟩
 | a :: l, acc, p => by
  obtain ⟨h1, h2⟩ := refS_ok l (insP a acc) (pw_insP a acc p)
  refine ⟨h1, fun x => ?_⟩
  rw [List.foldl_cons, h2, mem_insP, List.mem_cons]
  constructor
  ·rintro ((h | h) | h) <;> simp [h]
  rintro (h | h | h) <;> simp [h]
theorem dd_ok : ∀ (l acc : List LabB), acc.Pairwise ltP -> (∀ y ∈ acc, ∀ x ∈ l, ¬ ltP x y) -> l.Pairwise (fun x y => ¬ ltP y x) ->
  (l.foldl ddS acc).Pairwise ltP /\ ∀ x, x ∈ l.foldl ddS acc ↔ x ∈ acc ∨ x ∈ l
 | [], acc, p, _, _ => ⟨p, fun x => by simp⟩
 | a :: l, acc, p, h, q => by
  have q0 := List.pairwise_cons.1 q
  rw [List.foldl_cons]
  by_cases e : acc.getLast? = some a
  ·have ha : a ∈ acc := List.mem_of_getLast? e
   rw [show ddS acc a = acc from by unfold ddS; rw [if_pos e]]
   obtain ⟨h1, h2⟩ := dd_ok l acc p (fun y hy x hx => h y hy x (by simp [hx])) q0.2
   refine ⟨h1, fun x => ?_⟩
   rw [h2, List.mem_cons]
   constructor
   ·rintro (h | h) <;> simp [h]
   rintro (h | rfl | h)
   ·simp [h]
   ·simp [ha]
   simp [h]
  rw [show ddS acc a = acc ++ [a] from by unfold ddS; rw [if_neg e]]
  have hlt : ∀ y ∈ acc, ltP y a := by
   intro y hy
   refine Classical.byContradiction fun hn => ?_
   obtain rfl : y = a := ltP_tot hn (h y hy a (by simp))
   obtain ⟨acc', z, rfl⟩ : ∃ acc' z, acc = acc' ++ [z] := ⟨acc.dropLast, acc.getLast (List.ne_nil_of_mem hy), (List.dropLast_concat_getLast _).symm⟩
   rcases List.mem_append.1 hy with hy' | hy'
   ·exact h z (by simp) y (by simp) ((List.pairwise_append.1 p).2.2 y hy' z (by simp))
   obtain rfl := List.mem_singleton.1 hy'
   simp at e
  obtain ⟨h1, h2⟩ := dd_ok l (acc ++ [a]) (List.pairwise_append.2 ⟨p, by simp, fun y hy z hz => by obtain rfl := List.mem_singleton.1 hz; exact hlt y hy⟩)
   (fun y hy x hx => by
    rcases List.mem_append.1 hy with hy | hy
    ·exact h y hy x (by simp [hx])
    obtain rfl := List.mem_singleton.1 hy; exact q0.1 x hx) q0.2
  refine ⟨h1, fun x => ?_⟩
  rw [h2, List.mem_append, List.mem_singleton, List.mem_cons]
  constructor
  ·rintro ((h | h) | h) <;> simp [h]
  rintro (h | h | h) <;> simp [h]
theorem sort_law (l : List LabB) : dd (sortL l) = refS l := by
 have hs : (sortL l).Pairwise (fun x y => ¬ ltP y x) := by
  have := List.pairwise_mergeSort (le := fun x y => !(ltOf orZ) y x) (fun a b c h1 h2 => by
   rw [ltOf_orZ] at *; simp only [Bool.not_eq_true', decide_eq_false_iff_not] at *; omega) (fun a b => by
   rw [ltOf_orZ, ltOf_orZ]; simp only [Bool.or_eq_true, Bool.not_eq_true', decide_eq_false_iff_not]; omega) l
  refine this.imp fun {a b} h => ?_
  rw [ltOf_orZ] at h
  simp only [Bool.not_eq_true', decide_eq_false_iff_not] at h
  exact h
 obtain ⟨h1, h2⟩ := dd_ok (sortL l) [] (by simp) (by simp) hs
 obtain ⟨h3, h4⟩ := refS_ok l [] (by simp)
 refine uniq _ _ h1 h3 fun x => ?_
 rw [show dd (sortL l) = (sortL l).foldl ddS [] from rfl, show refS l = l.foldl (fun acc a => insP a acc) [] from rfl, h2, h4]
 unfold sortL
 simp [List.mem_mergeSort]
theorem cut_read {w0 : World} {v : Value} {n : Nat} {l d : List LabB} {seg : Seg} (h : Cut v n l seg) (ht : l.take n = d) : ∃ A cap, v = .slice A n cap /\ ∀ S, Rd w0 (seg :: S) A (labs d) := by
 rcases h with ⟨rfl, rfl, rfl, rfl⟩ | ⟨r, cap, rfl, rfl, h1, h2, h3⟩
 ·subst ht
  exact ⟨none, 0, rfl, fun S => Rd.nil⟩
 refine ⟨_, cap, rfl, fun S => ?_⟩
 subst ht
 exact pre_rd (Rd.own (List.mem_flatten.2 ⟨_, List.mem_cons_self .., List.mem_singleton.2 rfl⟩))
end Go.Proofs.Lb

namespace Go.Proofs.Rl
open Go.SL Go.RowKit Go.Proofs Go.Proofs.Lb
set_option maxHeartbeats 1000000
def touK (l : List RuleB) (p : ByteArray) (k : Nat) : List LabB := findP l p :: ((l.take k).filter fun r => overP p r.1).map (·.2)
def touP (l : List RuleB) (p : ByteArray) : List LabB := touK l p l.length
theorem touK_succ {l : List RuleB} {p : ByteArray} {k : Nat} (hk : k < l.length) : touK l p (k + 1) = touK l p k ++ (if overP p l[k].1 = true then [l[k].2] else []) := by
 unfold touK
 rw [rtake_snoc hk, List.filter_append, List.map_append, List.cons_append]
 split <;> simp_all
theorem touK_len {l : List RuleB} {p : ByteArray} {k : Nat} (hk : k <= l.length) : (touK l p k).length <= k + 1 := by
 unfold touK
 have := List.length_filter_le (fun r : RuleB => overP p r.1) (l.take k)
 simp only [List.length_cons, List.length_map]
 rw [List.length_take] at this
 omega
theorem touched_fc {w0 : World} {S : SS} {A : Option Addr} {c : Nat} {tv : Int} {l : List RuleB} {p : ByteArray} (hx : Rd w0 S A (ruls l)) (hw : ∀ x ∈ l, x.1.size <= 1000000000) (hp : p.size <= 1000000000) (hl : l.length <= 1000000000) :
  FC Tryz.prog w0 13 [tabV tv A l.length c, .string p] S (fun v S' => ∃ A' c' seg, v = .slice A' (refS (touP l p)).length c' /\ S' = seg :: S /\ ∀ S, Rd w0 (seg :: S) A' (labs (refS (touP l p)))) := by
 refine FC.ofD Tryz.known13 (by simp) ?_
 unfold Tryz.pc13
 simp only [argT]
 refine PW.seqOps (OL.cons trivial (OW.bx rfl) ?_)
 rintro _ _ ⟨r2, rfl, rfl⟩
 change OL _ _ _ _ _ (tseg r2 tv A l.length c :: S) _
 refine OL.dp rfl (OL.nil (PW.k2 1 2 rfl (PW.seqOps (OL.det trivial (.ldA rfl rfl (tab_at (tv := tv) (A := A) (n := l.length) (c := c) (r := r2) zM0)) (OL.dp rfl (OL.call trivial rfl (find_fc hx.cons hw hp hl) ?_))))))
 rintro _ Sx ⟨rfl, hSx⟩
 rw [hSx]
 clear hSx
 refine OL.cons trivial (OW.bsl rfl) ?_
 rintro _ _ ⟨r11, rfl, rfl⟩
 change OL _ _ _ _ _ ([(r11, .cells (labs (touK l p 0)) 34 (1 * 2))] :: tseg r2 tv A l.length c :: S) _
 refine OL.dp rfl (OL.nil (PW.k3 1 2 5 rfl ?_))
 refine PW.seq fun K1 hK1 => ?_
 refine PW.seqOps (OL.dp rfl (OL.det trivial (.ld rfl (own_at (j := 1) (c := [.int .i64 tv, .slice A l.length c]) (E := 24) (tot := 2) zM1 rfl)) (OL.dp rfl (OL.dp rfl (OL.nil (PW.k5 1 5 13 14 15 rfl (PW.block (PW.k5 1 5 13 14 15 rfl ?_))))))))
 refine PW.loopK (I := fun m T S' => ∃ (k : Nat) (v5 : Value) (seg : Seg), (k <= l.length /\ m = l.length - k /\ SlV 34 2 v5 (touK l p k).length (labs (touK l p k)) seg) /\ T = ([(1, .string p), (5, v5), (13, .slice A l.length c), (14, .int .i64 (l.length : Int)), (15, .int .i64 k)] : TT) /\ S' = seg :: tseg r2 tv A l.length c :: S) (m := l.length) ⟨0, _, _, ⟨by omega, by omega, SlV.mk' (cap := 1) rfl (Nat.le_refl 1) (by decide)⟩, rfl, rfl⟩ ?_
 rintro m _ _ ⟨k, v5, seg, ⟨hk, hm, hsl⟩, rfl, rfl⟩
 have hlk := touK_len (p := p) hk
 refine PW.seqOps (OL.dp rfl (OL.nil (PW.k6 1 5 13 14 15 16 rfl ?_)))
 refine PW.seq fun K2 hK2 => ?_
 refine PW.cond rfl (fun c16 => ?_) (fun c16 => ?_)
 ·try simp only [decide_eq_true_eq, decide_eq_false_iff_not, beq_iff_eq, bne_iff_ne, beq_eq_false_iff_ne, bne_eq_false_iff_eq, Bool.not_eq_true', Bool.not_eq_false', Bool.not_eq_true, ne_eq, Decidable.not_not] at c16
  have hkl : k < l.length := by omega
  obtain ⟨a0, rfl⟩ := ruls_some hx (by omega)
  have hwk := hw _ (List.getElem_mem hkl)
  refine PW.skip (hK2 _ _ (PW.k5 1 5 13 14 15 rfl ?_))
  refine PW.seq fun K3 hK3 => ?_
  refine PW.block (PW.seqOps ?_)
  refine OL.det trivial (.ixN rfl rfl rfl (by omega)) ?_
  refine OL.det trivial (.ldA rfl (cs := ruleC l[k]) rfl (rule_at hx.cons.cons hkl)) (OL.cons trivial OW.al ?_)
  rintro _ _ ⟨r7, rfl, rfl⟩
  refine OL.cons trivial (OW.st (k := 0) rfl rfl rfl rfl (by decide) rfl) ?_
  rintro _ _ rfl
  change OL _ _ _ _ _ (rseg r7 l[k] :: seg :: tseg r2 tv (some a0) l.length c :: S) _
  refine OL.nil (PW.k6 1 5 7 13 14 15 rfl (PW.seqOps (OL.dp rfl (OL.dp rfl (OL.det trivial (.ld rfl (own_at (j := 0) (c := ruleC l[k]) (E := 48) (tot := 3) zM0 rfl)) (OL.call trivial rfl (rover_fc hp hwk) ?_))))))
  rintro _ Sx ⟨rfl, hSx⟩
  rw [hSx]
  clear hSx
  refine OL.nil (PW.k7 1 5 7 13 14 15 22 rfl ?_)
  refine PW.cond rfl (fun c22 => ?_) (fun c22 => ?_)
  ·try simp only [decide_eq_true_eq, decide_eq_false_iff_not, beq_iff_eq, bne_iff_ne, beq_eq_false_iff_ne, bne_eq_false_iff_eq, Bool.not_eq_true', Bool.not_eq_false', Bool.not_eq_true, ne_eq, Decidable.not_not] at c22
   refine PW.ops (OL.dp rfl (OL.dp rfl (OL.det trivial (.ldA rfl rfl (rseg_at (x := l[k]))) ?_)))
   apply OL.app1 (k := 1)
   ·rfl
   ·rfl
   ·rfl
   ·rfl
   ·rfl
   ·rfl
   ·exact hsl
   ·rfl
   ·omega
   ·unfold maxLen; omega
   intro v27 seg27 hsl27
   change OL _ _ _ _ _ (rseg r7 l[k] :: seg27 :: tseg r2 tv (some a0) l.length c :: S) _
   refine OL.dp rfl (OL.nil (hK3 _ _ (PW.k5 1 5 13 14 15 rfl (PW.ops ?_))))
   refine OL.det trivial (.add64 rfl rfl (by omega) (by omega)) ?_
   refine OL.dp rfl (OL.nil ?_)
   repeat rw [inBlk_n]
   try rw [thenK_n]
   refine LoopEnd.mkS ((Sub.drop (Sub.refl _))) (T'' := [(1, _), (5, _), (13, _), (14, _), (15, _)]) (wi rfl) ?_
   refine ⟨l.length - (k + 1), by omega, k + 1, _, _, ⟨by omega, rfl, ?_⟩, rfl, rfl⟩
   have e : touK l p (k + 1) = touK l p k ++ [l[k].2] := by rw [touK_succ hkl, if_pos c22]
   rw [e, labs_app, List.length_append]
   exact hsl27
  try simp only [decide_eq_true_eq, decide_eq_false_iff_not, beq_iff_eq, bne_iff_ne, beq_eq_false_iff_ne, bne_eq_false_iff_eq, Bool.not_eq_true', Bool.not_eq_false', Bool.not_eq_true, ne_eq, Decidable.not_not] at c22
  refine PW.skip (hK3 _ _ (PW.k5 1 5 13 14 15 rfl (PW.ops ?_)))
  refine OL.det trivial (.add64 rfl rfl (by omega) (by omega)) ?_
  refine OL.dp rfl (OL.nil ?_)
  repeat rw [inBlk_n]
  try rw [thenK_n]
  refine LoopEnd.mkS ((Sub.drop (Sub.refl _))) (T'' := [(1, _), (5, _), (13, _), (14, _), (15, _)]) (wi rfl) ?_
  refine ⟨l.length - (k + 1), by omega, k + 1, _, _, ⟨by omega, rfl, ?_⟩, rfl, rfl⟩
  have e : touK l p (k + 1) = touK l p k := by rw [touK_succ hkl, if_neg (by rw [c22]; simp), List.append_nil]
  rw [e]
  exact hsl
 try simp only [decide_eq_true_eq, decide_eq_false_iff_not, beq_iff_eq, bne_iff_ne, beq_eq_false_iff_ne, bne_eq_false_iff_eq, Bool.not_eq_true', Bool.not_eq_false', Bool.not_eq_true, ne_eq, Decidable.not_not] at c16
 refine PW.exit (hK1 _ _ (PW.k1 5 rfl (PW.seqOps ?_)))
 obtain rfl : k = l.length := by omega
 change SlV 34 2 v5 (touP l p).length (labs (touP l p)) seg at hsl
 change (touP l p).length <= _ at hlk
 obtain ⟨A5, c5, rfl, hA5, hle5, hrd5⟩ := slv_rdL (w0 := w0) hsl
 refine OL.dp rfl ?_
 refine OL.call trivial rfl (sorted_fc (hrd5 _) (by omega)) ?_
 rintro v30 _ ⟨seg30, l30, rfl, hcut, ht, hl30⟩
 rw [sort_law] at hcut ht
 obtain ⟨A30, c30, rfl, hrd30⟩ := cut_read (w0 := w0) hcut ht
 refine OL.dp rfl (OL.nil (PW.k1 4 rfl (PW.ret ?_)))
 change (Exit.ret = Exit.normal ∨ Exit.ret = Exit.ret) /\ ∃ v, resV _ _ = some v /\ _
 exact ⟨.inr rfl, _, rfl, _, Sub.cons (Sub.drop (Sub.drop (Sub.refl _))), A30, c30, seg30, rfl, rfl, hrd30⟩
end Go.Proofs.Rl





namespace Go.Proofs
open Go.Shelf
def Tryz.lays171_ren : Go.Shelf.Ren := ⟨fun | 171 => 28 | 243 => 47 | 246 => 65 | 283 => 89 | 284 => 90 | 285 => 91 | 286 => 92 | 129 => 86 | 317 => 105 | 318 => 106 | 319 => 107 | 320 => 108 | 337 => 113 | 338 => 114 | n => n, fun | 3 => 3 | 9 => 9 | 2 => 2 | 4 => 4 | 171 => 106 | 0 => 0 | 53 => 32 | 37 => 69 | 5 => 5 | 173 => 108 | 212 => 126 | 51 => 101 | 20 => 20 | 213 => 127 | 46 => 83 | 232 => 136 | 233 => 137 | n => n, fun | 17 => 0 | 18 => 2 | 19 => 3 | n => n⟩
theorem Tryz.lays171 : Go.Proofs.LaysM.n171 Tryz.prog Tryz.lays171_ren := {
 mixed := by kernel_rfl
 f129 := Tryz.func86.trans (congrArg some (by kernel_rfl))
 f171 := Tryz.func28.trans (congrArg some (by kernel_rfl))
 f243 := Tryz.func47.trans (congrArg some (by kernel_rfl))
 f246 := Tryz.func65.trans (congrArg some (by kernel_rfl))
 f283 := Tryz.func89.trans (congrArg some (by kernel_rfl))
 f284 := Tryz.func90.trans (congrArg some (by kernel_rfl))
 f285 := Tryz.func91.trans (congrArg some (by kernel_rfl))
 f286 := Tryz.func92.trans (congrArg some (by kernel_rfl))
 f317 := Tryz.func105.trans (congrArg some (by kernel_rfl))
 f318 := Tryz.func106.trans (congrArg some (by kernel_rfl))
 f319 := Tryz.func107.trans (congrArg some (by kernel_rfl))
 f320 := Tryz.func108.trans (congrArg some (by kernel_rfl))
 f337 := Tryz.func113.trans (congrArg some (by kernel_rfl))
 f338 := Tryz.func114.trans (congrArg some (by kernel_rfl))
 t0 := Tryz.underlying0
 a0 := Tryz.isAgg0
 z0 := Tryz.sizeOf0
 v0 := Tryz.zeroValue0
 t2 := Tryz.underlying2
 a2 := Tryz.isAgg2
 z2 := Tryz.sizeOf2
 v2 := Tryz.zeroValue2
 t3 := Tryz.underlying3
 a3 := Tryz.isAgg3
 z3 := Tryz.sizeOf3
 v3 := Tryz.zeroValue3
 t4 := Tryz.underlying4
 a4 := Tryz.isAgg4
 z4 := Tryz.sizeOf4
 v4 := Tryz.zeroValue4
 t5 := Tryz.underlying5
 a5 := Tryz.isAgg5
 z5 := Tryz.sizeOf5
 v5 := Tryz.zeroValue5
 t9 := Tryz.underlying9
 a9 := Tryz.isAgg9
 z9 := Tryz.sizeOf9
 v9 := Tryz.zeroValue9
 t20 := Tryz.underlying20
 a20 := Tryz.isAgg20
 z20 := Tryz.sizeOf20
 v20 := Tryz.zeroValue20
 t37 := Tryz.underlying69
 a37 := Tryz.isAgg69
 z37 := Tryz.sizeOf69
 v37 := Tryz.zeroValue69
 t46 := Tryz.underlying83
 a46 := Tryz.isAgg83
 z46 := Tryz.sizeOf83
 v46 := Tryz.zeroValue83
 t51 := Tryz.underlying101
 a51 := Tryz.isAgg101
 z51 := Tryz.sizeOf101
 v51 := Tryz.zeroValue101
 t53 := Tryz.underlying32
 a53 := Tryz.isAgg32
 z53 := Tryz.sizeOf32
 v53 := Tryz.zeroValue32
 t171 := Tryz.underlying106
 a171 := Tryz.isAgg106
 z171 := Tryz.sizeOf106
 v171 := Tryz.zeroValue106
 t173 := Tryz.underlying108
 a173 := Tryz.isAgg108
 z173 := Tryz.sizeOf108
 v173 := Tryz.zeroValue108
 t212 := Tryz.underlying126
 a212 := Tryz.isAgg126
 z212 := Tryz.sizeOf126
 v212 := Tryz.zeroValue126
 t213 := Tryz.underlying127
 a213 := Tryz.isAgg127
 z213 := Tryz.sizeOf127
 t232 := Tryz.underlying136
 a232 := Tryz.isAgg136
 z232 := Tryz.sizeOf136
 v232 := Tryz.zeroValue136
 t233 := Tryz.underlying137
 a233 := Tryz.isAgg137
 z233 := Tryz.sizeOf137
 v233 := Tryz.zeroValue137
 g17 := by kernel_rfl
 g18 := by kernel_rfl
 g19 := by kernel_rfl
 i0 := by kernel_rfl
 i2 := by kernel_rfl
 i3 := by kernel_rfl
 i4 := by kernel_rfl
 i5 := by kernel_rfl
 i9 := by kernel_rfl
 i20 := by kernel_rfl
 i37 := by kernel_rfl
 i46 := by kernel_rfl
 i51 := by kernel_rfl
 i53 := by kernel_rfl
 i171 := by kernel_rfl
 i173 := by kernel_rfl
 i212 := by kernel_rfl
 i232 := by kernel_rfl
 i233 := by kernel_rfl
 m17 := by kernel_rfl
 m18 := by kernel_rfl
 m19 := by kernel_rfl }
end Go.Proofs
namespace Go.Proofs.Rl
open Go.SL Go.RowKit Go.Proofs Go.Proofs.Lb
set_option maxHeartbeats 1000000
structure Tabs (w0 : World) : Prop where
 pow : Lib.TabIs Tryz.prog w0 "internal/strconv.uint64pow10" .u64 Lib.pow10Tab
 tz : w0.cell? ⟨3, 15, none⟩ = some (.int .u8 4)
theorem itoa_fc {w0 : World} {S : SS} {z : Int} (hT : Tabs w0) (h0 : -9223372036854775808 <= z) (h1 : z <= 9223372036854775807) : FC Tryz.prog w0 28 [.int .i64 z] S (fun v S' => v = .string ⟨(Lib.itoa z).toArray⟩ /\ S' = S) := by
 intro w hw
 refine (Any.strconv_Itoa Tryz.lays171 z h0 h1 w ((Lib.tabBelow_of_tabIs hT.pow).on hw.below).here).mono ?_
 rintro e w' ⟨rfl, k, os, rfl⟩
 refine ⟨_, S, rfl, hw.same ?_ ?_ ?_, rfl, rfl⟩
 ·exact ⟨rfl, rfl, rfl, by simp [Go.Sort.grow, World.drewN], fun i hi => by have := hw.base; simp only [Go.Sort.grow, World.drewN]; rw [Array.getElem?_append_left (by omega)]⟩
 ·intro i hi; simp [Go.Sort.grow, World.drewN, Array.getElem?_append_left hi]
 simp [Go.Sort.grow, World.drewN]
def dig (d : Nat) : UInt8 := if d < 10 then UInt8.ofNat (48 + d) else UInt8.ofNat (87 + d)
def digsF (b : Nat) : Nat -> Nat -> List UInt8
 | 0, n => [dig n]
 | f + 1, n => if n < b then [dig n] else digsF b f (n / b) ++ [dig (n % b)]
theorem digsF_lt {b f n : Nat} (h : n < b) : digsF b f n = [dig n] := by cases f with | zero => rfl | succ f => rw [digsF, if_pos h]
theorem digsF_len {b : Nat} : ∀ f n, (digsF b f n).length <= f + 1
 | 0, n => by simp [digsF]
 | f + 1, n => by rw [digsF]; split <;> simp; exact digsF_len f _
def dig36 : ByteArray := ⟨#[48, 49, 50, 51, 52, 53, 54, 55, 56, 57, 97, 98, 99, 100, 101, 102, 103, 104, 105, 106, 107, 108, 109, 110, 111, 112, 113, 114, 115, 116, 117, 118, 119, 120, 121, 122]⟩
theorem dig36_at : ∀ j, j < 16 -> dig36[j]? = some (dig j) := by decide +kernel
theorem and15 {n : Nat} (h : n < 18446744073709551616) : Value.int .u64 (IntKind.u64.wrap (BitVec.ofInt IntKind.u64.bits (n : Int) &&& BitVec.ofInt IntKind.u64.bits 15).toNat) = .int .u64 ((n % 16 : Nat) : Int) := by
 have e : (BitVec.ofInt IntKind.u64.bits (n : Int) &&& BitVec.ofInt IntKind.u64.bits 15).toNat = n % 16 := by
  show (BitVec.ofInt 64 (n : Int) &&& BitVec.ofInt 64 15).toNat = n % 16
  rw [BitVec.toNat_and, BitVec.ofInt_natCast, BitVec.toNat_ofNat, Nat.mod_eq_of_lt (by omega)]
  exact Nat.and_two_pow_sub_one_eq_mod n 4
 rw [e, u64_wrap (by omega)]
abbrev dseg (r : Nat) (c : List Value) : Seg := [(r, .cells c 127 65)]
theorem rd_drop {w0 : World} {S : SS} {r : Nat} {c : List Value} {i : Nat} (h : (r, AO.cells c 127 65) ∈ S.flatten) : Rd w0 S (some ((⟨r, 0, none⟩ : Addr).add i)) (c.drop i) := by
 intro j v hj
 refine ⟨_, rfl, ?_⟩
 rw [addr_add_add]
 refine (Rd.own h).at ?_
 rw [List.getElem?_drop] at hj
 exact hj
theorem setAt_dig {c : List Value} {L : List UInt8} {k : Nat} {b : UInt8} (hc : c.length = 65) (hk : k < 65) (hd : c.drop (65 - k) = bytesC L) : (setAt c (64 - k) [.int .u8 b.toNat]).drop (64 - k) = bytesC (b :: L) := by
 rw [setAt_eq c (64 - k) _ (by simp; omega), List.append_assoc, List.drop_append_of_le_length (by rw [List.length_take]; omega), List.drop_eq_nil_of_le (by rw [List.length_take]; omega), List.nil_append]
 show _ :: c.drop (64 - k + 1) = _
 rw [show 64 - k + 1 = 65 - k from by omega, hd]
 rfl
theorem hex_next {f u : Nat} (h : 16 <= u) : digsF 16 (f + 1) u = digsF 16 f (u / 2 ^ 4) ++ [dig (u % 16)] := by rw [digsF, if_neg (by omega)]
theorem pow2_fc {w0 : World} {S : SS} : FC Tryz.prog w0 107 [.int .i64 16] S (fun v S' => v = .bool true /\ S' = S) := by
 refine FC.of Tryz.known107 (by simp) ?_
 unfold Tryz.pc107
 simp only [argT]
 refine PW.seqOps (OL.dp rfl (OL.nil (PW.k1 0 rfl (PW.seqOps (OL.dp rfl (OL.dp rfl ?_))))))
 refine OL.det trivial (.sub64 rfl rfl (by omega) (by omega)) ?_
 refine OL.det trivial (.to (v' := .int .i64 0) (Yields.pure rfl) (congrArg (Value.int _) (by decide +kernel))) ?_
 refine OL.dp rfl (OL.dp rfl (OL.nil (PW.k1 2 rfl (PW.ret ?_))))
 change (Exit.ret = Exit.normal ∨ Exit.ret = Exit.ret) /\ ∃ v, resV _ _ = some v /\ _
 exact ⟨.inr rfl, _, rfl, rfl, rfl⟩
theorem tz64_fc {w0 : World} {S : SS} (hT : Tabs w0) : FC Tryz.prog w0 114 [.int .u64 16] S (fun v S' => v = .int .i64 4 /\ S' = S) := by
 refine FC.of Tryz.known114 (by simp) ?_
 unfold Tryz.pc114
 simp only [argT]
 refine PW.seqOps (OL.dp rfl (OL.nil (PW.k1 0 rfl ?_)))
 refine PW.seq fun K1 hK1 => ?_
 refine PW.seqOps (OL.dp rfl (OL.dp rfl (OL.nil (PW.k2 0 4 rfl (PW.ite (b := false) rfl ?_)))))
 rw [if_neg Bool.false_ne_true]
 refine PW.skip (hK1 _ _ (PW.k1 0 rfl (PW.seqOps (OL.dp rfl (OL.dp rfl ?_)))))
 refine OL.det trivial (.to (v' := .int .u64 18446744073709551600) (Yields.neg rfl) (congrArg (Value.int _) (by decide +kernel))) ?_
 refine OL.det trivial (.to (v' := .int .u64 16) (Yields.pure rfl) (congrArg (Value.int _) (by decide +kernel))) ?_
 refine OL.det trivial (.to (v' := .int .u64 4573923408821661840) (Yields.pure rfl) (congrArg (Value.int _) (by decide +kernel))) ?_
 refine OL.det trivial (.to (v' := .int .u64 ((15 : Nat) : Int)) (Yields.shrU (a := 4573923408821661840) (b := 58) rfl rfl (by omega)) (congrArg (Value.int _) (by decide +kernel))) ?_
 refine OL.det trivial (.to (v' := .pointer (some ⟨3, 15, none⟩)) (Yields.ixA1 (j := 15) rfl rfl rfl (by omega)) (by rw [add_own])) ?_
 refine OL.det trivial (.ld rfl (.inl hT.tz)) ?_
 refine OL.det trivial (.to (v' := .int .i64 4) (Yields.pure rfl) (congrArg (Value.int _) (by decide +kernel))) ?_
 refine OL.dp rfl (OL.nil (PW.k1 2 rfl (PW.ret ?_)))
 change (Exit.ret = Exit.normal ∨ Exit.ret = Exit.ret) /\ ∃ v, resV _ _ = some v /\ _
 exact ⟨.inr rfl, _, rfl, rfl, rfl⟩
theorem tz_fc {w0 : World} {S : SS} (hT : Tabs w0) : FC Tryz.prog w0 108 [.int .u64 16] S (fun v S' => v = .int .i64 4 /\ S' = S) := by
 refine FC.of Tryz.known108 (by simp) ?_
 unfold Tryz.pc108
 simp only [argT]
 refine PW.seqOps (OL.dp rfl (OL.nil (PW.k1 0 rfl ?_)))
 refine PW.seq fun K1 hK1 => ?_
 refine PW.ite (b := false) rfl ?_
 rw [if_neg Bool.false_ne_true]
 refine PW.skip (hK1 _ _ (PW.k1 0 rfl (PW.seqOps (OL.dp rfl (OL.call trivial rfl (tz64_fc hT) ?_)))))
 rintro _ Sx ⟨rfl, hSx⟩
 rw [hSx]
 clear hSx
 refine OL.dp rfl (OL.nil (PW.k1 2 rfl (PW.ret ?_)))
 change (Exit.ret = Exit.normal ∨ Exit.ret = Exit.ret) /\ ∃ v, resV _ _ = some v /\ _
 exact ⟨.inr rfl, _, rfl, rfl, rfl⟩
theorem fbits_fc {w0 : World} {S : SS} {u : Nat} (hT : Tabs w0) (hu : u < 18446744073709551616) : FC Tryz.prog w0 92 [.slice none 0 0, .int .u64 (u : Int), .int .i64 16, .bool false, .bool false] S (fun v S' => v = .tuple #[.slice none 0 0, .string ⟨(digsF 16 63 u).toArray⟩] /\ S' = S) := by
 refine FC.ofD Tryz.known92 (by simp) ?_
 unfold Tryz.pc92
 simp only [argT]
 refine PW.seqOps (OL.dp rfl (OL.dp rfl (OL.nil (PW.k7 0 1 2 3 4 10 11 rfl ?_))))
 refine PW.seq fun K1 hK1 => ?_
 refine PW.seqOps (OL.dp rfl (OL.dp rfl (OL.dp rfl (OL.det rfl (.pure rfl) (OL.det rfl (.pure rfl) (OL.dp rfl (OL.dp rfl (OL.det rfl (.pure rfl) (OL.det rfl (.pure rfl) (OL.dp rfl (OL.nil ?_)))))))))))
 refine PW.k8 0 1 2 3 4 10 11 28 rfl (PW.ite (b := false) rfl ?_)
 rw [if_neg Bool.false_ne_true]
 refine PW.skip (hK1 _ _ (PW.k7 0 1 2 3 4 10 11 rfl (PW.seqOps (OL.cons trivial OW.al ?_))))
 rintro _ _ ⟨r12, rfl, rfl⟩
 change OL _ _ _ _ _ (dseg r12 (List.replicate 65 (.int .u8 0)) :: S) _
 refine OL.nil (PW.k8 0 1 2 3 4 10 11 12 rfl (PW.seqOps (OL.dp rfl (OL.nil (PW.k9 0 1 2 3 4 10 11 12 13 rfl ?_)))))
 refine PW.seq fun K2 hK2 => ?_
 refine PW.seqOps (OL.dp rfl (OL.nil (PW.k10 0 1 2 3 4 10 11 12 13 30 rfl (PW.ite (b := false) rfl ?_))))
 rw [if_neg Bool.false_ne_true]
 refine PW.skip (hK2 _ _ (PW.k9 0 1 2 3 4 10 11 12 13 rfl ?_))
 refine PW.seq fun K3 hK3 => ?_
 refine PW.seqOps (OL.dp rfl (OL.call trivial rfl (pow2_fc) ?_))
 rintro _ Sx ⟨rfl, hSx⟩
 rw [hSx]
 clear hSx
 refine OL.nil (PW.k10 0 1 2 3 4 10 11 12 13 34 rfl (PW.ite (b := true) rfl ?_))
 rw [if_pos rfl]
 refine PW.seqOps (OL.dp rfl ?_)
 refine OL.det trivial (.to (v' := .int .u64 16) (Yields.pure rfl) (congrArg (Value.int _) (by decide +kernel))) ?_
 refine OL.call trivial rfl (tz_fc hT) ?_
 rintro _ Sx ⟨rfl, hSx⟩
 rw [hSx]
 clear hSx
 refine OL.det trivial (.to (v' := .int .u64 4) (Yields.pure rfl) (congrArg (Value.int _) (by decide +kernel))) ?_
 refine OL.dp rfl (OL.nil (PW.k10 0 1 2 3 4 10 11 12 13 14 rfl (PW.seqOps (OL.dp rfl ?_))))
 refine OL.det trivial (.to (v' := .int .u64 16) (Yields.pure rfl) (congrArg (Value.int _) (by decide +kernel))) ?_
 refine OL.dp rfl (OL.nil (PW.k11 0 1 2 3 4 10 11 12 13 14 15 rfl (PW.seqOps (OL.dp rfl ?_))))
 refine OL.det trivial (.to (v' := .int .u64 16) (Yields.pure rfl) (congrArg (Value.int _) (by decide +kernel))) ?_
 refine OL.det trivial (.to (v' := .int .u64 15) (Yields.pure rfl) (congrArg (Value.int _) (by decide +kernel))) ?_
 refine OL.dp rfl (OL.nil (PW.k11 0 1 3 4 10 11 12 13 14 15 16 rfl ?_))
 refine PW.seq fun K4 hK4 => ?_
 refine PW.block (PW.k11 0 1 3 4 10 11 12 13 14 15 16 rfl ?_)
 refine PW.loopK (I := fun m T S' => ∃ (k n f : Nat) (L : List UInt8) (c : List Value), (k <= 15 /\ m = 15 - k /\ n * 16 ^ k <= u /\ f + k = 63 /\ digsF 16 63 u = digsF 16 f n ++ L /\ c.length = 65 /\ c.drop (65 - k) = bytesC L /\ L.length = k) /\ T = ([(0, .slice none 0 0), (1, .int .u64 ((n : Nat) : Int)), (3, .bool false), (4, .bool false), (10, .slice none 0 0), (11, .string ⟨#[]⟩), (12, .pointer (some ⟨r12, 0, none⟩)), (13, .int .i64 ((65 - k : Nat) : Int)), (14, .int .u64 4), (15, .int .u64 16), (16, .int .u64 15)] : TT) /\ S' = dseg r12 c :: S) (m := 15) ⟨0, u, 63, [], List.replicate 65 (.int .u8 0), ⟨by omega, by omega, by omega, rfl, by simp, rfl, rfl, rfl⟩, rfl, rfl⟩ ?_
 rintro m _ _ ⟨k, n, f, L, c, ⟨hk, hm, hnu, hf, hd, hc, hcd, hL⟩, rfl, rfl⟩
 refine PW.seq fun K5 hK5 => ?_
 refine PW.seqOps (OL.dp rfl (OL.dp rfl (OL.dp rfl (OL.nil (PW.k12 0 1 3 4 10 11 12 13 14 15 16 46 rfl ?_)))))
 refine PW.cond rfl (fun c46 => ?_) (fun c46 => ?_)
 ·try simp only [decide_eq_true_eq, decide_eq_false_iff_not, beq_iff_eq, bne_iff_ne, beq_eq_false_iff_ne, bne_eq_false_iff_eq, Bool.not_eq_true', Bool.not_eq_false', Bool.not_eq_true, ne_eq, Decidable.not_not] at c46
  have hn16 : 16 <= n := by omega
  have hk15 : k < 15 := by
   rcases Nat.lt_or_ge k 15 with h | h
   ·exact h
   exfalso
   obtain rfl : k = 15 := by omega
   have h2 : 16 * 16 ^ 15 <= n * 16 ^ 15 := Nat.mul_le_mul_right _ hn16
   have h3 : 16 * 16 ^ 15 = 18446744073709551616 := by decide
   omega
  have hnl : n < 18446744073709551616 := Nat.lt_of_le_of_lt (Nat.le_trans (Nat.le_mul_of_pos_right n (Nat.pow_pos (by omega))) hnu) hu
  refine PW.skip (hK5 _ _ (PW.k11 0 1 3 4 10 11 12 13 14 15 16 rfl (PW.block (PW.seqOps (OL.dp rfl ?_)))))
  refine OL.det trivial (.to (v' := .int .i64 ((64 - k : Nat) : Int)) (Yields.sub64 rfl rfl (by omega) (by omega)) (by congr 1; omega)) ?_
  refine OL.dp rfl (OL.nil (PW.k11 0 1 3 4 10 11 12 13 14 15 16 rfl (PW.seqOps (OL.dp rfl (OL.dp rfl (OL.dp rfl (OL.det trivial (.to (v' := .int .u64 ((n % 16 : Nat) : Int)) (Yields.pure rfl) (and15 hnl)) ?_)))))))
  refine OL.det trivial (Yields.ixStr (j := n % 16) (b := dig (n % 16)) rfl rfl (dig36_at _ (by omega))) ?_
  refine OL.det trivial (.to (v' := .pointer (some ⟨r12, 64 - k, none⟩)) (Yields.ixA1 (j := 64 - k) rfl rfl (by omega) (by omega)) (by rw [add_own])) ?_
  refine OL.cons trivial (OW.st (k := 0) (c := c) (u := .int .u8 (dig (n % 16)).toNat) rfl rfl rfl rfl (by rw [hc]; show 64 - k + 1 <= 65; omega) rfl) ?_
  rintro _ _ rfl
  change OL _ _ _ _ _ (dseg r12 (setAt c (64 - k) [.int .u8 (dig (n % 16)).toNat]) :: S) _
  refine OL.nil (PW.k11 0 1 3 4 10 11 12 13 14 15 16 rfl (PW.ops (OL.dp rfl (OL.dp rfl ?_))))
  refine OL.det trivial (Yields.shrU (a := n) (b := 4) rfl rfl (by omega)) ?_
  refine OL.dp rfl (OL.nil ?_)
  repeat rw [inBlk_n]
  try rw [thenK_n]
  refine LoopEnd.mk (T'' := [(0, _), (1, _), (3, _), (4, _), (10, _), (11, _), (12, _), (13, _), (14, _), (15, _), (16, _)]) (wi rfl) ?_
  refine ⟨15 - (k + 1), by omega, k + 1, n / 2 ^ 4, f - 1, dig (n % 16) :: L, _, ⟨by omega, rfl, ?_, by omega, ?_, by rw [setAt_length, hc], ?_, by simp [hL]⟩, ?_, rfl⟩
  ·have h1 : n / 2 ^ 4 * 16 <= n := Nat.div_mul_le_self n 16
   have e : (16 : Nat) ^ (k + 1) = 16 * 16 ^ k := by rw [Nat.pow_succ, Nat.mul_comm]
   calc n / 2 ^ 4 * 16 ^ (k + 1) = (n / 2 ^ 4 * 16) * 16 ^ k := by rw [e, Nat.mul_assoc]
    _ <= n * 16 ^ k := Nat.mul_le_mul_right _ h1
    _ <= u := hnu
  ·obtain ⟨g, rfl⟩ : ∃ g, f = g + 1 := ⟨f - 1, by omega⟩
   rw [hd, hex_next (by omega)]; simp
  ·rw [show 65 - (k + 1) = 64 - k from by omega]; exact setAt_dig hc (by omega) hcd
  rw [show (65 - (k + 1) : Nat) = 64 - k from by omega]
 try simp only [decide_eq_true_eq, decide_eq_false_iff_not, beq_iff_eq, bne_iff_ne, beq_eq_false_iff_ne, bne_eq_false_iff_eq, Bool.not_eq_true', Bool.not_eq_false', Bool.not_eq_true, ne_eq, Decidable.not_not] at c46
 refine PW.exit (hK4 _ _ (PW.k8 0 1 3 4 10 11 12 13 rfl (PW.seqOps (OL.dp rfl ?_))))
 refine OL.det trivial (.to (v' := .int .i64 ((64 - k : Nat) : Int)) (Yields.sub64 rfl rfl (by omega) (by omega)) (by congr 1; omega)) ?_
 refine OL.dp rfl (OL.nil (PW.k8 0 1 3 4 10 11 12 13 rfl (PW.ops (OL.dp rfl (OL.dp rfl ?_)))))
 refine OL.det trivial (Yields.ixStr (j := n) (b := dig n) rfl rfl (dig36_at _ (by omega))) ?_
 refine OL.det trivial (.to (v' := .pointer (some ⟨r12, 64 - k, none⟩)) (Yields.ixA1 (j := 64 - k) rfl rfl (by omega) (by omega)) (by rw [add_own])) ?_
 refine OL.cons trivial (OW.st (k := 0) (c := c) (u := .int .u8 (dig n).toNat) rfl rfl rfl rfl (by rw [hc]; show 64 - k + 1 <= 65; omega) rfl) ?_
 rintro _ _ rfl
 change OL _ _ _ _ _ (dseg r12 (setAt c (64 - k) [.int .u8 (dig n).toNat]) :: S) _
 refine OL.nil (hK3 _ _ (PW.k7 0 3 4 10 11 12 13 rfl ?_))
 refine PW.seq fun K6 hK6 => ?_
 refine PW.seqOps (OL.dp rfl (OL.nil (PW.k7 0 4 10 11 12 13 89 rfl (PW.ite (b := false) rfl ?_))))
 rw [if_neg Bool.false_ne_true]
 refine PW.skip (hK6 _ _ (PW.k6 0 4 10 11 12 13 rfl ?_))
 refine PW.seq fun K7 hK7 => ?_
 refine PW.seqOps (OL.dp rfl (OL.nil (PW.k6 0 10 11 12 13 94 rfl (PW.ite (b := false) rfl ?_))))
 rw [if_neg Bool.false_ne_true]
 refine PW.skip (hK7 _ _ (PW.k3 10 12 13 rfl (PW.seqOps ?_)))
 have hfin := setAt_dig (b := dig n) hc (by omega) hcd
 have hrd : Rd w0 (dseg r12 (setAt c (64 - k) [.int .u8 (dig n).toNat]) :: S) (some ((⟨r12, 0, none⟩ : Addr).add (64 - k))) (bytesC (dig n :: L)) := by rw [<- hfin]; exact rd_drop zM0
 refine OL.dp rfl ?_
 refine OL.det trivial (.to (v' := .slice (some ((⟨r12, 0, none⟩ : Addr).add (64 - k))) (65 - (64 - k)) (65 - (64 - k))) (Yields.slAr (l := 64 - k) (h := 65) rfl rfl rfl (.inl rfl) (.inr ⟨rfl, rfl⟩) (by omega) (by omega)) (by rw [if_neg (by omega), Nat.mul_one])) ?_
 refine OL.det trivial (Yields.strOf rfl (l := dig n :: L) (by simp only [List.length_cons, hL]; omega) hrd) ?_
 refine OL.dp rfl (OL.nil (PW.k2 10 11 rfl (PW.ret ?_)))
 change (Exit.ret = Exit.normal ∨ Exit.ret = Exit.ret) /\ ∃ v, resV _ _ = some v /\ _
 exact ⟨.inr rfl, _, rfl, _, Sub.drop (Sub.refl _), by rw [hd, digsF_lt (by omega)]; rfl, rfl⟩
end Go.Proofs.Rl

namespace Go.Proofs.Rl
open Go.SL Go.RowKit Go.Proofs Go.Proofs.Lb
set_option maxHeartbeats 1000000
theorem dec_digs : ∀ f u, u < 10 ^ (f + 1) -> Lib.decDigits u = digsF 10 f u
 | 0, u, h => by
  have h : u < 10 := h
  rw [Lib.decDigits, dif_pos h, digsF]; unfold dig; rw [if_pos h]
 | f + 1, u, h => by
  rw [Lib.decDigits, digsF]
  split
  ·rename_i h10; unfold dig; rw [if_pos h10]
  rw [dec_digs f (u / 10) (by rw [Nat.pow_succ] at h; omega)]
  unfold dig; rw [if_pos (Nat.mod_lt _ (by omega))]
def numL (z : Int) : List UInt8 := if z < 0 then 45 :: digsF 10 9 z.natAbs else digsF 10 9 z.toNat
theorem num_itoa {z : Int} (h0 : -999999999 <= z) (h1 : z <= 999999999) : Lib.itoa z = numL z := by
 unfold Lib.itoa numL
 split
 ·rw [dec_digs 9 _ (by omega)]
 rw [dec_digs 9 _ (by omega)]
theorem app_str (a b : List UInt8) : (⟨a.toArray⟩ : ByteArray) ++ ⟨b.toArray⟩ = ⟨(a ++ b).toArray⟩ := by
 apply ByteArray.ext
 rw [ByteArray.data_append]
 simp
theorem cat_l {P : Program} {w0 : World} {n : Nat} {T : TT} {S : SS} {x y : PV} (a b : List UInt8) (hx : x.val T = some (.string ⟨a.toArray⟩)) (hy : y.val T = some (.string ⟨b.toArray⟩)) (h : a.length + b.length <= 9223372036854775807) : Go.SL.Yields P w0 n (.bin .add x y) T S (.string ⟨(a ++ b).toArray⟩) :=
 Go.SL.Yields.binRaw hx hy (fun t a b w => by simp [eqGuard]) (fun t w => by
  have hm : IntKind.i64.max = 9223372036854775807 := by decide
  have e : (⟨a.toArray⟩ : ByteArray).size + (⟨b.toArray⟩ : ByteArray).size = a.length + b.length := by simp [ByteArray.size]
  have : ¬ (((⟨a.toArray⟩ : ByteArray).size + (⟨b.toArray⟩ : ByteArray).size : Nat) : Int) > IntKind.i64.max := by rw [hm, e]; omega
  show Sem.run P (Op.stringOp .add ⟨a.toArray⟩ ⟨b.toArray⟩) w = _
  unfold Op.stringOp
  simp only
  rw [if_neg this, app_str]
  rfl)
theorem fuint_fc {w0 : World} {S : SS} {u : Nat} (hT : Tabs w0) (hu : u < 18446744073709551616) : FC Tryz.prog w0 66 [.int .u64 (u : Int), .int .i64 16] S (fun v S' => v = .string ⟨(digsF 16 63 u).toArray⟩ /\ S' = S) := by
 refine FC.of Tryz.known66 (by simp) ?_
 unfold Tryz.pc66
 simp only [argT]
 refine PW.seqOps (OL.dp rfl (OL.nil (PW.k2 0 1 rfl ?_)))
 refine PW.seq fun K1 hK1 => ?_
 refine PW.seqOps (OL.dp rfl (OL.dp rfl (OL.nil (PW.k3 0 1 10 rfl (PW.ite (b := false) rfl ?_)))))
 rw [if_neg Bool.false_ne_true]
 refine PW.skip (hK1 _ _ (PW.k2 0 1 rfl (PW.seqOps (OL.dp rfl (OL.dp rfl (OL.call trivial rfl (fbits_fc hT hu) ?_))))))
 rintro _ Sx ⟨rfl, hSx⟩
 rw [hSx]
 clear hSx
 refine OL.dp rfl (OL.dp rfl (OL.dp rfl (OL.dp rfl (OL.dp rfl (OL.nil (PW.k1 8 rfl (PW.seqOps (OL.dp rfl (OL.dp rfl (OL.nil (PW.k1 4 rfl ?_)))))))))))
 refine PW.ret ?_
 change (Exit.ret = Exit.normal ∨ Exit.ret = Exit.ret) /\ ∃ v, resV _ _ = some v /\ _
 exact ⟨.inr rfl, _, rfl, rfl, rfl⟩
theorem fuint2_fc {w0 : World} {S : SS} {u : Nat} (hT : Tabs w0) (hu : u < 18446744073709551616) : FC Tryz.prog w0 48 [.int .u64 (u : Int), .int .i64 16] S (fun v S' => v = .string ⟨(digsF 16 63 u).toArray⟩ /\ S' = S) := by
 refine FC.of Tryz.known48 (by simp) ?_
 unfold Tryz.pc48
 simp only [argT]
 refine PW.seqOps (OL.dp rfl (OL.nil (PW.k2 0 1 rfl (PW.seqOps (OL.dp rfl (OL.dp rfl (OL.call trivial rfl (fuint_fc hT hu) ?_)))))))
 rintro _ Sx ⟨rfl, hSx⟩
 rw [hSx]
 clear hSx
 refine OL.dp rfl (OL.nil (PW.k1 4 rfl (PW.ret ?_)))
 change (Exit.ret = Exit.normal ∨ Exit.ret = Exit.ret) /\ ∃ v, resV _ _ = some v /\ _
 exact ⟨.inr rfl, _, rfl, rfl, rfl⟩
def labT (a : LabB) : List UInt8 := if Lb.chkP a.1 ≠ 0 then [63] else numL a.1 ++ [58] ++ digsF 16 63 a.2.toNat
theorem numL_len (z : Int) : (numL z).length <= 11 := by
 unfold numL; split
 ·have := digsF_len (b := 10) 9 z.natAbs; simp; omega
 have := digsF_len (b := 10) 9 z.toNat; omega
theorem labT_len (a : LabB) : (labT a).length <= 76 := by
 unfold labT; split
 ·simp
 have := numL_len a.1; have := digsF_len (b := 16) 63 a.2.toNat; simp only [List.length_append, List.length_singleton]; omega
theorem itoaL_fc {w0 : World} {S : SS} {z : Int} (hT : Tabs w0) (h0 : -999999999 <= z) (h1 : z <= 999999999) : FC Tryz.prog w0 28 [.int .i64 z] S (fun v S' => v = .string ⟨(numL z).toArray⟩ /\ S' = S) := by
 rw [<- num_itoa h0 h1]; exact itoa_fc hT (by omega) (by omega)
theorem chk_rng {z : Int} (h : Lb.chkP z = 0) : 0 <= z /\ z <= 15 := by
 unfold Lb.chkP at h; split at h
 ·cases h
 omega
theorem ltext_fc {w0 : World} {S : SS} {a : LabB} (hT : Tabs w0) : FC Tryz.prog w0 30 [labB a] S (fun v S' => v = .string ⟨(labT a).toArray⟩ /\ S' = S) := by
 have ha := a.2.isLt
 have hdl := digsF_len (b := 16) 63 a.2.toNat
 have hnl := numL_len a.1
 refine FC.ofD Tryz.known30 (by simp) ?_
 unfold Tryz.pc30
 simp only [argT]
 refine PW.seqOps (OL.cons trivial (OW.bx rfl) ?_)
 rintro _ _ ⟨r1, rfl, rfl⟩
 change OL _ _ _ _ _ (lseg r1 a :: S) _
 refine OL.dp rfl (OL.nil (PW.k1 1 rfl ?_))
 refine PW.seq fun K1 hK1 => ?_
 refine PW.seqOps (OL.det trivial (.ldA rfl rfl (lab_at (a := a) (r := r1) zM0)) (OL.call trivial rfl (check_b) ?_))
 rintro _ Sx ⟨rfl, hSx⟩
 rw [hSx]
 clear hSx
 refine OL.dp rfl (OL.nil (PW.k2 1 5 rfl ?_))
 refine PW.cond rfl (fun c5 => ?_) (fun c5 => ?_)
 ·try simp only [decide_eq_true_eq, decide_eq_false_iff_not, beq_iff_eq, bne_iff_ne, beq_eq_false_iff_ne, bne_eq_false_iff_eq, Bool.not_eq_true', Bool.not_eq_false', Bool.not_eq_true, ne_eq, Decidable.not_not] at c5
  refine PW.seqOps (OL.dp rfl (OL.nil (PW.k1 2 rfl (PW.ret ?_))))
  change (Exit.ret = Exit.normal ∨ Exit.ret = Exit.ret) /\ ∃ v, resV _ _ = some v /\ _
  exact ⟨.inr rfl, _, rfl, _, Sub.drop (Sub.refl _), by unfold labT; rw [if_pos c5], rfl⟩
 try simp only [decide_eq_true_eq, decide_eq_false_iff_not, beq_iff_eq, bne_iff_ne, beq_eq_false_iff_ne, bne_eq_false_iff_eq, Bool.not_eq_true', Bool.not_eq_false', Bool.not_eq_true, ne_eq, Decidable.not_not] at c5
 refine PW.skip (hK1 _ _ (PW.k1 1 rfl ?_))
 refine PW.seq fun K2 hK2 => ?_
 refine PW.quietK Tryz.mixed (QK.dp rfl (QK.det trivial (.ld rfl (own_at (j := 0) (c := [.int .i64 a.1, .int .u64 (a.2.toNat : Int)]) (E := 34) (tot := 2) zM0 rfl)) ?_))
 refine QK.call trivial rfl (itoaL_fc hT (by have := chk_rng c5; omega) (by have := chk_rng c5; omega)) ?_
 refine QK.det trivial (cat_l (numL a.1) [58] rfl rfl (by simp only [List.length_singleton]; omega)) ?_
 refine QK.dp rfl (QK.det trivial (.ld rfl (own_at (j := 1) (c := [.int .i64 a.1, .int .u64 (a.2.toNat : Int)]) (E := 34) (tot := 2) zM0 rfl)) (QK.call trivial rfl (fuint2_fc hT ha) (QK.nil ?_)))
 change OL _ _ _ [_, _] _ _ _
 refine OL.det trivial (cat_l (numL a.1 ++ [58]) (digsF 16 63 a.2.toNat) rfl rfl (by simp only [List.length_append, List.length_singleton]; omega)) ?_
 refine OL.dp rfl (OL.nil (hK2 _ _ (PW.k1 2 rfl (PW.ret ?_))))
 change (Exit.ret = Exit.normal ∨ Exit.ret = Exit.ret) /\ ∃ v, resV _ _ = some v /\ _
 exact ⟨.inr rfl, _, rfl, _, Sub.drop (Sub.refl _), by unfold labT; rw [if_neg (by rw [c5]; simp)], rfl⟩
end Go.Proofs.Rl





namespace Go.SL
open Go.RowKit
def mkStr (l : List UInt8) : ByteArray := ⟨l.toArray⟩
section
variable {P : Program} {w0 : World} {n : Nat} {T Tc : TT} {S : SS}
end
end Go.SL









namespace Go.SL
open Go.RowKit
section
variable {P : Program} {w0 : World} {n : Nat} {T Tc : TT} {S : SS}
theorem OW.uss {e b tot k : Nat} {x y : PV} {l : List UInt8} {r : List Value} (hx : x.val T = some (.pointer (some ⟨b, 0, none⟩))) (hy : y.val T = some (.int .i64 (l.length : Int))) (hk : S[k]? = some [(b, .cells (bytesC l ++ r) e tot)]) (h0 : l ≠ [])
  (h63 : l.length <= maxLen) : OW P w0 n (.more (.uss e x y)) T S (fun v S' => v = .string (mkStr l) /\ S' = S.set k []) := by
 intro op a w Q hco hs hr
 obtain ⟨t, u, cl, p, q, ho, hca, hat, har, rfl, rfl, hu, hce⟩ := cOp_spec P hco
 obtain ⟨hge, C, hC, htot, hpre⟩ := hr.own (b, .cells (bytesC l ++ r) e tot) (List.mem_flatten.2 ⟨_, List.mem_of_getElem? hk, by simp⟩)
 simp only at hge hC
 have hlen : l.length <= C.size := by
  have := congrArg List.length hpre
  simp [bytesC_length] at this
  omega
 have hcell : ∀ (j : Nat) (x : UInt8), l[j]? = some x -> w.cell? ((⟨b, 0, none⟩ : Addr).add j) = some (.int .u8 x.toNat) := by
  intro j x hj
  have h1 : (bytesC l)[j]? = some (.int .u8 x.toNat) := by simp [bytesC, hj]
  have := hr.cell (own_at (S := S) (w0 := w0) (List.mem_flatten.2 ⟨_, List.mem_of_getElem? hk, by simp⟩ : (b, AO.cells (bytesC l ++ r) e tot) ∈ S.flatten) (j := j) (v := .int .u8 x.toNat) (by
   rw [List.getElem?_append_left (by rw [bytesC_length]; exact (List.getElem?_eq_some_iff.1 hj).1)]; exact h1))
  rw [add_own]; exact this
 have hrun0 := Lib.run_unsafeString_row (P := P) w t u op.type e hu hce b C.size (by unfold World.shape?; rw [hC]) l h0 hlen (by simpa [maxLen] using h63) hcell
 have hrun : (execOp a.eval op).run P w = .ok (.value (.string (mkStr l))) (w.freeze ⟨b, 0, none⟩ l.length) := by
  simp only [execOp, ho, resolve, hca, invoke, builtin, hat, har]
  simp [hs.eval hx, hs.eval hy, hrun0, mkStr]
 unfold Oper.wp
 rw [hrun]
 refine ⟨_, _, rfl, ?_, rfl, rfl⟩
 refine hr.replace hk (Lib.below_freeze (Below.refl _ w) hge _) (fun i _ hne => ?_) (by simp) (fun p hp => by simp at hp)
 simp only [List.map_cons, List.map_nil, List.mem_singleton] at hne
 unfold World.freeze
 split
 ·rfl
 simp only [Array.getElem?_modify]
 rw [if_neg (by omega)]
theorem Yields.usd {x : PV} {A : Addr} {l c : Nat} (hx : x.val T = some (.slice (some A) l c)) (hc : c ≠ 0) : Yields P w0 n (.more (.usd x)) T S (.pointer (some A)) := by
 intro o a w hco hs hr
 obtain ⟨cl, p, ho, hca, har, rfl⟩ := cOp_spec P hco
 have := Lib.run_unsafeSliceData_row (P := P) w cl.argTypes o.type A l c hc
 simp only [execOp, ho, resolve, hca, invoke, builtin, har]
 simp [hs.eval hx, this]
end
end Go.SL

namespace Go.Proofs.Rl
open Go.SL Go.RowKit Go.Proofs Go.Proofs.Lb
set_option maxHeartbeats 1000000
open Go.Shelf
set_option maxRecDepth 100000 in
theorem Tryz.cc_used (b : Nat) (w : World) (h0 : w.cell? ⟨b, 0, none⟩ = some (.pointer (some ⟨b, 0, none⟩))) :
  Calls Tryz.prog 67 #[.pointer (some ⟨b, 0, none⟩)] w fun e w' => e = .returned (.tuple #[]) /\ w' = w := by
 obtain ⟨j, hj, hjs⟩ : ∃ j, Tryz.prog.info? 71 = some j /\ j.size = 2 := by
  have h : (Tryz.prog.info? 71).map (·.size) = some 2 := by kernel_rfl
  exact Option.map_eq_some_iff.1 h
 go_enter Tryz.func67, Tryz.ntmps67
 go_wp2
 rw [Lib.run_neq_ptr_same w _ Tryz.underlying68 hj]
 go_wp2
 go_end0
 exact ⟨rfl, rfl⟩
set_option maxRecDepth 100000 in
theorem Tryz.cc_fresh (b : Nat) (w : World) (h0 : w.cell? ⟨b, 0, none⟩ = some (.pointer none)) (hsh : w.shape? b = some (71, 2)) (hfz : w.frozen? ⟨b, 0, none⟩ = false) :
  Calls Tryz.prog 67 #[.pointer (some ⟨b, 0, none⟩)] w fun e w' => e = .returned (.tuple #[]) /\ w' = w.setCell ⟨b, 0, none⟩ (.pointer (some ⟨b, 0, none⟩)) := by
 obtain ⟨j, hj, hjs⟩ : ∃ j, Tryz.prog.info? 71 = some j /\ j.size = 2 := by
  have h : (Tryz.prog.info? 71).map (·.size) = some 2 := by kernel_rfl
  exact Option.map_eq_some_iff.1 h
 go_enter Tryz.func67, Tryz.ntmps67
 go_wp2
 rw [Lib.run_to_unsafe w ⟨b, 0, none⟩ Tryz.underlying68 Tryz.underlying110 hj (by rw [hjs]; decide) hsh (Nat.zero_lt_succ 1)]
 simp only [Result.andThen]
 rw [Oper.upon_value]
 go_wp2
 rw [run_callFunc_extern Tryz.func93 (by kernel_rfl) (by kernel_rfl) (by kernel_rfl) (e := Extern.AbiNoEscape.same) (by kernel_rfl)]
 rw [Lib.run_noEscape]
 simp only [Result.andThen]
 rw [Oper.upon_value]
 go_wp2
 rw [Lib.run_from_unsafe w ⟨b, 0, none⟩ Tryz.underlying110 Tryz.underlying68 hj hsh (by rw [show Tryz.prog.cellsOf 71 = 2 by kernel_rfl]; kernel_rfl)]
 simp only [Result.andThen]
 rw [Oper.upon_value]
 go_wp2
 go_end0
 exact ⟨rfl, rfl⟩
theorem two_cells {w0 w : World} {S : SS} {b E : Nat} {p v : Value} (h : Rep w0 ([(b, .cells [p, v] E 2)] :: S) w) : w0.heap.size <= b /\ w.heap[b]? = some (.cells #[p, v] E (0, 0)) := by
 obtain ⟨hge, C, hC, hsz, hpre⟩ := h.own (b, .cells [p, v] E 2) (by simp)
 have : C = #[p, v] := by
  apply Array.toList_inj.1
  rw [<- hpre]
  simp only [List.length_cons, List.length_nil]
  rw [List.take_of_length_le (by simp [hsz])]
 exact ⟨hge, by rw [hC, this]⟩
theorem Rep.cell0 {w0 w : World} {S : SS} {b E : Nat} {p v u : Value} (h : Rep w0 ([(b, .cells [p, v] E 2)] :: S) w) : Rep w0 ([(b, .cells [u, v] E 2)] :: S) (w.setCell ⟨b, 0, none⟩ u) := by
 obtain ⟨hge, hC⟩ := two_cells h
 refine ⟨h.below.setCell (p := ⟨b, 0, none⟩) hge u, by simpa using h.nodup, fun q hq => ?_, h.drawn⟩
 simp only [List.flatten_cons, List.singleton_append, List.mem_cons] at hq
 rcases hq with rfl | hq
 ·refine ⟨hge, #[u, v], ?_, rfl, rfl⟩
  simp [World.setCell, Array.getElem?_modify, hC]
 obtain ⟨h1, h2⟩ := h.own q (by simp [hq])
 refine ⟨h1, h2.congr (Below.heap_setCell _ _ _ _ ?_)⟩
 intro e
 have := h.nodup
 simp only [List.flatten_cons, List.singleton_append, List.map_cons, List.nodup_cons] at this
 exact this.1 (List.mem_map.2 ⟨q, hq, e⟩)
def BS (b : Nat) (p v : Value) : Seg := [(b, .cells [p, v] 71 2)]
def selfP (b : Nat) : Value := .pointer (some ⟨b, 0, none⟩)
theorem cc_fc {w0 : World} {S : SS} {b : Nat} {p v : Value} (hp : p = .pointer none ∨ p = selfP b) : FC Tryz.prog w0 67 [.pointer (some ⟨b, 0, none⟩)] (BS b p v :: S) (fun _ S' => S' = BS b (selfP b) v :: S) := by
 intro w hw
 obtain ⟨hge, hC⟩ := two_cells hw
 rcases hp with rfl | rfl
 ·refine (Tryz.cc_fresh b w (by simp [World.cell?, hC]) (by simp [World.shape?, hC]) (by simp [World.frozen?, hC])).mono ?_
  rintro e w' ⟨rfl, rfl⟩
  exact ⟨_, _, rfl, Rep.cell0 hw, rfl⟩
 refine (Tryz.cc_used b w (by simp [World.cell?, hC, selfP])).mono ?_
 rintro e w' ⟨rfl, rfl⟩
 exact ⟨_, _, rfl, hw, rfl⟩
theorem Sub.swap01 {a b : Seg} {S : SS} : Go.SL.Sub (b :: a :: S) (a :: b :: S) := ⟨fun p hp => by simp only [List.flatten_cons, List.mem_append] at hp ⊢; rcases hp with h | h | h; exact .inr (.inl h); exact .inl h; exact .inr (.inr h), fun hn => by
 have hp : ((a :: b :: S).flatten.map Prod.fst).Perm ((b :: a :: S).flatten.map Prod.fst) := by
  simp only [List.flatten_cons, List.map_append, <- List.append_assoc]
  exact List.Perm.append_right _ List.perm_append_comm
 exact hp.nodup_iff.1 hn⟩
theorem Sub.nilD {S' S : SS} (h : Go.SL.Sub S' S) : Go.SL.Sub S' ([] :: S) := h.drop
abbrev nilS : Value := .slice none 0 0
theorem mnz (w : World) (z : Nat) (hz : z <= 1000000000) : ∃ cs : Array Value, (callFunc 94 #[.int .i64 (z : Int)]).run Tryz.prog w = .ok (.value (.slice (some ⟨w.heap.size, 0, none⟩) z cs.size)) (w.drew.drew.alloc (.cells cs 5)) /\ z <= cs.size /\ cs.size <= maxLen := by
 obtain ⟨cs, h1, h2, h3⟩ := Lib.run_makeNoZero (P := Tryz.prog) w #[3] 69 5 Tryz.underlying69 z (by omega)
 refine ⟨cs, ?_, h2, h3 (by unfold maxLen; omega)⟩
 rw [run_callFunc_extern Tryz.func94 (by kernel_rfl) (by kernel_rfl) (by kernel_rfl) (e := Extern.BytealgMakeNoZero.makeNoZero #[3] #[69]) (by kernel_rfl), h1]
 rfl
theorem ow_mnz {w0 : World} {n : Nat} {T : TT} {S : SS} {x : PV} {z : Nat} (hx : x.val T = some (.int .i64 (z : Int))) (hz : z <= 1000000000) :
  OW Tryz.prog w0 n (.more (.other (.xf 94 [x]))) T S (fun v S' => ∃ r cap, v = .slice (some ⟨r, 0, none⟩) z cap /\ z <= cap /\ cap <= maxLen /\ S' = [(r, .cells [] 5 cap)] :: S) := by
 refine OW.xfW (vs := [.int .i64 (z : Int)]) (by simp [valsP, hx]) fun w hw => ?_
 obtain ⟨cs, h1, h2, h3⟩ := mnz w z hz
 have hd : Rep w0 S w.drew.drew := hw.same ⟨rfl, rfl, rfl, Nat.le_refl _, fun _ _ => rfl⟩ (fun _ _ => rfl) (Nat.le_trans (Nat.le_succ _) (Nat.le_succ _))
 have ha := (hd.alloc cs 5).tell (k := 0) (o' := .cells (cs.toList.take 0) 5 cs.size) rfl (fun w h => owns_take 0 h)
 exact ⟨_, _, [(w.heap.size, .cells [] 5 cs.size)] :: S, h1, ha, _, _, rfl, h2, h3, rfl⟩
theorem sgrow_fc {w0 : World} {S : SS} {b z : Nat} {p : Value} (hz0 : 0 < z) (hz : z <= 1000000000) : FC Tryz.prog w0 68 [.pointer (some ⟨b, 0, none⟩), .int .i64 (z : Int)] (BS b p nilS :: S) (fun _ S' => ∃ v seg, S' = BS b p v :: seg :: S /\ SlV 5 1 v 0 [] seg) := by
 refine FC.ofD Tryz.known68 (by simp) ?_
 unfold Tryz.pc68
 simp only [argT]
 refine PW.seq fun K1 hK1 => ?_
 refine PW.quietG (Ss := Over (BS b p nilS :: S)) (fr := false) [(0, 0), (1, 0), (2, 0), (3, 0), (4, 0), (5, 0), (6, 0), (7, 0), (9, 0), (10, 0), (11, 0), (12, 0), (13, 0), (8, 2)] Tryz.mixed (by decide +kernel) (Over.refl _) (fun h => by cases h) ?_
 refine GL.dp rfl ?_
 refine GL.det trivial (fun Sx hSx => Yields.nilc rfl) ?_
 refine GL.dp rfl ?_
 refine GL.det trivial (fun Sx hSx => Yields.ld rfl (own_at (j := 1) (c := [p, nilS]) (E := 71) (tot := 2) (hSx _ zM0) rfl)) ?_
 refine GL.det trivial (fun Sx hSx => Yields.cap rfl) ?_
 refine GL.det trivial (fun Sx hSx => Yields.to (v' := .int .i64 0) (Yields.mul64 rfl rfl (by omega) (by omega)) rfl) ?_
 refine GL.dp rfl ?_
 refine GL.det trivial (fun Sx hSx => Yields.to (v' := .int .i64 (z : Int)) (Yields.add64 (a := 0) rfl rfl (by omega) (by omega)) (congrArg (Value.int _) (Int.zero_add _))) ?_
 refine GL.dp rfl ?_
 refine GL.det trivial (fun Sx hSx => Yields.nilc rfl) ?_
 refine GL.dp rfl ?_
 refine GL.det trivial (fun Sx hSx => Yields.ld rfl (own_at (j := 1) (c := [p, nilS]) (E := 71) (tot := 2) (hSx _ zM0) rfl)) ?_
 refine GL.dp rfl ?_
 refine GL.lo trivial (OW.mono (ow_mnz (z := z) rfl hz) ?_)
 rintro _ _ ⟨r13, cap, rfl, hzc, hcm, rfl⟩
 refine ⟨(Over.refl _).cons, ?_⟩
 refine OL.subS (S' := [(r13, .cells [] 5 cap)] :: BS b p nilS :: S) (Sub.refl _) ?_
 change OL _ _ _ [_, _] _ _ _
 refine OL.det trivial (.to (v' := .slice (some ⟨r13, 0, none⟩) 0 cap) (Yields.slS (l := 0) (h := 0) rfl rfl rfl (.inr ⟨rfl, rfl⟩) (.inl rfl) (by omega) (by omega)) (by rw [cutV0])) ?_
 refine OL.dp rfl (OL.nil (hK1 _ _ (PW.k2 0 4 rfl (PW.seqOps (OL.dp rfl (OL.dp rfl (OL.det trivial (Yields.nilc rfl) (OL.dp rfl (OL.det trivial (.ld rfl (own_at (j := 1) (c := [p, nilS]) (E := 71) (tot := 2) zM1 rfl)) ?_)))))))))
 refine OL.cons trivial (OW.cpy (k := 0) (news := []) rfl rfl rfl rfl Rd.nil (by simp) rfl) ?_
 rintro _ _ ⟨rfl, rfl⟩
 change OL _ _ _ _ _ ([(r13, .cells [] 5 cap)] :: BS b p nilS :: S) _
 refine OL.nil (PW.k2 0 4 rfl (PW.ops (OL.dp rfl (OL.dp rfl (OL.det trivial (Yields.nilc rfl) (OL.dp rfl ?_))))))
 refine OL.cons trivial (OW.st (k := 1) rfl rfl rfl rfl (by simp) rfl) ?_
 rintro _ _ rfl
 change OL _ _ _ _ _ ([(r13, .cells [] 5 cap)] :: BS b p (.slice (some ⟨r13, 0, none⟩) 0 cap) :: S) _
 refine OL.nil ?_
 change (Exit.normal = Exit.normal ∨ Exit.normal = Exit.ret) /\ ∃ v, resV _ _ = some v /\ _
 exact ⟨.inl rfl, _, rfl, BS b p (.slice (some ⟨r13, 0, none⟩) 0 cap) :: [(r13, .cells [] 5 (cap * 1))] :: S, (by rw [Nat.mul_one]; exact Sub.swap01), _, _, rfl, by simpa using (SlV.mk' (E := 5) (sz := 1) (m := 0) (r := r13) (xs := []) rfl (Nat.zero_le cap) hcm)⟩
theorem sGrow_fc {w0 : World} {S : SS} {b z : Nat} (hz0 : 0 < z) (hz : z <= 1000000000) : FC Tryz.prog w0 49 [.pointer (some ⟨b, 0, none⟩), .int .i64 (z : Int)] (BS b (.pointer none) nilS :: S) (fun _ S' => ∃ v seg, S' = BS b (selfP b) v :: seg :: S /\ SlV 5 1 v 0 [] seg) := by
 refine FC.of Tryz.known49 (by simp) ?_
 unfold Tryz.pc49
 simp only [argT]
 refine PW.seqOps (OL.dp rfl (OL.call trivial rfl (cc_fc (.inl rfl)) ?_))
 rintro _ _ rfl
 change OL _ _ _ _ _ (BS b (selfP b) nilS :: S) _
 refine OL.nil (PW.k2 0 1 rfl ?_)
 refine PW.seq fun K1 hK1 => ?_
 refine PW.seqOps (OL.dp rfl (OL.dp rfl (OL.nil (PW.k3 0 1 7 rfl ?_))))
 refine PW.cond rfl (fun c7 => ?_) (fun c7 => ?_)
 ·try simp only [decide_eq_true_eq, decide_eq_false_iff_not, beq_iff_eq, bne_iff_ne, beq_eq_false_iff_ne, bne_eq_false_iff_eq, Bool.not_eq_true', Bool.not_eq_false', Bool.not_eq_true, ne_eq, Decidable.not_not] at c7
  exfalso; omega
  -- done
 try simp only [decide_eq_true_eq, decide_eq_false_iff_not, beq_iff_eq, bne_iff_ne, beq_eq_false_iff_ne, bne_eq_false_iff_eq, Bool.not_eq_true', Bool.not_eq_false', Bool.not_eq_true, ne_eq, Decidable.not_not] at c7
 refine PW.skip (hK1 _ _ (PW.k2 0 1 rfl ?_))
 refine PW.seq fun K2 hK2 => ?_
 refine PW.quietK Tryz.mixed (QK.dp rfl (QK.det trivial (Yields.nilc rfl) (QK.dp rfl (QK.det trivial (.ld rfl (own_at (j := 1) (c := [selfP b, nilS]) (E := 71) (tot := 2) zM0 rfl)) (QK.det trivial (Yields.cap rfl) (QK.dp rfl (QK.det trivial (Yields.nilc rfl) (QK.dp rfl (QK.det trivial (.ld rfl (own_at (j := 1) (c := [selfP b, nilS]) (E := 71) (tot := 2) zM0 rfl)) (QK.dp rfl ?_))))))))))
 refine QK.det trivial (.sub64 rfl rfl (by omega) (by omega)) ?_
 refine QK.dp rfl (QK.nil ?_)
 change OL _ _ _ [_] _ _ _
 refine OL.dp rfl (OL.nil (hK2 _ _ (PW.k3 0 1 21 rfl ?_)))
 refine PW.cond rfl (fun c21 => ?_) (fun c21 => ?_)
 ·try simp only [decide_eq_true_eq, decide_eq_false_iff_not, beq_iff_eq, bne_iff_ne, beq_eq_false_iff_ne, bne_eq_false_iff_eq, Bool.not_eq_true', Bool.not_eq_false', Bool.not_eq_true, ne_eq, Decidable.not_not] at c21
  refine PW.ops (OL.dp rfl (OL.dp rfl (OL.call trivial rfl (sgrow_fc hz0 hz) ?_)))
  rintro _ _ ⟨v, seg, rfl, hsl⟩
  refine OL.nil ?_
  change (Exit.normal = Exit.normal ∨ Exit.normal = Exit.ret) /\ ∃ v, resV _ _ = some v /\ _
  exact ⟨.inl rfl, _, rfl, _, _, rfl, hsl⟩
 try simp only [decide_eq_true_eq, decide_eq_false_iff_not, beq_iff_eq, bne_iff_ne, beq_eq_false_iff_ne, bne_eq_false_iff_eq, Bool.not_eq_true', Bool.not_eq_false', Bool.not_eq_true, ne_eq, Decidable.not_not] at c21
 exfalso; omega
 -- done
theorem write_fc {w0 : World} {S : SS} {b : Nat} {p v : Value} {seg : Seg} {xs : List UInt8} {l : List UInt8} (hp : p = .pointer none ∨ p = selfP b) (hv : SlV 5 1 v xs.length (bytesC xs) seg) (hb : xs.length + l.length <= 1000000000000) :
  FC Tryz.prog w0 50 [.pointer (some ⟨b, 0, none⟩), .string ⟨l.toArray⟩] (BS b p v :: seg :: S) (fun _ S' => ∃ v2 seg2, S' = BS b (selfP b) v2 :: seg2 :: S /\ SlV 5 1 v2 (xs ++ l).length (bytesC (xs ++ l)) seg2) := by
 have hsz : (⟨l.toArray⟩ : ByteArray).size = l.length := by simp [ByteArray.size]
 refine FC.of Tryz.known50 (by simp) ?_
 unfold Tryz.pc50
 simp only [argT]
 refine PW.seqOps (OL.dp rfl (OL.dp rfl (OL.nil (PW.k2 0 1 rfl (PW.seqOps (OL.dp rfl (OL.call trivial rfl (cc_fc hp) ?_)))))))
 rintro _ _ rfl
 change OL _ _ _ _ _ (BS b (selfP b) v :: seg :: S) _
 refine OL.nil (PW.k2 0 1 rfl (PW.seqOps (OL.dp rfl (OL.dp rfl (OL.det trivial (Yields.nilc rfl) (OL.dp rfl (OL.det trivial (.ld rfl (own_at (j := 1) (c := [selfP b, v]) (E := 71) (tot := 2) zM0 rfl)) (OL.dp rfl ?_))))))))
 refine OL.cons trivial (OW.appStr (k := 1) rfl rfl hv rfl (by rw [hsz]; omega)) ?_
 rintro v14 _ ⟨seg14, rfl, hsl14⟩
 obtain ⟨A14, c14, rfl, _, _⟩ := hsl14.rd (w0 := w0) (S := [seg14]) (k := 0) rfl
 refine OL.det trivial (Yields.nilc rfl) (OL.dp rfl ?_)
 refine OL.cons trivial (OW.st (k := 0) rfl rfl rfl rfl (by first | decide | (simp; done) | (simp; omega)) (by first | rfl | simp)) ?_
 rintro _ _ rfl
 refine OL.nil (PW.k1 1 rfl (PW.seqOps (OL.dp rfl (OL.dp rfl (OL.dp rfl (OL.dp rfl (OL.nil (PW.k2 4 5 rfl (PW.ret ?_)))))))))
 change (Exit.ret = Exit.normal ∨ Exit.ret = Exit.ret) /\ ∃ v, resV _ _ = some v /\ _
 refine ⟨.inr rfl, _, rfl, .slice A14 (xs.length + (⟨l.toArray⟩ : ByteArray).size) c14, seg14, rfl, ?_⟩
 rw [List.length_append, bytesC, List.map_append, <- hsz]
 exact hsl14
theorem sString_fc {w0 : World} {S : SS} {b : Nat} {p v : Value} {seg : Seg} {xs : List UInt8} (hv : SlV 5 1 v xs.length (bytesC xs) seg) (h0 : xs ≠ []) (hb : xs.length <= 1000000000) :
  FC Tryz.prog w0 51 [.pointer (some ⟨b, 0, none⟩)] (BS b p v :: seg :: S) (fun v' S' => v' = .string ⟨xs.toArray⟩ /\ S' = S) := by
 obtain ⟨r, cap, rfl, rfl, hmc, hcm⟩ := slv_nil_len hv (List.length_pos_iff.2 h0)
 refine FC.ofD Tryz.known51 (by simp) ?_
 unfold Tryz.pc51
 simp only [argT]
 refine PW.seqOps (OL.dp rfl (OL.nil (PW.k1 0 rfl ?_)))
 refine PW.seq fun K1 hK1 => ?_
 refine PW.quietK Tryz.mixed (QK.dp rfl (QK.det trivial (Yields.nilc rfl) (QK.dp rfl (QK.det trivial (.ld rfl (own_at (j := 1) (c := [p, .slice (some ⟨r, 0, none⟩) xs.length cap]) (E := 71) (tot := 2) zM0 rfl)) ?_))))
 refine QK.det trivial (Yields.usd rfl (by have := List.length_pos_iff.2 h0; omega)) ?_
 refine QK.dp rfl (QK.det trivial (Yields.nilc rfl) (QK.dp rfl (QK.det trivial (.ld rfl (own_at (j := 1) (c := [p, .slice (some ⟨r, 0, none⟩) xs.length cap]) (E := 71) (tot := 2) zM0 rfl)) (QK.dp rfl (QK.nil ?_)))))
 change OL _ _ _ [_, _] _ _ _
 refine OL.cons trivial (OW.uss (k := 1) (l := xs) (r := []) rfl rfl (by rw [List.append_nil]; rfl) h0 (by unfold maxLen; omega)) ?_
 rintro _ _ ⟨rfl, rfl⟩
 refine OL.dp rfl (OL.nil (hK1 _ _ (PW.k1 2 rfl (PW.ret ?_))))
 change (Exit.ret = Exit.normal ∨ Exit.ret = Exit.ret) /\ ∃ v, resV _ _ = some v /\ _
 exact ⟨.inr rfl, _, rfl, _, Sub.drop (Sub.nilD (Sub.refl _)), rfl, rfl⟩
end Go.Proofs.Rl

namespace Go.Proofs.Rl
open Go.SL Go.RowKit Go.Proofs Go.Proofs.Lb
set_option maxHeartbeats 1000000
def strsL (ls : List (List UInt8)) : List Value := ls.map fun l => .string ⟨l.toArray⟩
theorem strsL_len (ls : List (List UInt8)) : (strsL ls).length = ls.length := by simp [strsL]
theorem strsL_at {w0 : World} {S : SS} {a : Addr} {ls : List (List UInt8)} (h : Rd w0 S (some a) (strsL ls)) {k : Nat} (hk : k < ls.length) : Cell w0 S (a.add k) (.string ⟨ls[k].toArray⟩) := h.at (by simp [strsL, hk])
theorem strsL_at1 {w0 : World} {S : SS} {a : Addr} {ls : List (List UInt8)} (h : Rd w0 S (some a) (strsL ls)) {k : Nat} (hk : k + 1 < ls.length) : Cell w0 S ((a.add 1).add k) (.string ⟨ls[k + 1].toArray⟩) := by
 rw [addr_add_add, Nat.add_comm 1 k]; exact strsL_at h hk
theorem strsL_some {w0 : World} {S : SS} {A : Option Addr} {ls : List (List UInt8)} (h : Rd w0 S A (strsL ls)) (hk : 0 < ls.length) : ∃ a, A = some a :=
 h.some (fun e => by have := strsL_len ls; rw [e] at this; simp at this; omega)
def joinL (sep : List UInt8) : List (List UInt8) -> List UInt8
 | [] => []
 | x :: r => x ++ r.flatMap fun y => sep ++ y
theorem joinL_snoc (sep : List UInt8) (ls : List (List UInt8)) (y : List UInt8) (h : ls ≠ []) : joinL sep (ls ++ [y]) = joinL sep ls ++ sep ++ y := by
 cases ls with
 | nil => exact absurd rfl h
 | cons x r => simp [joinL]
theorem joinL_take {sep : List UInt8} {ls : List (List UInt8)} {k : Nat} (h : k + 1 < ls.length) : joinL sep (ls.take (k + 1 + 1)) = joinL sep (ls.take (k + 1)) ++ sep ++ ls[k + 1] := by
 rw [List.take_add_one, List.getElem?_eq_getElem h]
 exact joinL_snoc _ _ _ (fun e => by have := congrArg List.length e; rw [List.length_take] at this; simp only [List.length_nil] at this; omega)
theorem joinL_ne {sep : List UInt8} {ls : List (List UInt8)} (hs : sep ≠ []) (h : 2 <= ls.length) : joinL sep ls ≠ [] := by
 match ls, h with
 | x :: y :: r, _ => intro e; simp [joinL] at e; exact hs e.2.1
theorem ba_size (l : List UInt8) : (⟨l.toArray⟩ : ByteArray).size = l.length := by simp [ByteArray.size]
theorem quo_big {z : Int} (h1 : 1 <= z) (h2 : z <= 1000000) : 1000000000 <= IntKind.i64.wrap ((9223372036854775807 : Int).tdiv z) := by
 rw [Int.tdiv_eq_ediv_of_nonneg (by omega)]
 have h3 : (9223372036854775807 : Int) / z <= 9223372036854775807 := Int.ediv_le_self _ (by omega)
 have h4 : (1000000000 : Int) <= 9223372036854775807 / z := by rw [Int.le_ediv_iff_mul_le (by omega)]; omega
 rw [IntWalk.i64_in _ ⟨by omega, by omega⟩]
 exact h4
theorem join_fc {w0 : World} {S : SS} {A : Option Addr} {c : Nat} {ls : List (List UInt8)} {sep : List UInt8} (hx : Rd w0 S A (strsL ls)) (h1 : 1 <= ls.length) (hn : ls.length <= 1000) (hc : ls.length <= c) (hl : ∀ x ∈ ls, x.length <= 1000) (hs : sep ≠ []) (hsl : sep.length <= 1000) :
  FC Tryz.prog w0 31 [.slice A ls.length c, .string ⟨sep.toArray⟩] S (fun v S' => v = .string ⟨(joinL sep ls).toArray⟩ /\ S' = S) := by
 have hss := ba_size sep
 have hs1 := List.length_pos_iff.2 hs
 refine FC.ofD Tryz.known31 (by simp) ?_
 unfold Tryz.pc31
 simp only [argT]
 refine PW.seqOps (OL.dp rfl (OL.nil (PW.k2 0 1 rfl ?_)))
 refine PW.seq fun K1 hK1 => ?_
 refine PW.seqOps (OL.dp rfl (OL.dp rfl (OL.nil (PW.k3 0 1 12 rfl (PW.block (PW.seqOps (OL.dp rfl (OL.dp rfl (OL.nil (PW.k4 0 1 12 13 rfl ?_))))))))))
 refine PW.cond rfl (fun c13 => ?_) (fun c13 => ?_)
 ·try simp only [decide_eq_true_eq, decide_eq_false_iff_not, beq_iff_eq, bne_iff_ne, beq_eq_false_iff_ne, bne_eq_false_iff_eq, Bool.not_eq_true', Bool.not_eq_false', Bool.not_eq_true, ne_eq, Decidable.not_not] at c13
  exfalso; omega
  -- done
 try simp only [decide_eq_true_eq, decide_eq_false_iff_not, beq_iff_eq, bne_iff_ne, beq_eq_false_iff_ne, bne_eq_false_iff_eq, Bool.not_eq_true', Bool.not_eq_false', Bool.not_eq_true, ne_eq, Decidable.not_not] at c13
 refine PW.seqOps (OL.dp rfl (OL.dp rfl (OL.nil (PW.k3 0 1 15 rfl ?_))))
 refine PW.cond rfl (fun c15 => ?_) (fun c15 => ?_)
 ·try simp only [decide_eq_true_eq, decide_eq_false_iff_not, beq_iff_eq, bne_iff_ne, beq_eq_false_iff_ne, bne_eq_false_iff_eq, Bool.not_eq_true', Bool.not_eq_false', Bool.not_eq_true, ne_eq, Decidable.not_not] at c15
  obtain ⟨a0, rfl⟩ := strsL_some hx (by omega)
  refine PW.seqOps (OL.dp rfl ?_)
  refine OL.det trivial (.ixN1 rfl rfl (j := 0) rfl (by omega)) ?_
  refine OL.det trivial (.ld rfl (strsL_at hx (k := 0) (by omega))) ?_
  refine OL.dp rfl (OL.nil (PW.k1 4 rfl (PW.ret ?_)))
  change (Exit.ret = Exit.normal ∨ Exit.ret = Exit.ret) /\ ∃ v, resV _ _ = some v /\ _
  exact ⟨.inr rfl, _, rfl, _, Sub.refl _, by
   obtain ⟨x, rfl⟩ : ∃ x, ls = [x] := List.length_eq_one_iff.1 (by omega)
   simp [joinL], rfl⟩
 try simp only [decide_eq_true_eq, decide_eq_false_iff_not, beq_iff_eq, bne_iff_ne, beq_eq_false_iff_ne, bne_eq_false_iff_eq, Bool.not_eq_true', Bool.not_eq_false', Bool.not_eq_true, ne_eq, Decidable.not_not] at c15
 have h2 : 2 <= ls.length := by omega
 obtain ⟨M, hM, hM1, hM2⟩ : ∃ M : Nat, ((⟨sep.toArray⟩ : ByteArray).size : Int) * ((ls.length : Int) - 1) = M /\ 1 <= M /\ M <= 1000000 := by
  refine ⟨sep.length * (ls.length - 1), ?_, Nat.mul_pos hs1 (by omega), Nat.mul_le_mul hsl (show ls.length - 1 <= 1000 by omega)⟩
  rw [hss, Int.natCast_mul, Int.natCast_sub (by omega)]
  rfl
 refine PW.skip (hK1 _ _ (PW.k2 0 1 rfl (PW.seqOps (OL.dp rfl (OL.nil (PW.k3 0 1 5 rfl ?_))))))
 refine PW.seq fun K2 hK2 => ?_
 refine PW.seqOps (OL.dp rfl (OL.dp rfl (OL.dp rfl (OL.nil (PW.k4 0 1 5 22 rfl ?_)))))
 refine PW.cond rfl (fun c22 => ?_) (fun c22 => ?_)
 ·try simp only [decide_eq_true_eq, decide_eq_false_iff_not, beq_iff_eq, bne_iff_ne, beq_eq_false_iff_ne, bne_eq_false_iff_eq, Bool.not_eq_true', Bool.not_eq_false', Bool.not_eq_true, ne_eq, Decidable.not_not] at c22
  refine PW.seq fun K3 hK3 => ?_
  refine PW.seqOps (OL.dp rfl (OL.dp rfl (OL.dp rfl (OL.dp rfl ?_))))
  refine OL.det trivial (.sub64 rfl rfl (by omega) (by omega)) ?_
  refine OL.det trivial (Yields.quo rfl rfl (by omega)) ?_
  refine OL.dp rfl (OL.nil (PW.k4 0 1 5 29 rfl ?_))
  refine PW.cond rfl (fun c29 => ?_) (fun c29 => ?_)
  ·try simp only [decide_eq_true_eq, decide_eq_false_iff_not, beq_iff_eq, bne_iff_ne, beq_eq_false_iff_ne, bne_eq_false_iff_eq, Bool.not_eq_true', Bool.not_eq_false', Bool.not_eq_true, ne_eq, Decidable.not_not] at c29
   exfalso
   have := quo_big (z := (ls.length : Int) - 1) (by omega) (by omega)
   omega
   -- done
  try simp only [decide_eq_true_eq, decide_eq_false_iff_not, beq_iff_eq, bne_iff_ne, beq_eq_false_iff_ne, bne_eq_false_iff_eq, Bool.not_eq_true', Bool.not_eq_false', Bool.not_eq_true, ne_eq, Decidable.not_not] at c29
  refine PW.skip (hK3 _ _ (PW.k3 0 1 5 rfl (PW.ops (OL.dp rfl (OL.dp rfl (OL.dp rfl (OL.dp rfl (OL.dp rfl ?_))))))))
  refine OL.det trivial (.sub64 rfl rfl (by omega) (by omega)) ?_
  refine OL.det trivial (.to (v' := .int .i64 (M : Int)) (Yields.mul64 rfl rfl (by rw [hM]; omega) (by rw [hM]; omega)) (congrArg (Value.int _) hM)) ?_
  refine OL.det trivial (.to (v' := .int .i64 (M : Int)) (Yields.add64 (a := 0) rfl rfl (by omega) (by omega)) (congrArg (Value.int _) (Int.zero_add _))) ?_
  refine OL.dp rfl (OL.nil (hK2 _ _ (PW.k3 0 1 5 rfl ?_)))
  refine PW.seq fun K4 hK4 => ?_
  refine PW.seqOps (OL.subS (S' := [] :: S) (Sub.nilL (Sub.refl _)) (OL.dp rfl (OL.dp rfl (OL.dp rfl (OL.nil (PW.k6 0 1 5 39 40 41 rfl (PW.block (PW.k6 0 1 5 39 40 41 rfl ?_))))))))
  refine PW.loopK (I := fun m T S' => ∃ (k Z : Nat), (k <= ls.length /\ m = ls.length - k /\ 1 <= Z /\ Z <= 1000000 + 1000 * k) /\ T = ([(0, .slice A ls.length c), (1, .string ⟨sep.toArray⟩), (5, .int .i64 ((Z : Nat) : Int)), (39, .slice A ls.length c), (40, .int .i64 (ls.length : Int)), (41, .int .i64 k)] : TT) /\ S' = [] :: S) (m := ls.length) ⟨0, M, ⟨by omega, by omega, by omega, by omega⟩, rfl, rfl⟩ ?_
  rintro m _ _ ⟨k, Z, ⟨hk, hm, hZ1, hZ2⟩, rfl, rfl⟩
  refine PW.seqOps (OL.dp rfl (OL.nil (PW.k7 0 1 5 39 40 41 42 rfl ?_)))
  refine PW.seq fun K5 hK5 => ?_
  refine PW.cond rfl (fun c42 => ?_) (fun c42 => ?_)
  ·try simp only [decide_eq_true_eq, decide_eq_false_iff_not, beq_iff_eq, bne_iff_ne, beq_eq_false_iff_ne, bne_eq_false_iff_eq, Bool.not_eq_true', Bool.not_eq_false', Bool.not_eq_true, ne_eq, Decidable.not_not] at c42
   have hkl : k < ls.length := by omega
   obtain ⟨a0, rfl⟩ := strsL_some hx (by omega)
   have hwk := hl _ (List.getElem_mem hkl)
   have hwz := ba_size ls[k]
   refine PW.skip (hK5 _ _ (PW.k6 0 1 5 39 40 41 rfl ?_))
   refine PW.seq fun K6 hK6 => ?_
   refine PW.block (PW.seqOps ?_)
   refine OL.det trivial (.ixN1 rfl rfl rfl (by omega)) ?_
   refine OL.det trivial (.ld rfl (strsL_at hx.cons hkl)) (OL.dp rfl (OL.nil (PW.k7 0 1 5 7 39 40 41 rfl ?_)))
   refine PW.seq fun K7 hK7 => ?_
   refine PW.seqOps (OL.dp rfl (OL.dp rfl (OL.dp rfl ?_)))
   refine OL.det trivial (.sub64 rfl rfl (by omega) (by omega)) ?_
   refine OL.dp rfl (OL.nil (PW.k8 0 1 5 7 39 40 41 49 rfl ?_))
   refine PW.cond rfl (fun c49 => ?_) (fun c49 => ?_)
   ·try simp only [decide_eq_true_eq, decide_eq_false_iff_not, beq_iff_eq, bne_iff_ne, beq_eq_false_iff_ne, bne_eq_false_iff_eq, Bool.not_eq_true', Bool.not_eq_false', Bool.not_eq_true, ne_eq, Decidable.not_not] at c49
    exfalso; omega
    -- done
   try simp only [decide_eq_true_eq, decide_eq_false_iff_not, beq_iff_eq, bne_iff_ne, beq_eq_false_iff_ne, bne_eq_false_iff_eq, Bool.not_eq_true', Bool.not_eq_false', Bool.not_eq_true, ne_eq, Decidable.not_not] at c49
   refine PW.skip (hK7 _ _ (PW.k7 0 1 5 7 39 40 41 rfl (PW.ops (OL.dp rfl (OL.dp rfl (OL.dp rfl ?_))))))
   refine OL.det trivial (.add64 rfl rfl (by omega) (by omega)) ?_
   refine OL.dp rfl (OL.nil (hK6 _ _ (PW.k6 0 1 5 39 40 41 rfl (PW.ops ?_))))
   refine OL.det trivial (.add64 rfl rfl (by omega) (by omega)) ?_
   refine OL.dp rfl (OL.nil ?_)
   repeat rw [inBlk_n]
   try rw [thenK_n]
   refine LoopEnd.mk (T'' := [(0, _), (1, _), (5, _), (39, _), (40, _), (41, _)]) (wi rfl) ?_
   exact ⟨ls.length - (k + 1), by omega, k + 1, Z + (⟨ls[k].toArray⟩ : ByteArray).size, ⟨by omega, rfl, by omega, by omega⟩, rfl, rfl⟩
  try simp only [decide_eq_true_eq, decide_eq_false_iff_not, beq_iff_eq, bne_iff_ne, beq_eq_false_iff_ne, bne_eq_false_iff_eq, Bool.not_eq_true', Bool.not_eq_false', Bool.not_eq_true, ne_eq, Decidable.not_not] at c42
  refine PW.exit (hK4 _ _ (PW.k3 0 1 5 rfl (PW.seqOps ?_)))
  obtain ⟨a0, rfl⟩ := strsL_some hx (by omega)
  have h00 := hl _ (List.getElem_mem (show 0 < ls.length by omega))
  have hj0 : joinL sep (ls.take (0 + 1)) = ls[0] := by rw [List.take_add_one, List.getElem?_eq_getElem (by omega)]; simp [joinL]
  refine OL.cons trivial OW.al ?_
  rintro _ _ ⟨r8, rfl, rfl⟩
  change OL _ _ _ _ _ (BS r8 (.pointer none) nilS :: [] :: S) _
  refine OL.nil (PW.k4 0 1 5 8 rfl (PW.seqOps (OL.dp rfl ?_)))
  refine OL.call trivial rfl (sGrow_fc (z := Z) (by omega) (by omega)) ?_
  rintro _ _ ⟨v0, seg0, rfl, hsl0⟩
  refine OL.nil (PW.k3 0 1 8 rfl (PW.seqOps (OL.dp rfl ?_)))
  refine OL.det trivial (.ixN1 rfl rfl (j := 0) rfl (by omega)) ?_
  refine OL.det trivial (.ld rfl (strsL_at hx.cons.cons.cons (k := 0) (by omega))) ?_
  refine OL.call trivial rfl (write_fc (xs := []) (l := ls[0]) (.inr rfl) hsl0 (by simp only [List.length_nil]; omega)) ?_
  rintro _ _ ⟨v1, seg1, rfl, hsl1⟩
  rw [List.nil_append] at hsl1
  refine OL.nil (PW.k3 0 1 8 rfl ?_)
  refine PW.seq fun K8 hK8 => ?_
  refine PW.seqOps (OL.dp rfl ?_)
  refine OL.det trivial (.to (v' := .slice (some (a0.add 1)) (ls.length - 1) (c - 1)) (Yields.slS (l := 1) (h := ls.length) rfl rfl rfl (.inl rfl) (.inr ⟨rfl, rfl⟩) (by omega) hc) (by simp [cutV]; omega)) ?_
  refine OL.dp rfl (OL.dp rfl (OL.nil (PW.k5 1 8 63 64 65 rfl (PW.block (PW.k5 1 8 63 64 65 rfl ?_)))))
  refine PW.loopK (I := fun m T S' => ∃ (k : Nat) (v : Value) (seg : Seg), (k <= ls.length - 1 /\ m = ls.length - 1 - k /\ SlV 5 1 v (joinL sep (ls.take (k + 1))).length (bytesC (joinL sep (ls.take (k + 1)))) seg /\ (joinL sep (ls.take (k + 1))).length <= 2000 * (k + 1)) /\ T = ([(1, .string ⟨sep.toArray⟩), (8, .pointer (some ⟨r8, 0, none⟩)), (63, .slice (some (a0.add 1)) (ls.length - 1) (c - 1)), (64, .int .i64 ((ls.length - 1 : Nat) : Int)), (65, .int .i64 k)] : TT) /\ S' = BS r8 (selfP r8) v :: seg :: [] :: S) (m := ls.length - 1) ⟨0, v1, seg1, ⟨by omega, by omega, by rw [hj0]; exact hsl1, by rw [hj0]; omega⟩, rfl, rfl⟩ ?_
  rintro m _ _ ⟨k, v, seg, ⟨hk, hm, hsv, hjb⟩, rfl, rfl⟩
  refine PW.seqOps (OL.dp rfl (OL.nil (PW.k6 1 8 63 64 65 66 rfl ?_)))
  refine PW.seq fun K9 hK9 => ?_
  refine PW.cond rfl (fun c66 => ?_) (fun c66 => ?_)
  ·try simp only [decide_eq_true_eq, decide_eq_false_iff_not, beq_iff_eq, bne_iff_ne, beq_eq_false_iff_ne, bne_eq_false_iff_eq, Bool.not_eq_true', Bool.not_eq_false', Bool.not_eq_true, ne_eq, Decidable.not_not] at c66
   have hkl : k + 1 < ls.length := by omega
   have hwk := hl _ (List.getElem_mem hkl)
   refine PW.skip (hK9 _ _ (PW.k5 1 8 63 64 65 rfl ?_))
   refine PW.seq fun K10 hK10 => ?_
   refine PW.block (PW.seqOps ?_)
   refine OL.det trivial (.ixN1 rfl rfl rfl (by omega)) ?_
   refine OL.det trivial (.ld rfl (strsL_at1 hx.cons.cons.cons hkl)) (OL.dp rfl (OL.nil (PW.k6 1 8 10 63 64 65 rfl (PW.seqOps (OL.dp rfl ?_)))))
   refine OL.call trivial rfl (write_fc (l := sep) (.inr rfl) hsv (by omega)) ?_
   rintro _ _ ⟨v70, seg70, rfl, hsl70⟩
   refine OL.nil (PW.k6 1 8 10 63 64 65 rfl (PW.ops (OL.dp rfl ?_)))
   refine OL.call trivial rfl (write_fc (l := ls[k + 1]) (.inr rfl) hsl70 (by simp only [List.length_append]; omega)) ?_
   rintro _ _ ⟨v72, seg72, rfl, hsl72⟩
   refine OL.nil (hK10 _ _ (PW.k5 1 8 63 64 65 rfl (PW.ops ?_)))
   refine OL.det trivial (.add64 rfl rfl (by omega) (by omega)) ?_
   refine OL.dp rfl (OL.nil ?_)
   repeat rw [inBlk_n]
   try rw [thenK_n]
   refine LoopEnd.mk (T'' := [(1, _), (8, _), (63, _), (64, _), (65, _)]) (wi rfl) ?_
   refine ⟨ls.length - 1 - (k + 1), by omega, k + 1, v72, seg72, ⟨by omega, rfl, by rw [joinL_take hkl]; exact hsl72, ?_⟩, rfl, rfl⟩
   rw [joinL_take hkl]; simp only [List.length_append]; omega
  try simp only [decide_eq_true_eq, decide_eq_false_iff_not, beq_iff_eq, bne_iff_ne, beq_eq_false_iff_ne, bne_eq_false_iff_eq, Bool.not_eq_true', Bool.not_eq_false', Bool.not_eq_true, ne_eq, Decidable.not_not] at c66
  refine PW.exit (hK8 _ _ (PW.k1 8 rfl (PW.seqOps ?_)))
  have hall : ls.take (k + 1) = ls := List.take_of_length_le (by omega)
  rw [hall] at hsv hjb
  refine OL.call trivial rfl (sString_fc hsv (joinL_ne hs h2) (by omega)) ?_
  rintro _ Sx ⟨rfl, hSx⟩
  rw [hSx]
  clear hSx
  refine OL.dp rfl (OL.nil (PW.k1 4 rfl (PW.ret ?_)))
  change (Exit.ret = Exit.normal ∨ Exit.ret = Exit.ret) /\ ∃ v, resV _ _ = some v /\ _
  exact ⟨.inr rfl, _, rfl, _, Sub.nilD (Sub.refl _), rfl, rfl⟩
 try simp only [decide_eq_true_eq, decide_eq_false_iff_not, beq_iff_eq, bne_iff_ne, beq_eq_false_iff_ne, bne_eq_false_iff_eq, Bool.not_eq_true', Bool.not_eq_false', Bool.not_eq_true, ne_eq, Decidable.not_not] at c22
 exfalso; omega
 -- done
def lineT (r : RuleB) : List UInt8 := joinL [32] [labT r.2, r.1.data.toList]
def rowsR (tv : Int) (l : List RuleB) (k : Nat) : List (List UInt8) := (118 :: numL tv) :: (l.take k).map lineT
theorem rowsR_succ {tv : Int} {l : List RuleB} {k : Nat} (hk : k < l.length) : rowsR tv l (k + 1) = rowsR tv l k ++ [lineT l[k]] := by
 unfold rowsR; rw [rtake_snoc hk, List.map_append]; rfl
theorem rowsR_len {tv : Int} {l : List RuleB} {k : Nat} (hk : k <= l.length) : (rowsR tv l k).length = k + 1 := by
 unfold rowsR; simp; omega
theorem lineT_eq (r : RuleB) : lineT r = labT r.2 ++ [32] ++ r.1.data.toList := by simp [lineT, joinL]
theorem lineT_len {r : RuleB} (h : r.1.size <= 200) : (lineT r).length <= 277 := by
 rw [lineT_eq]; have := labT_len r.2; have h2 : r.1.data.toList.length = r.1.size := by simp
 simp only [List.length_append, List.length_singleton]; omega
theorem rowsR_small {tv : Int} {l : List RuleB} {k : Nat} (hw : ∀ x ∈ l, x.1.size <= 200) : ∀ x ∈ rowsR tv l k, x.length <= 1000 := by
 intro x hx
 rcases List.mem_cons.1 hx with rfl | hx
 ·have := numL_len tv; simp; omega
 obtain ⟨r, hr, rfl⟩ := List.mem_map.1 hx
 have := lineT_len (hw r (List.mem_of_mem_take hr)); omega
def textR (tv : Int) (l : List RuleB) : List UInt8 := joinL [10] (rowsR tv l l.length)
theorem strsL_app (a b : List (List UInt8)) : strsL (a ++ b) = strsL a ++ strsL b := by simp [strsL]
theorem line_fc {w0 : World} {S : SS} {A : Option Addr} {c : Nat} {ls : List (List UInt8)} (hx : Rd w0 S A (strsL ls)) (h1 : 1 <= ls.length) (hn : ls.length <= 1000) (hc : ls.length <= c) (hl : ∀ x ∈ ls, x.length <= 1000) :
  FC Tryz.prog w0 29 [.slice A ls.length c] S (fun v S' => v = .string ⟨(joinL [32] ls).toArray⟩ /\ S' = S) := by
 refine FC.of Tryz.known29 (by simp) ?_
 unfold Tryz.pc29
 simp only [argT]
 refine PW.seqOps (OL.dp rfl (OL.nil (PW.k1 0 rfl (PW.seqOps (OL.dp rfl ?_)))))
 refine OL.call trivial rfl (join_fc (sep := [32]) hx h1 hn hc hl (by simp) (by simp)) ?_
 rintro _ Sx ⟨rfl, hSx⟩
 rw [hSx]
 clear hSx
 refine OL.dp rfl (OL.nil (PW.k1 2 rfl (PW.ret ?_)))
 change (Exit.ret = Exit.normal ∨ Exit.ret = Exit.ret) /\ ∃ v, resV _ _ = some v /\ _
 exact ⟨.inr rfl, _, rfl, rfl, rfl⟩
theorem rtext_fc {w0 : World} {S : SS} {A : Option Addr} {c : Nat} {tv : Int} {l : List RuleB} (hT : Tabs w0) (hx : Rd w0 S A (ruls l)) (hw : ∀ x ∈ l, x.1.size <= 200) (hl : l.length <= 60) (h0 : -999999999 <= tv) (h1 : tv <= 999999999) :
  FC Tryz.prog w0 15 [tabV tv A l.length c] S (fun v S' => v = .string ⟨(textR tv l).toArray⟩ /\ S' = S) := by
 have hnl := numL_len tv
 refine FC.ofD Tryz.known15 (by simp) ?_
 unfold Tryz.pc15
 simp only [argT]
 refine PW.seqOps (OL.cons trivial (OW.bx rfl) ?_)
 rintro _ _ ⟨r1, rfl, rfl⟩
 change OL _ _ _ _ _ (tseg r1 tv A l.length c :: S) _
 refine OL.dp rfl (OL.nil (PW.k1 1 rfl (PW.seqOps (OL.dp rfl (OL.det trivial (.ld rfl (own_at (j := 0) (c := [.int .i64 tv, .slice A l.length c]) (E := 24) (tot := 2) zM0 rfl)) (OL.call trivial rfl (itoaL_fc hT h0 h1) ?_))))))
 rintro _ Sx ⟨rfl, hSx⟩
 rw [hSx]
 clear hSx
 refine OL.det trivial (cat_l [118] (numL tv) rfl rfl (by simp only [List.length_singleton]; omega)) ?_
 refine OL.cons trivial (OW.bsl rfl) ?_
 rintro _ _ ⟨r10, rfl, rfl⟩
 change OL _ _ _ _ _ ([(r10, .cells (strsL (rowsR tv l 0)) 9 (1 * 1))] :: tseg r1 tv A l.length c :: S) _
 refine OL.dp rfl (OL.nil (PW.k2 1 3 rfl ?_))
 refine PW.seq fun K1 hK1 => ?_
 refine PW.seqOps (OL.dp rfl (OL.det trivial (.ld rfl (own_at (j := 1) (c := [.int .i64 tv, .slice A l.length c]) (E := 24) (tot := 2) zM1 rfl)) (OL.dp rfl (OL.dp rfl (OL.nil (PW.k4 3 12 13 14 rfl (PW.block (PW.k4 3 12 13 14 rfl ?_))))))))
 refine PW.loopK (I := fun m T S' => ∃ (k : Nat) (v3 : Value) (seg : Seg), (k <= l.length /\ m = l.length - k /\ SlV 9 1 v3 (rowsR tv l k).length (strsL (rowsR tv l k)) seg) /\ T = ([(3, v3), (12, .slice A l.length c), (13, .int .i64 (l.length : Int)), (14, .int .i64 k)] : TT) /\ S' = seg :: tseg r1 tv A l.length c :: S) (m := l.length) ⟨0, _, _, ⟨by omega, by omega, SlV.mk' (cap := 1) rfl (Nat.le_refl 1) (by decide)⟩, rfl, rfl⟩ ?_
 rintro m _ _ ⟨k, v3, seg, ⟨hk, hm, hsl⟩, rfl, rfl⟩
 have hlk := rowsR_len (tv := tv) hk
 refine PW.seqOps (OL.dp rfl (OL.nil (PW.k5 3 12 13 14 15 rfl ?_)))
 refine PW.seq fun K2 hK2 => ?_
 refine PW.cond rfl (fun c15 => ?_) (fun c15 => ?_)
 ·try simp only [decide_eq_true_eq, decide_eq_false_iff_not, beq_iff_eq, bne_iff_ne, beq_eq_false_iff_ne, bne_eq_false_iff_eq, Bool.not_eq_true', Bool.not_eq_false', Bool.not_eq_true, ne_eq, Decidable.not_not] at c15
  have hkl : k < l.length := by omega
  obtain ⟨a0, rfl⟩ := ruls_some hx (by omega)
  have hwk := hw _ (List.getElem_mem hkl)
  have hlb := labT_len l[k].2
  refine PW.skip (hK2 _ _ (PW.k4 3 12 13 14 rfl ?_))
  refine PW.seq fun K3 hK3 => ?_
  refine PW.block (PW.seqOps ?_)
  refine OL.det trivial (.ixN rfl rfl rfl (by omega)) ?_
  refine OL.det trivial (.ldA rfl (cs := ruleC l[k]) rfl (rule_at hx.cons.cons hkl)) (OL.cons trivial OW.al ?_)
  rintro _ _ ⟨r5, rfl, rfl⟩
  refine OL.cons trivial (OW.st (k := 0) rfl rfl rfl rfl (by decide) rfl) ?_
  rintro _ _ rfl
  change OL _ _ _ _ _ (rseg r5 l[k] :: seg :: tseg r1 tv (some a0) l.length c :: S) _
  refine OL.nil (PW.k5 3 5 12 13 14 rfl (PW.quietK Tryz.mixed (QK.dp rfl (QK.dp rfl (QK.det trivial (.ldA rfl rfl (rseg_at (x := l[k]))) (QK.call trivial rfl (ltext_fc hT) (QK.dp rfl (QK.det trivial (.ld rfl (own_at (j := 0) (c := ruleC l[k]) (E := 48) (tot := 3) zM0 rfl)) (QK.nil ?_)))))))))
  change OL _ _ _ [_, _, _, _, _] _ _ _
  refine OL.cons trivial (OW.bsl rfl) ?_
  rintro _ _ ⟨r24, rfl, rfl⟩
  change OL _ _ _ _ _ ([(r24, .cells (strsL [labT l[k].2, l[k].1.data.toList]) 9 2)] :: rseg r5 l[k] :: seg :: tseg r1 tv (some a0) l.length c :: S) _
  refine OL.call trivial rfl (line_fc (ls := [labT l[k].2, l[k].1.data.toList]) (Rd.own (E := 9) (tot := 2) zM0) (by simp) (by simp) (by simp) (by intro x hx; simp only [List.mem_cons, List.not_mem_nil, or_false] at hx; rcases hx with rfl | rfl; omega; simp; omega)) ?_
  rintro _ Sx ⟨rfl, hSx⟩
  rw [hSx]
  clear hSx
  apply OL.app1 (k := 2)
  ·rfl
  ·rfl
  ·rfl
  ·rfl
  ·rfl
  ·rfl
  ·exact hsl
  ·rfl
  ·omega
  ·unfold maxLen; omega
  intro v27 seg27 hsl27
  change OL _ _ _ _ _ ([(r24, .cells (strsL [labT l[k].2, l[k].1.data.toList]) 9 2)] :: rseg r5 l[k] :: seg27 :: tseg r1 tv (some a0) l.length c :: S) _
  refine OL.dp rfl (OL.nil (hK3 _ _ (PW.k4 3 12 13 14 rfl (PW.ops ?_))))
  refine OL.det trivial (.add64 rfl rfl (by omega) (by omega)) ?_
  refine OL.dp rfl (OL.nil ?_)
  repeat rw [inBlk_n]
  try rw [thenK_n]
  refine LoopEnd.mkS ((Sub.drop (Sub.drop (Sub.refl _)))) (T'' := [(3, _), (12, _), (13, _), (14, _)]) (wi rfl) ?_
  refine ⟨l.length - (k + 1), by omega, k + 1, _, _, ⟨by omega, rfl, ?_⟩, rfl, rfl⟩
  rw [rowsR_succ hkl, strsL_app, List.length_append]
  exact hsl27
 try simp only [decide_eq_true_eq, decide_eq_false_iff_not, beq_iff_eq, bne_iff_ne, beq_eq_false_iff_ne, bne_eq_false_iff_eq, Bool.not_eq_true', Bool.not_eq_false', Bool.not_eq_true, ne_eq, Decidable.not_not] at c15
 refine PW.exit (hK1 _ _ (PW.k1 3 rfl (PW.seqOps ?_)))
 obtain rfl : k = l.length := by omega
 obtain ⟨A3, c3, rfl, hA3, hle3, hrd3⟩ := slv_rdL (w0 := w0) hsl
 refine OL.dp rfl ?_
 refine OL.call trivial rfl (join_fc (sep := [10]) (hrd3 _) (by omega) (by omega) hle3 (rowsR_small hw) (by simp) (by simp)) ?_
 rintro _ Sx ⟨rfl, hSx⟩
 rw [hSx]
 clear hSx
 refine OL.dp rfl (OL.nil (PW.k1 2 rfl (PW.ret ?_)))
 change (Exit.ret = Exit.normal ∨ Exit.ret = Exit.ret) /\ ∃ v, resV _ _ = some v /\ _
 exact ⟨.inr rfl, _, rfl, _, Sub.drop (Sub.drop (Sub.refl _)), rfl, rfl⟩
def gl : List RuleB := [(⟨#[]⟩, (1, 0)), (⟨#[97]⟩, (2, 1)), (⟨#[97, 47, 98]⟩, (0, 0))]
theorem gl_small : ∀ x ∈ gl, x.1.size <= 200 := by decide +kernel
theorem gl_small9 : ∀ x ∈ gl, x.1.size <= 1000000000 := fun x h => by have := gl_small x h; omega
theorem gl_chk : chkT gl 3 = 0 := by decide +kernel
theorem gl_x : findP gl ⟨#[120]⟩ = (1, 0) := by decide +kernel
theorem gl_ab : findP gl ⟨#[97, 98]⟩ = (1, 0) := by decide +kernel
theorem gl_ac : findP gl ⟨#[97, 47, 99]⟩ = (2, 1) := by decide +kernel
theorem gl_abc : findP gl ⟨#[97, 47, 98, 47, 99]⟩ = (0, 0) := by decide +kernel
theorem lab7_fc {w0 : World} {S : SS} (x : LabB) : FC Tryz.prog w0 19 [.int .i64 x.1, .int .u64 (x.2.toNat : Int)] S (fun v S' => v = labB x /\ S' = S) := by
 refine FC.ofC Tryz.known19 (by simp) ?_
 unfold Tryz.pc19
 simp only [argT]
 refine PW.seqOps (OL.cons trivial OW.al ?_)
 rintro _ _ ⟨r4, rfl, rfl⟩
 refine OL.nil (PW.k3 0 1 4 rfl (PW.seqOps (OL.dp rfl (OL.dp rfl (OL.det trivial (.build rfl) (OL.cons trivial (OW.st (k := 0) (u := labB x) rfl rfl rfl rfl (Nat.le_refl 2) rfl) ?_))))))
 rintro _ _ rfl
 change OL _ _ _ _ _ (lseg r4 x :: S) _
 refine OL.nil (PW.k1 4 rfl (PW.ret ?_))
 exact ⟨.inr rfl, _, labB x, rfl, lab_read (r := r4) (l := x.1) (c := (x.2.toNat : Int)) zM0, _, Sub.drop (Sub.refl _), rfl, rfl⟩
theorem given_fc {w0 : World} {S : SS} : FC Tryz.prog w0 17 [] S (fun v S' => ∃ r cap, v = tabV 3 (some ⟨r, 0, none⟩) gl.length cap /\ gl.length <= cap /\ S' = [(r, .cells (ruls gl) 48 (3 * 3))] :: S) := by
 refine FC.ofC Tryz.known17 (by simp) ?_
 unfold Tryz.pc17
 simp only [argT]
 refine PW.seqOps (OL.cons trivial OW.al ?_)
 rintro _ _ ⟨r0, rfl, rfl⟩
 refine OL.nil (PW.k1 0 rfl (PW.seqOps (OL.call trivial rfl (lab7_fc (1, 0)) ?_)))
 rintro _ Sx ⟨rfl, hSx⟩
 rw [hSx]
 clear hSx
 refine OL.det trivial (.build rfl) (OL.call trivial rfl (lab7_fc (2, 1)) ?_)
 rintro _ Sx ⟨rfl, hSx⟩
 rw [hSx]
 clear hSx
 refine OL.det trivial (.build rfl) (OL.det trivial (.build rfl) (OL.cons trivial (OW.bsl rfl) ?_))
 rintro _ _ ⟨r6, rfl, rfl⟩
 change OL _ _ _ _ _ ([(r6, .cells (ruls gl) 48 (3 * 3))] :: [(r0, .cells [.int .i64 0, .slice none 0 0] 24 2)] :: S) _
 refine OL.det trivial (.build rfl) (OL.cons trivial (OW.st (k := 1) (u := tabV 3 (some ⟨r6, 0, none⟩) gl.length 3) rfl rfl rfl rfl (Nat.le_refl 2) rfl) ?_)
 rintro _ _ rfl
 change OL _ _ _ _ _ ([(r6, .cells (ruls gl) 48 (3 * 3))] :: tseg r0 3 (some ⟨r6, 0, none⟩) gl.length 3 :: S) _
 refine OL.nil (PW.k1 0 rfl (PW.ret ?_))
 exact ⟨.inr rfl, _, tabV 3 (some ⟨r6, 0, none⟩) gl.length 3, rfl, tab_read (r := r0) zM1, _, Sub.cons (Sub.drop (Sub.refl _)), r6, 3, rfl, Nat.le_refl _, rfl⟩
theorem awake7_fc {w0 : World} {S : SS} : FC Tryz.prog w0 6 [] S (fun v S' => v = .bool true /\ S' = S) := by
 refine FC.ofD Tryz.known6 (by simp) ?_
 unfold Tryz.pc6
 simp only [argT]
 refine PW.seqOps (OL.dp rfl (OL.nil (PW.keep (T' := []) trivial (PW.seqOps (OL.call trivial rfl (given_fc) ?_)))))
 rintro _ _ ⟨r, cap, rfl, hcap, rfl⟩
 refine OL.cons trivial OW.al ?_
 rintro _ _ ⟨r1, rfl, rfl⟩
 refine OL.cons trivial (OW.st (k := 0) (u := tabV 3 (some ⟨r, 0, none⟩) gl.length cap) rfl rfl rfl rfl (Nat.le_refl 2) rfl) ?_
 rintro _ _ rfl
 change OL _ _ _ _ _ (tseg r1 3 (some ⟨r, 0, none⟩) gl.length cap :: [(r, .cells (ruls gl) 48 (3 * 3))] :: S) _
 refine OL.nil (PW.k1 1 rfl (PW.seqOps (OL.det trivial (.ldA rfl rfl (tab_at (tv := 3) (A := some ⟨r, 0, none⟩) (n := gl.length) (c := cap) (r := r1) zM0)) ?_)))
 refine OL.call trivial rfl (chkT_fc (Rd.own (E := 48) (tot := 3 * 3) zM1) gl_small9 (by decide)) ?_
 rintro _ Sx ⟨rfl, hSx⟩
 rw [hSx]
 clear hSx
 rw [gl_chk]
 refine OL.det trivial (.to (v' := .bool true) (Yields.pure rfl) rfl) (OL.dp rfl (OL.det rfl (.ldA rfl rfl (tab_at (tv := 3) (A := some ⟨r, 0, none⟩) (n := gl.length) (c := cap) (r := r1) zM0)) ?_))
 refine OL.call rfl rfl (find_fc (Rd.own (E := 48) (tot := 3 * 3) zM1) gl_small9 (by decide) (by decide)) ?_
 rintro _ Sx ⟨rfl, hSx⟩
 rw [hSx]
 clear hSx
 rw [gl_x]
 refine OL.call rfl rfl (lab7_fc (1, 0)) ?_
 rintro _ Sx ⟨rfl, hSx⟩
 rw [hSx]
 clear hSx
 refine OL.det rfl (.to (v' := .bool true) (Yields.eqA rfl rfl (eq_lab ((1 : Int), (0 : BitVec 64)) ((1 : Int), (0 : BitVec 64)))) (by simp)) ?_
 refine OL.dp rfl (OL.dp rfl (OL.det rfl (.ldA rfl rfl (tab_at (tv := 3) (A := some ⟨r, 0, none⟩) (n := gl.length) (c := cap) (r := r1) zM0)) ?_))
 refine OL.call rfl rfl (find_fc (Rd.own (E := 48) (tot := 3 * 3) zM1) gl_small9 (by decide) (by decide)) ?_
 rintro _ Sx ⟨rfl, hSx⟩
 rw [hSx]
 clear hSx
 rw [gl_ab]
 refine OL.call rfl rfl (lab7_fc (1, 0)) ?_
 rintro _ Sx ⟨rfl, hSx⟩
 rw [hSx]
 clear hSx
 refine OL.det rfl (.to (v' := .bool true) (Yields.eqA rfl rfl (eq_lab ((1 : Int), (0 : BitVec 64)) ((1 : Int), (0 : BitVec 64)))) (by simp)) ?_
 refine OL.dp rfl (OL.dp rfl (OL.det rfl (.ldA rfl rfl (tab_at (tv := 3) (A := some ⟨r, 0, none⟩) (n := gl.length) (c := cap) (r := r1) zM0)) ?_))
 refine OL.call rfl rfl (find_fc (Rd.own (E := 48) (tot := 3 * 3) zM1) gl_small9 (by decide) (by decide)) ?_
 rintro _ Sx ⟨rfl, hSx⟩
 rw [hSx]
 clear hSx
 rw [gl_ac]
 refine OL.call rfl rfl (lab7_fc (2, 1)) ?_
 rintro _ Sx ⟨rfl, hSx⟩
 rw [hSx]
 clear hSx
 refine OL.det rfl (.to (v' := .bool true) (Yields.eqA rfl rfl (eq_lab ((2 : Int), (1 : BitVec 64)) ((2 : Int), (1 : BitVec 64)))) (by simp)) ?_
 refine OL.dp rfl (OL.dp rfl (OL.det rfl (.ldA rfl rfl (tab_at (tv := 3) (A := some ⟨r, 0, none⟩) (n := gl.length) (c := cap) (r := r1) zM0)) ?_))
 refine OL.call rfl rfl (find_fc (Rd.own (E := 48) (tot := 3 * 3) zM1) gl_small9 (by decide) (by decide)) ?_
 rintro _ Sx ⟨rfl, hSx⟩
 rw [hSx]
 clear hSx
 rw [gl_abc]
 refine OL.call rfl rfl (lab7_fc (0, 0)) ?_
 rintro _ Sx ⟨rfl, hSx⟩
 rw [hSx]
 clear hSx
 refine OL.det rfl (.to (v' := .bool true) (Yields.eqA rfl rfl (eq_lab ((0 : Int), (0 : BitVec 64)) ((0 : Int), (0 : BitVec 64)))) (by simp)) ?_
 refine OL.dp rfl (OL.dp rfl (OL.nil (PW.k1 0 rfl (PW.ret ?_))))
 change (Exit.ret = Exit.normal ∨ Exit.ret = Exit.ret) /\ ∃ v, resV _ _ = some v /\ _
 exact ⟨.inr rfl, _, rfl, _, Sub.drop (Sub.drop (Sub.refl _)), rfl, rfl⟩
end Go.Proofs.Rl



namespace Go.SL
open Go.RowKit
section
variable {P : Program} {w0 : World} {n : Nat} {T : TT} {S : SS}
theorem OW.frameCall {f : FuncId} {args : List PV} {vs : List Value} {F : SS} {K : Value -> SS -> Prop} (hv : valsP T args = some vs) (h : FC P w0 f vs (F ++ S) (fun v S' => ∃ seg, S' = seg :: (F ++ S) /\ K v (seg :: S))) :
  OW P w0 n (.call f args) T (F ++ S) (fun v S' => ∃ S1, (F ++ S1).Perm S' /\ K v S1) := by
 refine (OW.call hv h).mono ?_
 rintro v S' ⟨seg, rfl, hk⟩
 exact ⟨seg :: S, List.perm_middle, hk⟩
theorem OW.frameSt {sz : Nat} {x v : PV} {b o E tot k : Nat} {F : SS} {c : List Value} {u : Value} (hx : x.val T = some (.pointer (some ⟨b, o, none⟩))) (hv : v.val T = some u)
  (hk : S[k]? = some [(b, .cells c E tot)]) (hsz : u.cells.size = sz) (hb : o + sz <= c.length) (h1 : u.cells.toList.all (·.oneCell') = true) :
  OW P w0 n (.st sz x v) T (F ++ S) (fun _ S' => ∃ S1, (F ++ S1).Perm S' /\ S1 = S.set k [(b, .cells (setAt c o u.cells.toList) E tot)]) := by
 refine (OW.st (k := F.length + k) hx hv (by rw [List.getElem?_append_right (by omega)]; simpa using hk) hsz hb h1).mono ?_
 rintro _ S' rfl
 refine ⟨_, ?_, rfl⟩
 rw [List.set_append_right _ _ (by omega)]
 simp
end
end Go.SL





namespace Go.Proofs.Rl
open Go.SL Go.RowKit Go.Proofs Go.Proofs.Lb
set_option maxHeartbeats 1000000
def gu : List RuleB := [(⟨#[]⟩, (1, 0)), (⟨#[97]⟩, (3, 0)), (⟨#[97, 47, 98]⟩, (0, 0))]
def gt : List RuleB := [(⟨#[98]⟩, (0, 0)), (⟨#[97]⟩, (0, 0))]
def lA : List LabB := [(0, 0), (2, 1)]
def lB : List LabB := [(0, 0)]
def lC : List LabB := [(0, 0), (1, 0), (2, 1)]
theorem tA : refS (touP gl ⟨#[97]⟩) = lA := by decide +kernel
theorem tB : refS (touP gl ⟨#[97, 47, 98]⟩) = lB := by decide +kernel
theorem tC : refS (touP gl ⟨#[]⟩) = lC := by decide +kernel
theorem wA : withT gl 3 ⟨#[97]⟩ (3, 0) = (0, 4, gu) := by decide +kernel
theorem wB : withT gl 3 ⟨#[97, 47, 47, 98]⟩ (0, 0) = (15, 0, []) := by decide +kernel
theorem wC : withT gl 3 ⟨#[97]⟩ (16, 0) = (2, 0, []) := by decide +kernel
theorem gl_a : findP gl ⟨#[97]⟩ = (2, 1) := by decide +kernel
theorem gl_ab2 : findP gl ⟨#[97, 47, 98]⟩ = (0, 0) := by decide +kernel
theorem gu_ac : findP gu ⟨#[97, 47, 99]⟩ = (3, 0) := by decide +kernel
theorem gu_ab : findP gu ⟨#[97, 47, 98]⟩ = (0, 0) := by decide +kernel
theorem gn_x : findP [] ⟨#[120]⟩ = (0, 0) := by decide +kernel
theorem gt_chk : chkT gt 2 = 2 := by decide +kernel
theorem g_text : textR 3 gl = [118, 51, 10, 49, 58, 48, 32, 10, 50, 58, 49, 32, 97, 10, 48, 58, 48, 32, 97, 47, 98] := by decide +kernel
theorem gu_small9 : ∀ x ∈ gu, x.1.size <= 1000000000 := by decide +kernel
theorem gt_small9 : ∀ x ∈ gt, x.1.size <= 1000000000 := by decide +kernel
theorem slice_eq7 {A B : Option Addr} {n m c d : Nat} (h : Value.slice A n c = .slice B m d) : A = B /\ n = m /\ c = d := by cases h; exact ⟨rfl, rfl, rfl⟩
theorem over_app {F S : SS} : Over S (F ++ S) := fun p hp => by rw [List.flatten_append]; exact List.mem_append_right _ hp
theorem tch_fc {w0 : World} {S : SS} {A : Option Addr} {c : Nat} {p : ByteArray} {L : List LabB} (h : refS (touP gl p) = L) (hx : Rd w0 S A (ruls gl)) (hp : p.size <= 1000000000) :
  FC Tryz.prog w0 13 [tabV 3 A gl.length c, .string p] S (fun v S' => ∃ A' c' seg, v = .slice A' L.length c' /\ S' = seg :: S /\ ∀ S, Rd w0 (seg :: S) A' (labs L)) := by
 subst h; exact touched_fc hx gl_small9 hp (by decide)
def WQ (w0 : World) (L : List RuleB) (tv e : Int) (B : SS) (v : Value) (S1 : SS) : Prop := ∃ A' c' seg, v = .tuple #[tabV tv A' L.length c', .int .i64 e] /\ S1 = seg :: B /\ SlV 48 3 (.slice A' L.length c') L.length (ruls L) seg
theorem wth_fc {w0 : World} {S F : SS} {A : Option Addr} {c : Nat} {p : ByteArray} {x : LabB} {L : List RuleB} {tv e : Int} (h : withT gl 3 p x = (e, tv, L)) (hx : Rd w0 S A (ruls gl)) (hp : p.size <= 1000000000) :
  FC Tryz.prog w0 18 [tabV 3 A gl.length c, .string p, labB x] (F ++ S) (fun v S' => ∃ seg, S' = seg :: (F ++ S) /\ WQ w0 L tv e S v (seg :: S)) := by
 refine (with_fc (hx.mono over_app) gl_small9 hp (by decide) (by decide) (by decide)).mono ?_
 rintro v S' ⟨A', c', seg, h1, h2, h3⟩
 rw [h] at h1 h3
 exact ⟨seg, h2, A', c', seg, h1, rfl, h3⟩
theorem find_fc' {w0 : World} {S : SS} {A : Option Addr} {c : Nat} {tv : Int} {l : List RuleB} {s : ByteArray} {x : LabB} (h : findP l s = x) (hx : Rd w0 S A (ruls l)) (hw : ∀ x ∈ l, x.1.size <= 1000000000) (hs : s.size <= 1000000000) (hl : l.length <= 1000000000) :
  FC Tryz.prog w0 10 [tabV tv A l.length c, .string s] S (fun v S' => v = labB x /\ S' = S) := by subst h; exact find_fc hx hw hs hl
theorem findn_fc {w0 : World} {S : SS} : FC Tryz.prog w0 10 [.agg #[.int .i64 0, .slice none 0 0], .string ⟨#[120]⟩] S (fun v S' => v = labB (0, 0) /\ S' = S) :=
 find_fc' (A := none) (c := 0) (tv := 0) (l := []) gn_x Rd.nil (by simp) (by decide) (by decide)
theorem chkT_fc' {w0 : World} {S : SS} {A : Option Addr} {c : Nat} {tv z : Int} {l : List RuleB} (h : chkT l tv = z) (hx : Rd w0 S A (ruls l)) (hw : ∀ x ∈ l, x.1.size <= 1000000000) (hl : l.length <= 1000000000) :
  FC Tryz.prog w0 7 [tabV tv A l.length c] S (fun v S' => v = .int .i64 z /\ S' = S) := by subst h; exact chkT_fc hx hw hl
theorem rtext_fc' {w0 : World} {S : SS} {A : Option Addr} {c : Nat} {tv : Int} {l : List RuleB} {L : List UInt8} (h : textR tv l = L) (hT : Tabs w0) (hx : Rd w0 S A (ruls l)) (hw : ∀ x ∈ l, x.1.size <= 200) (hl : l.length <= 60) (h0 : -999999999 <= tv) (h1 : tv <= 999999999) :
  FC Tryz.prog w0 15 [tabV tv A l.length c] S (fun v S' => v = .string ⟨L.toArray⟩ /\ S' = S) := by subst h; exact rtext_fc hT hx hw hl h0 h1
set_option maxRecDepth 8000 in
theorem rulesKnown_fc {w0 : World} (hT : Tabs w0) : FC Tryz.prog w0 4 [] [] (fun v _ => v = .bool true) := by
 refine FC.of Tryz.known4 (by simp) ?_
 unfold Tryz.pc4
 simp only [argT]
 refine PW.seqOps (OL.dp rfl (OL.nil (PW.keep (T' := []) trivial (PW.seqOps (OL.call trivial rfl (given_fc) ?_)))))
 rintro _ _ ⟨r, cap, rfl, hcap, rfl⟩
 refine OL.cons trivial OW.al ?_
 rintro _ _ ⟨r1, rfl, rfl⟩
 refine OL.cons trivial (OW.st (k := 0) (u := tabV 3 (some ⟨r, 0, none⟩) gl.length cap) rfl rfl rfl rfl (Nat.le_refl 2) rfl) ?_
 rintro _ _ rfl
 change OL _ _ _ _ _ (tseg r1 3 (some ⟨r, 0, none⟩) gl.length cap :: [(r, .cells (ruls gl) 48 (3 * 3))] :: []) _
 refine OL.nil (PW.k1 1 rfl ?_)
 refine PW.seq fun K1 hK1 => ?_
 refine PW.quietG (Ss := Over (tseg r1 3 (some ⟨r, 0, none⟩) gl.length cap :: [(r, .cells (ruls gl) 48 (3 * 3))] :: [])) (fr := false) [(0, 0), (2, 0), (4, 0), (1, 2), (3, 2)] Tryz.mixed (by decide +kernel) (Over.refl _) (fun h => by cases h) ?_
 refine GL.det trivial (fun Sx hSx => Yields.ldA rfl rfl (tab_at (tv := 3) (A := (some ⟨r, 0, none⟩)) (n := gl.length) (c := cap) (r := r1) (hSx _ zM0))) ?_
 refine GL.det trivial (fun Sx hSx => Yields.ldA rfl rfl (tab_at (tv := 3) (A := (some ⟨r, 0, none⟩)) (n := gl.length) (c := cap) (r := r1) (hSx _ zM0))) ?_
 refine GL.det trivial (fun Sx hSx => Yields.ldA rfl rfl (tab_at (tv := 3) (A := (some ⟨r, 0, none⟩)) (n := gl.length) (c := cap) (r := r1) (hSx _ zM0))) ?_
 refine GL.lo trivial (OW.mono (OW.call rfl (tch_fc tA (Rd.own (E := 48) (tot := 3 * 3) zM1) (by decide))) ?_)
 rintro _ _ ⟨A14, c14, seg14, rfl, rfl, hrd14⟩
 refine ⟨(Over.refl _).cons, ?_⟩
 refine GL.lo trivial (OW.mono (OW.call rfl (tch_fc tB (Rd.own (E := 48) (tot := 3 * 3) zM2) (by decide))) ?_)
 rintro _ _ ⟨A16, c16, seg16, rfl, rfl, hrd16⟩
 refine ⟨(Over.refl _).cons.cons, ?_⟩
 change OL _ _ _ [_, _, _, _] _ _ _
 refine OL.call trivial rfl (tch_fc tC (Rd.own (E := 48) (tot := 3 * 3) zM3) (by decide)) ?_
 rintro _ _ ⟨A18, c18, seg18, rfl, rfl, hrd18⟩
 refine OL.dp rfl (OL.dp rfl (OL.dp rfl (OL.nil (hK1 _ _ (PW.k4 1 2 3 4 rfl ?_)))))
 refine PW.seq fun K2 hK2 => ?_
 refine PW.subS (S' := seg14 :: tseg r1 3 (some ⟨r, 0, none⟩) gl.length cap :: [(r, .cells (ruls gl) 48 (3 * 3))] :: []) (Sub.drop (Sub.drop (Sub.refl _))) ?_
 refine PW.quietG (Ss := Over ((seg14 :: tseg r1 3 (some ⟨r, 0, none⟩) gl.length cap :: [(r, .cells (ruls gl) 48 (3 * 3))] :: []))) (fr := true) [(0, 0), (1, 1), (2, 2), (3, 0), (4, 0), (5, 0), (6, 3), (7, 2)] Tryz.mixed (by decide +kernel) (Over.refl _) (fun _ _ _ h => h.cons) ?_
 refine GL.det trivial (fun Sx hSx => Yields.ldA rfl rfl (tab_at (tv := 3) (A := (some ⟨r, 0, none⟩)) (n := gl.length) (c := cap) (r := r1) (hSx _ zM1))) ?_
 refine GL.call trivial rfl (fun Sx hSx => lab7_fc (3, 0)) ?_
 refine GL.loF trivial fun F => OW.mono (OW.frameCall (K := WQ w0 gu 4 0 (seg14 :: tseg r1 3 (some ⟨r, 0, none⟩) gl.length cap :: [(r, .cells (ruls gl) 48 (3 * 3))] :: [])) rfl (wth_fc wA (Rd.own (E := 48) (tot := 3 * 3) zM2) (by decide))) ?_
 rintro _ _ ⟨S1, hperm, A5, c5, segW, rfl, rfl, hslsegW⟩
 refine ⟨_, hperm, (Over.refl _).cons, ?_⟩
 refine GL.dp rfl ?_
 refine GL.dp rfl ?_
 refine GL.dp rfl ?_
 refine GL.fresh trivial fun r5 => ?_
 refine GL.loF trivial fun F => OW.mono (OW.frameSt (k := 0) (u := tabV 4 A5 gu.length c5) rfl rfl rfl rfl (Nat.le_refl 2) rfl) ?_
 rintro _ _ ⟨S1, hperm, rfl⟩
 refine ⟨_, hperm, (fun q hq => by simp only [List.set_cons_zero, List.flatten_cons, List.mem_append]; right; right; simpa using hq), ?_⟩
 change OL _ _ _ _ _ (tseg r5 4 A5 gu.length c5 :: segW :: seg14 :: tseg r1 3 (some ⟨r, 0, none⟩) gl.length cap :: [(r, .cells (ruls gl) 48 (3 * 3))] :: []) _
 obtain ⟨_, _, eW, _, _, hrdW⟩ := slv_rdL (w0 := w0) hslsegW
 obtain ⟨rfl, _, rfl⟩ := slice_eq7 eW
 change OL _ _ _ [_] _ _ _
 refine OL.dp rfl (OL.nil (hK2 _ _ (PW.k6 1 2 3 4 5 6 rfl ?_)))
 refine PW.seq fun K3 hK3 => ?_
 refine PW.quietG (Ss := Over ((tseg r5 4 A5 gu.length c5 :: segW :: seg14 :: tseg r1 3 (some ⟨r, 0, none⟩) gl.length cap :: [(r, .cells (ruls gl) 48 (3 * 3))] :: []))) (fr := true) [(0, 0), (1, 1), (2, 2), (3, 0), (4, 0), (5, 0), (6, 3), (7, 2)] Tryz.mixed (by decide +kernel) (Over.refl _) (fun _ _ _ h => h.cons) ?_
 refine GL.det trivial (fun Sx hSx => Yields.ldA rfl rfl (tab_at (tv := 3) (A := (some ⟨r, 0, none⟩)) (n := gl.length) (c := cap) (r := r1) (hSx _ zM3))) ?_
 refine GL.call trivial rfl (fun Sx hSx => lab7_fc (0, 0)) ?_
 refine GL.loF trivial fun F => OW.mono (OW.frameCall (K := WQ w0 ([] : List RuleB) 0 15 (tseg r5 4 A5 gu.length c5 :: segW :: seg14 :: tseg r1 3 (some ⟨r, 0, none⟩) gl.length cap :: [(r, .cells (ruls gl) 48 (3 * 3))] :: [])) rfl (wth_fc wB (Rd.own (E := 48) (tot := 3 * 3) zM4) (by decide))) ?_
 rintro _ _ ⟨S1, hperm, A7, c7, segX, rfl, rfl, hslsegX⟩
 refine ⟨_, hperm, (Over.refl _).cons, ?_⟩
 refine GL.dp rfl ?_
 refine GL.dp rfl ?_
 refine GL.dp rfl ?_
 refine GL.fresh trivial fun r7 => ?_
 refine GL.loF trivial fun F => OW.mono (OW.frameSt (k := 0) (u := tabV 0 A7 ([] : List RuleB).length c7) rfl rfl rfl rfl (Nat.le_refl 2) rfl) ?_
 rintro _ _ ⟨S1, hperm, rfl⟩
 refine ⟨_, hperm, (fun q hq => by simp only [List.set_cons_zero, List.flatten_cons, List.mem_append]; right; right; simpa using hq), ?_⟩
 change OL _ _ _ _ _ (tseg r7 0 A7 ([] : List RuleB).length c7 :: segX :: tseg r5 4 A5 gu.length c5 :: segW :: seg14 :: tseg r1 3 (some ⟨r, 0, none⟩) gl.length cap :: [(r, .cells (ruls gl) 48 (3 * 3))] :: []) _
 refine OL.subS (S' := tseg r5 4 A5 gu.length c5 :: segW :: seg14 :: tseg r1 3 (some ⟨r, 0, none⟩) gl.length cap :: [(r, .cells (ruls gl) 48 (3 * 3))] :: []) (Sub.drop (Sub.drop (Sub.refl _))) ?_
 change OL _ _ _ [_] _ _ _
 refine OL.dp rfl (OL.nil (hK3 _ _ (PW.k7 1 2 3 4 5 6 8 rfl ?_)))
 refine PW.seq fun K4 hK4 => ?_
 refine PW.quietG (Ss := Over ((tseg r5 4 A5 gu.length c5 :: segW :: seg14 :: tseg r1 3 (some ⟨r, 0, none⟩) gl.length cap :: [(r, .cells (ruls gl) 48 (3 * 3))] :: []))) (fr := true) [(0, 0), (1, 1), (2, 2), (3, 0), (4, 0), (5, 0), (6, 3), (7, 2)] Tryz.mixed (by decide +kernel) (Over.refl _) (fun _ _ _ h => h.cons) ?_
 refine GL.det trivial (fun Sx hSx => Yields.ldA rfl rfl (tab_at (tv := 3) (A := (some ⟨r, 0, none⟩)) (n := gl.length) (c := cap) (r := r1) (hSx _ zM3))) ?_
 refine GL.call trivial rfl (fun Sx hSx => lab7_fc (16, 0)) ?_
 refine GL.loF trivial fun F => OW.mono (OW.frameCall (K := WQ w0 ([] : List RuleB) 0 2 (tseg r5 4 A5 gu.length c5 :: segW :: seg14 :: tseg r1 3 (some ⟨r, 0, none⟩) gl.length cap :: [(r, .cells (ruls gl) 48 (3 * 3))] :: [])) rfl (wth_fc wC (Rd.own (E := 48) (tot := 3 * 3) zM4) (by decide))) ?_
 rintro _ _ ⟨S1, hperm, A9, c9, segY, rfl, rfl, hslsegY⟩
 refine ⟨_, hperm, (Over.refl _).cons, ?_⟩
 refine GL.dp rfl ?_
 refine GL.dp rfl ?_
 refine GL.dp rfl ?_
 refine GL.fresh trivial fun r9 => ?_
 refine GL.loF trivial fun F => OW.mono (OW.frameSt (k := 0) (u := tabV 0 A9 ([] : List RuleB).length c9) rfl rfl rfl rfl (Nat.le_refl 2) rfl) ?_
 rintro _ _ ⟨S1, hperm, rfl⟩
 refine ⟨_, hperm, (fun q hq => by simp only [List.set_cons_zero, List.flatten_cons, List.mem_append]; right; right; simpa using hq), ?_⟩
 change OL _ _ _ _ _ (tseg r9 0 A9 ([] : List RuleB).length c9 :: segY :: tseg r5 4 A5 gu.length c5 :: segW :: seg14 :: tseg r1 3 (some ⟨r, 0, none⟩) gl.length cap :: [(r, .cells (ruls gl) 48 (3 * 3))] :: []) _
 refine OL.subS (S' := tseg r5 4 A5 gu.length c5 :: segW :: seg14 :: tseg r1 3 (some ⟨r, 0, none⟩) gl.length cap :: [(r, .cells (ruls gl) 48 (3 * 3))] :: []) (Sub.drop (Sub.drop (Sub.refl _))) ?_
 change OL _ _ _ [_] _ _ _
 refine OL.dp rfl (OL.nil (hK4 _ _ (PW.k8 1 2 3 4 5 6 8 10 rfl (PW.seqOps (OL.det trivial (.build rfl) (OL.det trivial (.build rfl) (OL.cons trivial (OW.bsl rfl) ?_)))))))
 rintro _ _ ⟨r39, rfl, rfl⟩
 change OL _ _ _ _ _ ([(r39, .cells (ruls gt) 48 (2 * 3))] :: tseg r5 4 A5 gu.length c5 :: segW :: seg14 :: tseg r1 3 (some ⟨r, 0, none⟩) gl.length cap :: [(r, .cells (ruls gl) 48 (3 * 3))] :: []) _
 refine OL.det trivial (.build rfl) (OL.cons trivial OW.al ?_)
 rintro _ _ ⟨r11, rfl, rfl⟩
 refine OL.cons trivial (OW.st (k := 0) (u := tabV 2 (some ⟨r39, 0, none⟩) gt.length 2) rfl rfl rfl rfl (Nat.le_refl 2) rfl) ?_
 rintro _ _ rfl
 change OL _ _ _ _ _ (tseg r11 2 (some ⟨r39, 0, none⟩) gt.length 2 :: [(r39, .cells (ruls gt) 48 (2 * 3))] :: tseg r5 4 A5 gu.length c5 :: segW :: seg14 :: tseg r1 3 (some ⟨r, 0, none⟩) gl.length cap :: [(r, .cells (ruls gl) 48 (3 * 3))] :: []) _
 refine OL.nil (PW.k9 1 2 3 4 5 6 8 10 11 rfl ?_)
 refine PW.seq fun K5 hK5 => ?_
 refine PW.quietK Tryz.mixed ?_
 obtain ⟨a14, rfl⟩ := labs_some (hrd14 []) (by decide)
 refine QK.call trivial rfl (awake7_fc) (QK.dp rfl (QK.det rfl (.ldA rfl rfl (tab_at (tv := 3) (A := (some ⟨r, 0, none⟩)) (n := gl.length) (c := cap) (r := r1) zM5)) ?_))
 refine QK.call rfl rfl (find_fc' gl_a (Rd.own (E := 48) (tot := 3 * 3) zM6) gl_small9 (by decide) (by decide)) ?_
 refine QK.call rfl rfl (lab7_fc (2, 1)) ?_
 refine QK.det rfl (.to (v' := .bool true) (Yields.eqA rfl rfl (eq_lab ((2 : Int), (1 : BitVec 64)) ((2 : Int), (1 : BitVec 64)))) (by simp)) ?_
 refine QK.dp rfl (QK.dp rfl (QK.det rfl (.ldA rfl rfl (tab_at (tv := 3) (A := (some ⟨r, 0, none⟩)) (n := gl.length) (c := cap) (r := r1) zM5)) ?_))
 refine QK.call rfl rfl (find_fc' gl_ab2 (Rd.own (E := 48) (tot := 3 * 3) zM6) gl_small9 (by decide) (by decide)) ?_
 refine QK.call rfl rfl (lab7_fc (0, 0)) ?_
 refine QK.det rfl (.to (v' := .bool true) (Yields.eqA rfl rfl (eq_lab ((0 : Int), (0 : BitVec 64)) ((0 : Int), (0 : BitVec 64)))) (by simp)) ?_
 refine QK.dp rfl (QK.dp rfl (QK.det rfl (.pure rfl) (QK.det rfl (.pure rfl) (QK.det rfl (.pure rfl) (QK.dp rfl (QK.dp rfl (QK.det rfl (.pure rfl) ?_)))))))
 refine QK.det rfl (.ixN (j := 0) rfl rfl rfl (by decide)) ?_
 refine QK.det rfl (.ldA rfl rfl (labs_at (l := lA) (k := 0) (hrd14 _).cons.cons.cons.cons (by decide))) ?_
 refine QK.call rfl rfl (lab7_fc (0, 0)) ?_
 refine QK.det rfl (.to (v' := .bool true) (Yields.eqA rfl rfl (eq_lab ((0 : Int), (0 : BitVec 64)) ((0 : Int), (0 : BitVec 64)))) (by simp)) ?_
 refine QK.dp rfl (QK.dp rfl (QK.det rfl (.pure rfl) ?_))
 refine QK.det rfl (.ixN (j := 1) rfl rfl rfl (by decide)) ?_
 refine QK.det rfl (.ldA rfl rfl (labs_at (l := lA) (k := 1) (hrd14 _).cons.cons.cons.cons (by decide))) ?_
 refine QK.call rfl rfl (lab7_fc (2, 1)) (QK.nil ?_)
 change OL _ _ _ [_, _, _, _, _, _, _, _, _, _, _, _, _, _, _, _, _, _, _, _, _, _, _, _, _, _, _, _, _, _, _, _, _, _, _, _, _, _, _, _, _, _, _, _, _, _, _, _, _, _, _, _, _, _, _, _, _, _] _ _ _
 refine OL.det rfl (.to (v' := .bool true) (Yields.eqA rfl rfl (eq_lab ((2 : Int), (1 : BitVec 64)) ((2 : Int), (1 : BitVec 64)))) (by simp)) ?_
 refine OL.dp rfl (OL.dp rfl (OL.det rfl (.pure rfl) (OL.det rfl (.pure rfl) (OL.det rfl (.pure rfl) (OL.dp rfl (OL.dp rfl (OL.det rfl (.pure rfl) (OL.det rfl (.pure rfl) (OL.det rfl (.pure rfl) (OL.dp rfl (OL.dp rfl ?_)))))))))))
 refine OL.det rfl (.pure rfl) (OL.det rfl (.pure rfl) (OL.dp rfl (OL.dp rfl (OL.det rfl (.pure rfl) (OL.det rfl (.ld rfl (own_at (j := 0) (c := [.int .i64 4, .slice A5 gu.length c5]) (E := 24) (tot := 2) zM2 rfl)) (OL.det rfl (.pure rfl) (OL.dp rfl (OL.dp rfl (OL.det rfl (.ldA rfl rfl (tab_at (tv := 4) (A := A5) (n := gu.length) (c := c5) (r := r5) zM2)) ?_)))))))))
 refine OL.call rfl rfl (find_fc' gu_ac (hrdW _).cons.cons.cons gu_small9 (by decide) (by decide)) ?_
 rintro _ Sx ⟨rfl, hSx⟩
 rw [hSx]
 clear hSx
 refine OL.call rfl rfl (lab7_fc (3, 0)) ?_
 rintro _ Sx ⟨rfl, hSx⟩
 rw [hSx]
 clear hSx
 refine OL.det rfl (.to (v' := .bool true) (Yields.eqA rfl rfl (eq_lab ((3 : Int), (0 : BitVec 64)) ((3 : Int), (0 : BitVec 64)))) (by simp)) ?_
 refine OL.dp rfl (OL.dp rfl (OL.det rfl (.ldA rfl rfl (tab_at (tv := 4) (A := A5) (n := gu.length) (c := c5) (r := r5) zM2)) ?_))
 refine OL.call rfl rfl (find_fc' gu_ab (hrdW _).cons.cons.cons gu_small9 (by decide) (by decide)) ?_
 rintro _ Sx ⟨rfl, hSx⟩
 rw [hSx]
 clear hSx
 refine OL.call rfl rfl (lab7_fc (0, 0)) ?_
 rintro _ Sx ⟨rfl, hSx⟩
 rw [hSx]
 clear hSx
 refine OL.det rfl (.to (v' := .bool true) (Yields.eqA rfl rfl (eq_lab ((0 : Int), (0 : BitVec 64)) ((0 : Int), (0 : BitVec 64)))) (by simp)) ?_
 refine OL.dp rfl (OL.dp rfl (OL.det rfl (.pure rfl) (OL.det rfl (.pure rfl) (OL.dp rfl (OL.dp rfl (OL.det rfl (.pure rfl) (OL.det rfl (.pure rfl) (OL.dp rfl (OL.dp rfl (OL.det rfl (.ldA rfl rfl (tab_at (tv := 3) (A := (some ⟨r, 0, none⟩)) (n := gl.length) (c := cap) (r := r1) zM5)) ?_))))))))))
 refine OL.call rfl rfl (rtext_fc' g_text hT (Rd.own (E := 48) (tot := 3 * 3) zM6) gl_small (by decide) (by decide) (by decide)) ?_
 rintro _ Sx ⟨rfl, hSx⟩
 rw [hSx]
 clear hSx
 refine OL.det rfl (.to (v' := .bool true) (Yields.pure rfl) (congrArg Value.bool (by decide +kernel))) ?_
 refine OL.dp rfl (OL.dp rfl (OL.det rfl (.ldA rfl rfl (tab_at (tv := 2) (A := (some ⟨r39, 0, none⟩)) (n := gt.length) (c := 2) (r := r11) zM0)) ?_))
 refine OL.call rfl rfl (chkT_fc' gt_chk (Rd.own (E := 48) (tot := 2 * 3) zM1) gt_small9 (by decide)) ?_
 rintro _ Sx ⟨rfl, hSx⟩
 rw [hSx]
 clear hSx
 refine OL.det rfl (.pure rfl) (OL.dp rfl (OL.dp rfl (OL.det rfl (.build rfl) (OL.call rfl rfl (findn_fc) ?_))))
 rintro _ Sx ⟨rfl, hSx⟩
 rw [hSx]
 clear hSx
 refine OL.call rfl rfl (lab7_fc (0, 0)) ?_
 rintro _ Sx ⟨rfl, hSx⟩
 rw [hSx]
 clear hSx
 refine OL.det rfl (.to (v' := .bool true) (Yields.eqA rfl rfl (eq_lab ((0 : Int), (0 : BitVec 64)) ((0 : Int), (0 : BitVec 64)))) (by simp)) ?_
 refine OL.dp rfl (OL.dp rfl (OL.nil (hK5 _ _ (PW.k1 0 rfl (PW.ret ?_)))))
 change (Exit.ret = Exit.normal ∨ Exit.ret = Exit.ret) /\ ∃ v, resV _ _ = some v /\ _
 exact ⟨.inr rfl, _, rfl, rfl⟩
end Go.Proofs.Rl
