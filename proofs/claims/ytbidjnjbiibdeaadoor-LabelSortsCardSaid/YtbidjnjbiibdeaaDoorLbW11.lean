/- Walks and plain facts for the laws of this seat: what each function answers, for every input. -/
import Derived.Test.YtbidjnjbiibdeaaDoorLbW10
set_option linter.unusedVariables false
set_option linter.unusedSimpArgs false
namespace Go.Proofs
open Go.SL Go.RowKit
set_option maxHeartbeats 1000000

/-! the plain law -/
def ltP (a b : LabB) : Prop := a.1 < b.1 ∨ (a.1 = b.1 ∧ a.2.toNat < b.2.toNat)
theorem orZ_lt (a b : LabB) : orZ a b < 0 ↔ ltP a b := by
  have := ltOf_orZ a b
  unfold ltOf at this
  rwa [decide_eq_decide] at this
theorem ltP_tot {a b : LabB} (h1 : ¬ ltP a b) (h2 : ¬ ltP b a) : a = b := by
  unfold ltP at *
  exact Prod.ext (by omega) (BitVec.eq_of_toNat_eq (by omega))
theorem ltP_trans {a b c : LabB} (h1 : ltP a b) (h2 : ltP b c) : ltP a c := by unfold ltP at *; omega
theorem ltP_irr {a : LabB} : ¬ ltP a a := by unfold ltP; omega
theorem uniq : ∀ (l l' : List LabB), l.Pairwise ltP → l'.Pairwise ltP → (∀ x, x ∈ l ↔ x ∈ l') → l = l'
  | [], [], _, _, _ => rfl
  | [], b :: l', _, _, h => absurd ((h b).2 (by simp)) (by simp)
  | a :: l, [], _, _, h => absurd ((h a).1 (by simp)) (by simp)
  | a :: l, b :: l', p, p', h => by
    rw [List.pairwise_cons] at p p'
    obtain rfl : a = b := by
      rcases List.mem_cons.1 ((h a).1 (by simp)) with e | e
      · exact e
      · rcases List.mem_cons.1 ((h b).2 (by simp)) with e' | e'
        · exact e'.symm
        · exact absurd (ltP_trans (p.1 b e') (p'.1 a e)) ltP_irr
    rw [uniq l l' p.2 p'.2 fun x => ?_]
    constructor
    · intro hx
      rcases List.mem_cons.1 ((h x).1 (by simp [hx])) with e | e
      · subst e; exact absurd (p.1 _ hx) ltP_irr
      · exact e
    · intro hx
      rcases List.mem_cons.1 ((h x).2 (by simp [hx])) with e | e
      · subst e; exact absurd (p'.1 _ hx) ltP_irr
      · exact e
theorem mem_insP (a x : LabB) : ∀ l, x ∈ insP a l ↔ x = a ∨ x ∈ l
  | [] => by simp [insP]
  | y :: l => by
    unfold insP
    split
    · simp only [List.mem_cons, mem_insP a x l]
      constructor
      · rintro (h | h | h) <;> simp [h]
      · rintro (h | h | h) <;> simp [h]
    · split
      · rename_i h; subst h; simp
      · simp
theorem pw_insP (a : LabB) : ∀ l, l.Pairwise ltP → (insP a l).Pairwise ltP
  | [], _ => by simp [insP]
  | y :: l, p => by
    have p0 := List.pairwise_cons.1 p
    unfold insP
    split
    · rename_i h
      rw [orZ_lt] at h
      refine List.pairwise_cons.2 ⟨fun z hz => ?_, pw_insP a l p0.2⟩
      rcases (mem_insP a z l).1 hz with rfl | hz
      · exact h
      · exact p0.1 z hz
    · split
      · exact p
      · rename_i h h2
        rw [orZ_lt] at h
        have hay : ltP a y := Classical.byContradiction fun e => h2 (ltP_tot h e)
        refine List.pairwise_cons.2 ⟨fun z hz => ?_, p⟩
        rcases List.mem_cons.1 hz with rfl | hz
        · exact hay
        · exact ltP_trans hay (p0.1 z hz)
theorem refS_ok : ∀ (l acc : List LabB), acc.Pairwise ltP → (l.foldl (fun acc a => insP a acc) acc).Pairwise ltP ∧ ∀ x, x ∈ l.foldl (fun acc a => insP a acc) acc ↔ x ∈ acc ∨ x ∈ l
  | [], acc, p => ⟨p, fun x => by simp⟩
  | a :: l, acc, p => by
    obtain ⟨h1, h2⟩ := refS_ok l (insP a acc) (pw_insP a acc p)
    refine ⟨h1, fun x => ?_⟩
    rw [List.foldl_cons, h2, mem_insP, List.mem_cons]
    constructor
    · rintro ((h | h) | h) <;> simp [h]
    · rintro (h | h | h) <;> simp [h]
theorem dd_ok : ∀ (l acc : List LabB), acc.Pairwise ltP → (∀ y ∈ acc, ∀ x ∈ l, ¬ ltP x y) → l.Pairwise (fun x y => ¬ ltP y x) →
    (l.foldl ddS acc).Pairwise ltP ∧ ∀ x, x ∈ l.foldl ddS acc ↔ x ∈ acc ∨ x ∈ l
  | [], acc, p, _, _ => ⟨p, fun x => by simp⟩
  | a :: l, acc, p, h, q => by
    have q0 := List.pairwise_cons.1 q
    rw [List.foldl_cons]
    by_cases e : acc.getLast? = some a
    · have ha : a ∈ acc := List.mem_of_getLast? e
      rw [show ddS acc a = acc from by unfold ddS; rw [if_pos e]]
      obtain ⟨h1, h2⟩ := dd_ok l acc p (fun y hy x hx => h y hy x (by simp [hx])) q0.2
      refine ⟨h1, fun x => ?_⟩
      rw [h2, List.mem_cons]
      constructor
      · rintro (h | h) <;> simp [h]
      · rintro (h | rfl | h)
        · simp [h]
        · simp [ha]
        · simp [h]
    · rw [show ddS acc a = acc ++ [a] from by unfold ddS; rw [if_neg e]]
      have hlt : ∀ y ∈ acc, ltP y a := by
        intro y hy
        refine Classical.byContradiction fun hn => ?_
        obtain rfl : y = a := ltP_tot hn (h y hy a (by simp))
        obtain ⟨acc', z, rfl⟩ : ∃ acc' z, acc = acc' ++ [z] := ⟨acc.dropLast, acc.getLast (List.ne_nil_of_mem hy), (List.dropLast_concat_getLast _).symm⟩
        rcases List.mem_append.1 hy with hy' | hy'
        · exact h z (by simp) y (by simp) ((List.pairwise_append.1 p).2.2 y hy' z (by simp))
        · obtain rfl := List.mem_singleton.1 hy'
          simp at e
      obtain ⟨h1, h2⟩ := dd_ok l (acc ++ [a]) (List.pairwise_append.2 ⟨p, by simp, fun y hy z hz => by obtain rfl := List.mem_singleton.1 hz; exact hlt y hy⟩)
        (fun y hy x hx => by
          rcases List.mem_append.1 hy with hy | hy
          · exact h y hy x (by simp [hx])
          · obtain rfl := List.mem_singleton.1 hy; exact q0.1 x hx) q0.2
      refine ⟨h1, fun x => ?_⟩
      rw [h2, List.mem_append, List.mem_singleton, List.mem_cons]
      constructor
      · rintro ((h | h) | h) <;> simp [h]
      · rintro (h | h | h) <;> simp [h]
theorem sort_law (l : List LabB) : dd (sortL l) = refS l := by
  have hs : (sortL l).Pairwise (fun x y => ¬ ltP y x) := by
    have := List.pairwise_mergeSort (le := fun x y => !(ltOf orZ) y x) (fun a b c h1 h2 => by
      rw [ltOf_orZ] at *; simp only [Bool.not_eq_true', decide_eq_false_iff_not] at *; omega) (fun a b => by
      rw [ltOf_orZ, ltOf_orZ]; simp only [Bool.or_eq_true, Bool.not_eq_true', decide_eq_false_iff_not]; omega) l
    refine this.imp fun {a b} h => ?_
    rw [ltOf_orZ] at h
    simp only [Bool.not_eq_true', decide_eq_false_iff_not] at h
    exact h
  obtain ⟨h1, h2⟩ := dd_ok (sortL l) [] (by simp) (by simp) hs
  obtain ⟨h3, h4⟩ := refS_ok l [] (by simp)
  refine uniq _ _ h1 h3 fun x => ?_
  rw [show dd (sortL l) = (sortL l).foldl ddS [] from rfl, show refS l = l.foldl (fun acc a => insP a acc) [] from rfl, h2, h4]
  unfold sortL
  simp [List.mem_mergeSort]
/-! the row that is written over -/
def Raw (A : Option Addr) (n : Nat) (seg : Seg) : Prop := n = 0 ∨ ∃ r c tot, A = some ⟨r, 0, none⟩ ∧ seg = [(r, .cells c 24 tot)] ∧ n * 2 ≤ c.length
theorem cut_open {w0 : World} {v : Value} {n : Nat} {l d : List LabB} {seg : Seg} (h : Cut v n l seg) (ht : l.take n = d) : ∃ A cap, v = .slice A n cap ∧ Raw A n seg ∧ ∀ S, Rd w0 (seg :: S) A (labs d) := by
  rcases h with ⟨rfl, rfl, rfl, rfl⟩ | ⟨r, cap, rfl, rfl, h1, h2, h3⟩
  · subst ht
    exact ⟨none, 0, rfl, .inl rfl, fun S => Rd.nil⟩
  · refine ⟨_, cap, rfl, .inr ⟨r, _, _, rfl, rfl, by rw [labs_len]; omega⟩, fun S => ?_⟩
    subst ht
    exact pre_rd (Rd.own (List.mem_flatten.2 ⟨_, List.mem_cons_self .., List.mem_singleton.2 rfl⟩))
theorem sorts_fc {w0 : World} {S : SS} {A : Option Addr} {c : Nat} {l : List LabB} (hg : GlobOk w0 labG) (hx : Rd w0 S A (labs l)) (hc : A = none → c = 0) :
    FC Tryd.prog w0 12 [.slice A l.length c] S (fun v _ => v = .bool true) := by
  refine FC.of Tryd.known12 (by simp) ?_
  unfold Tryd.pc12
  simp only [argT]
  refine PW.seqOps ?_
  refine OL.det trivial (Yields.pure rfl) ?_
  refine OL.nil ?_
  refine PW.keep (T' := [(0, _)]) ⟨rfl, trivial⟩ ?_
  refine PW.seq fun K1 hK1 => ?_
  refine PW.seqOps ?_
  refine OL.det trivial (Yields.pure rfl) ?_
  refine OL.det trivial (Yields.pure rfl) ?_
  refine OL.det trivial (Yields.pure rfl) ?_
  refine OL.nil ?_
  refine PW.keep (T' := [(0, _), (9, _)]) ⟨rfl, rfl, trivial⟩ ?_
  refine PW.cond rfl (fun c9 => ?_) (fun c9 => ?_)
  · try simp only [decide_eq_true_eq, decide_eq_false_iff_not, beq_iff_eq, bne_iff_ne, beq_eq_false_iff_ne, bne_eq_false_iff_eq, Bool.not_eq_true', Bool.not_eq_false', Bool.not_eq_true, ne_eq, Decidable.not_not] at c9
    refine PW.seqOps ?_
    refine OL.call trivial rfl (awake_fc hg) ?_
    rintro _ _ ⟨rfl, _⟩
    refine OL.det trivial (Yields.pure rfl) ?_
    refine OL.nil ?_
    refine PW.keep (T' := [(2, _)]) ⟨rfl, trivial⟩ ?_
    refine PW.ret ?_
    change (Exit.ret = Exit.normal ∨ Exit.ret = Exit.ret) ∧ ∃ v, resV _ _ = some v ∧ _
    exact ⟨.inr rfl, _, rfl, rfl⟩
  · try simp only [decide_eq_true_eq, decide_eq_false_iff_not, beq_iff_eq, bne_iff_ne, beq_eq_false_iff_ne, bne_eq_false_iff_eq, Bool.not_eq_true', Bool.not_eq_false', Bool.not_eq_true, ne_eq, Decidable.not_not] at c9
    have hb : l.length ≤ 100 := by omega
    have hrb := refS_len (l := l) l.length (Nat.le_refl _)
    rw [List.take_length] at hrb
    refine PW.skip ?_
    refine hK1 _ _ ?_
    refine PW.keep (T' := [(0, _)]) ⟨rfl, trivial⟩ ?_
    refine PW.seqOps ?_
    refine OL.cons trivial OW.bsl0 ?_
    rintro _ _ ⟨r11, rfl, rfl⟩
    refine OL.det trivial (Yields.pure rfl) ?_
    refine OL.cons trivial (OW_appL (k := 0) (m := 0) (xs := []) rfl rfl (SlV.mk' (cap := 0) rfl (Nat.le_refl 0) (by decide)) rfl rfl hx.cons hc (by omega)) ?_
    rintro v13 _ ⟨seg13, rfl, hsl13⟩
    change OL _ _ _ _ _ (seg13 :: S) _
    rw [Nat.zero_add, List.nil_append] at hsl13
    obtain ⟨A13, c13, rfl, hA13, hle13, hrd13⟩ := slv_rdL (w0 := w0) hsl13
    refine OL.det trivial (Yields.pure rfl) ?_
    refine OL.nil ?_
    refine PW.keep (T' := [(0, _), (3, _)]) ⟨rfl, rfl, trivial⟩ ?_
    refine PW.seqOps ?_
    refine OL.det trivial (Yields.pure rfl) ?_
    refine OL.call trivial rfl (sorted_fc (hrd13 S) (by omega)) ?_
    rintro v15 _ ⟨seg15, l15, rfl, hcut, ht, hl15⟩
    rw [sort_law] at hcut ht
    obtain ⟨A15, c15, rfl, hraw, hrd15⟩ := cut_open (w0 := w0) hcut ht
    refine OL.det trivial (Yields.pure rfl) ?_
    refine OL.nil ?_
    refine PW.keep (T' := [(0, _), (3, _), (4, _)]) ⟨rfl, rfl, rfl, trivial⟩ ?_
    refine PW.seqOps ?_
    refine OL.det trivial (Yields.pure rfl) ?_
    refine OL.det trivial (Yields.pure rfl) ?_
    refine OL.call trivial rfl (rsorted_fc hx.cons.cons (by omega)) ?_
    rintro v18 _ ⟨seg18, rfl, hsl18⟩
    obtain ⟨A18, c18, rfl, hA18, hle18, hrd18⟩ := slv_rdL (w0 := w0) hsl18
    refine OL.call trivial rfl (same_fc (hrd15 _).cons (hrd18 _) (by omega) (by omega)) ?_
    rintro _ Sx ⟨rfl, hSx⟩
    rw [hSx]
    clear hSx
    rw [decide_eq_true (rfl : refS l = refS l)]
    refine OL.det trivial (Yields.pure rfl) ?_
    refine OL.det rfl (Yields.pure rfl) ?_
    refine OL.det rfl (Yields.pure rfl) ?_
    refine OL.call rfl rfl (same_fc (hrd13 S).cons.cons hx.cons.cons.cons (by omega) (by omega)) ?_
    rintro _ Sx ⟨rfl, hSx⟩
    rw [hSx]
    clear hSx
    rw [decide_eq_true (rfl : l = l)]
    refine OL.det trivial (Yields.pure rfl) ?_
    refine OL.det trivial (Yields.pure rfl) ?_
    refine OL.nil ?_
    refine PW.keep (T' := [(0, _), (3, _), (4, _), (5, _)]) ⟨rfl, rfl, rfl, rfl, trivial⟩ ?_
    refine PW.seq fun K2 hK2 => ?_
    refine PW.seqOps ?_
    refine OL.det trivial (Yields.pure rfl) ?_
    refine OL.nil ?_
    refine PW.keep (T' := [(0, _), (3, _), (4, _), (5, _), (6, _)]) ⟨rfl, rfl, rfl, rfl, rfl, trivial⟩ ?_
    refine PW.block ?_
    refine PW.keep (T' := [(0, _), (3, _), (4, _), (5, _), (6, _)]) ⟨rfl, rfl, rfl, rfl, rfl, trivial⟩ ?_
    refine PW.loopK (I := fun m T S' => ∃ (k : Nat) (sx : Seg), (k ≤ (refS l).length ∧ m = (refS l).length - k ∧ Raw A15 (refS l).length sx) ∧ T = ([(0, .slice A l.length c), (3, .slice A13 l.length c13), (4, .slice A15 (refS l).length c15), (5, .bool true), (6, .int .i64 k)] : TT) ∧ S' = seg18 :: sx :: seg13 :: S) (m := (refS l).length) ⟨0, seg15, ⟨by omega, by omega, hraw⟩, rfl, rfl⟩ ?_
    rintro m _ _ ⟨k, sx, ⟨hk, hm, hrw⟩, rfl, rfl⟩
    refine PW.seq fun K3 hK3 => ?_
    refine PW.seqOps ?_
    refine OL.det trivial (Yields.pure rfl) ?_
    refine OL.det trivial (Yields.pure rfl) ?_
    refine OL.det trivial (Yields.pure rfl) ?_
    refine OL.det trivial (Yields.pure rfl) ?_
    refine OL.nil ?_
    refine PW.keep (T' := [(0, _), (3, _), (4, _), (5, _), (6, _), (28, _)]) ⟨rfl, rfl, rfl, rfl, rfl, rfl, trivial⟩ ?_
    refine PW.cond rfl (fun c28 => ?_) (fun c28 => ?_)
    · try simp only [decide_eq_true_eq, decide_eq_false_iff_not, beq_iff_eq, bne_iff_ne, beq_eq_false_iff_ne, bne_eq_false_iff_eq, Bool.not_eq_true', Bool.not_eq_false', Bool.not_eq_true, ne_eq, Decidable.not_not] at c28
      have hkl : k < (refS l).length := by omega
      obtain ⟨r, cc, tot, rfl, rfl, hcl⟩ := hrw.resolve_left (by omega)
      refine PW.skip ?_
      refine hK3 _ _ ?_
      refine PW.keep (T' := [(0, _), (3, _), (4, _), (5, _), (6, _)]) ⟨rfl, rfl, rfl, rfl, rfl, trivial⟩ ?_
      refine PW.seq fun K4 hK4 => ?_
      refine PW.block ?_
      refine PW.ops ?_
      refine OL.det trivial (Yields.pure rfl) ?_
      refine OL.det trivial (Yields.pure rfl) ?_
      refine OL.det trivial (Yields.ixO rfl rfl rfl (by omega)) ?_
      refine OL.det trivial (Yields.pure rfl) ?_
      refine OL.cons trivial (OW.st (k := 1) (u := .int .i64 99) rfl rfl rfl rfl (by show k * 2 + 1 ≤ cc.length; omega) rfl) ?_
      rintro _ _ rfl
      change OL _ _ _ _ _ (seg18 :: [(r, .cells (setAt cc (k * 2) [.int .i64 99]) 24 tot)] :: seg13 :: S) _
      refine OL.nil ?_
      refine hK4 _ _ ?_
      refine PW.keep (T' := [(0, _), (3, _), (4, _), (5, _), (6, _)]) ⟨rfl, rfl, rfl, rfl, rfl, trivial⟩ ?_
      refine PW.ops ?_
      refine OL.det trivial (Yields.pure rfl) ?_
      refine OL.det trivial (Yields.add64 rfl rfl (by omega) (by omega)) ?_
      refine OL.det trivial (Yields.pure rfl) ?_
      refine OL.nil ?_
      repeat rw [inBlk_n]
      rw [thenK_n]
      refine LoopEnd.mk (T'' := [(0, _), (3, _), (4, _), (5, _), (6, _)]) ⟨rfl, rfl, rfl, rfl, rfl, trivial⟩ ?_
      exact ⟨(refS l).length - (k + 1), by omega, k + 1, _, ⟨by omega, rfl, .inr ⟨r, _, tot, rfl, rfl, by rw [setAt_length]; exact hcl⟩⟩, by simp, rfl⟩
    · try simp only [decide_eq_true_eq, decide_eq_false_iff_not, beq_iff_eq, bne_iff_ne, beq_eq_false_iff_ne, bne_eq_false_iff_eq, Bool.not_eq_true', Bool.not_eq_false', Bool.not_eq_true, ne_eq, Decidable.not_not] at c28
      refine PW.exit ?_
      refine hK2 _ _ ?_
      refine PW.keep (T' := [(0, _), (3, _), (5, _)]) ⟨rfl, rfl, rfl, trivial⟩ ?_
      refine PW.seqOps ?_
      refine OL.det trivial (Yields.pure rfl) ?_
      refine OL.det trivial (Yields.pure rfl) ?_
      refine OL.det rfl (Yields.pure rfl) ?_
      refine OL.det rfl (Yields.pure rfl) ?_
      refine OL.call rfl rfl (same_fc (hrd13 S).cons.cons hx.cons.cons.cons (by omega) (by omega)) ?_
      rintro _ Sx ⟨rfl, hSx⟩
      rw [hSx]
      clear hSx
      rw [decide_eq_true (rfl : l = l)]
      refine OL.det trivial (Yields.pure rfl) ?_
      refine OL.det trivial (Yields.pure rfl) ?_
      refine OL.call rfl rfl (awake_fc hg) ?_
      rintro _ _ ⟨rfl, _⟩
      refine OL.det trivial (Yields.pure rfl) ?_
      refine OL.det trivial (Yields.pure rfl) ?_
      refine OL.nil ?_
      refine PW.keep (T' := [(2, _)]) ⟨rfl, trivial⟩ ?_
      refine PW.ret ?_
      change (Exit.ret = Exit.normal ∨ Exit.ret = Exit.ret) ∧ ∃ v, resV _ _ = some v ∧ _
      exact ⟨.inr rfl, _, rfl, rfl⟩

end Go.Proofs
