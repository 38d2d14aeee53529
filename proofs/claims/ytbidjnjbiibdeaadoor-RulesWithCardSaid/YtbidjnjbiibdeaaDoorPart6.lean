/- Walks and plain facts for the laws of this seat: what each function answers, for every input. -/
import Derived.Test.YtbidjnjbiibdeaaDoorPart5

set_option linter.unusedVariables false
set_option linter.unusedSimpArgs false
namespace Go.Proofs.Rl
open Go.SL Go.RowKit Go.Proofs Go.Proofs.Lb
set_option maxHeartbeats 1000000
theorem bl_irrefl : ∀ a : List UInt8, Op.bytesLess a a = false
  | [] => rfl
  | x :: a => by simp [Op.bytesLess, bl_irrefl a]
theorem bl_trans : ∀ a b c : List UInt8, Op.bytesLess a b = true → Op.bytesLess b c = true → Op.bytesLess a c = true
  | a, b, [], _, h => by cases b <;> simp [Op.bytesLess] at h
  | [], b, x :: c, _, _ => rfl
  | y :: a, [], x :: c, h, _ => by simp [Op.bytesLess] at h
  | y :: a, z :: b, x :: c, h, k => by
    simp only [Op.bytesLess, Bool.or_eq_true, decide_eq_true_eq, Bool.and_eq_true, beq_iff_eq] at h k ⊢
    rcases h with h | ⟨rfl, h⟩ <;> rcases k with k | ⟨rfl, k⟩
    · exact .inl (UInt8.lt_trans h k)
    · exact .inl h
    · exact .inl k
    · exact .inr ⟨rfl, bl_trans a b c h k⟩
theorem bl_total : ∀ a b : List UInt8, Op.bytesLess a b = false → a = b ∨ Op.bytesLess b a = true
  | [], [], _ => .inl rfl
  | [], _ :: _, h => by simp [Op.bytesLess] at h
  | _ :: _, [], _ => .inr rfl
  | x :: a, y :: b, h => by
    simp only [Op.bytesLess, Bool.or_eq_false_iff, decide_eq_false_iff_not] at h ⊢
    obtain ⟨h1, h2⟩ := h
    by_cases e : x = y
    · subst e
      simp only [beq_self_eq_true, Bool.true_and] at h2
      rcases bl_total a b h2 with rfl | h3
      · exact .inl rfl
      · right; simp [h3]
    · right
      have : y < x := by
        rcases UInt8.lt_or_lt_of_ne e with h | h
        · exact absurd h h1
        · exact h
      simp [this]
theorem lt_irrefl (a : ByteArray) : ltB a a = false := bl_irrefl _
theorem lt_trans {a b c : ByteArray} (h : ltB a b = true) (k : ltB b c = true) : ltB a c = true := bl_trans _ _ _ h k
theorem lt_total {a b : ByteArray} (h : ltB a b = false) : a = b ∨ ltB b a = true := by
  rcases bl_total _ _ h with h | h
  · exact .inl (toL_inj.1 h)
  · exact .inr h
def prefB (s : ByteArray) : Bool := decide (s = ⟨#[]⟩) || isP s
theorem pref_chk (s : ByteArray) : (Go.Proofs.chkP s == 0) = isP s := by
  unfold Go.Proofs.chkP
  cases isP s <;> simp
def okL (a : LabB) : Bool := decide (0 ≤ a.1) && decide (a.1 ≤ 15)
theorem okL_chk (a : LabB) : Go.Proofs.Lb.chkP a.1 = 0 ↔ okL a = true := by
  unfold Go.Proofs.Lb.chkP okL
  split <;> simp <;> omega
def okAt (l : List RuleB) (i : Nat) : Bool := (decide (i = 0) || ltB l[i - 1]!.1 l[i]!.1) && prefB l[i]!.1 && okL l[i]!.2
def chkT (l : List RuleB) (tv : Int) : Int := if 32 < l.length ∨ tv < (l.length : Int) then 2 else if (List.range l.length).all (okAt l) = true then 0 else 2
def rokAt (l : List RuleB) (i : Nat) : Bool := prefB l[i]!.1 && okL l[i]!.2 && (List.range i).all fun j => ltB l[j]!.1 l[i]!.1
def chkR (l : List RuleB) (tv : Int) : Int := if 32 < l.length ∨ tv < (l.length : Int) then 2 else if (List.range l.length).all (rokAt l) = true then 0 else 2
theorem all_bad {f : Nat → Bool} {n k : Nat} (hk : k < n) (h : f k = false) : ¬ (List.range n).all f = true := by
  intro h2
  have := List.all_eq_true.1 h2 k (List.mem_range.2 hk)
  rw [h] at this; cases this
theorem all_succ {f : Nat → Bool} {k : Nat} (h : (List.range k).all f = true) (h2 : f k = true) : (List.range (k + 1)).all f = true := by
  rw [List.range_succ, List.all_append, h]; simp [h2]
abbrev tsegR (r : Nat) (v : Int) (A : Option Addr) (n c : Nat) : Seg := [(r, .cells [.int .i64 v, .slice A n c] 50 2)]
theorem tabR_at {w0 : World} {S : SS} {r : Nat} {tv : Int} {A : Option Addr} {n c : Nat} (hm : (r, AO.cells [.int .i64 tv, .slice A n c] 50 2) ∈ S.flatten) :
    ∀ (j : Nat) (v : Value), [Value.int .i64 tv, .slice A n c][j]? = some v → Cell w0 S ((⟨r, 0, none⟩ : Addr).add j) v := fun j v hj => (Rd.own hm).at hj
theorem prefB_fc {w0 : World} {S : SS} {s : ByteArray} (hs : s.size ≤ 1000000000) : FC Tryd.prog w0 70 [.string s] S (fun v S' => v = .bool (prefB s) ∧ S' = S) := by
  refine FC.of Tryd.known70 (by simp) ?_
  unfold Tryd.pc70
  simp only [argT]
  refine PW.seqOps ?_
  refine OL.det trivial (Yields.pure rfl) ?_
  refine OL.nil ?_
  refine PW.keep (T' := [(0, _)]) ⟨rfl, trivial⟩ ?_
  refine PW.seqOps ?_
  refine OL.det trivial (Yields.pure rfl) ?_
  refine OL.det trivial (Yields.pure rfl) ?_
  refine OL.bool trivial (Yields.pure rfl) (fun g5 => ?_) (fun g5 => ?_)
  · try simp only [decide_eq_true_eq, decide_eq_false_iff_not, beq_iff_eq, bne_iff_ne, beq_eq_false_iff_ne, bne_eq_false_iff_eq, Bool.not_eq_true', Bool.not_eq_false', Bool.not_eq_true, ne_eq, Decidable.not_not] at g5
    rw [toL_inj] at g5
    refine OL.off rfl rfl ?_
    refine OL.off rfl rfl ?_
    refine OL.off rfl rfl ?_
    refine OL.det trivial (Yields.pure rfl) ?_
    refine OL.det trivial (Yields.pure rfl) ?_
    refine OL.nil ?_
    refine PW.keep (T' := [(2, _)]) ⟨rfl, trivial⟩ ?_
    refine PW.ret ?_
    change (Exit.ret = Exit.normal ∨ Exit.ret = Exit.ret) ∧ ∃ v, resV _ _ = some v ∧ _
    exact ⟨.inr rfl, _, rfl, by unfold prefB; first | (rw [decide_eq_true g5]; rfl) | (rw [decide_eq_false g5, ← pref_chk]; rfl), rfl⟩
  · try simp only [decide_eq_true_eq, decide_eq_false_iff_not, beq_iff_eq, bne_iff_ne, beq_eq_false_iff_ne, bne_eq_false_iff_eq, Bool.not_eq_true', Bool.not_eq_false', Bool.not_eq_true, ne_eq, Decidable.not_not] at g5
    rw [toL_inj] at g5
    refine OL.det rfl (Yields.pure rfl) ?_
    refine OL.call rfl rfl (check_fc hs) ?_
    rintro _ Sx ⟨rfl, hSx⟩
    rw [hSx]
    clear hSx
    refine OL.det rfl (Yields.pure rfl) ?_
    refine OL.det trivial (Yields.pure rfl) ?_
    refine OL.det trivial (Yields.pure rfl) ?_
    refine OL.nil ?_
    refine PW.keep (T' := [(2, _)]) ⟨rfl, trivial⟩ ?_
    refine PW.ret ?_
    change (Exit.ret = Exit.normal ∨ Exit.ret = Exit.ret) ∧ ∃ v, resV _ _ = some v ∧ _
    exact ⟨.inr rfl, _, rfl, by unfold prefB; first | (rw [decide_eq_true g5]; rfl) | (rw [decide_eq_false g5, ← pref_chk]; rfl), rfl⟩
theorem rprefB_fc {w0 : World} {S : SS} {s : ByteArray} (hs : s.size ≤ 1000000000) : FC Tryd.prog w0 75 [.string s] S (fun v S' => v = .bool (prefB s) ∧ S' = S) := by
  refine FC.of Tryd.known75 (by simp) ?_
  unfold Tryd.pc75
  simp only [argT]
  refine PW.seqOps ?_
  refine OL.det trivial (Yields.pure rfl) ?_
  refine OL.nil ?_
  refine PW.keep (T' := [(0, _)]) ⟨rfl, trivial⟩ ?_
  refine PW.seqOps ?_
  refine OL.det trivial (Yields.pure rfl) ?_
  refine OL.det trivial (Yields.pure rfl) ?_
  refine OL.bool trivial (Yields.pure rfl) (fun g5 => ?_) (fun g5 => ?_)
  · try simp only [decide_eq_true_eq, decide_eq_false_iff_not, beq_iff_eq, bne_iff_ne, beq_eq_false_iff_ne, bne_eq_false_iff_eq, Bool.not_eq_true', Bool.not_eq_false', Bool.not_eq_true, ne_eq, Decidable.not_not] at g5
    rw [toL_inj] at g5
    refine OL.off rfl rfl ?_
    refine OL.off rfl rfl ?_
    refine OL.off rfl rfl ?_
    refine OL.det trivial (Yields.pure rfl) ?_
    refine OL.det trivial (Yields.pure rfl) ?_
    refine OL.nil ?_
    refine PW.keep (T' := [(2, _)]) ⟨rfl, trivial⟩ ?_
    refine PW.ret ?_
    change (Exit.ret = Exit.normal ∨ Exit.ret = Exit.ret) ∧ ∃ v, resV _ _ = some v ∧ _
    exact ⟨.inr rfl, _, rfl, by unfold prefB; first | (rw [decide_eq_true g5]; rfl) | (rw [decide_eq_false g5, ← pref_chk]; rfl), rfl⟩
  · try simp only [decide_eq_true_eq, decide_eq_false_iff_not, beq_iff_eq, bne_iff_ne, beq_eq_false_iff_ne, bne_eq_false_iff_eq, Bool.not_eq_true', Bool.not_eq_false', Bool.not_eq_true, ne_eq, Decidable.not_not] at g5
    rw [toL_inj] at g5
    refine OL.det rfl (Yields.pure rfl) ?_
    refine OL.call rfl rfl (rcheck_fc hs) ?_
    rintro _ Sx ⟨rfl, hSx⟩
    rw [hSx]
    clear hSx
    refine OL.det rfl (Yields.pure rfl) ?_
    refine OL.det trivial (Yields.pure rfl) ?_
    refine OL.det trivial (Yields.pure rfl) ?_
    refine OL.nil ?_
    refine PW.keep (T' := [(2, _)]) ⟨rfl, trivial⟩ ?_
    refine PW.ret ?_
    change (Exit.ret = Exit.normal ∨ Exit.ret = Exit.ret) ∧ ∃ v, resV _ _ = some v ∧ _
    exact ⟨.inr rfl, _, rfl, by unfold prefB; first | (rw [decide_eq_true g5]; rfl) | (rw [decide_eq_false g5, ← pref_chk]; rfl), rfl⟩
theorem chkT_fc {w0 : World} {S : SS} {A : Option Addr} {c : Nat} {tv : Int} {l : List RuleB} (hx : Rd w0 S A (ruls l)) (hw : ∀ x ∈ l, x.1.size ≤ 1000000000) (hl : l.length ≤ 1000000000) :
    FC Tryd.prog w0 47 [tabV tv A l.length c] S (fun v S' => v = .int .i64 (chkT l tv) ∧ S' = S) := by
  refine FC.ofD Tryd.known47 (by simp) ?_
  unfold Tryd.pc47
  simp only [argT]
  refine PW.seqOps ?_
  refine OL.cons trivial (OW.bx rfl) ?_
  rintro _ _ ⟨r1, rfl, rfl⟩
  change OL _ _ _ _ _ (tseg r1 tv A l.length c :: S) _
  refine OL.det trivial (Yields.pure rfl) ?_
  refine OL.nil ?_
  refine PW.keep (T' := [(1, _)]) ⟨rfl, trivial⟩ ?_
  refine PW.seq fun K1 hK1 => ?_
  refine PW.seqOps ?_
  refine OL.det trivial (Yields.pure rfl) ?_
  refine OL.det trivial (Yields.ld rfl (own_at (j := 1) (c := [.int .i64 tv, .slice A l.length c]) (E := 45) (tot := 2) (List.mem_flatten.2 ⟨_, .head _, List.mem_singleton.2 rfl⟩) rfl)) ?_
  refine OL.det trivial (Yields.pure rfl) ?_
  refine OL.det trivial (Yields.pure rfl) ?_
  refine OL.bool trivial (Yields.pure rfl) (fun g9 => ?_) (fun g9 => ?_)
  · try simp only [decide_eq_true_eq, decide_eq_false_iff_not, beq_iff_eq, bne_iff_ne, beq_eq_false_iff_ne, bne_eq_false_iff_eq, Bool.not_eq_true', Bool.not_eq_false', Bool.not_eq_true, ne_eq, Decidable.not_not] at g9
    refine OL.off rfl rfl ?_
    refine OL.off rfl rfl ?_
    refine OL.off rfl rfl ?_
    refine OL.off rfl rfl ?_
    refine OL.off rfl rfl ?_
    refine OL.off rfl rfl ?_
    refine OL.det trivial (Yields.pure rfl) ?_
    refine OL.nil ?_
    refine PW.keep (T' := [(1, _), (16, _)]) ⟨rfl, rfl, trivial⟩ ?_
    refine PW.ite (b := true) rfl ?_
    rw [if_pos rfl]
    refine PW.seqOps ?_
    refine OL.det trivial (Yields.pure rfl) ?_
    refine OL.nil ?_
    refine PW.keep (T' := [(2, _)]) ⟨rfl, trivial⟩ ?_
    refine PW.ret ?_
    change (Exit.ret = Exit.normal ∨ Exit.ret = Exit.ret) ∧ ∃ v, resV _ _ = some v ∧ _
    exact ⟨.inr rfl, _, rfl, _, Sub.drop (Sub.refl _), by unfold chkT; rw [if_pos (by omega)], rfl⟩
  · try simp only [decide_eq_true_eq, decide_eq_false_iff_not, beq_iff_eq, bne_iff_ne, beq_eq_false_iff_ne, bne_eq_false_iff_eq, Bool.not_eq_true', Bool.not_eq_false', Bool.not_eq_true, ne_eq, Decidable.not_not] at g9
    refine OL.det rfl (Yields.pure rfl) ?_
    refine OL.det rfl (Yields.ld rfl (own_at (j := 0) (c := [.int .i64 tv, .slice A l.length c]) (E := 45) (tot := 2) (List.mem_flatten.2 ⟨_, .head _, List.mem_singleton.2 rfl⟩) rfl)) ?_
    refine OL.det rfl (Yields.pure rfl) ?_
    refine OL.det rfl (Yields.ld rfl (own_at (j := 1) (c := [.int .i64 tv, .slice A l.length c]) (E := 45) (tot := 2) (List.mem_flatten.2 ⟨_, .head _, List.mem_singleton.2 rfl⟩) rfl)) ?_
    refine OL.det rfl (Yields.pure rfl) ?_
    refine OL.det rfl (Yields.pure rfl) ?_
    refine OL.det trivial (Yields.pure rfl) ?_
    refine OL.nil ?_
    refine PW.keep (T' := [(1, _), (16, _)]) ⟨rfl, rfl, trivial⟩ ?_
    refine PW.cond rfl (fun c16 => ?_) (fun c16 => ?_)
    · try simp only [decide_eq_true_eq, decide_eq_false_iff_not, beq_iff_eq, bne_iff_ne, beq_eq_false_iff_ne, bne_eq_false_iff_eq, Bool.not_eq_true', Bool.not_eq_false', Bool.not_eq_true, ne_eq, Decidable.not_not] at c16
      refine PW.seqOps ?_
      refine OL.det trivial (Yields.pure rfl) ?_
      refine OL.nil ?_
      refine PW.keep (T' := [(2, _)]) ⟨rfl, trivial⟩ ?_
      refine PW.ret ?_
      change (Exit.ret = Exit.normal ∨ Exit.ret = Exit.ret) ∧ ∃ v, resV _ _ = some v ∧ _
      exact ⟨.inr rfl, _, rfl, _, Sub.drop (Sub.refl _), by unfold chkT; rw [if_pos (by omega)], rfl⟩
    · try simp only [decide_eq_true_eq, decide_eq_false_iff_not, beq_iff_eq, bne_iff_ne, beq_eq_false_iff_ne, bne_eq_false_iff_eq, Bool.not_eq_true', Bool.not_eq_false', Bool.not_eq_true, ne_eq, Decidable.not_not] at c16
      refine PW.skip ?_
      refine hK1 _ _ ?_
      refine PW.keep (T' := [(1, _)]) ⟨rfl, trivial⟩ ?_
      refine PW.seq fun K2 hK2 => ?_
      refine PW.seqOps ?_
      refine OL.det trivial (Yields.pure rfl) ?_
      refine OL.det trivial (Yields.ld rfl (own_at (j := 1) (c := [.int .i64 tv, .slice A l.length c]) (E := 45) (tot := 2) (List.mem_flatten.2 ⟨_, .head _, List.mem_singleton.2 rfl⟩) rfl)) ?_
      refine OL.det trivial (Yields.pure rfl) ?_
      refine OL.det trivial (Yields.pure rfl) ?_
      refine OL.nil ?_
      refine PW.keep (T' := [(1, _), (18, _), (19, _), (20, _)]) ⟨rfl, rfl, rfl, rfl, trivial⟩ ?_
      refine PW.block ?_
      refine PW.keep (T' := [(1, _), (18, _), (19, _), (20, _)]) ⟨rfl, rfl, rfl, rfl, trivial⟩ ?_
      refine PW.loopK (I := fun m T S' => ∃ (k : Nat), (k ≤ l.length ∧ m = l.length - k ∧ (List.range k).all (okAt l) = true) ∧ T = ([(1, .pointer (some ⟨r1, 0, none⟩)), (18, .slice A l.length c), (19, .int .i64 (l.length : Int)), (20, .int .i64 k)] : TT) ∧ S' = tseg r1 tv A l.length c :: S) (m := l.length) ⟨0, ⟨by omega, by omega, rfl⟩, rfl, rfl⟩ ?_
      rintro m _ _ ⟨k, ⟨hk, hm, hall⟩, rfl, rfl⟩
      refine PW.seqOps ?_
      refine OL.det trivial (Yields.pure rfl) ?_
      refine OL.nil ?_
      refine PW.keep (T' := [(1, _), (18, _), (19, _), (20, _), (21, _)]) ⟨rfl, rfl, rfl, rfl, rfl, trivial⟩ ?_
      refine PW.seq fun K3 hK3 => ?_
      refine PW.cond rfl (fun c21 => ?_) (fun c21 => ?_)
      · try simp only [decide_eq_true_eq, decide_eq_false_iff_not, beq_iff_eq, bne_iff_ne, beq_eq_false_iff_ne, bne_eq_false_iff_eq, Bool.not_eq_true', Bool.not_eq_false', Bool.not_eq_true, ne_eq, Decidable.not_not] at c21
        have hkl : k < l.length := by omega
        obtain ⟨a0, rfl⟩ := ruls_some hx (by omega)
        have hwk := hw _ (List.getElem_mem hkl)
        refine PW.skip ?_
        refine hK3 _ _ ?_
        refine PW.keep (T' := [(1, _), (18, _), (19, _), (20, _)]) ⟨rfl, rfl, rfl, rfl, trivial⟩ ?_
        refine PW.seq fun K4 hK4 => ?_
        refine PW.block ?_
        refine PW.seqOps ?_
        refine OL.det trivial (Yields.pure rfl) ?_
        refine OL.det trivial (Yields.ixN rfl rfl rfl (by omega)) ?_
        refine OL.det trivial (Yields.ldA rfl (cs := ruleC l[k]) rfl (rule_at hx.cons hkl)) ?_
        refine OL.cons trivial OW.al ?_
        rintro _ _ ⟨r4, rfl, rfl⟩
        refine OL.det trivial (Yields.pure rfl) ?_
        refine OL.cons trivial (OW.st (k := 0) rfl rfl rfl rfl (by decide) rfl) ?_
        rintro _ _ rfl
        change OL _ _ _ _ _ (rseg r4 l[k] :: tseg r1 tv (some a0) l.length c :: S) _
        refine OL.nil ?_
        refine PW.keep (T' := [(1, _), (3, _), (4, _), (18, _), (19, _), (20, _)]) ⟨rfl, rfl, rfl, rfl, rfl, rfl, trivial⟩ ?_
        refine PW.seq fun K5 hK5 => ?_
        refine PW.quietK Tryd.mixed ?_
        refine QK.det trivial (Yields.pure rfl) ?_
        refine QK.det trivial (Yields.pure rfl) ?_
        refine QK.bool trivial (Yields.pure rfl) (fun g27 => ?_) (fun g27 => ?_)
        · try simp only [decide_eq_true_eq, decide_eq_false_iff_not, beq_iff_eq, bne_iff_ne, beq_eq_false_iff_ne, bne_eq_false_iff_eq, Bool.not_eq_true', Bool.not_eq_false', Bool.not_eq_true, ne_eq, Decidable.not_not] at g27
          refine QK.det rfl (Yields.pure rfl) ?_
          refine QK.det rfl (Yields.ld rfl (own_at (j := 1) (c := [.int .i64 tv, .slice (some a0) l.length c]) (E := 45) (tot := 2) (List.mem_flatten.2 ⟨_, .tail _ (.head _), List.mem_singleton.2 rfl⟩) rfl)) ?_
          refine QK.det rfl (Yields.pure rfl) ?_
          refine QK.det rfl (Yields.sub64 rfl rfl (by omega) (by omega)) ?_
          refine QK.det rfl (Yields.ixN rfl rfl (show (k : Int) - 1 = ((k - 1 : Nat) : Int) from by omega) (by omega)) ?_
          refine QK.det rfl (Yields.pure rfl) ?_
          refine QK.det rfl (Yields.ld rfl (rule_at hx.cons.cons (show k - 1 < l.length from by omega) 0 _ rfl)) ?_
          refine QK.det rfl (Yields.pure rfl) ?_
          refine QK.det rfl (Yields.ld rfl (own_at (j := 0) (c := ruleC l[k]) (E := 56) (tot := 3) (List.mem_flatten.2 ⟨_, .head _, List.mem_singleton.2 rfl⟩) rfl)) ?_
          refine QK.nil ?_
          change OL _ _ _ [_, _, _, _, _, _, _, _, _, _, _, _, _, _] _ _ _
          refine OL.det rfl (Yields.pure rfl) ?_
          refine OL.det trivial (Yields.pure rfl) ?_
          refine OL.bool trivial (Yields.pure rfl) (fun g39 => ?_) (fun g39 => ?_)
          · try simp only [decide_eq_true_eq, decide_eq_false_iff_not, beq_iff_eq, bne_iff_ne, beq_eq_false_iff_ne, bne_eq_false_iff_eq, Bool.not_eq_true', Bool.not_eq_false', Bool.not_eq_true, ne_eq, Decidable.not_not] at g39
            have hbad : okAt l k = false := by
              unfold okAt
              rw [(getElem!_pos l k hkl), getElem!_pos l (k - 1) (by omega), decide_eq_false (by omega : ¬ k = 0)]
              have e : ltB l[k - 1].1 l[k].1 = false := by simpa [ltB] using g39
              rw [e]; rfl
            refine OL.off rfl rfl ?_
            refine OL.off rfl rfl ?_
            refine OL.off rfl rfl ?_
            refine OL.off rfl rfl ?_
            refine OL.det trivial (Yields.pure rfl) ?_
            refine OL.det trivial (Yields.pure rfl) ?_
            refine OL.off rfl rfl ?_
            refine OL.off rfl rfl ?_
            refine OL.off rfl rfl ?_
            refine OL.off rfl rfl ?_
            refine OL.det trivial (Yields.pure rfl) ?_
            refine OL.nil ?_
            refine hK5 _ _ ?_
            refine PW.keep (T' := [(1, _), (18, _), (19, _), (20, _), (50, _)]) ⟨rfl, rfl, rfl, rfl, rfl, trivial⟩ ?_
            refine PW.ite (b := true) rfl ?_
            rw [if_pos rfl]
            refine PW.seqOps ?_
            refine OL.det trivial (Yields.pure rfl) ?_
            refine OL.nil ?_
            refine PW.keep (T' := [(2, _)]) ⟨rfl, trivial⟩ ?_
            refine PW.ret ?_
            change (Exit.ret = Exit.normal ∨ Exit.ret = Exit.ret) ∧ ∃ v, resV _ _ = some v ∧ _
            exact ⟨.inr rfl, _, rfl, _, Sub.drop (Sub.drop (Sub.refl _)), by unfold chkT; rw [if_neg (by omega), if_neg (all_bad hkl hbad)], rfl⟩
          · try simp only [decide_eq_true_eq, decide_eq_false_iff_not, beq_iff_eq, bne_iff_ne, beq_eq_false_iff_ne, bne_eq_false_iff_eq, Bool.not_eq_true', Bool.not_eq_false', Bool.not_eq_true, ne_eq, Decidable.not_not] at g39
            have hs1 : (decide (k = 0) || ltB l[k - 1]!.1 l[k].1) = true := by
              rw [getElem!_pos l (k - 1) (by omega)]
              have e : ltB l[k - 1].1 l[k].1 = true := by simpa [ltB] using g39
              rw [e, Bool.or_true]
            refine OL.det rfl (Yields.pure rfl) ?_
            refine OL.det rfl (Yields.ld rfl (own_at (j := 0) (c := ruleC l[k]) (E := 56) (tot := 3) (List.mem_flatten.2 ⟨_, .head _, List.mem_singleton.2 rfl⟩) rfl)) ?_
            refine OL.call rfl rfl (prefB_fc hwk) ?_
            rintro _ Sx ⟨rfl, hSx⟩
            rw [hSx]
            clear hSx
            refine OL.det rfl (Yields.pure rfl) ?_
            refine OL.det trivial (Yields.pure rfl) ?_
            refine OL.bool trivial (Yields.pure rfl) (fun g45 => ?_) (fun g45 => ?_)
            · try simp only [decide_eq_true_eq, decide_eq_false_iff_not, beq_iff_eq, bne_iff_ne, beq_eq_false_iff_ne, bne_eq_false_iff_eq, Bool.not_eq_true', Bool.not_eq_false', Bool.not_eq_true, ne_eq, Decidable.not_not] at g45
              have hbad : okAt l k = false := by
                unfold okAt
                rw [(getElem!_pos l k hkl), show prefB l[k].1 = false by simpa using g45]
                simp
              refine OL.off rfl rfl ?_
              refine OL.off rfl rfl ?_
              refine OL.off rfl rfl ?_
              refine OL.off rfl rfl ?_
              refine OL.det trivial (Yields.pure rfl) ?_
              refine OL.nil ?_
              refine hK5 _ _ ?_
              refine PW.keep (T' := [(1, _), (18, _), (19, _), (20, _), (50, _)]) ⟨rfl, rfl, rfl, rfl, rfl, trivial⟩ ?_
              refine PW.ite (b := true) rfl ?_
              rw [if_pos rfl]
              refine PW.seqOps ?_
              refine OL.det trivial (Yields.pure rfl) ?_
              refine OL.nil ?_
              refine PW.keep (T' := [(2, _)]) ⟨rfl, trivial⟩ ?_
              refine PW.ret ?_
              change (Exit.ret = Exit.normal ∨ Exit.ret = Exit.ret) ∧ ∃ v, resV _ _ = some v ∧ _
              exact ⟨.inr rfl, _, rfl, _, Sub.drop (Sub.drop (Sub.refl _)), by unfold chkT; rw [if_neg (by omega), if_neg (all_bad hkl hbad)], rfl⟩
            · try simp only [decide_eq_true_eq, decide_eq_false_iff_not, beq_iff_eq, bne_iff_ne, beq_eq_false_iff_ne, bne_eq_false_iff_eq, Bool.not_eq_true', Bool.not_eq_false', Bool.not_eq_true, ne_eq, Decidable.not_not] at g45
              have hs2 : prefB l[k].1 = true := by simpa using g45
              refine OL.det rfl (Yields.pure rfl) ?_
              refine OL.det rfl (Yields.ldA rfl rfl (rseg_at (x := l[k]))) ?_
              refine OL.call rfl rfl (check_lab (a := (l[k].2.1, (l[k].2.2.toNat)))) ?_
              rintro _ Sx ⟨rfl, hSx⟩
              rw [hSx]
              clear hSx
              refine OL.det rfl (Yields.pure rfl) ?_
              refine OL.det trivial (Yields.pure rfl) ?_
              refine OL.nil ?_
              refine hK5 _ _ ?_
              refine PW.keep (T' := [(1, _), (18, _), (19, _), (20, _), (50, _)]) ⟨rfl, rfl, rfl, rfl, rfl, trivial⟩ ?_
              refine PW.cond rfl (fun c50 => ?_) (fun c50 => ?_)
              · try simp only [decide_eq_true_eq, decide_eq_false_iff_not, beq_iff_eq, bne_iff_ne, beq_eq_false_iff_ne, bne_eq_false_iff_eq, Bool.not_eq_true', Bool.not_eq_false', Bool.not_eq_true, ne_eq, Decidable.not_not] at c50
                have hbad : okAt l k = false := by
                  have h0 : okL l[k].2 = false := by rw [Bool.eq_false_iff, Ne, ← okL_chk]; exact c50
                  unfold okAt; rw [(getElem!_pos l k hkl), h0, Bool.and_false]
                refine PW.seqOps ?_
                refine OL.det trivial (Yields.pure rfl) ?_
                refine OL.nil ?_
                refine PW.keep (T' := [(2, _)]) ⟨rfl, trivial⟩ ?_
                refine PW.ret ?_
                change (Exit.ret = Exit.normal ∨ Exit.ret = Exit.ret) ∧ ∃ v, resV _ _ = some v ∧ _
                exact ⟨.inr rfl, _, rfl, _, Sub.drop (Sub.drop (Sub.refl _)), by unfold chkT; rw [if_neg (by omega), if_neg (all_bad hkl hbad)], rfl⟩
              · try simp only [decide_eq_true_eq, decide_eq_false_iff_not, beq_iff_eq, bne_iff_ne, beq_eq_false_iff_ne, bne_eq_false_iff_eq, Bool.not_eq_true', Bool.not_eq_false', Bool.not_eq_true, ne_eq, Decidable.not_not] at c50
                have hs3 : okL l[k].2 = true := (okL_chk _).1 (by simpa using c50)
                refine PW.skip ?_
                refine hK4 _ _ ?_
                refine PW.keep (T' := [(1, _), (18, _), (19, _), (20, _)]) ⟨rfl, rfl, rfl, rfl, trivial⟩ ?_
                refine PW.ops ?_
                refine OL.det trivial (Yields.add64 rfl rfl (by omega) (by omega)) ?_
                refine OL.det trivial (Yields.pure rfl) ?_
                refine OL.nil ?_
                repeat rw [inBlk_n]
                rw [thenK_n]
                refine LoopEnd.mkS ((Sub.drop (Sub.refl _))) (T'' := [(1, _), (18, _), (19, _), (20, _)]) ⟨rfl, rfl, rfl, rfl, trivial⟩ ?_
                refine ⟨l.length - (k + 1), by omega, k + 1, ⟨by omega, rfl, all_succ hall ?_⟩, rfl, rfl⟩
                unfold okAt
                rw [(getElem!_pos l k hkl), hs1, hs2, hs3]; rfl
        · try simp only [decide_eq_true_eq, decide_eq_false_iff_not, beq_iff_eq, bne_iff_ne, beq_eq_false_iff_ne, bne_eq_false_iff_eq, Bool.not_eq_true', Bool.not_eq_false', Bool.not_eq_true, ne_eq, Decidable.not_not] at g27
          have hs1 : (decide (k = 0) || ltB l[k - 1]!.1 l[k].1) = true := by
            obtain rfl : k = 0 := by omega
            rfl
          refine QK.off rfl rfl ?_
          refine QK.off rfl rfl ?_
          refine QK.off rfl rfl ?_
          refine QK.off rfl rfl ?_
          refine QK.off rfl rfl ?_
          refine QK.off rfl rfl ?_
          refine QK.off rfl rfl ?_
          refine QK.off rfl rfl ?_
          refine QK.off rfl rfl ?_
          refine QK.nil ?_
          change OL _ _ _ [_, _, _, _, _, _, _, _, _, _, _, _, _, _] _ _ _
          refine OL.off rfl rfl ?_
          refine OL.det trivial (Yields.pure rfl) ?_
          refine OL.det trivial (Yields.pure rfl) ?_
          refine OL.det rfl (Yields.pure rfl) ?_
          refine OL.det rfl (Yields.ld rfl (own_at (j := 0) (c := ruleC l[k]) (E := 56) (tot := 3) (List.mem_flatten.2 ⟨_, .head _, List.mem_singleton.2 rfl⟩) rfl)) ?_
          refine OL.call rfl rfl (prefB_fc hwk) ?_
          rintro _ Sx ⟨rfl, hSx⟩
          rw [hSx]
          clear hSx
          refine OL.det rfl (Yields.pure rfl) ?_
          refine OL.det trivial (Yields.pure rfl) ?_
          refine OL.bool trivial (Yields.pure rfl) (fun g45 => ?_) (fun g45 => ?_)
          · try simp only [decide_eq_true_eq, decide_eq_false_iff_not, beq_iff_eq, bne_iff_ne, beq_eq_false_iff_ne, bne_eq_false_iff_eq, Bool.not_eq_true', Bool.not_eq_false', Bool.not_eq_true, ne_eq, Decidable.not_not] at g45
            have hbad : okAt l k = false := by
              unfold okAt
              rw [(getElem!_pos l k hkl), show prefB l[k].1 = false by simpa using g45]
              simp
            refine OL.off rfl rfl ?_
            refine OL.off rfl rfl ?_
            refine OL.off rfl rfl ?_
            refine OL.off rfl rfl ?_
            refine OL.det trivial (Yields.pure rfl) ?_
            refine OL.nil ?_
            refine hK5 _ _ ?_
            refine PW.keep (T' := [(1, _), (18, _), (19, _), (20, _), (50, _)]) ⟨rfl, rfl, rfl, rfl, rfl, trivial⟩ ?_
            refine PW.ite (b := true) rfl ?_
            rw [if_pos rfl]
            refine PW.seqOps ?_
            refine OL.det trivial (Yields.pure rfl) ?_
            refine OL.nil ?_
            refine PW.keep (T' := [(2, _)]) ⟨rfl, trivial⟩ ?_
            refine PW.ret ?_
            change (Exit.ret = Exit.normal ∨ Exit.ret = Exit.ret) ∧ ∃ v, resV _ _ = some v ∧ _
            exact ⟨.inr rfl, _, rfl, _, Sub.drop (Sub.drop (Sub.refl _)), by unfold chkT; rw [if_neg (by omega), if_neg (all_bad hkl hbad)], rfl⟩
          · try simp only [decide_eq_true_eq, decide_eq_false_iff_not, beq_iff_eq, bne_iff_ne, beq_eq_false_iff_ne, bne_eq_false_iff_eq, Bool.not_eq_true', Bool.not_eq_false', Bool.not_eq_true, ne_eq, Decidable.not_not] at g45
            have hs2 : prefB l[k].1 = true := by simpa using g45
            refine OL.det rfl (Yields.pure rfl) ?_
            refine OL.det rfl (Yields.ldA rfl rfl (rseg_at (x := l[k]))) ?_
            refine OL.call rfl rfl (check_lab (a := (l[k].2.1, (l[k].2.2.toNat)))) ?_
            rintro _ Sx ⟨rfl, hSx⟩
            rw [hSx]
            clear hSx
            refine OL.det rfl (Yields.pure rfl) ?_
            refine OL.det trivial (Yields.pure rfl) ?_
            refine OL.nil ?_
            refine hK5 _ _ ?_
            refine PW.keep (T' := [(1, _), (18, _), (19, _), (20, _), (50, _)]) ⟨rfl, rfl, rfl, rfl, rfl, trivial⟩ ?_
            refine PW.cond rfl (fun c50 => ?_) (fun c50 => ?_)
            · try simp only [decide_eq_true_eq, decide_eq_false_iff_not, beq_iff_eq, bne_iff_ne, beq_eq_false_iff_ne, bne_eq_false_iff_eq, Bool.not_eq_true', Bool.not_eq_false', Bool.not_eq_true, ne_eq, Decidable.not_not] at c50
              have hbad : okAt l k = false := by
                have h0 : okL l[k].2 = false := by rw [Bool.eq_false_iff, Ne, ← okL_chk]; exact c50
                unfold okAt; rw [(getElem!_pos l k hkl), h0, Bool.and_false]
              refine PW.seqOps ?_
              refine OL.det trivial (Yields.pure rfl) ?_
              refine OL.nil ?_
              refine PW.keep (T' := [(2, _)]) ⟨rfl, trivial⟩ ?_
              refine PW.ret ?_
              change (Exit.ret = Exit.normal ∨ Exit.ret = Exit.ret) ∧ ∃ v, resV _ _ = some v ∧ _
              exact ⟨.inr rfl, _, rfl, _, Sub.drop (Sub.drop (Sub.refl _)), by unfold chkT; rw [if_neg (by omega), if_neg (all_bad hkl hbad)], rfl⟩
            · try simp only [decide_eq_true_eq, decide_eq_false_iff_not, beq_iff_eq, bne_iff_ne, beq_eq_false_iff_ne, bne_eq_false_iff_eq, Bool.not_eq_true', Bool.not_eq_false', Bool.not_eq_true, ne_eq, Decidable.not_not] at c50
              have hs3 : okL l[k].2 = true := (okL_chk _).1 (by simpa using c50)
              refine PW.skip ?_
              refine hK4 _ _ ?_
              refine PW.keep (T' := [(1, _), (18, _), (19, _), (20, _)]) ⟨rfl, rfl, rfl, rfl, trivial⟩ ?_
              refine PW.ops ?_
              refine OL.det trivial (Yields.add64 rfl rfl (by omega) (by omega)) ?_
              refine OL.det trivial (Yields.pure rfl) ?_
              refine OL.nil ?_
              repeat rw [inBlk_n]
              rw [thenK_n]
              refine LoopEnd.mkS ((Sub.drop (Sub.refl _))) (T'' := [(1, _), (18, _), (19, _), (20, _)]) ⟨rfl, rfl, rfl, rfl, trivial⟩ ?_
              refine ⟨l.length - (k + 1), by omega, k + 1, ⟨by omega, rfl, all_succ hall ?_⟩, rfl, rfl⟩
              unfold okAt
              rw [(getElem!_pos l k hkl), hs1, hs2, hs3]; rfl
      · try simp only [decide_eq_true_eq, decide_eq_false_iff_not, beq_iff_eq, bne_iff_ne, beq_eq_false_iff_ne, bne_eq_false_iff_eq, Bool.not_eq_true', Bool.not_eq_false', Bool.not_eq_true, ne_eq, Decidable.not_not] at c21
        refine PW.exit ?_
        refine hK2 _ _ ?_
        refine PW.keep (T' := []) trivial ?_
        refine PW.seqOps ?_
        refine OL.det trivial (Yields.pure rfl) ?_
        refine OL.nil ?_
        refine PW.keep (T' := [(2, _)]) ⟨rfl, trivial⟩ ?_
        refine PW.ret ?_
        change (Exit.ret = Exit.normal ∨ Exit.ret = Exit.ret) ∧ ∃ v, resV _ _ = some v ∧ _
        obtain rfl : k = l.length := by omega
        exact ⟨.inr rfl, _, rfl, _, Sub.drop (Sub.refl _), by unfold chkT; rw [if_neg (by omega), if_pos hall], rfl⟩
end Go.Proofs.Rl

set_option linter.unusedVariables false
set_option linter.unusedSimpArgs false
namespace Go.Proofs.Rl
open Go.SL Go.RowKit Go.Proofs Go.Proofs.Lb
set_option maxHeartbeats 1000000
theorem tab_read {w0 : World} {S : SS} {r E : Nat} {tv : Int} {A : Option Addr} {n c : Nat} (hm : (r, AO.cells [.int .i64 tv, .slice A n c] E 2) ∈ S.flatten) : ReadsAs w0 S (some 2) ⟨r, 0, none⟩ (tabV tv A n c) :=
  ⟨[.int .i64 tv, .slice A n c], rfl, rfl, fun j u hj => (Rd.own hm).at hj⟩
theorem OW_appR {P : Program} {w0 : World} {n : Nat} {T : TT} {S : SS} {t E m q c k : Nat} {z v : Value} {s x : PV} {A : Option Addr} {xs : List Value} {l : List RuleB} {seg : Seg} (hs' : s.val T = some v) (hk : S[k]? = some seg) (hv : SlV E 3 v m xs seg)
    (hx : x.val T = some (.slice A q c)) (hq : l.length = q) (hrd : Rd w0 S A (ruls l)) (hc : A = none → c = 0) (hb : m + q ≤ 1000000000000) :
    OW P w0 n (.app t E 3 32 z s x) T S (fun v' S' => ∃ seg', S' = S.set k seg' ∧ SlV E 3 v' (m + q) (xs ++ ruls l) seg') := by
  cases A with
  | none =>
    obtain rfl := hc rfl
    have : l = [] := by
      cases l with
      | nil => rfl
      | cons b l => obtain ⟨_, e⟩ := ruls_some hrd (by simp); cases e
    subst this
    subst hq
    have := OW.of_yields (OW.app_none (P := P) (w0 := w0) (n := n) (t := t) (bytes := 32) (z := z) hs' hk hv hx)
    refine this.mono ?_
    rintro v' S' ⟨rfl, rfl⟩
    refine ⟨seg, ?_, by simpa [ruls] using hv⟩
    obtain ⟨A, R, rfl, rfl⟩ := split_at hk
    exact (set_at rfl).symm
  | some a =>
    exact OW.app hs' hk hv hx (by rw [ruls_len, hq]) (fun j u hj => hrd.at hj) (ruls_one l) (by omega) (by unfold maxLen; omega)
theorem eqL_rule (x y : RuleB) : eqL [.str, .int .i64, .int .u64] (ruleC x) (ruleC y) = some (decide (x = y)) := by
  have e : decide (x = y) = ((x.1.toList == y.1.toList) && ((x.2.1 == y.2.1) && (((x.2.2.toNat : Int) == (y.2.2.toNat : Int)) && true))) := by
    rw [Bool.eq_iff_iff]
    simp only [decide_eq_true_eq, Bool.and_eq_true, beq_iff_eq, toL_inj, and_true]
    constructor
    · rintro rfl; simp
    · rintro ⟨h1, h2, h3⟩
      refine Prod.ext h1 (Prod.ext h2 (BitVec.eq_of_toNat_eq (by omega)))
  rw [e]
  simp [eqL, ruleC, eqCell]
def sameT (a : Int) (l : List RuleB) (b : Int) (l' : List RuleB) : Bool := decide (a = b ∧ l = l')
theorem rtake_eq {l l' : List RuleB} {k : Nat} (hk : k < l.length) (hk' : k < l'.length) (h : l.take k = l'.take k) (he : l[k] = l'[k]) : l.take (k + 1) = l'.take (k + 1) := by
  rw [rtake_snoc hk, rtake_snoc hk', h, he]
theorem chkR_fc {w0 : World} {S : SS} {A : Option Addr} {c : Nat} {tv : Int} {l : List RuleB} (hx : Rd w0 S A (ruls l)) (hw : ∀ x ∈ l, x.1.size ≤ 1000000000) (hl : l.length ≤ 1000000000) :
    FC Tryd.prog w0 76 [tabV tv A l.length c] S (fun v S' => v = .int .i64 (chkR l tv) ∧ S' = S) := by
  refine FC.ofD Tryd.known76 (by simp) ?_
  unfold Tryd.pc76
  simp only [argT]
  refine PW.seqOps ?_
  refine OL.cons trivial (OW.bx rfl) ?_
  rintro _ _ ⟨r1, rfl, rfl⟩
  change OL _ _ _ _ _ (tsegR r1 tv A l.length c :: S) _
  refine OL.det trivial (Yields.pure rfl) ?_
  refine OL.nil ?_
  refine PW.keep (T' := [(1, _)]) ⟨rfl, trivial⟩ ?_
  refine PW.seq fun K1 hK1 => ?_
  refine PW.seqOps ?_
  refine OL.det trivial (Yields.pure rfl) ?_
  refine OL.det trivial (Yields.ld rfl (own_at (j := 1) (c := [.int .i64 tv, .slice A l.length c]) (E := 50) (tot := 2) (List.mem_flatten.2 ⟨_, .head _, List.mem_singleton.2 rfl⟩) rfl)) ?_
  refine OL.det trivial (Yields.pure rfl) ?_
  refine OL.det trivial (Yields.pure rfl) ?_
  refine OL.bool trivial (Yields.pure rfl) (fun g10 => ?_) (fun g10 => ?_)
  · try simp only [decide_eq_true_eq, decide_eq_false_iff_not, beq_iff_eq, bne_iff_ne, beq_eq_false_iff_ne, bne_eq_false_iff_eq, Bool.not_eq_true', Bool.not_eq_false', Bool.not_eq_true, ne_eq, Decidable.not_not] at g10
    refine OL.off rfl rfl ?_
    refine OL.off rfl rfl ?_
    refine OL.off rfl rfl ?_
    refine OL.off rfl rfl ?_
    refine OL.off rfl rfl ?_
    refine OL.off rfl rfl ?_
    refine OL.det trivial (Yields.pure rfl) ?_
    refine OL.nil ?_
    refine PW.keep (T' := [(1, _), (17, _)]) ⟨rfl, rfl, trivial⟩ ?_
    refine PW.ite (b := true) rfl ?_
    rw [if_pos rfl]
    refine PW.seqOps ?_
    refine OL.det trivial (Yields.pure rfl) ?_
    refine OL.nil ?_
    refine PW.keep (T' := [(2, _)]) ⟨rfl, trivial⟩ ?_
    refine PW.ret ?_
    change (Exit.ret = Exit.normal ∨ Exit.ret = Exit.ret) ∧ ∃ v, resV _ _ = some v ∧ _
    exact ⟨.inr rfl, _, rfl, _, Sub.drop (Sub.refl _), by unfold chkR; rw [if_pos (by omega)], rfl⟩
  · try simp only [decide_eq_true_eq, decide_eq_false_iff_not, beq_iff_eq, bne_iff_ne, beq_eq_false_iff_ne, bne_eq_false_iff_eq, Bool.not_eq_true', Bool.not_eq_false', Bool.not_eq_true, ne_eq, Decidable.not_not] at g10
    refine OL.det rfl (Yields.pure rfl) ?_
    refine OL.det rfl (Yields.ld rfl (own_at (j := 0) (c := [.int .i64 tv, .slice A l.length c]) (E := 50) (tot := 2) (List.mem_flatten.2 ⟨_, .head _, List.mem_singleton.2 rfl⟩) rfl)) ?_
    refine OL.det rfl (Yields.pure rfl) ?_
    refine OL.det rfl (Yields.ld rfl (own_at (j := 1) (c := [.int .i64 tv, .slice A l.length c]) (E := 50) (tot := 2) (List.mem_flatten.2 ⟨_, .head _, List.mem_singleton.2 rfl⟩) rfl)) ?_
    refine OL.det rfl (Yields.pure rfl) ?_
    refine OL.det rfl (Yields.pure rfl) ?_
    refine OL.det trivial (Yields.pure rfl) ?_
    refine OL.nil ?_
    refine PW.keep (T' := [(1, _), (17, _)]) ⟨rfl, rfl, trivial⟩ ?_
    refine PW.cond rfl (fun c17 => ?_) (fun c17 => ?_)
    · try simp only [decide_eq_true_eq, decide_eq_false_iff_not, beq_iff_eq, bne_iff_ne, beq_eq_false_iff_ne, bne_eq_false_iff_eq, Bool.not_eq_true', Bool.not_eq_false', Bool.not_eq_true, ne_eq, Decidable.not_not] at c17
      refine PW.seqOps ?_
      refine OL.det trivial (Yields.pure rfl) ?_
      refine OL.nil ?_
      refine PW.keep (T' := [(2, _)]) ⟨rfl, trivial⟩ ?_
      refine PW.ret ?_
      change (Exit.ret = Exit.normal ∨ Exit.ret = Exit.ret) ∧ ∃ v, resV _ _ = some v ∧ _
      exact ⟨.inr rfl, _, rfl, _, Sub.drop (Sub.refl _), by unfold chkR; rw [if_pos (by omega)], rfl⟩
    · try simp only [decide_eq_true_eq, decide_eq_false_iff_not, beq_iff_eq, bne_iff_ne, beq_eq_false_iff_ne, bne_eq_false_iff_eq, Bool.not_eq_true', Bool.not_eq_false', Bool.not_eq_true, ne_eq, Decidable.not_not] at c17
      refine PW.skip ?_
      refine hK1 _ _ ?_
      refine PW.keep (T' := [(1, _)]) ⟨rfl, trivial⟩ ?_
      refine PW.seq fun K2 hK2 => ?_
      refine PW.seqOps ?_
      refine OL.det trivial (Yields.pure rfl) ?_
      refine OL.nil ?_
      refine PW.keep (T' := [(1, _), (3, _)]) ⟨rfl, rfl, trivial⟩ ?_
      refine PW.block ?_
      refine PW.keep (T' := [(1, _), (3, _)]) ⟨rfl, rfl, trivial⟩ ?_
      refine PW.loopK (I := fun m T S' => ∃ (k : Nat), (k ≤ l.length ∧ m = l.length - k ∧ (List.range k).all (rokAt l) = true) ∧ T = ([(1, .pointer (some ⟨r1, 0, none⟩)), (3, .int .i64 k)] : TT) ∧ S' = tsegR r1 tv A l.length c :: S) (m := l.length) ⟨0, ⟨by omega, by omega, rfl⟩, rfl, rfl⟩ ?_
      rintro m _ _ ⟨k, ⟨hk, hm, hall⟩, rfl, rfl⟩
      refine PW.seq fun K3 hK3 => ?_
      refine PW.seqOps ?_
      refine OL.det trivial (Yields.pure rfl) ?_
      refine OL.det trivial (Yields.pure rfl) ?_
      refine OL.det trivial (Yields.ld rfl (own_at (j := 1) (c := [.int .i64 tv, .slice A l.length c]) (E := 50) (tot := 2) (List.mem_flatten.2 ⟨_, .head _, List.mem_singleton.2 rfl⟩) rfl)) ?_
      refine OL.det trivial (Yields.pure rfl) ?_
      refine OL.det trivial (Yields.pure rfl) ?_
      refine OL.nil ?_
      refine PW.keep (T' := [(1, _), (3, _), (22, _)]) ⟨rfl, rfl, rfl, trivial⟩ ?_
      refine PW.cond rfl (fun c22 => ?_) (fun c22 => ?_)
      · try simp only [decide_eq_true_eq, decide_eq_false_iff_not, beq_iff_eq, bne_iff_ne, beq_eq_false_iff_ne, bne_eq_false_iff_eq, Bool.not_eq_true', Bool.not_eq_false', Bool.not_eq_true, ne_eq, Decidable.not_not] at c22
        have hkl : k < l.length := by omega
        obtain ⟨a0, rfl⟩ := ruls_some hx (by omega)
        have hwk := hw _ (List.getElem_mem hkl)
        refine PW.skip ?_
        refine hK3 _ _ ?_
        refine PW.keep (T' := [(1, _), (3, _)]) ⟨rfl, rfl, trivial⟩ ?_
        refine PW.seq fun K4 hK4 => ?_
        refine PW.block ?_
        refine PW.seqOps ?_
        refine OL.det trivial (Yields.pure rfl) ?_
        refine OL.det trivial (Yields.ld rfl (own_at (j := 1) (c := [.int .i64 tv, .slice (some a0) l.length c]) (E := 50) (tot := 2) (List.mem_flatten.2 ⟨_, .head _, List.mem_singleton.2 rfl⟩) rfl)) ?_
        refine OL.det trivial (Yields.pure rfl) ?_
        refine OL.det trivial (Yields.ixN rfl rfl rfl (by omega)) ?_
        refine OL.det trivial (Yields.ldA rfl (cs := ruleC l[k]) rfl (rule_at hx.cons hkl)) ?_
        refine OL.cons trivial OW.al ?_
        rintro _ _ ⟨r4, rfl, rfl⟩
        refine OL.cons trivial (OW.st (k := 0) rfl rfl rfl rfl (by first | decide | (simp; done) | (simp; omega)) (by first | rfl | simp)) ?_
        rintro _ _ rfl
        refine OL.nil ?_
        refine PW.keep (T' := [(1, _), (3, _), (4, _)]) ⟨rfl, rfl, rfl, trivial⟩ ?_
        refine PW.seq fun K5 hK5 => ?_
        refine PW.seqOps ?_
        refine OL.det trivial (Yields.pure rfl) ?_
        refine OL.det trivial (Yields.ld rfl (own_at (j := 0) (c := ruleC l[k]) (E := 56) (tot := 3) (List.mem_flatten.2 ⟨_, .head _, List.mem_singleton.2 rfl⟩) rfl)) ?_
        refine OL.call trivial rfl (rprefB_fc hwk) ?_
        rintro _ Sx ⟨rfl, hSx⟩
        rw [hSx]
        clear hSx
        refine OL.det trivial (Yields.pure rfl) ?_
        refine OL.bool trivial (Yields.pure rfl) (fun g34 => ?_) (fun g34 => ?_)
        · try simp only [decide_eq_true_eq, decide_eq_false_iff_not, beq_iff_eq, bne_iff_ne, beq_eq_false_iff_ne, bne_eq_false_iff_eq, Bool.not_eq_true', Bool.not_eq_false', Bool.not_eq_true, ne_eq, Decidable.not_not] at g34
          have hbad : rokAt l k = false := by
            unfold rokAt
            rw [(getElem!_pos l k hkl), show prefB l[k].1 = false by simpa using g34]
            rfl
          refine OL.off rfl rfl ?_
          refine OL.off rfl rfl ?_
          refine OL.off rfl rfl ?_
          refine OL.off rfl rfl ?_
          refine OL.det trivial (Yields.pure rfl) ?_
          refine OL.nil ?_
          refine PW.keep (T' := [(1, _), (3, _), (4, _), (39, _)]) ⟨rfl, rfl, rfl, rfl, trivial⟩ ?_
          refine PW.ite (b := true) rfl ?_
          rw [if_pos rfl]
          refine PW.seqOps ?_
          refine OL.det trivial (Yields.pure rfl) ?_
          refine OL.nil ?_
          refine PW.keep (T' := [(2, _)]) ⟨rfl, trivial⟩ ?_
          refine PW.ret ?_
          change (Exit.ret = Exit.normal ∨ Exit.ret = Exit.ret) ∧ ∃ v, resV _ _ = some v ∧ _
          exact ⟨.inr rfl, _, rfl, _, Sub.drop (Sub.drop (Sub.refl _)), by unfold chkR; rw [if_neg (by omega), if_neg (all_bad hkl hbad)], rfl⟩
        · try simp only [decide_eq_true_eq, decide_eq_false_iff_not, beq_iff_eq, bne_iff_ne, beq_eq_false_iff_ne, bne_eq_false_iff_eq, Bool.not_eq_true', Bool.not_eq_false', Bool.not_eq_true, ne_eq, Decidable.not_not] at g34
          have hs2 : prefB l[k].1 = true := by simpa using g34
          refine OL.det rfl (Yields.pure rfl) ?_
          refine OL.det rfl (Yields.ldA rfl rfl (rseg_at (x := l[k]))) ?_
          refine OL.call rfl rfl (Go.Proofs.Lb.may_fc (a := l[k].2)) ?_
          rintro _ Sx ⟨rfl, hSx⟩
          rw [hSx]
          clear hSx
          refine OL.det rfl (Yields.pure rfl) ?_
          refine OL.det trivial (Yields.pure rfl) ?_
          refine OL.nil ?_
          refine PW.keep (T' := [(1, _), (3, _), (4, _), (39, _)]) ⟨rfl, rfl, rfl, rfl, trivial⟩ ?_
          refine PW.cond rfl (fun c39 => ?_) (fun c39 => ?_)
          · try simp only [decide_eq_true_eq, decide_eq_false_iff_not, beq_iff_eq, bne_iff_ne, beq_eq_false_iff_ne, bne_eq_false_iff_eq, Bool.not_eq_true', Bool.not_eq_false', Bool.not_eq_true, ne_eq, Decidable.not_not] at c39
            have hbad : rokAt l k = false := by
              have h0 : okL l[k].2 = false := by simpa [okL, mayP] using c39
              unfold rokAt; rw [(getElem!_pos l k hkl), h0, Bool.and_false, Bool.false_and]
            refine PW.seqOps ?_
            refine OL.det trivial (Yields.pure rfl) ?_
            refine OL.nil ?_
            refine PW.keep (T' := [(2, _)]) ⟨rfl, trivial⟩ ?_
            refine PW.ret ?_
            change (Exit.ret = Exit.normal ∨ Exit.ret = Exit.ret) ∧ ∃ v, resV _ _ = some v ∧ _
            exact ⟨.inr rfl, _, rfl, _, Sub.drop (Sub.drop (Sub.refl _)), by unfold chkR; rw [if_neg (by omega), if_neg (all_bad hkl hbad)], rfl⟩
          · try simp only [decide_eq_true_eq, decide_eq_false_iff_not, beq_iff_eq, bne_iff_ne, beq_eq_false_iff_ne, bne_eq_false_iff_eq, Bool.not_eq_true', Bool.not_eq_false', Bool.not_eq_true, ne_eq, Decidable.not_not] at c39
            have hs3 : okL l[k].2 = true := by simpa [okL, mayP] using c39
            refine PW.skip ?_
            refine hK5 _ _ ?_
            refine PW.keep (T' := [(1, _), (3, _), (4, _)]) ⟨rfl, rfl, rfl, trivial⟩ ?_
            refine PW.seqOps ?_
            refine OL.det trivial (Yields.pure rfl) ?_
            refine OL.nil ?_
            refine PW.keep (T' := [(1, _), (3, _), (4, _), (5, _)]) ⟨rfl, rfl, rfl, rfl, trivial⟩ ?_
            refine PW.block ?_
            refine PW.keep (T' := [(1, _), (3, _), (4, _), (5, _)]) ⟨rfl, rfl, rfl, rfl, trivial⟩ ?_
            refine PW.loopK (I := fun m T S' => ∃ (j : Nat), (j ≤ k ∧ m = k - j ∧ (List.range j).all (fun j => ltB l[j]!.1 l[k].1) = true) ∧ T = ([(1, .pointer (some ⟨r1, 0, none⟩)), (3, .int .i64 k), (4, .pointer (some ⟨r4, 0, none⟩)), (5, .int .i64 j)] : TT) ∧ S' = rseg r4 l[k] :: tsegR r1 tv (some a0) l.length c :: S) (m := k) ⟨0, ⟨by omega, by omega, rfl⟩, rfl, rfl⟩ ?_
            rintro m _ _ ⟨j, ⟨hj, hm2, hin⟩, rfl, rfl⟩
            refine PW.seq fun K6 hK6 => ?_
            refine PW.seqOps ?_
            refine OL.det trivial (Yields.pure rfl) ?_
            refine OL.det trivial (Yields.pure rfl) ?_
            refine OL.det trivial (Yields.pure rfl) ?_
            refine OL.nil ?_
            refine PW.keep (T' := [(1, _), (3, _), (4, _), (5, _), (42, _)]) ⟨rfl, rfl, rfl, rfl, rfl, trivial⟩ ?_
            refine PW.cond rfl (fun c42 => ?_) (fun c42 => ?_)
            · try simp only [decide_eq_true_eq, decide_eq_false_iff_not, beq_iff_eq, bne_iff_ne, beq_eq_false_iff_ne, bne_eq_false_iff_eq, Bool.not_eq_true', Bool.not_eq_false', Bool.not_eq_true, ne_eq, Decidable.not_not] at c42
              refine PW.skip ?_
              refine hK6 _ _ ?_
              refine PW.keep (T' := [(1, _), (3, _), (4, _), (5, _)]) ⟨rfl, rfl, rfl, rfl, trivial⟩ ?_
              refine PW.seq fun K7 hK7 => ?_
              refine PW.block ?_
              refine PW.seq fun K8 hK8 => ?_
              refine PW.quietK Tryd.mixed ?_
              refine QK.det trivial (Yields.pure rfl) ?_
              refine QK.det trivial (Yields.ld rfl (own_at (j := 1) (c := [.int .i64 tv, .slice (some a0) l.length c]) (E := 50) (tot := 2) (List.mem_flatten.2 ⟨_, .tail _ (.head _), List.mem_singleton.2 rfl⟩) rfl)) ?_
              refine QK.det trivial (Yields.pure rfl) ?_
              refine QK.det trivial (Yields.ixN rfl rfl rfl (by omega)) ?_
              refine QK.det trivial (Yields.pure rfl) ?_
              refine QK.det trivial (Yields.ld rfl (rule_at hx.cons.cons (show j < l.length from by omega) 0 _ rfl)) ?_
              refine QK.det trivial (Yields.pure rfl) ?_
              refine QK.det trivial (Yields.ld rfl (own_at (j := 0) (c := ruleC l[k]) (E := 56) (tot := 3) (List.mem_flatten.2 ⟨_, .head _, List.mem_singleton.2 rfl⟩) rfl)) ?_
              refine QK.nil ?_
              change OL _ _ _ [_] _ _ _
              refine OL.det trivial (Yields.pure rfl) ?_
              refine OL.nil ?_
              refine hK8 _ _ ?_
              refine PW.keep (T' := [(1, _), (3, _), (4, _), (5, _), (53, _)]) ⟨rfl, rfl, rfl, rfl, rfl, trivial⟩ ?_
              refine PW.cond rfl (fun c53 => ?_) (fun c53 => ?_)
              · try simp only [decide_eq_true_eq, decide_eq_false_iff_not, beq_iff_eq, bne_iff_ne, beq_eq_false_iff_ne, bne_eq_false_iff_eq, Bool.not_eq_true', Bool.not_eq_false', Bool.not_eq_true, ne_eq, Decidable.not_not] at c53
                have hbad : rokAt l k = false := by
                  have h0 : ¬ (List.range k).all (fun j => ltB l[j]!.1 l[k].1) = true := all_bad (show j < k by omega) (by
                    show ltB l[j]!.1 l[k].1 = false
                    rw [getElem!_pos l j (by omega)]
                    simpa [ltB] using c53)
                  unfold rokAt
                  rw [(getElem!_pos l k hkl), Bool.and_eq_false_iff]
                  exact .inr (by simpa using h0)
                refine PW.seqOps ?_
                refine OL.det trivial (Yields.pure rfl) ?_
                refine OL.nil ?_
                refine PW.keep (T' := [(2, _)]) ⟨rfl, trivial⟩ ?_
                refine PW.ret ?_
                change (Exit.ret = Exit.normal ∨ Exit.ret = Exit.ret) ∧ ∃ v, resV _ _ = some v ∧ _
                exact ⟨.inr rfl, _, rfl, _, Sub.drop (Sub.drop (Sub.refl _)), by unfold chkR; rw [if_neg (by omega), if_neg (all_bad hkl hbad)], rfl⟩
              · try simp only [decide_eq_true_eq, decide_eq_false_iff_not, beq_iff_eq, bne_iff_ne, beq_eq_false_iff_ne, bne_eq_false_iff_eq, Bool.not_eq_true', Bool.not_eq_false', Bool.not_eq_true, ne_eq, Decidable.not_not] at c53
                refine PW.skip ?_
                refine hK7 _ _ ?_
                refine PW.keep (T' := [(1, _), (3, _), (4, _), (5, _)]) ⟨rfl, rfl, rfl, rfl, trivial⟩ ?_
                refine PW.ops ?_
                refine OL.det trivial (Yields.pure rfl) ?_
                refine OL.det trivial (Yields.add64 rfl rfl (by omega) (by omega)) ?_
                refine OL.det trivial (Yields.pure rfl) ?_
                refine OL.nil ?_
                repeat rw [inBlk_n]
                rw [thenK_n]
                refine LoopEnd.mk (T'' := [(1, _), (3, _), (4, _), (5, _)]) ⟨rfl, rfl, rfl, rfl, trivial⟩ ?_
                refine ⟨k - (j + 1), by omega, j + 1, ⟨by omega, rfl, all_succ hin ?_⟩, rfl, rfl⟩
                show ltB l[j]!.1 l[k].1 = true
                rw [getElem!_pos l j (by omega)]
                simpa [ltB] using c53
            · try simp only [decide_eq_true_eq, decide_eq_false_iff_not, beq_iff_eq, bne_iff_ne, beq_eq_false_iff_ne, bne_eq_false_iff_eq, Bool.not_eq_true', Bool.not_eq_false', Bool.not_eq_true, ne_eq, Decidable.not_not] at c42
              refine PW.exit ?_
              refine hK4 _ _ ?_
              refine PW.keep (T' := [(1, _), (3, _)]) ⟨rfl, rfl, trivial⟩ ?_
              refine PW.ops ?_
              refine OL.det trivial (Yields.pure rfl) ?_
              refine OL.det trivial (Yields.add64 rfl rfl (by omega) (by omega)) ?_
              refine OL.det trivial (Yields.pure rfl) ?_
              refine OL.nil ?_
              repeat rw [inBlk_n]
              rw [thenK_n]
              refine LoopEnd.mkS ((Sub.drop (Sub.refl _))) (T'' := [(1, _), (3, _)]) ⟨rfl, rfl, trivial⟩ ?_
              obtain rfl : j = k := by omega
              refine ⟨l.length - (j + 1), by omega, j + 1, ⟨by omega, rfl, all_succ hall ?_⟩, rfl, rfl⟩
              unfold rokAt
              rw [getElem!_pos l j hkl, hs2, hs3, hin]; rfl
      · try simp only [decide_eq_true_eq, decide_eq_false_iff_not, beq_iff_eq, bne_iff_ne, beq_eq_false_iff_ne, bne_eq_false_iff_eq, Bool.not_eq_true', Bool.not_eq_false', Bool.not_eq_true, ne_eq, Decidable.not_not] at c22
        refine PW.exit ?_
        refine hK2 _ _ ?_
        refine PW.keep (T' := []) trivial ?_
        refine PW.seqOps ?_
        refine OL.det trivial (Yields.pure rfl) ?_
        refine OL.nil ?_
        refine PW.keep (T' := [(2, _)]) ⟨rfl, trivial⟩ ?_
        refine PW.ret ?_
        change (Exit.ret = Exit.normal ∨ Exit.ret = Exit.ret) ∧ ∃ v, resV _ _ = some v ∧ _
        obtain rfl : k = l.length := by omega
        exact ⟨.inr rfl, _, rfl, _, Sub.drop (Sub.refl _), by unfold chkR; rw [if_neg (by omega), if_pos hall], rfl⟩
theorem of_fc {w0 : World} {S : SS} {A : Option Addr} {n c : Nat} {tv : Int} : FC Tryd.prog w0 45 [tabV tv A n c] S (fun v S' => v = tabV tv A n c ∧ S' = S) := by
  refine FC.ofC Tryd.known45 (by simp) ?_
  unfold Tryd.pc45
  simp only [argT]
  refine PW.seqOps ?_
  refine OL.cons trivial (OW.bx rfl) ?_
  rintro _ _ ⟨r1, rfl, rfl⟩
  change OL _ _ _ _ _ (tseg r1 tv A n c :: S) _
  refine OL.cons trivial OW.al ?_
  rintro _ _ ⟨r2, rfl, rfl⟩
  refine OL.nil ?_
  refine PW.keep (T' := [(1, _), (2, _)]) ⟨rfl, rfl, trivial⟩ ?_
  refine PW.seqOps ?_
  refine OL.det trivial (Yields.pure rfl) ?_
  refine OL.det trivial (Yields.ld rfl (own_at (j := 0) (c := [.int .i64 tv, .slice A n c]) (E := 45) (tot := 2) (List.mem_flatten.2 ⟨_, .tail _ (.head _), List.mem_singleton.2 rfl⟩) rfl)) ?_
  refine OL.det trivial (Yields.pure rfl) ?_
  refine OL.det trivial (Yields.ld rfl (own_at (j := 1) (c := [.int .i64 tv, .slice A n c]) (E := 45) (tot := 2) (List.mem_flatten.2 ⟨_, .tail _ (.head _), List.mem_singleton.2 rfl⟩) rfl)) ?_
  refine OL.det trivial (Yields.build rfl) ?_
  refine OL.cons trivial (OW.st (k := 0) (u := tabV tv A n c) rfl rfl rfl rfl (Nat.le_refl 2) rfl) ?_
  rintro _ _ rfl
  change OL _ _ _ _ _ (tsegR r2 tv A n c :: tseg r1 tv A n c :: S) _
  refine OL.nil ?_
  refine PW.keep (T' := [(2, _)]) ⟨rfl, trivial⟩ ?_
  refine PW.ret ?_
  change (Exit.ret = Exit.normal ∨ Exit.ret = Exit.ret) ∧ ∃ a v, Go.SL.look _ _ = some (.pointer (some a)) ∧ ReadsAs _ _ _ _ _ ∧ _
  exact ⟨.inr rfl, _, tabV tv A n c, rfl, tab_read (E := 50) (List.mem_flatten.2 ⟨_, .head _, List.mem_singleton.2 rfl⟩), _, Sub.drop (Sub.drop (Sub.refl _)), rfl, rfl⟩
theorem copied_fc {w0 : World} {S : SS} {A : Option Addr} {c : Nat} {tv : Int} {l : List RuleB} (hx : Rd w0 S A (ruls l)) (hl : l.length ≤ 1000000000) (hc : A = none → c = 0) :
    FC Tryd.prog w0 42 [tabV tv A l.length c] S (fun v S' => ∃ A' c' seg, v = tabV tv A' l.length c' ∧ S' = seg :: S ∧ SlV 56 3 (.slice A' l.length c') l.length (ruls l) seg) := by
  refine FC.ofC Tryd.known42 (by simp) ?_
  unfold Tryd.pc42
  simp only [argT]
  refine PW.seqOps ?_
  refine OL.cons trivial (OW.bx rfl) ?_
  rintro _ _ ⟨r1, rfl, rfl⟩
  change OL _ _ _ _ _ (tseg r1 tv A l.length c :: S) _
  refine OL.cons trivial OW.al ?_
  rintro _ _ ⟨r2, rfl, rfl⟩
  refine OL.nil ?_
  refine PW.keep (T' := [(1, _), (2, _)]) ⟨rfl, rfl, trivial⟩ ?_
  refine PW.seq fun K1 hK1 => ?_
  refine PW.quietRNK (base := ([(r2, .cells [.int .i64 0, .slice none 0 0] 45 2)] :: tseg r1 tv A l.length c :: S)) Tryd.mixed (Over.refl _) ?_
  refine QN.det trivial (fun Sx hSx => Yields.pure rfl) ?_
  refine QN.det trivial (fun Sx hSx => Yields.ld rfl (own_at (j := 0) (c := [.int .i64 tv, .slice A l.length c]) (E := 45) (tot := 2) (hSx _ (List.mem_flatten.2 ⟨_, .tail _ (.head _), List.mem_singleton.2 rfl⟩)) rfl)) ?_
  refine QN.hole ?_
  refine QN.det trivial (fun Sx hSx => Yields.pure rfl) ?_
  refine QN.det trivial (fun Sx hSx => Yields.ld rfl (own_at (j := 1) (c := [.int .i64 tv, .slice A l.length c]) (E := 45) (tot := 2) (hSx _ (List.mem_flatten.2 ⟨_, .tail _ (.head _), List.mem_singleton.2 rfl⟩)) rfl)) ?_
  refine QN.hole ?_
  refine QN.nil ⟨rfl, rfl, ordB_of (hp := [2, 5]) rfl (by decide), ?_⟩
  refine ⟨rfl, OW.mono (OW.bsl0) ?_⟩
  rintro _ _ ⟨r5, rfl, rfl⟩
  refine ⟨(Over.refl _).cons, ?_⟩
  refine ⟨rfl, OW.mono (OW_appR (k := 0) (m := 0) (xs := []) (l := l) rfl rfl (SlV.mk' (cap := 0) rfl (Nat.le_refl 0) (by decide)) rfl rfl hx.cons.cons.cons hc (by omega)) ?_⟩
  rintro v8 _ ⟨seg8, rfl, hsl8⟩
  rw [Nat.zero_add, List.nil_append] at hsl8
  obtain ⟨A8, c8, rfl, hc8, _⟩ := slv_rdL (w0 := w0) hsl8
  refine ⟨(Over.refl _).cons, ?_⟩
  change OL _ _ _ [_, _] _ _ _
  refine OL.det trivial (Yields.build rfl) ?_
  refine OL.cons trivial (OW.st (k := 1) (u := tabV tv A8 l.length c8) rfl rfl rfl rfl (Nat.le_refl 2) rfl) ?_
  rintro _ _ rfl
  change OL _ _ _ _ _ (seg8 :: tseg r2 tv A8 l.length c8 :: tseg r1 tv A l.length c :: S) _
  refine OL.nil ?_
  refine hK1 _ _ ?_
  refine PW.keep (T' := [(2, _)]) ⟨rfl, trivial⟩ ?_
  refine PW.ret ?_
  change (Exit.ret = Exit.normal ∨ Exit.ret = Exit.ret) ∧ ∃ a v, Go.SL.look _ _ = some (.pointer (some a)) ∧ ReadsAs _ _ _ _ _ ∧ _
  exact ⟨.inr rfl, _, tabV tv A8 l.length c8, rfl, tab_read (E := 45) (List.mem_flatten.2 ⟨_, .tail _ (.head _), List.mem_singleton.2 rfl⟩), _, Sub.cons (Sub.drop (Sub.drop (Sub.refl _))), A8, c8, seg8, rfl, rfl, hsl8⟩
theorem sameT_fc {w0 : World} {S : SS} {A B : Option Addr} {c c' : Nat} {a b : Int} {l l' : List RuleB} (hx : Rd w0 S A (ruls l)) (hy : Rd w0 S B (ruls l')) (hl : l.length ≤ 1000000000) (hl' : l'.length ≤ 1000000000) :
    FC Tryd.prog w0 46 [tabV a A l.length c, tabV b B l'.length c'] S (fun v S' => v = .bool (sameT a l b l') ∧ S' = S) := by
  refine FC.ofD Tryd.known46 (by simp) ?_
  unfold Tryd.pc46
  simp only [argT]
  refine PW.seqOps ?_
  refine OL.cons trivial (OW.bx rfl) ?_
  rintro _ _ ⟨r2, rfl, rfl⟩
  change OL _ _ _ _ _ (tsegR r2 a A l.length c :: S) _
  refine OL.cons trivial (OW.bx rfl) ?_
  rintro _ _ ⟨r3, rfl, rfl⟩
  change OL _ _ _ _ _ (tsegR r3 b B l'.length c' :: tsegR r2 a A l.length c :: S) _
  refine OL.det trivial (Yields.pure rfl) ?_
  refine OL.nil ?_
  refine PW.keep (T' := [(2, _), (3, _)]) ⟨rfl, rfl, trivial⟩ ?_
  refine PW.seq fun K1 hK1 => ?_
  refine PW.seqOps ?_
  refine OL.det trivial (Yields.pure rfl) ?_
  refine OL.det trivial (Yields.ld rfl (own_at (j := 0) (c := [.int .i64 a, .slice A l.length c]) (E := 50) (tot := 2) (List.mem_flatten.2 ⟨_, .tail _ (.head _), List.mem_singleton.2 rfl⟩) rfl)) ?_
  refine OL.det trivial (Yields.pure rfl) ?_
  refine OL.det trivial (Yields.ld rfl (own_at (j := 0) (c := [.int .i64 b, .slice B l'.length c']) (E := 50) (tot := 2) (List.mem_flatten.2 ⟨_, .head _, List.mem_singleton.2 rfl⟩) rfl)) ?_
  refine OL.det trivial (Yields.pure rfl) ?_
  refine OL.bool trivial (Yields.pure rfl) (fun g11 => ?_) (fun g11 => ?_)
  · try simp only [decide_eq_true_eq, decide_eq_false_iff_not, beq_iff_eq, bne_iff_ne, beq_eq_false_iff_ne, bne_eq_false_iff_eq, Bool.not_eq_true', Bool.not_eq_false', Bool.not_eq_true, ne_eq, Decidable.not_not] at g11
    refine OL.off rfl rfl ?_
    refine OL.off rfl rfl ?_
    refine OL.off rfl rfl ?_
    refine OL.off rfl rfl ?_
    refine OL.off rfl rfl ?_
    refine OL.off rfl rfl ?_
    refine OL.off rfl rfl ?_
    refine OL.det trivial (Yields.pure rfl) ?_
    refine OL.nil ?_
    refine PW.keep (T' := [(2, _), (3, _), (19, _)]) ⟨rfl, rfl, rfl, trivial⟩ ?_
    refine PW.ite (b := true) rfl ?_
    rw [if_pos rfl]
    refine PW.seqOps ?_
    refine OL.det trivial (Yields.pure rfl) ?_
    refine OL.nil ?_
    refine PW.keep (T' := [(4, _)]) ⟨rfl, trivial⟩ ?_
    refine PW.ret ?_
    change (Exit.ret = Exit.normal ∨ Exit.ret = Exit.ret) ∧ ∃ v, resV _ _ = some v ∧ _
    refine ⟨.inr rfl, _, rfl, _, Sub.drop (Sub.drop (Sub.refl _)), ?_, rfl⟩
    unfold sameT
    rw [decide_eq_false]
    rintro ⟨rfl, rfl⟩
    first | exact c19 rfl | exact g11 rfl
  · try simp only [decide_eq_true_eq, decide_eq_false_iff_not, beq_iff_eq, bne_iff_ne, beq_eq_false_iff_ne, bne_eq_false_iff_eq, Bool.not_eq_true', Bool.not_eq_false', Bool.not_eq_true, ne_eq, Decidable.not_not] at g11
    refine OL.det rfl (Yields.pure rfl) ?_
    refine OL.det rfl (Yields.ld rfl (own_at (j := 1) (c := [.int .i64 a, .slice A l.length c]) (E := 50) (tot := 2) (List.mem_flatten.2 ⟨_, .tail _ (.head _), List.mem_singleton.2 rfl⟩) rfl)) ?_
    refine OL.det rfl (Yields.pure rfl) ?_
    refine OL.det rfl (Yields.pure rfl) ?_
    refine OL.det rfl (Yields.ld rfl (own_at (j := 1) (c := [.int .i64 b, .slice B l'.length c']) (E := 50) (tot := 2) (List.mem_flatten.2 ⟨_, .head _, List.mem_singleton.2 rfl⟩) rfl)) ?_
    refine OL.det rfl (Yields.pure rfl) ?_
    refine OL.det rfl (Yields.pure rfl) ?_
    refine OL.det trivial (Yields.pure rfl) ?_
    refine OL.nil ?_
    refine PW.keep (T' := [(2, _), (3, _), (19, _)]) ⟨rfl, rfl, rfl, trivial⟩ ?_
    refine PW.cond rfl (fun c19 => ?_) (fun c19 => ?_)
    · try simp only [decide_eq_true_eq, decide_eq_false_iff_not, beq_iff_eq, bne_iff_ne, beq_eq_false_iff_ne, bne_eq_false_iff_eq, Bool.not_eq_true', Bool.not_eq_false', Bool.not_eq_true, ne_eq, Decidable.not_not] at c19
      refine PW.seqOps ?_
      refine OL.det trivial (Yields.pure rfl) ?_
      refine OL.nil ?_
      refine PW.keep (T' := [(4, _)]) ⟨rfl, trivial⟩ ?_
      refine PW.ret ?_
      change (Exit.ret = Exit.normal ∨ Exit.ret = Exit.ret) ∧ ∃ v, resV _ _ = some v ∧ _
      refine ⟨.inr rfl, _, rfl, _, Sub.drop (Sub.drop (Sub.refl _)), ?_, rfl⟩
      unfold sameT
      rw [decide_eq_false]
      rintro ⟨rfl, rfl⟩
      first | exact c19 rfl | exact g11 rfl
    · try simp only [decide_eq_true_eq, decide_eq_false_iff_not, beq_iff_eq, bne_iff_ne, beq_eq_false_iff_ne, bne_eq_false_iff_eq, Bool.not_eq_true', Bool.not_eq_false', Bool.not_eq_true, ne_eq, Decidable.not_not] at c19
      refine PW.skip ?_
      refine hK1 _ _ ?_
      refine PW.keep (T' := [(2, _), (3, _)]) ⟨rfl, rfl, trivial⟩ ?_
      refine PW.seq fun K2 hK2 => ?_
      refine PW.seqOps ?_
      refine OL.det trivial (Yields.pure rfl) ?_
      refine OL.nil ?_
      refine PW.keep (T' := [(2, _), (3, _), (5, _)]) ⟨rfl, rfl, rfl, trivial⟩ ?_
      refine PW.block ?_
      refine PW.keep (T' := [(2, _), (3, _), (5, _)]) ⟨rfl, rfl, rfl, trivial⟩ ?_
      refine PW.loopK (I := fun m T S' => ∃ (k : Nat), (k ≤ l.length ∧ m = l.length - k ∧ l.take k = l'.take k) ∧ T = ([(2, .pointer (some ⟨r2, 0, none⟩)), (3, .pointer (some ⟨r3, 0, none⟩)), (5, .int .i64 k)] : TT) ∧ S' = tsegR r3 b B l'.length c' :: tsegR r2 a A l.length c :: S) (m := l.length) ⟨0, ⟨by omega, by omega, rfl⟩, rfl, rfl⟩ ?_
      rintro m _ _ ⟨k, ⟨hk, hm, ht⟩, rfl, rfl⟩
      refine PW.seq fun K3 hK3 => ?_
      refine PW.seqOps ?_
      refine OL.det trivial (Yields.pure rfl) ?_
      refine OL.det trivial (Yields.pure rfl) ?_
      refine OL.det trivial (Yields.ld rfl (own_at (j := 1) (c := [.int .i64 a, .slice A l.length c]) (E := 50) (tot := 2) (List.mem_flatten.2 ⟨_, .tail _ (.head _), List.mem_singleton.2 rfl⟩) rfl)) ?_
      refine OL.det trivial (Yields.pure rfl) ?_
      refine OL.det trivial (Yields.pure rfl) ?_
      refine OL.nil ?_
      refine PW.keep (T' := [(2, _), (3, _), (5, _), (24, _)]) ⟨rfl, rfl, rfl, rfl, trivial⟩ ?_
      refine PW.cond rfl (fun c24 => ?_) (fun c24 => ?_)
      · try simp only [decide_eq_true_eq, decide_eq_false_iff_not, beq_iff_eq, bne_iff_ne, beq_eq_false_iff_ne, bne_eq_false_iff_eq, Bool.not_eq_true', Bool.not_eq_false', Bool.not_eq_true, ne_eq, Decidable.not_not] at c24
        have hkl : k < l.length := by omega
        have hkl' : k < l'.length := by omega
        obtain ⟨a0, rfl⟩ := ruls_some hx (by omega)
        obtain ⟨b0, rfl⟩ := ruls_some hy (by omega)
        refine PW.skip ?_
        refine hK3 _ _ ?_
        refine PW.keep (T' := [(2, _), (3, _), (5, _)]) ⟨rfl, rfl, rfl, trivial⟩ ?_
        refine PW.seq fun K4 hK4 => ?_
        refine PW.block ?_
        refine PW.seq fun K5 hK5 => ?_
        refine PW.quietK Tryd.mixed ?_
        refine QK.det trivial (Yields.pure rfl) ?_
        refine QK.det trivial (Yields.ld rfl (own_at (j := 1) (c := [.int .i64 a, .slice (some a0) l.length c]) (E := 50) (tot := 2) (List.mem_flatten.2 ⟨_, .tail _ (.head _), List.mem_singleton.2 rfl⟩) rfl)) ?_
        refine QK.det trivial (Yields.pure rfl) ?_
        refine QK.det trivial (Yields.ixN rfl rfl rfl (by omega)) ?_
        refine QK.det trivial (Yields.ldA rfl (cs := ruleC l[k]) rfl (rule_at hx.cons.cons hkl)) ?_
        refine QK.det trivial (Yields.pure rfl) ?_
        refine QK.det trivial (Yields.ld rfl (own_at (j := 1) (c := [.int .i64 b, .slice (some b0) l'.length c']) (E := 50) (tot := 2) (List.mem_flatten.2 ⟨_, .head _, List.mem_singleton.2 rfl⟩) rfl)) ?_
        refine QK.det trivial (Yields.pure rfl) ?_
        refine QK.det trivial (Yields.ixN rfl rfl rfl (by omega)) ?_
        refine QK.det trivial (Yields.ldA rfl (cs := ruleC l'[k]) rfl (rule_at hy.cons.cons hkl')) ?_
        refine QK.nil ?_
        change OL _ _ _ [_] _ _ _
        refine OL.det trivial (Yields.eqD rfl rfl (eqL_rule l[k] l'[k])) ?_
        refine OL.nil ?_
        refine hK5 _ _ ?_
        refine PW.keep (T' := [(2, _), (3, _), (5, _), (37, _)]) ⟨rfl, rfl, rfl, rfl, trivial⟩ ?_
        refine PW.cond rfl (fun c37 => ?_) (fun c37 => ?_)
        · try simp only [decide_eq_true_eq, decide_eq_false_iff_not, beq_iff_eq, bne_iff_ne, beq_eq_false_iff_ne, bne_eq_false_iff_eq, Bool.not_eq_true', Bool.not_eq_false', Bool.not_eq_true, ne_eq, Decidable.not_not] at c37
          refine PW.seqOps ?_
          refine OL.det trivial (Yields.pure rfl) ?_
          refine OL.nil ?_
          refine PW.keep (T' := [(4, _)]) ⟨rfl, trivial⟩ ?_
          refine PW.ret ?_
          change (Exit.ret = Exit.normal ∨ Exit.ret = Exit.ret) ∧ ∃ v, resV _ _ = some v ∧ _
          refine ⟨.inr rfl, _, rfl, _, Sub.drop (Sub.drop (Sub.refl _)), ?_, rfl⟩
          unfold sameT
          rw [decide_eq_false]
          rintro ⟨rfl, rfl⟩
          simp at c37
        · try simp only [decide_eq_true_eq, decide_eq_false_iff_not, beq_iff_eq, bne_iff_ne, beq_eq_false_iff_ne, bne_eq_false_iff_eq, Bool.not_eq_true', Bool.not_eq_false', Bool.not_eq_true, ne_eq, Decidable.not_not] at c37
          refine PW.skip ?_
          refine hK4 _ _ ?_
          refine PW.keep (T' := [(2, _), (3, _), (5, _)]) ⟨rfl, rfl, rfl, trivial⟩ ?_
          refine PW.ops ?_
          refine OL.det trivial (Yields.pure rfl) ?_
          refine OL.det trivial (Yields.add64 rfl rfl (by omega) (by omega)) ?_
          refine OL.det trivial (Yields.pure rfl) ?_
          refine OL.nil ?_
          repeat rw [inBlk_n]
          rw [thenK_n]
          refine LoopEnd.mk (T'' := [(2, _), (3, _), (5, _)]) ⟨rfl, rfl, rfl, trivial⟩ ?_
          refine ⟨l.length - (k + 1), by omega, k + 1, ⟨by omega, rfl, rtake_eq hkl hkl' ht (by simpa using c37)⟩, rfl, rfl⟩
      · try simp only [decide_eq_true_eq, decide_eq_false_iff_not, beq_iff_eq, bne_iff_ne, beq_eq_false_iff_ne, bne_eq_false_iff_eq, Bool.not_eq_true', Bool.not_eq_false', Bool.not_eq_true, ne_eq, Decidable.not_not] at c24
        refine PW.exit ?_
        refine hK2 _ _ ?_
        refine PW.keep (T' := []) trivial ?_
        refine PW.seqOps ?_
        refine OL.det trivial (Yields.pure rfl) ?_
        refine OL.nil ?_
        refine PW.keep (T' := [(4, _)]) ⟨rfl, trivial⟩ ?_
        refine PW.ret ?_
        change (Exit.ret = Exit.normal ∨ Exit.ret = Exit.ret) ∧ ∃ v, resV _ _ = some v ∧ _
        obtain rfl : k = l.length := by omega
        refine ⟨.inr rfl, _, rfl, _, Sub.drop (Sub.drop (Sub.refl _)), ?_, rfl⟩
        rw [List.take_length, show l.length = l'.length from by omega, List.take_length] at ht
        unfold sameT
        rw [decide_eq_true ⟨by simpa using g11, ht⟩]
end Go.Proofs.Rl

set_option linter.unusedVariables false
set_option linter.unusedSimpArgs false
namespace Go.Proofs.Rl
open Go.SL Go.RowKit Go.Proofs Go.Proofs.Lb
set_option maxHeartbeats 1000000
theorem insert_fc {w0 : World} {S : SS} {rv i : Nat} {x : RuleB} {v : Value} {l : List RuleB} {seg : Seg} (hv : SlV 56 3 v l.length (ruls l) seg) (hi : i ≤ l.length) (hb : l.length ≤ 1000000000) :
    FC Tryd.prog w0 74 [v, .int .i64 i, .slice (some ⟨rv, 0, none⟩) 1 1] ([(rv, .cells (ruleC x) 56 3)] :: seg :: S) (fun v S' => ∃ seg, S' = seg :: S ∧ SlV 56 3 v (l.length + 1) (ruls (insL l i x)) seg) := by
  obtain ⟨hl, ⟨rfl, h0, rfl⟩ | ⟨r, cap, rfl, rfl, h1, h2⟩⟩ := hv
  · have e : l = [] := List.eq_nil_of_length_eq_zero h0
    subst e
    obtain rfl : i = 0 := by simpa using hi
    exact FC.subS (Sub.cons (Sub.drop (Sub.refl _))) insert_nil
  · exact insert_own hi h1 h2 hb
theorem idx_at (q : RuleB → Bool) (l : List RuleB) : ∃ k, k ≤ l.length ∧ (∀ x ∈ l.take k, q x = false) ∧ (∀ h : k < l.length, q l[k] = true) ∧ ((idxZ q l = (k : Int) ∧ k < l.length) ∨ (idxZ q l = -1 ∧ k = l.length)) := by
  unfold idxZ
  cases h : l.findIdx? q with
  | none =>
    refine ⟨l.length, Nat.le_refl _, fun x hx => ?_, fun h => by omega, .inr ⟨rfl, rfl⟩⟩
    rw [List.take_length] at hx
    exact List.findIdx?_eq_none_iff.1 h x hx
  | some k =>
    obtain ⟨hk, h1, h2⟩ := List.findIdx?_eq_some_iff_getElem.1 h
    refine ⟨k, by omega, fun x hx => ?_, fun _ => h1, .inl ⟨rfl, hk⟩⟩
    obtain ⟨j, hj, rfl⟩ := List.mem_take_iff_getElem.1 hx
    have := h2 j (by omega)
    simpa using this
theorem ruls_setlab {l : List RuleB} {k : Nat} (hk : k < l.length) (x : LabB) : setAt (ruls l) (k * 3 + 1) [.int .i64 x.1, .int .u64 (x.2.toNat : Int)] = ruls (l.set k (l[k].1, x)) := by
  rw [setAt_eq _ _ _ (by rw [ruls_len]; simp; omega)]
  have h1 : l = l.take k ++ l[k] :: l.drop (k + 1) := by simp
  have h2 : l.set k (l[k].1, x) = l.take k ++ (l[k].1, x) :: l.drop (k + 1) := by rw [List.set_eq_take_append_cons_drop, if_pos hk]
  have e : ∀ y : RuleB, ruls (l.take k ++ y :: l.drop (k + 1)) = ruls (l.take k) ++ ruleC y ++ ruls (l.drop (k + 1)) := fun y => by rw [ruls_app, List.append_assoc]; rfl
  have hl : (ruls (l.take k)).length = k * 3 := by rw [ruls_len, List.length_take]; omega
  rw [h2, e]
  conv => lhs; rw [h1]
  rw [e]
  have e1 : (ruls (l.take k) ++ ruleC l[k] ++ ruls (l.drop (k + 1))).take (k * 3 + 1) = ruls (l.take k) ++ [.string l[k].1] := by
    rw [List.append_assoc, List.take_append, hl, List.take_of_length_le (by omega), show k * 3 + 1 - k * 3 = 1 from by omega]
    rfl
  have e2 : (ruls (l.take k) ++ ruleC l[k] ++ ruls (l.drop (k + 1))).drop (k * 3 + 1 + 2) = ruls (l.drop (k + 1)) := by
    exact List.drop_left' (by simp [hl, ruleC_len])
  show _ ++ _ ++ List.drop (k * 3 + 1 + 2) _ = _
  rw [e1, e2]
  simp [ruleC]
def geL (a : ByteArray) (x : RuleB) : Bool := !ltB x.1 a
/-- what With answers -/
def withT (l : List RuleB) (tv : Int) (a : ByteArray) (x : LabB) : Int × Int × List RuleB :=
  if prefB a = false then (15, 0, []) else if okL x = false ∨ chkT l tv ≠ 0 then (2, 0, []) else
    match l.findIdx? (geL a) with
    | some k => if l[k]!.1 = a then (0, tv + 1, l.set k (a, x)) else if l.length = 32 then (7, 0, []) else (0, tv + 1, insL l k (a, x))
    | none => if l.length = 32 then (7, 0, []) else (0, tv + 1, insL l l.length (a, x))
theorem withT_bad {l : List RuleB} {tv : Int} {a : ByteArray} {x : LabB} (h : prefB a = false) : withT l tv a x = (15, 0, []) := by unfold withT; rw [if_pos h]
theorem withT_arg {l : List RuleB} {tv : Int} {a : ByteArray} {x : LabB} (h : prefB a = true) (h2 : okL x = false ∨ chkT l tv ≠ 0) : withT l tv a x = (2, 0, []) := by unfold withT; rw [if_neg (by rw [h]; simp), if_pos h2]
theorem withT_at {l : List RuleB} {tv : Int} {a : ByteArray} {x : LabB} {k : Nat} (h : prefB a = true) (h2 : okL x = true) (h3 : chkT l tv = 0) (hz : (idxZ (geL a) l = (k : Int) ∧ k < l.length) ∨ (idxZ (geL a) l = -1 ∧ k = l.length)) :
    withT l tv a x = if h : k < l.length ∧ l[k]!.1 = a then (0, tv + 1, l.set k (a, x)) else if l.length = 32 then (7, 0, []) else (0, tv + 1, insL l k (a, x)) := by
  unfold withT
  rw [if_neg (by rw [h]; simp), if_neg (by rw [h2, h3]; simp)]
  unfold idxZ at hz
  cases hf : l.findIdx? (geL a) with
  | none =>
    rw [hf] at hz
    rcases hz with ⟨hz, _⟩ | ⟨_, rfl⟩
    · exact absurd hz (by show ¬ ((-1 : Int) = _); omega)
    · rw [dif_neg (fun h => by omega)]
  | some j =>
    rw [hf] at hz
    rcases hz with ⟨hz, hk⟩ | ⟨hz, _⟩
    · obtain rfl : j = k := by have : (j : Int) = (k : Int) := hz; omega
      by_cases e : l[j]!.1 = a
      · simp only [if_pos e]; rw [dif_pos ⟨hk, e⟩]
      · simp only [if_neg e]; rw [dif_neg (fun h => e h.2)]
    · exact absurd hz (by show ¬ ((j : Int) = -1); omega)
theorem with_fc {w0 : World} {S : SS} {A : Option Addr} {c : Nat} {tv : Int} {l : List RuleB} {at_ : ByteArray} {x : LabB} (hx : Rd w0 S A (ruls l)) (hw : ∀ x ∈ l, x.1.size ≤ 1000000000) (hs : at_.size ≤ 1000000000) (hl : l.length ≤ 1000000000) (htv0 : -1000000000 ≤ tv) (htv : tv ≤ 1000000000) :
    FC Tryd.prog w0 43 [tabV tv A l.length c, .string at_, labB x] S (fun v S' => ∃ A' c' seg, v = .tuple #[tabV (withT l tv at_ x).2.1 A' (withT l tv at_ x).2.2.length c', .int .i64 (withT l tv at_ x).1] ∧ S' = seg :: S ∧ SlV 56 3 (.slice A' (withT l tv at_ x).2.2.length c') (withT l tv at_ x).2.2.length (ruls (withT l tv at_ x).2.2) seg) := by
  refine FC.ofCT Tryd.known43 (by simp) ?_
  unfold Tryd.pc43
  simp only [argT]
  refine PW.seqOps ?_
  refine OL.cons trivial (OW.bx rfl) ?_
  rintro _ _ ⟨r3, rfl, rfl⟩
  change OL _ _ _ _ _ (tseg r3 tv A l.length c :: S) _
  refine OL.cons trivial (OW.bx rfl) ?_
  rintro _ _ ⟨r4, rfl, rfl⟩
  change OL _ _ _ _ _ ([(r4, .cells [.string at_] 9 1)] :: tseg r3 tv A l.length c :: S) _
  refine OL.cons trivial (OW.bx rfl) ?_
  rintro _ _ ⟨r5, rfl, rfl⟩
  change OL _ _ _ _ _ (lseg r5 x :: [(r4, .cells [.string at_] 9 1)] :: tseg r3 tv A l.length c :: S) _
  refine OL.cons trivial OW.al ?_
  rintro _ _ ⟨r6, rfl, rfl⟩
  change OL _ _ _ _ _ ([(r6, .cells [.int .i64 0, .slice none 0 0] 45 2)] :: lseg r5 x :: [(r4, .cells [.string at_] 9 1)] :: tseg r3 tv A l.length c :: S) _
  refine OL.det trivial (Yields.pure rfl) ?_
  refine OL.nil ?_
  refine PW.keep (T' := [(3, _), (4, _), (5, _), (6, _)]) ⟨rfl, rfl, rfl, rfl, trivial⟩ ?_
  refine PW.seq fun K1 hK1 => ?_
  refine PW.block ?_
  refine PW.seqOps ?_
  refine OL.det trivial (Yields.ld rfl (own_at (j := 0) (c := [.string at_]) (E := 9) (tot := 1) (List.mem_flatten.2 ⟨_, .tail _ (.tail _ (.head _)), List.mem_singleton.2 rfl⟩) rfl)) ?_
  refine OL.call trivial rfl (prefB_fc hs) ?_
  rintro _ Sx ⟨rfl, hSx⟩
  rw [hSx]
  clear hSx
  refine OL.det trivial (Yields.pure rfl) ?_
  refine OL.det trivial (Yields.pure rfl) ?_
  refine OL.nil ?_
  refine PW.keep (T' := [(3, _), (4, _), (5, _), (6, _), (10, _)]) ⟨rfl, rfl, rfl, rfl, rfl, trivial⟩ ?_
  refine PW.cond rfl (fun c10 => ?_) (fun c10 => ?_)
  · try simp only [decide_eq_true_eq, decide_eq_false_iff_not, beq_iff_eq, bne_iff_ne, beq_eq_false_iff_ne, bne_eq_false_iff_eq, Bool.not_eq_true', Bool.not_eq_false', Bool.not_eq_true, ne_eq, Decidable.not_not] at c10
    refine PW.seqOps ?_
    refine OL.det trivial (Yields.build rfl) ?_
    refine OL.cons trivial (OW.st (k := 0) (u := tabV 0 none 0 0) rfl rfl rfl rfl (Nat.le_refl 2) rfl) ?_
    rintro _ _ rfl
    change OL _ _ _ _ _ ([(r6, .cells [.int .i64 0, .slice none 0 0] 45 2)] :: lseg r5 x :: [(r4, .cells [.string at_] 9 1)] :: tseg r3 tv A l.length c :: S) _
    refine OL.det trivial (Yields.pure rfl) ?_
    refine OL.nil ?_
    refine PW.keep (T' := [(6, _), (7, _)]) ⟨rfl, rfl, trivial⟩ ?_
    refine PW.ret ?_
    change (Exit.ret = Exit.normal ∨ Exit.ret = Exit.ret) ∧ ∃ a v x, Go.SL.look _ _ = some (.pointer (some a)) ∧ ReadsAs _ _ _ _ _ ∧ Go.SL.look _ _ = some x ∧ _
    have hres := withT_bad (l := l) (tv := tv) (x := x) c10
    rw [hres]
    refine ⟨.inr rfl, _, tabV 0 none 0 0, .int .i64 15, rfl, tab_read (E := 45) (List.mem_flatten.2 ⟨_, .head _, List.mem_singleton.2 rfl⟩), rfl, _, Sub.nilL (Sub.drop (Sub.drop (Sub.drop (Sub.drop (Sub.refl _))))), none, 0, [], rfl, rfl, SlV.nil 56 3⟩
  · try simp only [decide_eq_true_eq, decide_eq_false_iff_not, beq_iff_eq, bne_iff_ne, beq_eq_false_iff_ne, bne_eq_false_iff_eq, Bool.not_eq_true', Bool.not_eq_false', Bool.not_eq_true, ne_eq, Decidable.not_not] at c10
    have hp0 : prefB at_ = true := by simpa using c10
    refine PW.seqOps ?_
    refine OL.det trivial (Yields.ldA rfl rfl (lab_at (a := x) (r := r5) (List.mem_flatten.2 ⟨_, .tail _ (.head _), List.mem_singleton.2 rfl⟩))) ?_
    refine OL.call trivial rfl (check_lab (a := (x.1, (x.2.toNat)))) ?_
    rintro _ Sx ⟨rfl, hSx⟩
    rw [hSx]
    clear hSx
    refine OL.det trivial (Yields.pure rfl) ?_
    refine OL.bool trivial (Yields.pure rfl) (fun g19 => ?_) (fun g19 => ?_)
    · try simp only [decide_eq_true_eq, decide_eq_false_iff_not, beq_iff_eq, bne_iff_ne, beq_eq_false_iff_ne, bne_eq_false_iff_eq, Bool.not_eq_true', Bool.not_eq_false', Bool.not_eq_true, ne_eq, Decidable.not_not] at g19
      have harg : okL x = false ∨ chkT l tv ≠ 0 := .inl (by rw [Bool.eq_false_iff, Ne, ← okL_chk]; exact g19)
      refine OL.off rfl rfl ?_
      refine OL.off rfl rfl ?_
      refine OL.off rfl rfl ?_
      refine OL.det trivial (Yields.pure rfl) ?_
      refine OL.det trivial (Yields.pure rfl) ?_
      refine OL.nil ?_
      refine PW.keep (T' := [(3, _), (4, _), (5, _), (6, _), (15, _)]) ⟨rfl, rfl, rfl, rfl, rfl, trivial⟩ ?_
      refine PW.ite (b := true) rfl ?_
      rw [if_pos rfl]
      refine PW.seqOps ?_
      refine OL.det trivial (Yields.build rfl) ?_
      refine OL.cons trivial (OW.st (k := 0) (u := tabV 0 none 0 0) rfl rfl rfl rfl (Nat.le_refl 2) rfl) ?_
      rintro _ _ rfl
      change OL _ _ _ _ _ ([(r6, .cells [.int .i64 0, .slice none 0 0] 45 2)] :: lseg r5 x :: [(r4, .cells [.string at_] 9 1)] :: tseg r3 tv A l.length c :: S) _
      refine OL.det trivial (Yields.pure rfl) ?_
      refine OL.nil ?_
      refine PW.keep (T' := [(6, _), (7, _)]) ⟨rfl, rfl, trivial⟩ ?_
      refine PW.ret ?_
      change (Exit.ret = Exit.normal ∨ Exit.ret = Exit.ret) ∧ ∃ a v x, Go.SL.look _ _ = some (.pointer (some a)) ∧ ReadsAs _ _ _ _ _ ∧ Go.SL.look _ _ = some x ∧ _
      have hres := withT_arg hp0 harg
      rw [hres]
      refine ⟨.inr rfl, _, tabV 0 none 0 0, .int .i64 2, rfl, tab_read (E := 45) (List.mem_flatten.2 ⟨_, .head _, List.mem_singleton.2 rfl⟩), rfl, _, Sub.nilL (Sub.drop (Sub.drop (Sub.drop (Sub.drop (Sub.refl _))))), none, 0, [], rfl, rfl, SlV.nil 56 3⟩
    · try simp only [decide_eq_true_eq, decide_eq_false_iff_not, beq_iff_eq, bne_iff_ne, beq_eq_false_iff_ne, bne_eq_false_iff_eq, Bool.not_eq_true', Bool.not_eq_false', Bool.not_eq_true, ne_eq, Decidable.not_not] at g19
      have hok : okL x = true := (okL_chk _).1 (by simpa using g19)
      refine OL.det rfl (Yields.ldA rfl (cs := [.int .i64 tv, .slice A l.length c]) rfl (tab_at (tv := tv) (A := A) (n := l.length) (c := c) (r := r3) (List.mem_flatten.2 ⟨_, .tail _ (.tail _ (.tail _ (.head _))), List.mem_singleton.2 rfl⟩))) ?_
      refine OL.call rfl rfl (chkT_fc hx.cons.cons.cons.cons hw hl) ?_
      rintro _ Sx ⟨rfl, hSx⟩
      rw [hSx]
      clear hSx
      refine OL.det rfl (Yields.pure rfl) ?_
      refine OL.det trivial (Yields.pure rfl) ?_
      refine OL.det trivial (Yields.pure rfl) ?_
      refine OL.nil ?_
      refine PW.keep (T' := [(3, _), (4, _), (5, _), (6, _), (15, _)]) ⟨rfl, rfl, rfl, rfl, rfl, trivial⟩ ?_
      refine PW.cond rfl (fun c15 => ?_) (fun c15 => ?_)
      · try simp only [decide_eq_true_eq, decide_eq_false_iff_not, beq_iff_eq, bne_iff_ne, beq_eq_false_iff_ne, bne_eq_false_iff_eq, Bool.not_eq_true', Bool.not_eq_false', Bool.not_eq_true, ne_eq, Decidable.not_not] at c15
        have harg : okL x = false ∨ chkT l tv ≠ 0 := .inr c15
        refine PW.seqOps ?_
        refine OL.det trivial (Yields.build rfl) ?_
        refine OL.cons trivial (OW.st (k := 0) (u := tabV 0 none 0 0) rfl rfl rfl rfl (Nat.le_refl 2) rfl) ?_
        rintro _ _ rfl
        change OL _ _ _ _ _ ([(r6, .cells [.int .i64 0, .slice none 0 0] 45 2)] :: lseg r5 x :: [(r4, .cells [.string at_] 9 1)] :: tseg r3 tv A l.length c :: S) _
        refine OL.det trivial (Yields.pure rfl) ?_
        refine OL.nil ?_
        refine PW.keep (T' := [(6, _), (7, _)]) ⟨rfl, rfl, trivial⟩ ?_
        refine PW.ret ?_
        change (Exit.ret = Exit.normal ∨ Exit.ret = Exit.ret) ∧ ∃ a v x, Go.SL.look _ _ = some (.pointer (some a)) ∧ ReadsAs _ _ _ _ _ ∧ Go.SL.look _ _ = some x ∧ _
        have hres := withT_arg hp0 harg
        rw [hres]
        refine ⟨.inr rfl, _, tabV 0 none 0 0, .int .i64 2, rfl, tab_read (E := 45) (List.mem_flatten.2 ⟨_, .head _, List.mem_singleton.2 rfl⟩), rfl, _, Sub.nilL (Sub.drop (Sub.drop (Sub.drop (Sub.drop (Sub.refl _))))), none, 0, [], rfl, rfl, SlV.nil 56 3⟩
      · try simp only [decide_eq_true_eq, decide_eq_false_iff_not, beq_iff_eq, bne_iff_ne, beq_eq_false_iff_ne, bne_eq_false_iff_eq, Bool.not_eq_true', Bool.not_eq_false', Bool.not_eq_true, ne_eq, Decidable.not_not] at c15
        have hch : chkT l tv = 0 := by simpa using c15
        refine PW.skip ?_
        refine hK1 _ _ ?_
        refine PW.keep (T' := [(3, _), (4, _), (5, _), (6, _)]) ⟨rfl, rfl, rfl, rfl, trivial⟩ ?_
        refine PW.seqOps ?_
        refine OL.det trivial (Yields.pure rfl) ?_
        refine OL.det trivial (Yields.ld rfl (own_at (j := 1) (c := [.int .i64 tv, .slice A l.length c]) (E := 45) (tot := 2) (List.mem_flatten.2 ⟨_, .tail _ (.tail _ (.tail _ (.head _))), List.mem_singleton.2 rfl⟩) rfl)) ?_
        refine OL.call trivial rfl (rclone_fc hx.cons.cons.cons.cons (by omega)) ?_
        rintro v8 _ ⟨seg8, rfl, hsl8⟩
        obtain ⟨A8, c8, rfl, hc8, _, hrd8⟩ := slv_rdL (w0 := w0) hsl8
        refine OL.det trivial (Yields.pure rfl) ?_
        refine OL.nil ?_
        refine PW.keep (T' := [(3, _), (4, _), (5, _), (6, _), (8, _)]) ⟨rfl, rfl, rfl, rfl, rfl, trivial⟩ ?_
        refine PW.seqOps ?_
        refine OL.det trivial (Yields.pure rfl) ?_
        refine OL.det trivial (Yields.mkF rfl) ?_
        refine OL.call trivial rfl (indexR_fc (q := geL at_) (ca := [.pointer (some ⟨r4, 0, none⟩)]) (hrd8 _) hl (by kernel_rfl) (fun y hy => geq_fc (own_at (j := 0) (c := [.string at_]) (E := 9) (tot := 1) (List.mem_flatten.2 ⟨_, .tail _ (.tail _ (.tail _ (.head _))), List.mem_singleton.2 rfl⟩) rfl))) ?_
        rintro _ Sx ⟨rfl, hSx⟩
        rw [hSx]
        clear hSx
        obtain ⟨kf, hkle, hkt, hkq, hkz⟩ := idx_at (geL at_) l
        refine OL.det trivial (Yields.pure rfl) ?_
        refine OL.nil ?_
        refine PW.keep (T' := [(3, _), (4, _), (5, _), (6, _), (8, _), (9, _)]) ⟨rfl, rfl, rfl, rfl, rfl, rfl, trivial⟩ ?_
        refine PW.seq fun K2 hK2 => ?_
        refine PW.seqOps ?_
        refine OL.det trivial (Yields.pure rfl) ?_
        refine OL.det trivial (Yields.pure rfl) ?_
        refine OL.nil ?_
        refine PW.keep (T' := [(3, _), (4, _), (5, _), (6, _), (8, _), (9, _), (32, _)]) ⟨rfl, rfl, rfl, rfl, rfl, rfl, rfl, trivial⟩ ?_
        refine PW.cond rfl (fun c32 => ?_) (fun c32 => ?_)
        · try simp only [decide_eq_true_eq, decide_eq_false_iff_not, beq_iff_eq, bne_iff_ne, beq_eq_false_iff_ne, bne_eq_false_iff_eq, Bool.not_eq_true', Bool.not_eq_false', Bool.not_eq_true, ne_eq, Decidable.not_not] at c32
          have hkz2 : kf = l.length := by rcases hkz with h | h <;> omega
          refine PW.ops ?_
          refine OL.det trivial (Yields.pure rfl) ?_
          refine OL.det trivial (Yields.to (v' := .int .i64 (kf : Int)) (Yields.pure rfl) (by rw [hkz2])) ?_
          refine OL.det trivial (Yields.pure rfl) ?_
          refine OL.nil ?_
          refine hK2 _ _ ?_
          refine PW.keep (T' := [(3, _), (4, _), (5, _), (6, _), (8, _), (9, _)]) ⟨rfl, rfl, rfl, rfl, rfl, rfl, trivial⟩ ?_
          refine PW.seq fun K3 hK3 => ?_
          refine PW.seq fun K4 hK4 => ?_
          refine PW.quietK Tryd.mixed ?_
          refine QK.det trivial (Yields.pure rfl) ?_
          refine QK.det trivial (Yields.pure rfl) ?_
          refine QK.det trivial (Yields.pure rfl) ?_
          refine QK.det trivial (Yields.pure rfl) ?_
          refine QK.bool trivial (Yields.pure rfl) (fun g39 => ?_) (fun g39 => ?_)
          · try simp only [decide_eq_true_eq, decide_eq_false_iff_not, beq_iff_eq, bne_iff_ne, beq_eq_false_iff_ne, bne_eq_false_iff_eq, Bool.not_eq_true', Bool.not_eq_false', Bool.not_eq_true, ne_eq, Decidable.not_not] at g39
            have hkl : kf < l.length := by omega
            obtain ⟨a8, rfl⟩ := ruls_some (hrd8 []) (by omega)
            refine QK.det rfl (Yields.pure rfl) ?_
            refine QK.det rfl (Yields.pure rfl) ?_
            refine QK.det rfl (Yields.ixN rfl rfl rfl (by omega)) ?_
            refine QK.det rfl (Yields.pure rfl) ?_
            refine QK.det rfl (Yields.ld rfl (rule_at (hrd8 _) hkl 0 _ rfl)) ?_
            refine QK.det rfl (Yields.ld rfl (own_at (j := 0) (c := [.string at_]) (E := 9) (tot := 1) (List.mem_flatten.2 ⟨_, .tail _ (.tail _ (.tail _ (.head _))), List.mem_singleton.2 rfl⟩) rfl)) ?_
            refine QK.nil ?_
            change OL _ _ _ [_, _] _ _ _
            refine OL.det rfl (Yields.pure rfl) ?_
            refine OL.det trivial (Yields.pure rfl) ?_
            refine OL.nil ?_
            refine hK4 _ _ ?_
            refine PW.keep (T' := [(3, _), (4, _), (5, _), (6, _), (8, _), (9, _), (47, _)]) ⟨rfl, rfl, rfl, rfl, rfl, rfl, rfl, trivial⟩ ?_
            refine PW.cond rfl (fun c47 => ?_) (fun c47 => ?_)
            · try simp only [decide_eq_true_eq, decide_eq_false_iff_not, beq_iff_eq, bne_iff_ne, beq_eq_false_iff_ne, bne_eq_false_iff_eq, Bool.not_eq_true', Bool.not_eq_false', Bool.not_eq_true, ne_eq, Decidable.not_not] at c47
              rw [toL_inj] at c47
              obtain ⟨r8, c8n, e8, rfl, hc8, hm8⟩ := slv_nil_len hsl8 (by omega)
              obtain ⟨rfl, rfl⟩ : a8 = ⟨r8, 0, none⟩ ∧ c8 = c8n := by cases e8; exact ⟨rfl, rfl⟩
              refine PW.seqOps ?_
              refine OL.det trivial (Yields.pure rfl) ?_
              refine OL.det trivial (Yields.pure rfl) ?_
              refine OL.det trivial (Yields.ldA rfl rfl (lab_at (a := x) (r := r5) (List.mem_flatten.2 ⟨_, .tail _ (.tail _ (.head _)), List.mem_singleton.2 rfl⟩))) ?_
              refine OL.det trivial (Yields.ixO rfl rfl rfl (by omega)) ?_
              refine OL.det trivial (Yields.pure rfl) ?_
              refine OL.cons trivial (OW.st (k := 0) (c := ruls l) (u := labB x) rfl rfl rfl rfl (by rw [ruls_len]; show kf * 3 + 1 + 2 ≤ _; omega) rfl) ?_
              rintro _ _ rfl
              change OL _ _ _ _ _ ([(r8, .cells (setAt (ruls l) (kf * 3 + 1) [.int .i64 x.1, .int .u64 (x.2.toNat : Int)]) 56 (c8 * 3))] :: [(r6, .cells [.int .i64 0, .slice none 0 0] 45 2)] :: lseg r5 x :: [(r4, .cells [.string at_] 9 1)] :: tseg r3 tv A l.length c :: S) _
              rw [ruls_setlab hkl, c47]
              have hsl9 : SlV 56 3 (.slice (some ⟨r8, 0, none⟩) l.length c8) l.length (ruls (l.set kf (at_, x))) [(r8, .cells (ruls (l.set kf (at_, x))) 56 (c8 * 3))] := SlV.mk' (by rw [ruls_len]; simp) hc8 hm8
              refine OL.nil ?_
              refine PW.keep (T' := [(3, _), (6, _), (8, _)]) ⟨rfl, rfl, rfl, trivial⟩ ?_
              refine PW.seqOps ?_
              refine OL.det trivial (Yields.pure rfl) ?_
              refine OL.det trivial (Yields.ld rfl (own_at (j := 0) (c := [.int .i64 tv, .slice A l.length c]) (E := 45) (tot := 2) (List.mem_flatten.2 ⟨_, .tail _ (.tail _ (.tail _ (.tail _ (.head _)))), List.mem_singleton.2 rfl⟩) rfl)) ?_
              refine OL.det trivial (Yields.add64 rfl rfl (by omega) (by omega)) ?_
              refine OL.det trivial (Yields.pure rfl) ?_
              refine OL.det trivial (Yields.build rfl) ?_
              refine OL.cons trivial (OW.st (k := 1) (u := tabV (tv + 1) (some ⟨r8, 0, none⟩) l.length c8) rfl rfl rfl rfl (Nat.le_refl 2) rfl) ?_
              rintro _ _ rfl
              change OL _ _ _ _ _ ([(r8, .cells (ruls (l.set kf (at_, x))) 56 (c8 * 3))] :: [(r6, .cells [.int .i64 (tv + 1), .slice (some ⟨r8, 0, none⟩) l.length c8] 45 2)] :: lseg r5 x :: [(r4, .cells [.string at_] 9 1)] :: tseg r3 tv A l.length c :: S) _
              refine OL.det trivial (Yields.pure rfl) ?_
              refine OL.nil ?_
              refine PW.keep (T' := [(6, _), (7, _)]) ⟨rfl, rfl, trivial⟩ ?_
              refine PW.ret ?_
              change (Exit.ret = Exit.normal ∨ Exit.ret = Exit.ret) ∧ ∃ a v x, Go.SL.look _ _ = some (.pointer (some a)) ∧ ReadsAs _ _ _ _ _ ∧ Go.SL.look _ _ = some x ∧ _
              have hres := withT_at (x := x) hp0 hok hch hkz
              rw [dif_pos ⟨hkl, by rw [getElem!_pos l kf hkl]; exact c47⟩] at hres
              rw [hres]
              have hls : (l.set kf (at_, x)).length = l.length := by simp
              refine ⟨.inr rfl, _, tabV (tv + 1) (some ⟨r8, 0, none⟩) l.length c8, .int .i64 0, rfl, tab_read (E := 45) (List.mem_flatten.2 ⟨_, .tail _ (.head _), List.mem_singleton.2 rfl⟩), rfl, _, Sub.cons (Sub.drop (Sub.drop (Sub.drop (Sub.drop (Sub.refl _))))), some ⟨r8, 0, none⟩, c8, _, by simp only [hls], rfl, ?_⟩
              simp only [hls]
              exact hsl9
            · try simp only [decide_eq_true_eq, decide_eq_false_iff_not, beq_iff_eq, bne_iff_ne, beq_eq_false_iff_ne, bne_eq_false_iff_eq, Bool.not_eq_true', Bool.not_eq_false', Bool.not_eq_true, ne_eq, Decidable.not_not] at c47
              have hnat : ¬ (kf < l.length ∧ l[kf]!.1 = at_) := fun h => c47 (toL_inj.2 (by rw [← getElem!_pos l kf hkl]; exact h.2))
              refine PW.skip ?_
              refine hK3 _ _ ?_
              refine PW.keep (T' := [(3, _), (4, _), (5, _), (6, _), (8, _), (9, _)]) ⟨rfl, rfl, rfl, rfl, rfl, rfl, trivial⟩ ?_
              refine PW.seq fun K5 hK5 => ?_
              refine PW.seqOps ?_
              refine OL.det trivial (Yields.pure rfl) ?_
              refine OL.det trivial (Yields.pure rfl) ?_
              refine OL.det trivial (Yields.pure rfl) ?_
              refine OL.nil ?_
              refine PW.keep (T' := [(3, _), (4, _), (5, _), (6, _), (8, _), (9, _), (60, _)]) ⟨rfl, rfl, rfl, rfl, rfl, rfl, rfl, trivial⟩ ?_
              refine PW.cond rfl (fun c60 => ?_) (fun c60 => ?_)
              · try simp only [decide_eq_true_eq, decide_eq_false_iff_not, beq_iff_eq, bne_iff_ne, beq_eq_false_iff_ne, bne_eq_false_iff_eq, Bool.not_eq_true', Bool.not_eq_false', Bool.not_eq_true, ne_eq, Decidable.not_not] at c60
                refine PW.seqOps ?_
                refine OL.det trivial (Yields.build rfl) ?_
                refine OL.cons trivial (OW.st (k := 1) (u := tabV 0 none 0 0) rfl rfl rfl rfl (Nat.le_refl 2) rfl) ?_
                rintro _ _ rfl
                change OL _ _ _ _ _ (seg8 :: [(r6, .cells [.int .i64 0, .slice none 0 0] 45 2)] :: lseg r5 x :: [(r4, .cells [.string at_] 9 1)] :: tseg r3 tv A l.length c :: S) _
                refine OL.det trivial (Yields.pure rfl) ?_
                refine OL.nil ?_
                refine PW.keep (T' := [(6, _), (7, _)]) ⟨rfl, rfl, trivial⟩ ?_
                refine PW.ret ?_
                change (Exit.ret = Exit.normal ∨ Exit.ret = Exit.ret) ∧ ∃ a v x, Go.SL.look _ _ = some (.pointer (some a)) ∧ ReadsAs _ _ _ _ _ ∧ Go.SL.look _ _ = some x ∧ _
                have hres := withT_at (x := x) hp0 hok hch hkz
                rw [dif_neg hnat, if_pos (by omega)] at hres
                rw [hres]
                refine ⟨.inr rfl, _, tabV 0 none 0 0, .int .i64 7, rfl, tab_read (E := 45) (List.mem_flatten.2 ⟨_, .tail _ (.head _), List.mem_singleton.2 rfl⟩), rfl, _, Sub.nilL (Sub.drop (Sub.drop (Sub.drop (Sub.drop (Sub.drop (Sub.refl _)))))), none, 0, [], rfl, rfl, SlV.nil 56 3⟩
              · try simp only [decide_eq_true_eq, decide_eq_false_iff_not, beq_iff_eq, bne_iff_ne, beq_eq_false_iff_ne, bne_eq_false_iff_eq, Bool.not_eq_true', Bool.not_eq_false', Bool.not_eq_true, ne_eq, Decidable.not_not] at c60
                refine PW.skip ?_
                refine hK5 _ _ ?_
                refine PW.keep (T' := [(3, _), (4, _), (5, _), (6, _), (8, _), (9, _)]) ⟨rfl, rfl, rfl, rfl, rfl, rfl, trivial⟩ ?_
                refine PW.seq fun K6 hK6 => ?_
                refine PW.quietRNK (base := [(r6, .cells [.int .i64 0, .slice none 0 0] 45 2)] :: lseg r5 x :: [(r4, .cells [.string at_] 9 1)] :: tseg r3 tv A l.length c :: S) Tryd.mixed (Over.refl _).cons ?_
                refine QN.det trivial (fun Sx hSx => Yields.pure rfl) ?_
                refine QN.det trivial (fun Sx hSx => Yields.ld rfl (own_at (j := 0) (c := [.int .i64 tv, .slice A l.length c]) (E := 45) (tot := 2) (hSx _ (List.mem_flatten.2 ⟨_, .tail _ (.tail _ (.tail _ (.head _))), List.mem_singleton.2 rfl⟩)) rfl)) ?_
                refine QN.det trivial (fun Sx hSx => Yields.add64 rfl rfl (by omega) (by omega)) ?_
                refine QN.det trivial (fun Sx hSx => Yields.pure rfl) ?_
                refine QN.det trivial (fun Sx hSx => Yields.pure rfl) ?_
                refine QN.det trivial (fun Sx hSx => Yields.ld rfl (own_at (j := 0) (c := [.string at_]) (E := 9) (tot := 1) (hSx _ (List.mem_flatten.2 ⟨_, .tail _ (.tail _ (.head _)), List.mem_singleton.2 rfl⟩)) rfl)) ?_
                refine QN.det trivial (fun Sx hSx => Yields.ldA rfl rfl (lab_at (a := x) (r := r5) (hSx _ (List.mem_flatten.2 ⟨_, .tail _ (.head _), List.mem_singleton.2 rfl⟩)))) ?_
                refine QN.det trivial (fun Sx hSx => Yields.build rfl) ?_
                refine QN.hole ?_
                refine QN.hole ?_
                refine QN.nil ⟨rfl, rfl, ordB_of (hp := [8, 9]) rfl (by decide), ?_⟩
                refine ⟨rfl, OW.mono (OW.bsl rfl) ?_⟩
                rintro _ _ ⟨r70, rfl, rfl⟩
                refine ⟨(Over.refl _).cons.cons, ?_⟩
                refine ⟨rfl, OW.mono (OW.call rfl (insert_fc (x := (at_, x)) hsl8 hkle hl)) ?_⟩
                rintro v71 _ ⟨seg71, rfl, hsl71⟩
                obtain ⟨A71, c71, rfl, hc71, _⟩ := slv_rdL (w0 := w0) hsl71
                refine ⟨(Over.refl _).cons, ?_⟩
                change OL _ _ _ [_, _, _] _ _ _
                refine OL.det trivial (Yields.build rfl) ?_
                refine OL.cons trivial (OW.st (k := 1) (u := tabV (tv + 1) A71 (l.length + 1) c71) rfl rfl rfl rfl (Nat.le_refl 2) rfl) ?_
                rintro _ _ rfl
                change OL _ _ _ _ _ (seg71 :: [(r6, .cells [.int .i64 (tv + 1), .slice A71 (l.length + 1) c71] 45 2)] :: lseg r5 x :: [(r4, .cells [.string at_] 9 1)] :: tseg r3 tv A l.length c :: S) _
                refine OL.det trivial (Yields.pure rfl) ?_
                refine OL.nil ?_
                refine hK6 _ _ ?_
                refine PW.keep (T' := [(6, _), (7, _)]) ⟨rfl, rfl, trivial⟩ ?_
                refine PW.ret ?_
                change (Exit.ret = Exit.normal ∨ Exit.ret = Exit.ret) ∧ ∃ a v x, Go.SL.look _ _ = some (.pointer (some a)) ∧ ReadsAs _ _ _ _ _ ∧ Go.SL.look _ _ = some x ∧ _
                have hres := withT_at (x := x) hp0 hok hch hkz
                rw [dif_neg hnat, if_neg (by omega)] at hres
                rw [hres]
                have hls := insL_len hkle (at_, x)
                refine ⟨.inr rfl, _, tabV (tv + 1) A71 (l.length + 1) c71, .int .i64 0, rfl, tab_read (E := 45) (List.mem_flatten.2 ⟨_, .tail _ (.head _), List.mem_singleton.2 rfl⟩), rfl, _, Sub.cons (Sub.drop (Sub.drop (Sub.drop (Sub.drop (Sub.refl _))))), A71, c71, seg71, by simp only [hls], rfl, ?_⟩
                simp only [hls]
                exact hsl71
          · try simp only [decide_eq_true_eq, decide_eq_false_iff_not, beq_iff_eq, bne_iff_ne, beq_eq_false_iff_ne, bne_eq_false_iff_eq, Bool.not_eq_true', Bool.not_eq_false', Bool.not_eq_true, ne_eq, Decidable.not_not] at g39
            have hnat : ¬ (kf < l.length ∧ l[kf]!.1 = at_) := fun h => by omega
            refine QK.off rfl rfl ?_
            refine QK.off rfl rfl ?_
            refine QK.off rfl rfl ?_
            refine QK.off rfl rfl ?_
            refine QK.off rfl rfl ?_
            refine QK.off rfl rfl ?_
            refine QK.nil ?_
            change OL _ _ _ [_, _] _ _ _
            refine OL.off rfl rfl ?_
            refine OL.det trivial (Yields.pure rfl) ?_
            refine OL.nil ?_
            refine hK4 _ _ ?_
            refine PW.keep (T' := [(3, _), (4, _), (5, _), (6, _), (8, _), (9, _), (47, _)]) ⟨rfl, rfl, rfl, rfl, rfl, rfl, rfl, trivial⟩ ?_
            refine PW.ite (b := false) rfl ?_
            rw [if_neg Bool.false_ne_true]
            refine PW.skip ?_
            refine hK3 _ _ ?_
            refine PW.keep (T' := [(3, _), (4, _), (5, _), (6, _), (8, _), (9, _)]) ⟨rfl, rfl, rfl, rfl, rfl, rfl, trivial⟩ ?_
            refine PW.seq fun K7 hK7 => ?_
            refine PW.seqOps ?_
            refine OL.det trivial (Yields.pure rfl) ?_
            refine OL.det trivial (Yields.pure rfl) ?_
            refine OL.det trivial (Yields.pure rfl) ?_
            refine OL.nil ?_
            refine PW.keep (T' := [(3, _), (4, _), (5, _), (6, _), (8, _), (9, _), (60, _)]) ⟨rfl, rfl, rfl, rfl, rfl, rfl, rfl, trivial⟩ ?_
            refine PW.cond rfl (fun c60 => ?_) (fun c60 => ?_)
            · try simp only [decide_eq_true_eq, decide_eq_false_iff_not, beq_iff_eq, bne_iff_ne, beq_eq_false_iff_ne, bne_eq_false_iff_eq, Bool.not_eq_true', Bool.not_eq_false', Bool.not_eq_true, ne_eq, Decidable.not_not] at c60
              refine PW.seqOps ?_
              refine OL.det trivial (Yields.build rfl) ?_
              refine OL.cons trivial (OW.st (k := 1) (u := tabV 0 none 0 0) rfl rfl rfl rfl (Nat.le_refl 2) rfl) ?_
              rintro _ _ rfl
              change OL _ _ _ _ _ (seg8 :: [(r6, .cells [.int .i64 0, .slice none 0 0] 45 2)] :: lseg r5 x :: [(r4, .cells [.string at_] 9 1)] :: tseg r3 tv A l.length c :: S) _
              refine OL.det trivial (Yields.pure rfl) ?_
              refine OL.nil ?_
              refine PW.keep (T' := [(6, _), (7, _)]) ⟨rfl, rfl, trivial⟩ ?_
              refine PW.ret ?_
              change (Exit.ret = Exit.normal ∨ Exit.ret = Exit.ret) ∧ ∃ a v x, Go.SL.look _ _ = some (.pointer (some a)) ∧ ReadsAs _ _ _ _ _ ∧ Go.SL.look _ _ = some x ∧ _
              have hres := withT_at (x := x) hp0 hok hch hkz
              rw [dif_neg hnat, if_pos (by omega)] at hres
              rw [hres]
              refine ⟨.inr rfl, _, tabV 0 none 0 0, .int .i64 7, rfl, tab_read (E := 45) (List.mem_flatten.2 ⟨_, .tail _ (.head _), List.mem_singleton.2 rfl⟩), rfl, _, Sub.nilL (Sub.drop (Sub.drop (Sub.drop (Sub.drop (Sub.drop (Sub.refl _)))))), none, 0, [], rfl, rfl, SlV.nil 56 3⟩
            · try simp only [decide_eq_true_eq, decide_eq_false_iff_not, beq_iff_eq, bne_iff_ne, beq_eq_false_iff_ne, bne_eq_false_iff_eq, Bool.not_eq_true', Bool.not_eq_false', Bool.not_eq_true, ne_eq, Decidable.not_not] at c60
              refine PW.skip ?_
              refine hK7 _ _ ?_
              refine PW.keep (T' := [(3, _), (4, _), (5, _), (6, _), (8, _), (9, _)]) ⟨rfl, rfl, rfl, rfl, rfl, rfl, trivial⟩ ?_
              refine PW.seq fun K8 hK8 => ?_
              refine PW.quietRNK (base := [(r6, .cells [.int .i64 0, .slice none 0 0] 45 2)] :: lseg r5 x :: [(r4, .cells [.string at_] 9 1)] :: tseg r3 tv A l.length c :: S) Tryd.mixed (Over.refl _).cons ?_
              refine QN.det trivial (fun Sx hSx => Yields.pure rfl) ?_
              refine QN.det trivial (fun Sx hSx => Yields.ld rfl (own_at (j := 0) (c := [.int .i64 tv, .slice A l.length c]) (E := 45) (tot := 2) (hSx _ (List.mem_flatten.2 ⟨_, .tail _ (.tail _ (.tail _ (.head _))), List.mem_singleton.2 rfl⟩)) rfl)) ?_
              refine QN.det trivial (fun Sx hSx => Yields.add64 rfl rfl (by omega) (by omega)) ?_
              refine QN.det trivial (fun Sx hSx => Yields.pure rfl) ?_
              refine QN.det trivial (fun Sx hSx => Yields.pure rfl) ?_
              refine QN.det trivial (fun Sx hSx => Yields.ld rfl (own_at (j := 0) (c := [.string at_]) (E := 9) (tot := 1) (hSx _ (List.mem_flatten.2 ⟨_, .tail _ (.tail _ (.head _)), List.mem_singleton.2 rfl⟩)) rfl)) ?_
              refine QN.det trivial (fun Sx hSx => Yields.ldA rfl rfl (lab_at (a := x) (r := r5) (hSx _ (List.mem_flatten.2 ⟨_, .tail _ (.head _), List.mem_singleton.2 rfl⟩)))) ?_
              refine QN.det trivial (fun Sx hSx => Yields.build rfl) ?_
              refine QN.hole ?_
              refine QN.hole ?_
              refine QN.nil ⟨rfl, rfl, ordB_of (hp := [8, 9]) rfl (by decide), ?_⟩
              refine ⟨rfl, OW.mono (OW.bsl rfl) ?_⟩
              rintro _ _ ⟨r70, rfl, rfl⟩
              refine ⟨(Over.refl _).cons.cons, ?_⟩
              refine ⟨rfl, OW.mono (OW.call rfl (insert_fc (x := (at_, x)) hsl8 hkle hl)) ?_⟩
              rintro v71 _ ⟨seg71, rfl, hsl71⟩
              obtain ⟨A71, c71, rfl, hc71, _⟩ := slv_rdL (w0 := w0) hsl71
              refine ⟨(Over.refl _).cons, ?_⟩
              change OL _ _ _ [_, _, _] _ _ _
              refine OL.det trivial (Yields.build rfl) ?_
              refine OL.cons trivial (OW.st (k := 1) (u := tabV (tv + 1) A71 (l.length + 1) c71) rfl rfl rfl rfl (Nat.le_refl 2) rfl) ?_
              rintro _ _ rfl
              change OL _ _ _ _ _ (seg71 :: [(r6, .cells [.int .i64 (tv + 1), .slice A71 (l.length + 1) c71] 45 2)] :: lseg r5 x :: [(r4, .cells [.string at_] 9 1)] :: tseg r3 tv A l.length c :: S) _
              refine OL.det trivial (Yields.pure rfl) ?_
              refine OL.nil ?_
              refine hK8 _ _ ?_
              refine PW.keep (T' := [(6, _), (7, _)]) ⟨rfl, rfl, trivial⟩ ?_
              refine PW.ret ?_
              change (Exit.ret = Exit.normal ∨ Exit.ret = Exit.ret) ∧ ∃ a v x, Go.SL.look _ _ = some (.pointer (some a)) ∧ ReadsAs _ _ _ _ _ ∧ Go.SL.look _ _ = some x ∧ _
              have hres := withT_at (x := x) hp0 hok hch hkz
              rw [dif_neg hnat, if_neg (by omega)] at hres
              rw [hres]
              have hls := insL_len hkle (at_, x)
              refine ⟨.inr rfl, _, tabV (tv + 1) A71 (l.length + 1) c71, .int .i64 0, rfl, tab_read (E := 45) (List.mem_flatten.2 ⟨_, .tail _ (.head _), List.mem_singleton.2 rfl⟩), rfl, _, Sub.cons (Sub.drop (Sub.drop (Sub.drop (Sub.drop (Sub.refl _))))), A71, c71, seg71, by simp only [hls], rfl, ?_⟩
              simp only [hls]
              exact hsl71
        · try simp only [decide_eq_true_eq, decide_eq_false_iff_not, beq_iff_eq, bne_iff_ne, beq_eq_false_iff_ne, bne_eq_false_iff_eq, Bool.not_eq_true', Bool.not_eq_false', Bool.not_eq_true, ne_eq, Decidable.not_not] at c32
          rw [show idxZ (geL at_) l = (kf : Int) from by rcases hkz with h | h <;> omega]
          refine PW.skip ?_
          refine hK2 _ _ ?_
          refine PW.keep (T' := [(3, _), (4, _), (5, _), (6, _), (8, _), (9, _)]) ⟨rfl, rfl, rfl, rfl, rfl, rfl, trivial⟩ ?_
          refine PW.seq fun K9 hK9 => ?_
          refine PW.seq fun K10 hK10 => ?_
          refine PW.quietK Tryd.mixed ?_
          refine QK.det trivial (Yields.pure rfl) ?_
          refine QK.det trivial (Yields.pure rfl) ?_
          refine QK.det trivial (Yields.pure rfl) ?_
          refine QK.det trivial (Yields.pure rfl) ?_
          refine QK.bool trivial (Yields.pure rfl) (fun g39 => ?_) (fun g39 => ?_)
          · try simp only [decide_eq_true_eq, decide_eq_false_iff_not, beq_iff_eq, bne_iff_ne, beq_eq_false_iff_ne, bne_eq_false_iff_eq, Bool.not_eq_true', Bool.not_eq_false', Bool.not_eq_true, ne_eq, Decidable.not_not] at g39
            have hkl : kf < l.length := by omega
            obtain ⟨a8, rfl⟩ := ruls_some (hrd8 []) (by omega)
            refine QK.det rfl (Yields.pure rfl) ?_
            refine QK.det rfl (Yields.pure rfl) ?_
            refine QK.det rfl (Yields.ixN rfl rfl rfl (by omega)) ?_
            refine QK.det rfl (Yields.pure rfl) ?_
            refine QK.det rfl (Yields.ld rfl (rule_at (hrd8 _) hkl 0 _ rfl)) ?_
            refine QK.det rfl (Yields.ld rfl (own_at (j := 0) (c := [.string at_]) (E := 9) (tot := 1) (List.mem_flatten.2 ⟨_, .tail _ (.tail _ (.tail _ (.head _))), List.mem_singleton.2 rfl⟩) rfl)) ?_
            refine QK.nil ?_
            change OL _ _ _ [_, _] _ _ _
            refine OL.det rfl (Yields.pure rfl) ?_
            refine OL.det trivial (Yields.pure rfl) ?_
            refine OL.nil ?_
            refine hK10 _ _ ?_
            refine PW.keep (T' := [(3, _), (4, _), (5, _), (6, _), (8, _), (9, _), (47, _)]) ⟨rfl, rfl, rfl, rfl, rfl, rfl, rfl, trivial⟩ ?_
            refine PW.cond rfl (fun c47 => ?_) (fun c47 => ?_)
            · try simp only [decide_eq_true_eq, decide_eq_false_iff_not, beq_iff_eq, bne_iff_ne, beq_eq_false_iff_ne, bne_eq_false_iff_eq, Bool.not_eq_true', Bool.not_eq_false', Bool.not_eq_true, ne_eq, Decidable.not_not] at c47
              rw [toL_inj] at c47
              obtain ⟨r8, c8n, e8, rfl, hc8, hm8⟩ := slv_nil_len hsl8 (by omega)
              obtain ⟨rfl, rfl⟩ : a8 = ⟨r8, 0, none⟩ ∧ c8 = c8n := by cases e8; exact ⟨rfl, rfl⟩
              refine PW.seqOps ?_
              refine OL.det trivial (Yields.pure rfl) ?_
              refine OL.det trivial (Yields.pure rfl) ?_
              refine OL.det trivial (Yields.ldA rfl rfl (lab_at (a := x) (r := r5) (List.mem_flatten.2 ⟨_, .tail _ (.tail _ (.head _)), List.mem_singleton.2 rfl⟩))) ?_
              refine OL.det trivial (Yields.ixO rfl rfl rfl (by omega)) ?_
              refine OL.det trivial (Yields.pure rfl) ?_
              refine OL.cons trivial (OW.st (k := 0) (c := ruls l) (u := labB x) rfl rfl rfl rfl (by rw [ruls_len]; show kf * 3 + 1 + 2 ≤ _; omega) rfl) ?_
              rintro _ _ rfl
              change OL _ _ _ _ _ ([(r8, .cells (setAt (ruls l) (kf * 3 + 1) [.int .i64 x.1, .int .u64 (x.2.toNat : Int)]) 56 (c8 * 3))] :: [(r6, .cells [.int .i64 0, .slice none 0 0] 45 2)] :: lseg r5 x :: [(r4, .cells [.string at_] 9 1)] :: tseg r3 tv A l.length c :: S) _
              rw [ruls_setlab hkl, c47]
              have hsl9 : SlV 56 3 (.slice (some ⟨r8, 0, none⟩) l.length c8) l.length (ruls (l.set kf (at_, x))) [(r8, .cells (ruls (l.set kf (at_, x))) 56 (c8 * 3))] := SlV.mk' (by rw [ruls_len]; simp) hc8 hm8
              refine OL.nil ?_
              refine PW.keep (T' := [(3, _), (6, _), (8, _)]) ⟨rfl, rfl, rfl, trivial⟩ ?_
              refine PW.seqOps ?_
              refine OL.det trivial (Yields.pure rfl) ?_
              refine OL.det trivial (Yields.ld rfl (own_at (j := 0) (c := [.int .i64 tv, .slice A l.length c]) (E := 45) (tot := 2) (List.mem_flatten.2 ⟨_, .tail _ (.tail _ (.tail _ (.tail _ (.head _)))), List.mem_singleton.2 rfl⟩) rfl)) ?_
              refine OL.det trivial (Yields.add64 rfl rfl (by omega) (by omega)) ?_
              refine OL.det trivial (Yields.pure rfl) ?_
              refine OL.det trivial (Yields.build rfl) ?_
              refine OL.cons trivial (OW.st (k := 1) (u := tabV (tv + 1) (some ⟨r8, 0, none⟩) l.length c8) rfl rfl rfl rfl (Nat.le_refl 2) rfl) ?_
              rintro _ _ rfl
              change OL _ _ _ _ _ ([(r8, .cells (ruls (l.set kf (at_, x))) 56 (c8 * 3))] :: [(r6, .cells [.int .i64 (tv + 1), .slice (some ⟨r8, 0, none⟩) l.length c8] 45 2)] :: lseg r5 x :: [(r4, .cells [.string at_] 9 1)] :: tseg r3 tv A l.length c :: S) _
              refine OL.det trivial (Yields.pure rfl) ?_
              refine OL.nil ?_
              refine PW.keep (T' := [(6, _), (7, _)]) ⟨rfl, rfl, trivial⟩ ?_
              refine PW.ret ?_
              change (Exit.ret = Exit.normal ∨ Exit.ret = Exit.ret) ∧ ∃ a v x, Go.SL.look _ _ = some (.pointer (some a)) ∧ ReadsAs _ _ _ _ _ ∧ Go.SL.look _ _ = some x ∧ _
              have hres := withT_at (x := x) hp0 hok hch hkz
              rw [dif_pos ⟨hkl, by rw [getElem!_pos l kf hkl]; exact c47⟩] at hres
              rw [hres]
              have hls : (l.set kf (at_, x)).length = l.length := by simp
              refine ⟨.inr rfl, _, tabV (tv + 1) (some ⟨r8, 0, none⟩) l.length c8, .int .i64 0, rfl, tab_read (E := 45) (List.mem_flatten.2 ⟨_, .tail _ (.head _), List.mem_singleton.2 rfl⟩), rfl, _, Sub.cons (Sub.drop (Sub.drop (Sub.drop (Sub.drop (Sub.refl _))))), some ⟨r8, 0, none⟩, c8, _, by simp only [hls], rfl, ?_⟩
              simp only [hls]
              exact hsl9
            · try simp only [decide_eq_true_eq, decide_eq_false_iff_not, beq_iff_eq, bne_iff_ne, beq_eq_false_iff_ne, bne_eq_false_iff_eq, Bool.not_eq_true', Bool.not_eq_false', Bool.not_eq_true, ne_eq, Decidable.not_not] at c47
              have hnat : ¬ (kf < l.length ∧ l[kf]!.1 = at_) := fun h => c47 (toL_inj.2 (by rw [← getElem!_pos l kf hkl]; exact h.2))
              refine PW.skip ?_
              refine hK9 _ _ ?_
              refine PW.keep (T' := [(3, _), (4, _), (5, _), (6, _), (8, _), (9, _)]) ⟨rfl, rfl, rfl, rfl, rfl, rfl, trivial⟩ ?_
              refine PW.seq fun K11 hK11 => ?_
              refine PW.seqOps ?_
              refine OL.det trivial (Yields.pure rfl) ?_
              refine OL.det trivial (Yields.pure rfl) ?_
              refine OL.det trivial (Yields.pure rfl) ?_
              refine OL.nil ?_
              refine PW.keep (T' := [(3, _), (4, _), (5, _), (6, _), (8, _), (9, _), (60, _)]) ⟨rfl, rfl, rfl, rfl, rfl, rfl, rfl, trivial⟩ ?_
              refine PW.cond rfl (fun c60 => ?_) (fun c60 => ?_)
              · try simp only [decide_eq_true_eq, decide_eq_false_iff_not, beq_iff_eq, bne_iff_ne, beq_eq_false_iff_ne, bne_eq_false_iff_eq, Bool.not_eq_true', Bool.not_eq_false', Bool.not_eq_true, ne_eq, Decidable.not_not] at c60
                refine PW.seqOps ?_
                refine OL.det trivial (Yields.build rfl) ?_
                refine OL.cons trivial (OW.st (k := 1) (u := tabV 0 none 0 0) rfl rfl rfl rfl (Nat.le_refl 2) rfl) ?_
                rintro _ _ rfl
                change OL _ _ _ _ _ (seg8 :: [(r6, .cells [.int .i64 0, .slice none 0 0] 45 2)] :: lseg r5 x :: [(r4, .cells [.string at_] 9 1)] :: tseg r3 tv A l.length c :: S) _
                refine OL.det trivial (Yields.pure rfl) ?_
                refine OL.nil ?_
                refine PW.keep (T' := [(6, _), (7, _)]) ⟨rfl, rfl, trivial⟩ ?_
                refine PW.ret ?_
                change (Exit.ret = Exit.normal ∨ Exit.ret = Exit.ret) ∧ ∃ a v x, Go.SL.look _ _ = some (.pointer (some a)) ∧ ReadsAs _ _ _ _ _ ∧ Go.SL.look _ _ = some x ∧ _
                have hres := withT_at (x := x) hp0 hok hch hkz
                rw [dif_neg hnat, if_pos (by omega)] at hres
                rw [hres]
                refine ⟨.inr rfl, _, tabV 0 none 0 0, .int .i64 7, rfl, tab_read (E := 45) (List.mem_flatten.2 ⟨_, .tail _ (.head _), List.mem_singleton.2 rfl⟩), rfl, _, Sub.nilL (Sub.drop (Sub.drop (Sub.drop (Sub.drop (Sub.drop (Sub.refl _)))))), none, 0, [], rfl, rfl, SlV.nil 56 3⟩
              · try simp only [decide_eq_true_eq, decide_eq_false_iff_not, beq_iff_eq, bne_iff_ne, beq_eq_false_iff_ne, bne_eq_false_iff_eq, Bool.not_eq_true', Bool.not_eq_false', Bool.not_eq_true, ne_eq, Decidable.not_not] at c60
                refine PW.skip ?_
                refine hK11 _ _ ?_
                refine PW.keep (T' := [(3, _), (4, _), (5, _), (6, _), (8, _), (9, _)]) ⟨rfl, rfl, rfl, rfl, rfl, rfl, trivial⟩ ?_
                refine PW.seq fun K12 hK12 => ?_
                refine PW.quietRNK (base := [(r6, .cells [.int .i64 0, .slice none 0 0] 45 2)] :: lseg r5 x :: [(r4, .cells [.string at_] 9 1)] :: tseg r3 tv A l.length c :: S) Tryd.mixed (Over.refl _).cons ?_
                refine QN.det trivial (fun Sx hSx => Yields.pure rfl) ?_
                refine QN.det trivial (fun Sx hSx => Yields.ld rfl (own_at (j := 0) (c := [.int .i64 tv, .slice A l.length c]) (E := 45) (tot := 2) (hSx _ (List.mem_flatten.2 ⟨_, .tail _ (.tail _ (.tail _ (.head _))), List.mem_singleton.2 rfl⟩)) rfl)) ?_
                refine QN.det trivial (fun Sx hSx => Yields.add64 rfl rfl (by omega) (by omega)) ?_
                refine QN.det trivial (fun Sx hSx => Yields.pure rfl) ?_
                refine QN.det trivial (fun Sx hSx => Yields.pure rfl) ?_
                refine QN.det trivial (fun Sx hSx => Yields.ld rfl (own_at (j := 0) (c := [.string at_]) (E := 9) (tot := 1) (hSx _ (List.mem_flatten.2 ⟨_, .tail _ (.tail _ (.head _)), List.mem_singleton.2 rfl⟩)) rfl)) ?_
                refine QN.det trivial (fun Sx hSx => Yields.ldA rfl rfl (lab_at (a := x) (r := r5) (hSx _ (List.mem_flatten.2 ⟨_, .tail _ (.head _), List.mem_singleton.2 rfl⟩)))) ?_
                refine QN.det trivial (fun Sx hSx => Yields.build rfl) ?_
                refine QN.hole ?_
                refine QN.hole ?_
                refine QN.nil ⟨rfl, rfl, ordB_of (hp := [8, 9]) rfl (by decide), ?_⟩
                refine ⟨rfl, OW.mono (OW.bsl rfl) ?_⟩
                rintro _ _ ⟨r70, rfl, rfl⟩
                refine ⟨(Over.refl _).cons.cons, ?_⟩
                refine ⟨rfl, OW.mono (OW.call rfl (insert_fc (x := (at_, x)) hsl8 hkle hl)) ?_⟩
                rintro v71 _ ⟨seg71, rfl, hsl71⟩
                obtain ⟨A71, c71, rfl, hc71, _⟩ := slv_rdL (w0 := w0) hsl71
                refine ⟨(Over.refl _).cons, ?_⟩
                change OL _ _ _ [_, _, _] _ _ _
                refine OL.det trivial (Yields.build rfl) ?_
                refine OL.cons trivial (OW.st (k := 1) (u := tabV (tv + 1) A71 (l.length + 1) c71) rfl rfl rfl rfl (Nat.le_refl 2) rfl) ?_
                rintro _ _ rfl
                change OL _ _ _ _ _ (seg71 :: [(r6, .cells [.int .i64 (tv + 1), .slice A71 (l.length + 1) c71] 45 2)] :: lseg r5 x :: [(r4, .cells [.string at_] 9 1)] :: tseg r3 tv A l.length c :: S) _
                refine OL.det trivial (Yields.pure rfl) ?_
                refine OL.nil ?_
                refine hK12 _ _ ?_
                refine PW.keep (T' := [(6, _), (7, _)]) ⟨rfl, rfl, trivial⟩ ?_
                refine PW.ret ?_
                change (Exit.ret = Exit.normal ∨ Exit.ret = Exit.ret) ∧ ∃ a v x, Go.SL.look _ _ = some (.pointer (some a)) ∧ ReadsAs _ _ _ _ _ ∧ Go.SL.look _ _ = some x ∧ _
                have hres := withT_at (x := x) hp0 hok hch hkz
                rw [dif_neg hnat, if_neg (by omega)] at hres
                rw [hres]
                have hls := insL_len hkle (at_, x)
                refine ⟨.inr rfl, _, tabV (tv + 1) A71 (l.length + 1) c71, .int .i64 0, rfl, tab_read (E := 45) (List.mem_flatten.2 ⟨_, .tail _ (.head _), List.mem_singleton.2 rfl⟩), rfl, _, Sub.cons (Sub.drop (Sub.drop (Sub.drop (Sub.drop (Sub.refl _))))), A71, c71, seg71, by simp only [hls], rfl, ?_⟩
                simp only [hls]
                exact hsl71
          · try simp only [decide_eq_true_eq, decide_eq_false_iff_not, beq_iff_eq, bne_iff_ne, beq_eq_false_iff_ne, bne_eq_false_iff_eq, Bool.not_eq_true', Bool.not_eq_false', Bool.not_eq_true, ne_eq, Decidable.not_not] at g39
            have hnat : ¬ (kf < l.length ∧ l[kf]!.1 = at_) := fun h => by omega
            refine QK.off rfl rfl ?_
            refine QK.off rfl rfl ?_
            refine QK.off rfl rfl ?_
            refine QK.off rfl rfl ?_
            refine QK.off rfl rfl ?_
            refine QK.off rfl rfl ?_
            refine QK.nil ?_
            change OL _ _ _ [_, _] _ _ _
            refine OL.off rfl rfl ?_
            refine OL.det trivial (Yields.pure rfl) ?_
            refine OL.nil ?_
            refine hK10 _ _ ?_
            refine PW.keep (T' := [(3, _), (4, _), (5, _), (6, _), (8, _), (9, _), (47, _)]) ⟨rfl, rfl, rfl, rfl, rfl, rfl, rfl, trivial⟩ ?_
            refine PW.ite (b := false) rfl ?_
            rw [if_neg Bool.false_ne_true]
            refine PW.skip ?_
            refine hK9 _ _ ?_
            refine PW.keep (T' := [(3, _), (4, _), (5, _), (6, _), (8, _), (9, _)]) ⟨rfl, rfl, rfl, rfl, rfl, rfl, trivial⟩ ?_
            refine PW.seq fun K13 hK13 => ?_
            refine PW.seqOps ?_
            refine OL.det trivial (Yields.pure rfl) ?_
            refine OL.det trivial (Yields.pure rfl) ?_
            refine OL.det trivial (Yields.pure rfl) ?_
            refine OL.nil ?_
            refine PW.keep (T' := [(3, _), (4, _), (5, _), (6, _), (8, _), (9, _), (60, _)]) ⟨rfl, rfl, rfl, rfl, rfl, rfl, rfl, trivial⟩ ?_
            refine PW.cond rfl (fun c60 => ?_) (fun c60 => ?_)
            · try simp only [decide_eq_true_eq, decide_eq_false_iff_not, beq_iff_eq, bne_iff_ne, beq_eq_false_iff_ne, bne_eq_false_iff_eq, Bool.not_eq_true', Bool.not_eq_false', Bool.not_eq_true, ne_eq, Decidable.not_not] at c60
              refine PW.seqOps ?_
              refine OL.det trivial (Yields.build rfl) ?_
              refine OL.cons trivial (OW.st (k := 1) (u := tabV 0 none 0 0) rfl rfl rfl rfl (Nat.le_refl 2) rfl) ?_
              rintro _ _ rfl
              change OL _ _ _ _ _ (seg8 :: [(r6, .cells [.int .i64 0, .slice none 0 0] 45 2)] :: lseg r5 x :: [(r4, .cells [.string at_] 9 1)] :: tseg r3 tv A l.length c :: S) _
              refine OL.det trivial (Yields.pure rfl) ?_
              refine OL.nil ?_
              refine PW.keep (T' := [(6, _), (7, _)]) ⟨rfl, rfl, trivial⟩ ?_
              refine PW.ret ?_
              change (Exit.ret = Exit.normal ∨ Exit.ret = Exit.ret) ∧ ∃ a v x, Go.SL.look _ _ = some (.pointer (some a)) ∧ ReadsAs _ _ _ _ _ ∧ Go.SL.look _ _ = some x ∧ _
              have hres := withT_at (x := x) hp0 hok hch hkz
              rw [dif_neg hnat, if_pos (by omega)] at hres
              rw [hres]
              refine ⟨.inr rfl, _, tabV 0 none 0 0, .int .i64 7, rfl, tab_read (E := 45) (List.mem_flatten.2 ⟨_, .tail _ (.head _), List.mem_singleton.2 rfl⟩), rfl, _, Sub.nilL (Sub.drop (Sub.drop (Sub.drop (Sub.drop (Sub.drop (Sub.refl _)))))), none, 0, [], rfl, rfl, SlV.nil 56 3⟩
            · try simp only [decide_eq_true_eq, decide_eq_false_iff_not, beq_iff_eq, bne_iff_ne, beq_eq_false_iff_ne, bne_eq_false_iff_eq, Bool.not_eq_true', Bool.not_eq_false', Bool.not_eq_true, ne_eq, Decidable.not_not] at c60
              refine PW.skip ?_
              refine hK13 _ _ ?_
              refine PW.keep (T' := [(3, _), (4, _), (5, _), (6, _), (8, _), (9, _)]) ⟨rfl, rfl, rfl, rfl, rfl, rfl, trivial⟩ ?_
              refine PW.seq fun K14 hK14 => ?_
              refine PW.quietRNK (base := [(r6, .cells [.int .i64 0, .slice none 0 0] 45 2)] :: lseg r5 x :: [(r4, .cells [.string at_] 9 1)] :: tseg r3 tv A l.length c :: S) Tryd.mixed (Over.refl _).cons ?_
              refine QN.det trivial (fun Sx hSx => Yields.pure rfl) ?_
              refine QN.det trivial (fun Sx hSx => Yields.ld rfl (own_at (j := 0) (c := [.int .i64 tv, .slice A l.length c]) (E := 45) (tot := 2) (hSx _ (List.mem_flatten.2 ⟨_, .tail _ (.tail _ (.tail _ (.head _))), List.mem_singleton.2 rfl⟩)) rfl)) ?_
              refine QN.det trivial (fun Sx hSx => Yields.add64 rfl rfl (by omega) (by omega)) ?_
              refine QN.det trivial (fun Sx hSx => Yields.pure rfl) ?_
              refine QN.det trivial (fun Sx hSx => Yields.pure rfl) ?_
              refine QN.det trivial (fun Sx hSx => Yields.ld rfl (own_at (j := 0) (c := [.string at_]) (E := 9) (tot := 1) (hSx _ (List.mem_flatten.2 ⟨_, .tail _ (.tail _ (.head _)), List.mem_singleton.2 rfl⟩)) rfl)) ?_
              refine QN.det trivial (fun Sx hSx => Yields.ldA rfl rfl (lab_at (a := x) (r := r5) (hSx _ (List.mem_flatten.2 ⟨_, .tail _ (.head _), List.mem_singleton.2 rfl⟩)))) ?_
              refine QN.det trivial (fun Sx hSx => Yields.build rfl) ?_
              refine QN.hole ?_
              refine QN.hole ?_
              refine QN.nil ⟨rfl, rfl, ordB_of (hp := [8, 9]) rfl (by decide), ?_⟩
              refine ⟨rfl, OW.mono (OW.bsl rfl) ?_⟩
              rintro _ _ ⟨r70, rfl, rfl⟩
              refine ⟨(Over.refl _).cons.cons, ?_⟩
              refine ⟨rfl, OW.mono (OW.call rfl (insert_fc (x := (at_, x)) hsl8 hkle hl)) ?_⟩
              rintro v71 _ ⟨seg71, rfl, hsl71⟩
              obtain ⟨A71, c71, rfl, hc71, _⟩ := slv_rdL (w0 := w0) hsl71
              refine ⟨(Over.refl _).cons, ?_⟩
              change OL _ _ _ [_, _, _] _ _ _
              refine OL.det trivial (Yields.build rfl) ?_
              refine OL.cons trivial (OW.st (k := 1) (u := tabV (tv + 1) A71 (l.length + 1) c71) rfl rfl rfl rfl (Nat.le_refl 2) rfl) ?_
              rintro _ _ rfl
              change OL _ _ _ _ _ (seg71 :: [(r6, .cells [.int .i64 (tv + 1), .slice A71 (l.length + 1) c71] 45 2)] :: lseg r5 x :: [(r4, .cells [.string at_] 9 1)] :: tseg r3 tv A l.length c :: S) _
              refine OL.det trivial (Yields.pure rfl) ?_
              refine OL.nil ?_
              refine hK14 _ _ ?_
              refine PW.keep (T' := [(6, _), (7, _)]) ⟨rfl, rfl, trivial⟩ ?_
              refine PW.ret ?_
              change (Exit.ret = Exit.normal ∨ Exit.ret = Exit.ret) ∧ ∃ a v x, Go.SL.look _ _ = some (.pointer (some a)) ∧ ReadsAs _ _ _ _ _ ∧ Go.SL.look _ _ = some x ∧ _
              have hres := withT_at (x := x) hp0 hok hch hkz
              rw [dif_neg hnat, if_neg (by omega)] at hres
              rw [hres]
              have hls := insL_len hkle (at_, x)
              refine ⟨.inr rfl, _, tabV (tv + 1) A71 (l.length + 1) c71, .int .i64 0, rfl, tab_read (E := 45) (List.mem_flatten.2 ⟨_, .tail _ (.head _), List.mem_singleton.2 rfl⟩), rfl, _, Sub.cons (Sub.drop (Sub.drop (Sub.drop (Sub.drop (Sub.refl _))))), A71, c71, seg71, by simp only [hls], rfl, ?_⟩
              simp only [hls]
              exact hsl71
end Go.Proofs.Rl

set_option linter.unusedVariables false
set_option linter.unusedSimpArgs false
namespace Go.Proofs.Rl
open Go.SL Go.RowKit Go.Proofs Go.Proofs.Lb
set_option maxHeartbeats 1000000
def leB (a b : ByteArray) : Bool := ltB a b || decide (a = b)
def rwStep (a : ByteArray) (x : LabB) (s : Bool × List RuleB) (r : RuleB) : Bool × List RuleB :=
  let s1 := if s.1 = false ∧ leB a r.1 = true then (true, s.2 ++ [(a, x)]) else s
  if r.1 = a then s1 else (s1.1, s1.2 ++ [r])
def rwK (l : List RuleB) (a : ByteArray) (x : LabB) (k : Nat) : Bool × List RuleB := (l.take k).foldl (rwStep a x) (false, [])
theorem rwK_succ {l : List RuleB} {a : ByteArray} {x : LabB} {k : Nat} (hk : k < l.length) : rwK l a x (k + 1) = rwStep a x (rwK l a x k) l[k] := by
  unfold rwK; rw [rtake_snoc hk, List.foldl_append]; rfl
def rwOut (l : List RuleB) (a : ByteArray) (x : LabB) : List RuleB := if (rwK l a x l.length).1 = true then (rwK l a x l.length).2 else (rwK l a x l.length).2 ++ [(a, x)]
def rwithT (l : List RuleB) (tv : Int) (a : ByteArray) (x : LabB) : Int × Int × List RuleB :=
  if prefB a = false then (15, 0, []) else if okL x = false ∨ chkR l tv ≠ 0 then (2, 0, []) else if 32 < (rwOut l a x).length then (7, 0, []) else (0, tv + 1, rwOut l a x)
theorem rwithT_bad {l : List RuleB} {tv : Int} {a : ByteArray} {x : LabB} (h : prefB a = false) : rwithT l tv a x = (15, 0, []) := by unfold rwithT; rw [if_pos h]
theorem rwithT_arg {l : List RuleB} {tv : Int} {a : ByteArray} {x : LabB} (h : prefB a = true) (h2 : okL x = false ∨ chkR l tv ≠ 0) : rwithT l tv a x = (2, 0, []) := by unfold rwithT; rw [if_neg (by rw [h]; simp), if_pos h2]
theorem rwithT_at {l : List RuleB} {tv : Int} {a : ByteArray} {x : LabB} (h : prefB a = true) (h2 : okL x = true) (h3 : chkR l tv = 0) : rwithT l tv a x = if 32 < (rwOut l a x).length then (7, 0, []) else (0, tv + 1, rwOut l a x) := by
  unfold rwithT
  rw [if_neg (by rw [h]; simp), if_neg (by rw [h2, h3]; simp)]
theorem ruls_snoc (l : List RuleB) (x : RuleB) : ruls l ++ ruleC x = ruls (l ++ [x]) := by rw [ruls_app]; rfl
theorem rwith_fc {w0 : World} {S : SS} {A : Option Addr} {c : Nat} {tv : Int} {l : List RuleB} {at_ : ByteArray} {x : LabB} (hx : Rd w0 S A (ruls l)) (hw : ∀ x ∈ l, x.1.size ≤ 1000000000) (hs : at_.size ≤ 1000000000) (hl : l.length ≤ 1000000000) (htv0 : -1000000000 ≤ tv) (htv : tv ≤ 1000000000) :
    FC Tryd.prog w0 44 [tabV tv A l.length c, .string at_, labB x] S (fun v S' => ∃ A' c' seg, v = .tuple #[tabV (rwithT l tv at_ x).2.1 A' (rwithT l tv at_ x).2.2.length c', .int .i64 (rwithT l tv at_ x).1] ∧ S' = seg :: S ∧ SlV 56 3 (.slice A' (rwithT l tv at_ x).2.2.length c') (rwithT l tv at_ x).2.2.length (ruls (rwithT l tv at_ x).2.2) seg) := by
  refine FC.ofCT Tryd.known44 (by simp) ?_
  unfold Tryd.pc44
  simp only [argT]
  refine PW.seqOps ?_
  refine OL.cons trivial (OW.bx rfl) ?_
  rintro _ _ ⟨r3, rfl, rfl⟩
  change OL _ _ _ _ _ (tsegR r3 tv A l.length c :: S) _
  refine OL.cons trivial (OW.bx rfl) ?_
  rintro _ _ ⟨r5, rfl, rfl⟩
  change OL _ _ _ _ _ (lseg r5 x :: tsegR r3 tv A l.length c :: S) _
  refine OL.cons trivial OW.al ?_
  rintro _ _ ⟨r6, rfl, rfl⟩
  change OL _ _ _ _ _ ([(r6, .cells [.int .i64 0, .slice none 0 0] 50 2)] :: lseg r5 x :: tsegR r3 tv A l.length c :: S) _
  refine OL.det trivial (Yields.pure rfl) ?_
  refine OL.nil ?_
  refine PW.keep (T' := [(1, _), (3, _), (5, _), (6, _)]) ⟨rfl, rfl, rfl, rfl, trivial⟩ ?_
  refine PW.seq fun K1 hK1 => ?_
  refine PW.seqOps ?_
  refine OL.det trivial (Yields.pure rfl) ?_
  refine OL.call trivial rfl (rprefB_fc hs) ?_
  rintro _ Sx ⟨rfl, hSx⟩
  rw [hSx]
  clear hSx
  refine OL.det trivial (Yields.pure rfl) ?_
  refine OL.nil ?_
  refine PW.keep (T' := [(1, _), (3, _), (5, _), (6, _), (13, _)]) ⟨rfl, rfl, rfl, rfl, rfl, trivial⟩ ?_
  refine PW.cond rfl (fun c13 => ?_) (fun c13 => ?_)
  · try simp only [decide_eq_true_eq, decide_eq_false_iff_not, beq_iff_eq, bne_iff_ne, beq_eq_false_iff_ne, bne_eq_false_iff_eq, Bool.not_eq_true', Bool.not_eq_false', Bool.not_eq_true, ne_eq, Decidable.not_not] at c13
    refine PW.seqOps ?_
    refine OL.det trivial (Yields.build rfl) ?_
    refine OL.cons trivial (OW.st (k := 0) (u := tabV 0 none 0 0) rfl rfl rfl rfl (Nat.le_refl 2) rfl) ?_
    rintro _ _ rfl
    change OL _ _ _ _ _ ([(r6, .cells [.int .i64 0, .slice none 0 0] 50 2)] :: lseg r5 x :: tsegR r3 tv A l.length c :: S) _
    refine OL.det trivial (Yields.pure rfl) ?_
    refine OL.nil ?_
    refine PW.keep (T' := [(6, _), (7, _)]) ⟨rfl, rfl, trivial⟩ ?_
    refine PW.ret ?_
    change (Exit.ret = Exit.normal ∨ Exit.ret = Exit.ret) ∧ ∃ a v x, Go.SL.look _ _ = some (.pointer (some a)) ∧ ReadsAs _ _ _ _ _ ∧ Go.SL.look _ _ = some x ∧ _
    have hres := rwithT_bad (l := l) (tv := tv) (x := x) c13
    rw [hres]
    refine ⟨.inr rfl, _, tabV 0 none 0 0, .int .i64 15, rfl, tab_read (E := 50) (List.mem_flatten.2 ⟨_, .head _, List.mem_singleton.2 rfl⟩), rfl, _, Sub.nilL (Sub.drop (Sub.drop (Sub.drop (Sub.refl _)))), none, 0, [], rfl, rfl, SlV.nil 56 3⟩
  · try simp only [decide_eq_true_eq, decide_eq_false_iff_not, beq_iff_eq, bne_iff_ne, beq_eq_false_iff_ne, bne_eq_false_iff_eq, Bool.not_eq_true', Bool.not_eq_false', Bool.not_eq_true, ne_eq, Decidable.not_not] at c13
    have hp0 : prefB at_ = true := by simpa using c13
    refine PW.skip ?_
    refine hK1 _ _ ?_
    refine PW.keep (T' := [(1, _), (3, _), (5, _), (6, _)]) ⟨rfl, rfl, rfl, rfl, trivial⟩ ?_
    refine PW.seq fun K2 hK2 => ?_
    refine PW.seqOps ?_
    refine OL.det trivial (Yields.ldA rfl rfl (lab_at (a := x) (r := r5) (List.mem_flatten.2 ⟨_, .tail _ (.head _), List.mem_singleton.2 rfl⟩))) ?_
    refine OL.call trivial rfl (Go.Proofs.Lb.may_fc (a := x)) ?_
    rintro _ Sx ⟨rfl, hSx⟩
    rw [hSx]
    clear hSx
    refine OL.det trivial (Yields.pure rfl) ?_
    refine OL.bool trivial (Yields.pure rfl) (fun g18 => ?_) (fun g18 => ?_)
    · try simp only [decide_eq_true_eq, decide_eq_false_iff_not, beq_iff_eq, bne_iff_ne, beq_eq_false_iff_ne, bne_eq_false_iff_eq, Bool.not_eq_true', Bool.not_eq_false', Bool.not_eq_true, ne_eq, Decidable.not_not] at g18
      have harg : okL x = false ∨ chkR l tv ≠ 0 := .inl (by simpa [okL, mayP] using g18)
      refine OL.off rfl rfl ?_
      refine OL.off rfl rfl ?_
      refine OL.off rfl rfl ?_
      refine OL.det trivial (Yields.pure rfl) ?_
      refine OL.nil ?_
      refine PW.keep (T' := [(1, _), (3, _), (5, _), (6, _), (22, _)]) ⟨rfl, rfl, rfl, rfl, rfl, trivial⟩ ?_
      refine PW.ite (b := true) rfl ?_
      rw [if_pos rfl]
      refine PW.seqOps ?_
      refine OL.det trivial (Yields.build rfl) ?_
      refine OL.cons trivial (OW.st (k := 0) (u := tabV 0 none 0 0) rfl rfl rfl rfl (Nat.le_refl 2) rfl) ?_
      rintro _ _ rfl
      change OL _ _ _ _ _ ([(r6, .cells [.int .i64 0, .slice none 0 0] 50 2)] :: lseg r5 x :: tsegR r3 tv A l.length c :: S) _
      refine OL.det trivial (Yields.pure rfl) ?_
      refine OL.nil ?_
      refine PW.keep (T' := [(6, _), (7, _)]) ⟨rfl, rfl, trivial⟩ ?_
      refine PW.ret ?_
      change (Exit.ret = Exit.normal ∨ Exit.ret = Exit.ret) ∧ ∃ a v x, Go.SL.look _ _ = some (.pointer (some a)) ∧ ReadsAs _ _ _ _ _ ∧ Go.SL.look _ _ = some x ∧ _
      have hres := rwithT_arg hp0 harg
      rw [hres]
      refine ⟨.inr rfl, _, tabV 0 none 0 0, .int .i64 2, rfl, tab_read (E := 50) (List.mem_flatten.2 ⟨_, .head _, List.mem_singleton.2 rfl⟩), rfl, _, Sub.nilL (Sub.drop (Sub.drop (Sub.drop (Sub.refl _)))), none, 0, [], rfl, rfl, SlV.nil 56 3⟩
    · try simp only [decide_eq_true_eq, decide_eq_false_iff_not, beq_iff_eq, bne_iff_ne, beq_eq_false_iff_ne, bne_eq_false_iff_eq, Bool.not_eq_true', Bool.not_eq_false', Bool.not_eq_true, ne_eq, Decidable.not_not] at g18
      have hok : okL x = true := by simpa [okL, mayP] using g18
      refine OL.det rfl (Yields.ldA rfl (cs := [.int .i64 tv, .slice A l.length c]) rfl (tabR_at (tv := tv) (A := A) (n := l.length) (c := c) (r := r3) (List.mem_flatten.2 ⟨_, .tail _ (.tail _ (.head _)), List.mem_singleton.2 rfl⟩))) ?_
      refine OL.call rfl rfl (chkR_fc hx.cons.cons.cons hw hl) ?_
      rintro _ Sx ⟨rfl, hSx⟩
      rw [hSx]
      clear hSx
      refine OL.det rfl (Yields.pure rfl) ?_
      refine OL.det trivial (Yields.pure rfl) ?_
      refine OL.nil ?_
      refine PW.keep (T' := [(1, _), (3, _), (5, _), (6, _), (22, _)]) ⟨rfl, rfl, rfl, rfl, rfl, trivial⟩ ?_
      refine PW.cond rfl (fun c22 => ?_) (fun c22 => ?_)
      · try simp only [decide_eq_true_eq, decide_eq_false_iff_not, beq_iff_eq, bne_iff_ne, beq_eq_false_iff_ne, bne_eq_false_iff_eq, Bool.not_eq_true', Bool.not_eq_false', Bool.not_eq_true, ne_eq, Decidable.not_not] at c22
        have harg : okL x = false ∨ chkR l tv ≠ 0 := .inr c22
        refine PW.seqOps ?_
        refine OL.det trivial (Yields.build rfl) ?_
        refine OL.cons trivial (OW.st (k := 0) (u := tabV 0 none 0 0) rfl rfl rfl rfl (Nat.le_refl 2) rfl) ?_
        rintro _ _ rfl
        change OL _ _ _ _ _ ([(r6, .cells [.int .i64 0, .slice none 0 0] 50 2)] :: lseg r5 x :: tsegR r3 tv A l.length c :: S) _
        refine OL.det trivial (Yields.pure rfl) ?_
        refine OL.nil ?_
        refine PW.keep (T' := [(6, _), (7, _)]) ⟨rfl, rfl, trivial⟩ ?_
        refine PW.ret ?_
        change (Exit.ret = Exit.normal ∨ Exit.ret = Exit.ret) ∧ ∃ a v x, Go.SL.look _ _ = some (.pointer (some a)) ∧ ReadsAs _ _ _ _ _ ∧ Go.SL.look _ _ = some x ∧ _
        have hres := rwithT_arg hp0 harg
        rw [hres]
        refine ⟨.inr rfl, _, tabV 0 none 0 0, .int .i64 2, rfl, tab_read (E := 50) (List.mem_flatten.2 ⟨_, .head _, List.mem_singleton.2 rfl⟩), rfl, _, Sub.nilL (Sub.drop (Sub.drop (Sub.drop (Sub.refl _)))), none, 0, [], rfl, rfl, SlV.nil 56 3⟩
      · try simp only [decide_eq_true_eq, decide_eq_false_iff_not, beq_iff_eq, bne_iff_ne, beq_eq_false_iff_ne, bne_eq_false_iff_eq, Bool.not_eq_true', Bool.not_eq_false', Bool.not_eq_true, ne_eq, Decidable.not_not] at c22
        have hch : chkR l tv = 0 := by simpa using c22
        refine PW.skip ?_
        refine hK2 _ _ ?_
        refine PW.keep (T' := [(1, _), (3, _), (5, _), (6, _)]) ⟨rfl, rfl, rfl, rfl, trivial⟩ ?_
        refine PW.seqOps ?_
        refine OL.det trivial (Yields.pure rfl) ?_
        refine OL.det trivial (Yields.ld rfl (own_at (j := 0) (c := [.int .i64 tv, .slice A l.length c]) (E := 50) (tot := 2) (List.mem_flatten.2 ⟨_, .tail _ (.tail _ (.head _)), List.mem_singleton.2 rfl⟩) rfl)) ?_
        refine OL.det trivial (Yields.add64 rfl rfl (by omega) (by omega)) ?_
        refine OL.det trivial (Yields.build rfl) ?_
        refine OL.cons trivial OW.al ?_
        rintro _ _ ⟨r8, rfl, rfl⟩
        refine OL.cons trivial (OW.st (k := 0) (u := tabV (tv + 1) none 0 0) rfl rfl rfl rfl (Nat.le_refl 2) rfl) ?_
        rintro _ _ rfl
        change OL _ _ _ _ _ ([(r8, .cells [.int .i64 (tv + 1), .slice none 0 0] 50 2)] :: [(r6, .cells [.int .i64 0, .slice none 0 0] 50 2)] :: lseg r5 x :: tsegR r3 tv A l.length c :: S) _
        refine OL.nil ?_
        refine PW.keep (T' := [(1, _), (3, _), (5, _), (6, _), (8, _)]) ⟨rfl, rfl, rfl, rfl, rfl, trivial⟩ ?_
        refine PW.seqOps ?_
        refine OL.nilseg ?_
        refine OL.det trivial (Yields.pure rfl) ?_
        refine OL.nil ?_
        refine PW.keep (T' := [(1, _), (3, _), (5, _), (6, _), (8, _), (9, _)]) ⟨rfl, rfl, rfl, rfl, rfl, rfl, trivial⟩ ?_
        refine PW.seq fun K3 hK3 => ?_
        refine PW.seqOps ?_
        refine OL.det trivial (Yields.pure rfl) ?_
        refine OL.nil ?_
        refine PW.keep (T' := [(1, _), (3, _), (5, _), (6, _), (8, _), (9, _), (10, _)]) ⟨rfl, rfl, rfl, rfl, rfl, rfl, rfl, trivial⟩ ?_
        refine PW.block ?_
        refine PW.keep (T' := [(1, _), (3, _), (5, _), (6, _), (8, _), (9, _), (10, _)]) ⟨rfl, rfl, rfl, rfl, rfl, rfl, rfl, trivial⟩ ?_
        refine PW.loopK (I := fun m T S' => ∃ (k : Nat) (b : Bool) (lo : List RuleB) (Ao : Option Addr) (co : Nat) (seg : Seg), (k ≤ l.length ∧ m = l.length - k ∧ (b, lo) = rwK l at_ x k ∧ SlV 56 3 (.slice Ao lo.length co) lo.length (ruls lo) seg ∧ lo.length ≤ 2 * k) ∧ T = ([(1, .string at_), (3, .pointer (some ⟨r3, 0, none⟩)), (5, .pointer (some ⟨r5, 0, none⟩)), (6, .pointer (some ⟨r6, 0, none⟩)), (8, .pointer (some ⟨r8, 0, none⟩)), (9, .bool b), (10, .int .i64 k)] : TT) ∧ S' = seg :: [(r8, .cells [.int .i64 (tv + 1), .slice Ao lo.length co] 50 2)] :: [(r6, .cells [.int .i64 0, .slice none 0 0] 50 2)] :: lseg r5 x :: tsegR r3 tv A l.length c :: S) (m := l.length) ⟨0, false, [], none, 0, [], ⟨by omega, by omega, rfl, SlV.nil 56 3, by simp⟩, rfl, rfl⟩ ?_
        rintro m _ _ ⟨k, b, lo, Ao, co, seg, ⟨hk, hm, hst, hsl, hlo⟩, rfl, rfl⟩
        refine PW.seq fun K4 hK4 => ?_
        refine PW.seqOps ?_
        refine OL.det trivial (Yields.pure rfl) ?_
        refine OL.det trivial (Yields.pure rfl) ?_
        refine OL.det trivial (Yields.ld rfl (own_at (j := 1) (c := [.int .i64 tv, .slice A l.length c]) (E := 50) (tot := 2) (List.mem_flatten.2 ⟨_, .tail _ (.tail _ (.tail _ (.tail _ (.head _)))), List.mem_singleton.2 rfl⟩) rfl)) ?_
        refine OL.det trivial (Yields.pure rfl) ?_
        refine OL.det trivial (Yields.pure rfl) ?_
        refine OL.nil ?_
        refine PW.keep (T' := [(1, _), (3, _), (5, _), (6, _), (8, _), (9, _), (10, _), (32, _)]) ⟨rfl, rfl, rfl, rfl, rfl, rfl, rfl, rfl, trivial⟩ ?_
        refine PW.cond rfl (fun c32 => ?_) (fun c32 => ?_)
        · try simp only [decide_eq_true_eq, decide_eq_false_iff_not, beq_iff_eq, bne_iff_ne, beq_eq_false_iff_ne, bne_eq_false_iff_eq, Bool.not_eq_true', Bool.not_eq_false', Bool.not_eq_true, ne_eq, Decidable.not_not] at c32
          have hkl : k < l.length := by omega
          obtain ⟨a0, rfl⟩ := ruls_some hx (by omega)
          have hwk := hw _ (List.getElem_mem hkl)
          refine PW.skip ?_
          refine hK4 _ _ ?_
          refine PW.keep (T' := [(1, _), (3, _), (5, _), (6, _), (8, _), (9, _), (10, _)]) ⟨rfl, rfl, rfl, rfl, rfl, rfl, rfl, trivial⟩ ?_
          refine PW.seq fun K5 hK5 => ?_
          refine PW.block ?_
          refine PW.seq fun K6 hK6 => ?_
          refine PW.seqOps ?_
          refine OL.det trivial (Yields.pure rfl) ?_
          refine OL.det trivial (Yields.pure rfl) ?_
          refine OL.bool trivial (Yields.pure rfl) (fun g37 => ?_) (fun g37 => ?_)
          · try simp only [decide_eq_true_eq, decide_eq_false_iff_not, beq_iff_eq, bne_iff_ne, beq_eq_false_iff_ne, bne_eq_false_iff_eq, Bool.not_eq_true', Bool.not_eq_false', Bool.not_eq_true, ne_eq, Decidable.not_not] at g37
            refine OL.det rfl (Yields.pure rfl) ?_
            refine OL.det rfl (Yields.pure rfl) ?_
            refine OL.det rfl (Yields.ld rfl (own_at (j := 1) (c := [.int .i64 tv, .slice (some a0) l.length c]) (E := 50) (tot := 2) (List.mem_flatten.2 ⟨_, .tail _ (.tail _ (.tail _ (.tail _ (.head _)))), List.mem_singleton.2 rfl⟩) rfl)) ?_
            refine OL.det rfl (Yields.pure rfl) ?_
            refine OL.det rfl (Yields.ixN rfl rfl rfl (by omega)) ?_
            refine OL.det rfl (Yields.pure rfl) ?_
            refine OL.det rfl (Yields.ld rfl (rule_at hx.cons.cons.cons.cons.cons hkl 0 _ rfl)) ?_
            refine OL.det rfl (Yields.pure rfl) ?_
            refine OL.det trivial (Yields.pure rfl) ?_
            refine OL.nil ?_
            refine PW.keep (T' := [(1, _), (3, _), (5, _), (6, _), (8, _), (9, _), (10, _), (46, _)]) ⟨rfl, rfl, rfl, rfl, rfl, rfl, rfl, rfl, trivial⟩ ?_
            refine PW.cond rfl (fun c46 => ?_) (fun c46 => ?_)
            · try simp only [decide_eq_true_eq, decide_eq_false_iff_not, beq_iff_eq, bne_iff_ne, beq_eq_false_iff_ne, bne_eq_false_iff_eq, Bool.not_eq_true', Bool.not_eq_false', Bool.not_eq_true, ne_eq, Decidable.not_not] at c46
              have hle : leB at_ l[k].1 = true := by rw [Bool.or_eq_true, beq_iff_eq, toL_inj] at c46; unfold leB ltB; rw [Bool.or_eq_true, decide_eq_true_eq]; exact c46
              refine PW.seqOps ?_
              refine OL.det trivial (Yields.pure rfl) ?_
              refine OL.det trivial (Yields.ld rfl (own_at (j := 1) (c := [.int .i64 (tv + 1), .slice Ao lo.length co]) (E := 50) (tot := 2) (List.mem_flatten.2 ⟨_, .tail _ (.head _), List.mem_singleton.2 rfl⟩) rfl)) ?_
              refine OL.det trivial (Yields.pure rfl) ?_
              refine OL.det trivial (Yields.ldA rfl rfl (lab_at (a := x) (r := r5) (List.mem_flatten.2 ⟨_, .tail _ (.tail _ (.tail _ (.head _))), List.mem_singleton.2 rfl⟩))) ?_
              refine OL.det trivial (Yields.build rfl) ?_
              apply OL.app1 (k := 0)
              · rfl
              · rfl
              · rfl
              · rfl
              · rfl
              · rfl
              · exact hsl
              · rfl
              · omega
              · unfold maxLen; omega
              intro v53 seg53 hsl53
              obtain ⟨A53, c53, rfl, _, _⟩ := slv_rdL (w0 := w0) hsl53
              obtain ⟨lo1, hlo1⟩ : ∃ z, z = lo ++ [(at_, x)] := ⟨_, rfl⟩
              have hln53 : lo.length + 1 = lo1.length := by rw [hlo1]; simp
              have hsl53n : SlV 56 3 (.slice A53 lo1.length c53) lo1.length (ruls lo1) seg53 := by
                rw [hlo1, ← ruls_snoc, ← hlo1, ← hln53]
                exact hsl53
              rw [hln53]
              refine OL.det trivial (Yields.pure rfl) ?_
              refine OL.cons trivial (OW.st (k := 1) (u := .slice A53 lo1.length c53) rfl rfl rfl rfl (Nat.le_refl 2) rfl) ?_
              rintro _ _ rfl
              change OL _ _ _ _ _ (seg53 :: [(r8, .cells [.int .i64 (tv + 1), .slice A53 lo1.length c53] 50 2)] :: [(r6, .cells [.int .i64 0, .slice none 0 0] 50 2)] :: lseg r5 x :: tsegR r3 tv (some a0) l.length c :: S) _
              obtain ⟨A1, c1, seg1, e1, e2, e3⟩ : ∃ A1 c1 seg1, A1 = A53 ∧ c1 = c53 ∧ seg1 = seg53 := ⟨_, _, _, rfl, rfl, rfl⟩
              subst e1; subst e2; subst e3
              have hsl1 := hsl53n
              have hlo1l : lo1.length ≤ 2 * k + 1 := by omega
              refine OL.nil ?_
              refine PW.keep (T' := [(1, _), (3, _), (5, _), (6, _), (8, _), (10, _)]) ⟨rfl, rfl, rfl, rfl, rfl, rfl, trivial⟩ ?_
              refine PW.ops ?_
              refine OL.det trivial (Yields.pure rfl) ?_
              refine OL.nil ?_
              refine hK6 _ _ ?_
              refine PW.keep (T' := [(1, _), (3, _), (5, _), (6, _), (8, _), (9, _), (10, _)]) ⟨rfl, rfl, rfl, rfl, rfl, rfl, rfl, trivial⟩ ?_
              refine PW.seqOps ?_
              refine OL.det trivial (Yields.pure rfl) ?_
              refine OL.det trivial (Yields.ld rfl (own_at (j := 1) (c := [.int .i64 tv, .slice (some a0) l.length c]) (E := 50) (tot := 2) (List.mem_flatten.2 ⟨_, .tail _ (.tail _ (.tail _ (.tail _ (.head _)))), List.mem_singleton.2 rfl⟩) rfl)) ?_
              refine OL.det trivial (Yields.pure rfl) ?_
              refine OL.det trivial (Yields.ixN rfl rfl rfl (by omega)) ?_
              refine OL.det trivial (Yields.pure rfl) ?_
              refine OL.det trivial (Yields.ld rfl (rule_at hx.cons.cons.cons.cons.cons hkl 0 _ rfl)) ?_
              refine OL.det trivial (Yields.pure rfl) ?_
              refine OL.det trivial (Yields.pure rfl) ?_
              refine OL.nil ?_
              refine PW.keep (T' := [(1, _), (3, _), (5, _), (6, _), (8, _), (9, _), (10, _), (62, _)]) ⟨rfl, rfl, rfl, rfl, rfl, rfl, rfl, rfl, trivial⟩ ?_
              refine PW.cond rfl (fun c62 => ?_) (fun c62 => ?_)
              · try simp only [decide_eq_true_eq, decide_eq_false_iff_not, beq_iff_eq, bne_iff_ne, beq_eq_false_iff_ne, bne_eq_false_iff_eq, Bool.not_eq_true', Bool.not_eq_false', Bool.not_eq_true, ne_eq, Decidable.not_not] at c62
                rw [toL_inj] at c62
                refine PW.quiet1K (p := 7) (base := (seg1 :: [(r8, .cells [.int .i64 (tv + 1), .slice A1 lo1.length c1] 50 2)] :: [(r6, .cells [.int .i64 0, .slice none 0 0] 50 2)] :: lseg r5 x :: tsegR r3 tv (some a0) l.length c :: S)) (K := (fun v' S' => ∃ r, v' = .slice (some ⟨r, 0, none⟩) 1 1 ∧ S' = [(r, .cells (ruleC l[k]) 56 3)] :: seg1 :: [(r8, .cells [.int .i64 (tv + 1), .slice A1 lo1.length c1] 50 2)] :: [(r6, .cells [.int .i64 0, .slice none 0 0] 50 2)] :: lseg r5 x :: tsegR r3 tv (some a0) l.length c :: S)) Tryd.mixed rfl rfl rfl (fun _ h => nomatch h) rfl (Over.refl _) ?_
                refine QKs.det trivial (fun Sx hSx => Yields.pure rfl) ?_
                refine QKs.det trivial (fun Sx hSx => Yields.ld rfl (own_at (j := 1) (c := [.int .i64 (tv + 1), .slice A1 lo1.length c1]) (E := 50) (tot := 2) (hSx _ (List.mem_flatten.2 ⟨_, .tail _ (.head _), List.mem_singleton.2 rfl⟩)) rfl)) ?_
                refine QKs.det trivial (fun Sx hSx => Yields.pure rfl) ?_
                refine QKs.det trivial (fun Sx hSx => Yields.ld rfl (own_at (j := 1) (c := [.int .i64 tv, .slice (some a0) l.length c]) (E := 50) (tot := 2) (hSx _ (List.mem_flatten.2 ⟨_, .tail _ (.tail _ (.tail _ (.tail _ (.head _)))), List.mem_singleton.2 rfl⟩)) rfl)) ?_
                refine QKs.det trivial (fun Sx hSx => Yields.pure rfl) ?_
                refine QKs.det trivial (fun Sx hSx => Yields.ixN rfl rfl rfl (by omega)) ?_
                refine QKs.det trivial (fun Sx hSx => Yields.ldA rfl (cs := ruleC l[k]) rfl (rule_at (hx.mono (fun p hp => hSx _ (by simp [hp]))) hkl)) ?_
                refine QKs.nil ⟨OW.mono (OW.bsl rfl) (by rintro _ _ ⟨r, rfl, rfl⟩; exact ⟨r, rfl, rfl⟩), (by rintro _ _ ⟨r, rfl, rfl⟩; exact (Over.refl _).cons), ?_⟩
                refine QKs.nil ?_
                rintro _ _ ⟨r70, rfl, rfl⟩
                change OL _ _ _ [_, _, _] _ _ _
                refine OL.cons trivial (OW.app (k := 1) (m := lo1.length) (q := 1) (xs := ruls lo1) (news := ruleC l[k]) rfl rfl hsl1 rfl rfl (fun j u hj => (Rd.own (E := 56) (tot := 3) (List.mem_flatten.2 ⟨_, .head _, List.mem_singleton.2 rfl⟩)).at hj) rfl (by omega) (by unfold maxLen; omega)) ?_
                rintro v71 _ ⟨seg71, rfl, hsl71⟩
                obtain ⟨A71, c71, rfl, _, _⟩ := slv_rdL (w0 := w0) hsl71
                have hln71 : lo1.length + 1 = (lo1 ++ [l[k]]).length := by simp
                have hsl71n : SlV 56 3 (.slice A71 (lo1 ++ [l[k]]).length c71) (lo1 ++ [l[k]]).length (ruls (lo1 ++ [l[k]])) seg71 := by
                  rw [← ruls_snoc, ← hln71]; exact hsl71
                rw [hln71]
                refine OL.subS (Sub.drop (Sub.refl _)) ?_
                change OL _ _ _ _ _ (seg71 :: [(r8, .cells [.int .i64 (tv + 1), .slice A1 lo1.length c1] 50 2)] :: [(r6, .cells [.int .i64 0, .slice none 0 0] 50 2)] :: lseg r5 x :: tsegR r3 tv (some a0) l.length c :: S) _
                refine OL.det trivial (Yields.pure rfl) ?_
                refine OL.cons trivial (OW.st (k := 1) (u := .slice A71 (lo1 ++ [l[k]]).length c71) rfl rfl rfl rfl (Nat.le_refl 2) rfl) ?_
                rintro _ _ rfl
                change OL _ _ _ _ _ (seg71 :: [(r8, .cells [.int .i64 (tv + 1), .slice A71 (lo1 ++ [l[k]]).length c71] 50 2)] :: [(r6, .cells [.int .i64 0, .slice none 0 0] 50 2)] :: lseg r5 x :: tsegR r3 tv (some a0) l.length c :: S) _
                refine OL.nil ?_
                refine hK5 _ _ ?_
                refine PW.keep (T' := [(1, _), (3, _), (5, _), (6, _), (8, _), (9, _), (10, _)]) ⟨rfl, rfl, rfl, rfl, rfl, rfl, rfl, trivial⟩ ?_
                refine PW.ops ?_
                refine OL.det trivial (Yields.pure rfl) ?_
                refine OL.det trivial (Yields.add64 rfl rfl (by omega) (by omega)) ?_
                refine OL.det trivial (Yields.pure rfl) ?_
                refine OL.nil ?_
                repeat rw [inBlk_n]
                rw [thenK_n]
                refine LoopEnd.mk (T'' := [(1, _), (3, _), (5, _), (6, _), (8, _), (9, _), (10, _)]) ⟨rfl, rfl, rfl, rfl, rfl, rfl, rfl, trivial⟩ ?_
                refine ⟨l.length - (k + 1), by omega, k + 1, true, lo1 ++ [l[k]], _, _, _, ⟨by omega, rfl, ?_, hsl71n, by simp; omega⟩, rfl, rfl⟩
                rw [rwK_succ hkl, ← hst]
                unfold rwStep
                rw [if_neg c62, if_pos ⟨g37, hle⟩, hlo1]
              · try simp only [decide_eq_true_eq, decide_eq_false_iff_not, beq_iff_eq, bne_iff_ne, beq_eq_false_iff_ne, bne_eq_false_iff_eq, Bool.not_eq_true', Bool.not_eq_false', Bool.not_eq_true, ne_eq, Decidable.not_not] at c62
                rw [toL_inj] at c62
                refine PW.skip ?_
                refine hK5 _ _ ?_
                refine PW.keep (T' := [(1, _), (3, _), (5, _), (6, _), (8, _), (9, _), (10, _)]) ⟨rfl, rfl, rfl, rfl, rfl, rfl, rfl, trivial⟩ ?_
                refine PW.ops ?_
                refine OL.det trivial (Yields.pure rfl) ?_
                refine OL.det trivial (Yields.add64 rfl rfl (by omega) (by omega)) ?_
                refine OL.det trivial (Yields.pure rfl) ?_
                refine OL.nil ?_
                repeat rw [inBlk_n]
                rw [thenK_n]
                refine LoopEnd.mk (T'' := [(1, _), (3, _), (5, _), (6, _), (8, _), (9, _), (10, _)]) ⟨rfl, rfl, rfl, rfl, rfl, rfl, rfl, trivial⟩ ?_
                refine ⟨l.length - (k + 1), by omega, k + 1, true, lo1, _, _, _, ⟨by omega, rfl, ?_, hsl1, by omega⟩, rfl, rfl⟩
                rw [rwK_succ hkl, ← hst]
                unfold rwStep
                rw [if_pos c62, if_pos ⟨g37, hle⟩, hlo1]
            · try simp only [decide_eq_true_eq, decide_eq_false_iff_not, beq_iff_eq, bne_iff_ne, beq_eq_false_iff_ne, bne_eq_false_iff_eq, Bool.not_eq_true', Bool.not_eq_false', Bool.not_eq_true, ne_eq, Decidable.not_not] at c46
              have hnle : ¬ (b = false ∧ leB at_ l[k].1 = true) := by
                  intro h
                  have h2 := h.2
                  unfold leB ltB at h2
                  rw [Bool.or_eq_true, decide_eq_true_eq] at h2
                  have h3 : (Op.bytesLess at_.toList l[k].1.toList || at_.toList == l[k].1.toList) = true := by rw [Bool.or_eq_true, beq_iff_eq, toL_inj]; exact h2
                  rw [h3] at c46
                  cases c46
              obtain ⟨A1, c1, seg1, lo1, e1, e2, e3, e4⟩ : ∃ A c g z, A = Ao ∧ c = co ∧ g = seg ∧ z = lo := ⟨_, _, _, _, rfl, rfl, rfl, rfl⟩
              subst e1; subst e2; subst e3; subst e4
              have hsl1 := hsl
              have hlo1l : lo1.length ≤ 2 * k + 1 := by omega
              refine PW.skip ?_
              refine hK6 _ _ ?_
              refine PW.keep (T' := [(1, _), (3, _), (5, _), (6, _), (8, _), (9, _), (10, _)]) ⟨rfl, rfl, rfl, rfl, rfl, rfl, rfl, trivial⟩ ?_
              refine PW.seqOps ?_
              refine OL.det trivial (Yields.pure rfl) ?_
              refine OL.det trivial (Yields.ld rfl (own_at (j := 1) (c := [.int .i64 tv, .slice (some a0) l.length c]) (E := 50) (tot := 2) (List.mem_flatten.2 ⟨_, .tail _ (.tail _ (.tail _ (.tail _ (.head _)))), List.mem_singleton.2 rfl⟩) rfl)) ?_
              refine OL.det trivial (Yields.pure rfl) ?_
              refine OL.det trivial (Yields.ixN rfl rfl rfl (by omega)) ?_
              refine OL.det trivial (Yields.pure rfl) ?_
              refine OL.det trivial (Yields.ld rfl (rule_at hx.cons.cons.cons.cons.cons hkl 0 _ rfl)) ?_
              refine OL.det trivial (Yields.pure rfl) ?_
              refine OL.det trivial (Yields.pure rfl) ?_
              refine OL.nil ?_
              refine PW.keep (T' := [(1, _), (3, _), (5, _), (6, _), (8, _), (9, _), (10, _), (62, _)]) ⟨rfl, rfl, rfl, rfl, rfl, rfl, rfl, rfl, trivial⟩ ?_
              refine PW.cond rfl (fun c62 => ?_) (fun c62 => ?_)
              · try simp only [decide_eq_true_eq, decide_eq_false_iff_not, beq_iff_eq, bne_iff_ne, beq_eq_false_iff_ne, bne_eq_false_iff_eq, Bool.not_eq_true', Bool.not_eq_false', Bool.not_eq_true, ne_eq, Decidable.not_not] at c62
                rw [toL_inj] at c62
                refine PW.quiet1K (p := 7) (base := (seg1 :: [(r8, .cells [.int .i64 (tv + 1), .slice A1 lo1.length c1] 50 2)] :: [(r6, .cells [.int .i64 0, .slice none 0 0] 50 2)] :: lseg r5 x :: tsegR r3 tv (some a0) l.length c :: S)) (K := (fun v' S' => ∃ r, v' = .slice (some ⟨r, 0, none⟩) 1 1 ∧ S' = [(r, .cells (ruleC l[k]) 56 3)] :: seg1 :: [(r8, .cells [.int .i64 (tv + 1), .slice A1 lo1.length c1] 50 2)] :: [(r6, .cells [.int .i64 0, .slice none 0 0] 50 2)] :: lseg r5 x :: tsegR r3 tv (some a0) l.length c :: S)) Tryd.mixed rfl rfl rfl (fun _ h => nomatch h) rfl (Over.refl _) ?_
                refine QKs.det trivial (fun Sx hSx => Yields.pure rfl) ?_
                refine QKs.det trivial (fun Sx hSx => Yields.ld rfl (own_at (j := 1) (c := [.int .i64 (tv + 1), .slice A1 lo1.length c1]) (E := 50) (tot := 2) (hSx _ (List.mem_flatten.2 ⟨_, .tail _ (.head _), List.mem_singleton.2 rfl⟩)) rfl)) ?_
                refine QKs.det trivial (fun Sx hSx => Yields.pure rfl) ?_
                refine QKs.det trivial (fun Sx hSx => Yields.ld rfl (own_at (j := 1) (c := [.int .i64 tv, .slice (some a0) l.length c]) (E := 50) (tot := 2) (hSx _ (List.mem_flatten.2 ⟨_, .tail _ (.tail _ (.tail _ (.tail _ (.head _)))), List.mem_singleton.2 rfl⟩)) rfl)) ?_
                refine QKs.det trivial (fun Sx hSx => Yields.pure rfl) ?_
                refine QKs.det trivial (fun Sx hSx => Yields.ixN rfl rfl rfl (by omega)) ?_
                refine QKs.det trivial (fun Sx hSx => Yields.ldA rfl (cs := ruleC l[k]) rfl (rule_at (hx.mono (fun p hp => hSx _ (by simp [hp]))) hkl)) ?_
                refine QKs.nil ⟨OW.mono (OW.bsl rfl) (by rintro _ _ ⟨r, rfl, rfl⟩; exact ⟨r, rfl, rfl⟩), (by rintro _ _ ⟨r, rfl, rfl⟩; exact (Over.refl _).cons), ?_⟩
                refine QKs.nil ?_
                rintro _ _ ⟨r70, rfl, rfl⟩
                change OL _ _ _ [_, _, _] _ _ _
                refine OL.cons trivial (OW.app (k := 1) (m := lo1.length) (q := 1) (xs := ruls lo1) (news := ruleC l[k]) rfl rfl hsl1 rfl rfl (fun j u hj => (Rd.own (E := 56) (tot := 3) (List.mem_flatten.2 ⟨_, .head _, List.mem_singleton.2 rfl⟩)).at hj) rfl (by omega) (by unfold maxLen; omega)) ?_
                rintro v71 _ ⟨seg71, rfl, hsl71⟩
                obtain ⟨A71, c71, rfl, _, _⟩ := slv_rdL (w0 := w0) hsl71
                have hln71 : lo1.length + 1 = (lo1 ++ [l[k]]).length := by simp
                have hsl71n : SlV 56 3 (.slice A71 (lo1 ++ [l[k]]).length c71) (lo1 ++ [l[k]]).length (ruls (lo1 ++ [l[k]])) seg71 := by
                  rw [← ruls_snoc, ← hln71]; exact hsl71
                rw [hln71]
                refine OL.subS (Sub.drop (Sub.refl _)) ?_
                change OL _ _ _ _ _ (seg71 :: [(r8, .cells [.int .i64 (tv + 1), .slice A1 lo1.length c1] 50 2)] :: [(r6, .cells [.int .i64 0, .slice none 0 0] 50 2)] :: lseg r5 x :: tsegR r3 tv (some a0) l.length c :: S) _
                refine OL.det trivial (Yields.pure rfl) ?_
                refine OL.cons trivial (OW.st (k := 1) (u := .slice A71 (lo1 ++ [l[k]]).length c71) rfl rfl rfl rfl (Nat.le_refl 2) rfl) ?_
                rintro _ _ rfl
                change OL _ _ _ _ _ (seg71 :: [(r8, .cells [.int .i64 (tv + 1), .slice A71 (lo1 ++ [l[k]]).length c71] 50 2)] :: [(r6, .cells [.int .i64 0, .slice none 0 0] 50 2)] :: lseg r5 x :: tsegR r3 tv (some a0) l.length c :: S) _
                refine OL.nil ?_
                refine hK5 _ _ ?_
                refine PW.keep (T' := [(1, _), (3, _), (5, _), (6, _), (8, _), (9, _), (10, _)]) ⟨rfl, rfl, rfl, rfl, rfl, rfl, rfl, trivial⟩ ?_
                refine PW.ops ?_
                refine OL.det trivial (Yields.pure rfl) ?_
                refine OL.det trivial (Yields.add64 rfl rfl (by omega) (by omega)) ?_
                refine OL.det trivial (Yields.pure rfl) ?_
                refine OL.nil ?_
                repeat rw [inBlk_n]
                rw [thenK_n]
                refine LoopEnd.mk (T'' := [(1, _), (3, _), (5, _), (6, _), (8, _), (9, _), (10, _)]) ⟨rfl, rfl, rfl, rfl, rfl, rfl, rfl, trivial⟩ ?_
                refine ⟨l.length - (k + 1), by omega, k + 1, b, lo1 ++ [l[k]], _, _, _, ⟨by omega, rfl, ?_, hsl71n, by simp; omega⟩, rfl, rfl⟩
                rw [rwK_succ hkl, ← hst]
                unfold rwStep
                rw [if_neg c62, if_neg hnle]
              · try simp only [decide_eq_true_eq, decide_eq_false_iff_not, beq_iff_eq, bne_iff_ne, beq_eq_false_iff_ne, bne_eq_false_iff_eq, Bool.not_eq_true', Bool.not_eq_false', Bool.not_eq_true, ne_eq, Decidable.not_not] at c62
                rw [toL_inj] at c62
                refine PW.skip ?_
                refine hK5 _ _ ?_
                refine PW.keep (T' := [(1, _), (3, _), (5, _), (6, _), (8, _), (9, _), (10, _)]) ⟨rfl, rfl, rfl, rfl, rfl, rfl, rfl, trivial⟩ ?_
                refine PW.ops ?_
                refine OL.det trivial (Yields.pure rfl) ?_
                refine OL.det trivial (Yields.add64 rfl rfl (by omega) (by omega)) ?_
                refine OL.det trivial (Yields.pure rfl) ?_
                refine OL.nil ?_
                repeat rw [inBlk_n]
                rw [thenK_n]
                refine LoopEnd.mk (T'' := [(1, _), (3, _), (5, _), (6, _), (8, _), (9, _), (10, _)]) ⟨rfl, rfl, rfl, rfl, rfl, rfl, rfl, trivial⟩ ?_
                refine ⟨l.length - (k + 1), by omega, k + 1, b, lo1, _, _, _, ⟨by omega, rfl, ?_, hsl1, by omega⟩, rfl, rfl⟩
                rw [rwK_succ hkl, ← hst]
                unfold rwStep
                rw [if_pos c62, if_neg hnle]
          · try simp only [decide_eq_true_eq, decide_eq_false_iff_not, beq_iff_eq, bne_iff_ne, beq_eq_false_iff_ne, bne_eq_false_iff_eq, Bool.not_eq_true', Bool.not_eq_false', Bool.not_eq_true, ne_eq, Decidable.not_not] at g37
            have hnle : ¬ (b = false ∧ leB at_ l[k].1 = true) := fun h => by rw [h.1] at g37; simp at g37
            obtain ⟨A1, c1, seg1, lo1, e1, e2, e3, e4⟩ : ∃ A c g z, A = Ao ∧ c = co ∧ g = seg ∧ z = lo := ⟨_, _, _, _, rfl, rfl, rfl, rfl⟩
            subst e1; subst e2; subst e3; subst e4
            have hsl1 := hsl
            have hlo1l : lo1.length ≤ 2 * k + 1 := by omega
            refine OL.off rfl rfl ?_
            refine OL.off rfl rfl ?_
            refine OL.off rfl rfl ?_
            refine OL.off rfl rfl ?_
            refine OL.off rfl rfl ?_
            refine OL.off rfl rfl ?_
            refine OL.off rfl rfl ?_
            refine OL.off rfl rfl ?_
            refine OL.det trivial (Yields.pure rfl) ?_
            refine OL.nil ?_
            refine PW.keep (T' := [(1, _), (3, _), (5, _), (6, _), (8, _), (9, _), (10, _), (46, _)]) ⟨rfl, rfl, rfl, rfl, rfl, rfl, rfl, rfl, trivial⟩ ?_
            refine PW.ite (b := false) rfl ?_
            rw [if_neg Bool.false_ne_true]
            refine PW.skip ?_
            refine hK6 _ _ ?_
            refine PW.keep (T' := [(1, _), (3, _), (5, _), (6, _), (8, _), (9, _), (10, _)]) ⟨rfl, rfl, rfl, rfl, rfl, rfl, rfl, trivial⟩ ?_
            refine PW.seqOps ?_
            refine OL.det trivial (Yields.pure rfl) ?_
            refine OL.det trivial (Yields.ld rfl (own_at (j := 1) (c := [.int .i64 tv, .slice (some a0) l.length c]) (E := 50) (tot := 2) (List.mem_flatten.2 ⟨_, .tail _ (.tail _ (.tail _ (.tail _ (.head _)))), List.mem_singleton.2 rfl⟩) rfl)) ?_
            refine OL.det trivial (Yields.pure rfl) ?_
            refine OL.det trivial (Yields.ixN rfl rfl rfl (by omega)) ?_
            refine OL.det trivial (Yields.pure rfl) ?_
            refine OL.det trivial (Yields.ld rfl (rule_at hx.cons.cons.cons.cons.cons hkl 0 _ rfl)) ?_
            refine OL.det trivial (Yields.pure rfl) ?_
            refine OL.det trivial (Yields.pure rfl) ?_
            refine OL.nil ?_
            refine PW.keep (T' := [(1, _), (3, _), (5, _), (6, _), (8, _), (9, _), (10, _), (62, _)]) ⟨rfl, rfl, rfl, rfl, rfl, rfl, rfl, rfl, trivial⟩ ?_
            refine PW.cond rfl (fun c62 => ?_) (fun c62 => ?_)
            · try simp only [decide_eq_true_eq, decide_eq_false_iff_not, beq_iff_eq, bne_iff_ne, beq_eq_false_iff_ne, bne_eq_false_iff_eq, Bool.not_eq_true', Bool.not_eq_false', Bool.not_eq_true, ne_eq, Decidable.not_not] at c62
              rw [toL_inj] at c62
              refine PW.quiet1K (p := 7) (base := (seg1 :: [(r8, .cells [.int .i64 (tv + 1), .slice A1 lo1.length c1] 50 2)] :: [(r6, .cells [.int .i64 0, .slice none 0 0] 50 2)] :: lseg r5 x :: tsegR r3 tv (some a0) l.length c :: S)) (K := (fun v' S' => ∃ r, v' = .slice (some ⟨r, 0, none⟩) 1 1 ∧ S' = [(r, .cells (ruleC l[k]) 56 3)] :: seg1 :: [(r8, .cells [.int .i64 (tv + 1), .slice A1 lo1.length c1] 50 2)] :: [(r6, .cells [.int .i64 0, .slice none 0 0] 50 2)] :: lseg r5 x :: tsegR r3 tv (some a0) l.length c :: S)) Tryd.mixed rfl rfl rfl (fun _ h => nomatch h) rfl (Over.refl _) ?_
              refine QKs.det trivial (fun Sx hSx => Yields.pure rfl) ?_
              refine QKs.det trivial (fun Sx hSx => Yields.ld rfl (own_at (j := 1) (c := [.int .i64 (tv + 1), .slice A1 lo1.length c1]) (E := 50) (tot := 2) (hSx _ (List.mem_flatten.2 ⟨_, .tail _ (.head _), List.mem_singleton.2 rfl⟩)) rfl)) ?_
              refine QKs.det trivial (fun Sx hSx => Yields.pure rfl) ?_
              refine QKs.det trivial (fun Sx hSx => Yields.ld rfl (own_at (j := 1) (c := [.int .i64 tv, .slice (some a0) l.length c]) (E := 50) (tot := 2) (hSx _ (List.mem_flatten.2 ⟨_, .tail _ (.tail _ (.tail _ (.tail _ (.head _)))), List.mem_singleton.2 rfl⟩)) rfl)) ?_
              refine QKs.det trivial (fun Sx hSx => Yields.pure rfl) ?_
              refine QKs.det trivial (fun Sx hSx => Yields.ixN rfl rfl rfl (by omega)) ?_
              refine QKs.det trivial (fun Sx hSx => Yields.ldA rfl (cs := ruleC l[k]) rfl (rule_at (hx.mono (fun p hp => hSx _ (by simp [hp]))) hkl)) ?_
              refine QKs.nil ⟨OW.mono (OW.bsl rfl) (by rintro _ _ ⟨r, rfl, rfl⟩; exact ⟨r, rfl, rfl⟩), (by rintro _ _ ⟨r, rfl, rfl⟩; exact (Over.refl _).cons), ?_⟩
              refine QKs.nil ?_
              rintro _ _ ⟨r70, rfl, rfl⟩
              change OL _ _ _ [_, _, _] _ _ _
              refine OL.cons trivial (OW.app (k := 1) (m := lo1.length) (q := 1) (xs := ruls lo1) (news := ruleC l[k]) rfl rfl hsl1 rfl rfl (fun j u hj => (Rd.own (E := 56) (tot := 3) (List.mem_flatten.2 ⟨_, .head _, List.mem_singleton.2 rfl⟩)).at hj) rfl (by omega) (by unfold maxLen; omega)) ?_
              rintro v71 _ ⟨seg71, rfl, hsl71⟩
              obtain ⟨A71, c71, rfl, _, _⟩ := slv_rdL (w0 := w0) hsl71
              have hln71 : lo1.length + 1 = (lo1 ++ [l[k]]).length := by simp
              have hsl71n : SlV 56 3 (.slice A71 (lo1 ++ [l[k]]).length c71) (lo1 ++ [l[k]]).length (ruls (lo1 ++ [l[k]])) seg71 := by
                rw [← ruls_snoc, ← hln71]; exact hsl71
              rw [hln71]
              refine OL.subS (Sub.drop (Sub.refl _)) ?_
              change OL _ _ _ _ _ (seg71 :: [(r8, .cells [.int .i64 (tv + 1), .slice A1 lo1.length c1] 50 2)] :: [(r6, .cells [.int .i64 0, .slice none 0 0] 50 2)] :: lseg r5 x :: tsegR r3 tv (some a0) l.length c :: S) _
              refine OL.det trivial (Yields.pure rfl) ?_
              refine OL.cons trivial (OW.st (k := 1) (u := .slice A71 (lo1 ++ [l[k]]).length c71) rfl rfl rfl rfl (Nat.le_refl 2) rfl) ?_
              rintro _ _ rfl
              change OL _ _ _ _ _ (seg71 :: [(r8, .cells [.int .i64 (tv + 1), .slice A71 (lo1 ++ [l[k]]).length c71] 50 2)] :: [(r6, .cells [.int .i64 0, .slice none 0 0] 50 2)] :: lseg r5 x :: tsegR r3 tv (some a0) l.length c :: S) _
              refine OL.nil ?_
              refine hK5 _ _ ?_
              refine PW.keep (T' := [(1, _), (3, _), (5, _), (6, _), (8, _), (9, _), (10, _)]) ⟨rfl, rfl, rfl, rfl, rfl, rfl, rfl, trivial⟩ ?_
              refine PW.ops ?_
              refine OL.det trivial (Yields.pure rfl) ?_
              refine OL.det trivial (Yields.add64 rfl rfl (by omega) (by omega)) ?_
              refine OL.det trivial (Yields.pure rfl) ?_
              refine OL.nil ?_
              repeat rw [inBlk_n]
              rw [thenK_n]
              refine LoopEnd.mk (T'' := [(1, _), (3, _), (5, _), (6, _), (8, _), (9, _), (10, _)]) ⟨rfl, rfl, rfl, rfl, rfl, rfl, rfl, trivial⟩ ?_
              refine ⟨l.length - (k + 1), by omega, k + 1, b, lo1 ++ [l[k]], _, _, _, ⟨by omega, rfl, ?_, hsl71n, by simp; omega⟩, rfl, rfl⟩
              rw [rwK_succ hkl, ← hst]
              unfold rwStep
              rw [if_neg c62, if_neg hnle]
            · try simp only [decide_eq_true_eq, decide_eq_false_iff_not, beq_iff_eq, bne_iff_ne, beq_eq_false_iff_ne, bne_eq_false_iff_eq, Bool.not_eq_true', Bool.not_eq_false', Bool.not_eq_true, ne_eq, Decidable.not_not] at c62
              rw [toL_inj] at c62
              refine PW.skip ?_
              refine hK5 _ _ ?_
              refine PW.keep (T' := [(1, _), (3, _), (5, _), (6, _), (8, _), (9, _), (10, _)]) ⟨rfl, rfl, rfl, rfl, rfl, rfl, rfl, trivial⟩ ?_
              refine PW.ops ?_
              refine OL.det trivial (Yields.pure rfl) ?_
              refine OL.det trivial (Yields.add64 rfl rfl (by omega) (by omega)) ?_
              refine OL.det trivial (Yields.pure rfl) ?_
              refine OL.nil ?_
              repeat rw [inBlk_n]
              rw [thenK_n]
              refine LoopEnd.mk (T'' := [(1, _), (3, _), (5, _), (6, _), (8, _), (9, _), (10, _)]) ⟨rfl, rfl, rfl, rfl, rfl, rfl, rfl, trivial⟩ ?_
              refine ⟨l.length - (k + 1), by omega, k + 1, b, lo1, _, _, _, ⟨by omega, rfl, ?_, hsl1, by omega⟩, rfl, rfl⟩
              rw [rwK_succ hkl, ← hst]
              unfold rwStep
              rw [if_pos c62, if_neg hnle]
        · try simp only [decide_eq_true_eq, decide_eq_false_iff_not, beq_iff_eq, bne_iff_ne, beq_eq_false_iff_ne, bne_eq_false_iff_eq, Bool.not_eq_true', Bool.not_eq_false', Bool.not_eq_true, ne_eq, Decidable.not_not] at c32
          refine PW.exit ?_
          refine hK3 _ _ ?_
          refine PW.keep (T' := [(1, _), (5, _), (6, _), (8, _), (9, _)]) ⟨rfl, rfl, rfl, rfl, rfl, trivial⟩ ?_
          refine PW.seq fun K7 hK7 => ?_
          refine PW.seqOps ?_
          refine OL.det trivial (Yields.pure rfl) ?_
          refine OL.det trivial (Yields.pure rfl) ?_
          refine OL.nil ?_
          refine PW.keep (T' := [(1, _), (5, _), (6, _), (8, _), (74, _)]) ⟨rfl, rfl, rfl, rfl, rfl, trivial⟩ ?_
          refine PW.cond rfl (fun c74 => ?_) (fun c74 => ?_)
          · try simp only [decide_eq_true_eq, decide_eq_false_iff_not, beq_iff_eq, bne_iff_ne, beq_eq_false_iff_ne, bne_eq_false_iff_eq, Bool.not_eq_true', Bool.not_eq_false', Bool.not_eq_true, ne_eq, Decidable.not_not] at c74
            obtain rfl : k = l.length := by omega
            have hb0 : b = false := by simpa using c74
            refine PW.ops ?_
            refine OL.det trivial (Yields.pure rfl) ?_
            refine OL.det trivial (Yields.ld rfl (own_at (j := 1) (c := [.int .i64 (tv + 1), .slice Ao lo.length co]) (E := 50) (tot := 2) (List.mem_flatten.2 ⟨_, .tail _ (.head _), List.mem_singleton.2 rfl⟩) rfl)) ?_
            refine OL.det trivial (Yields.pure rfl) ?_
            refine OL.det trivial (Yields.ldA rfl rfl (lab_at (a := x) (r := r5) (List.mem_flatten.2 ⟨_, .tail _ (.tail _ (.tail _ (.head _))), List.mem_singleton.2 rfl⟩))) ?_
            refine OL.det trivial (Yields.build rfl) ?_
            apply OL.app1 (k := 0)
            · rfl
            · rfl
            · rfl
            · rfl
            · rfl
            · rfl
            · exact hsl
            · rfl
            · omega
            · unfold maxLen; omega
            intro v81 seg81 hsl81
            obtain ⟨A81, c81, rfl, _, _⟩ := slv_rdL (w0 := w0) hsl81
            obtain ⟨lo2, hlo2⟩ : ∃ z, z = lo ++ [(at_, x)] := ⟨_, rfl⟩
            have hln81 : lo.length + 1 = lo2.length := by rw [hlo2]; simp
            have hsl81n : SlV 56 3 (.slice A81 lo2.length c81) lo2.length (ruls lo2) seg81 := by
              rw [hlo2, ← ruls_snoc, ← hlo2, ← hln81]
              exact hsl81
            rw [hln81]
            refine OL.det trivial (Yields.pure rfl) ?_
            refine OL.cons trivial (OW.st (k := 1) (u := .slice A81 lo2.length c81) rfl rfl rfl rfl (Nat.le_refl 2) rfl) ?_
            rintro _ _ rfl
            change OL _ _ _ _ _ (seg81 :: [(r8, .cells [.int .i64 (tv + 1), .slice A81 lo2.length c81] 50 2)] :: [(r6, .cells [.int .i64 0, .slice none 0 0] 50 2)] :: lseg r5 x :: tsegR r3 tv A l.length c :: S) _
            obtain ⟨A2, c2, seg2, e1, e2, e3⟩ : ∃ A2 c2 seg2, A2 = A81 ∧ c2 = c81 ∧ seg2 = seg81 := ⟨_, _, _, rfl, rfl, rfl⟩
            subst e1; subst e2; subst e3
            have hsl2 := hsl81n
            have hlo2 : lo2 = rwOut l at_ x := by unfold rwOut; rw [← hst, hb0, hlo2]; simp
            refine OL.nil ?_
            refine hK7 _ _ ?_
            refine PW.keep (T' := [(6, _), (8, _)]) ⟨rfl, rfl, trivial⟩ ?_
            refine PW.seq fun K8 hK8 => ?_
            refine PW.seqOps ?_
            refine OL.det trivial (Yields.pure rfl) ?_
            refine OL.det trivial (Yields.ld rfl (own_at (j := 1) (c := [.int .i64 (tv + 1), .slice A2 lo2.length c2]) (E := 50) (tot := 2) (List.mem_flatten.2 ⟨_, .tail _ (.head _), List.mem_singleton.2 rfl⟩) rfl)) ?_
            refine OL.det trivial (Yields.pure rfl) ?_
            refine OL.det trivial (Yields.pure rfl) ?_
            refine OL.nil ?_
            refine PW.keep (T' := [(6, _), (8, _), (86, _)]) ⟨rfl, rfl, rfl, trivial⟩ ?_
            refine PW.cond rfl (fun c86 => ?_) (fun c86 => ?_)
            · try simp only [decide_eq_true_eq, decide_eq_false_iff_not, beq_iff_eq, bne_iff_ne, beq_eq_false_iff_ne, bne_eq_false_iff_eq, Bool.not_eq_true', Bool.not_eq_false', Bool.not_eq_true, ne_eq, Decidable.not_not] at c86
              refine PW.seqOps ?_
              refine OL.det trivial (Yields.build rfl) ?_
              refine OL.cons trivial (OW.st (k := 2) (u := tabV 0 none 0 0) rfl rfl rfl rfl (Nat.le_refl 2) rfl) ?_
              rintro _ _ rfl
              change OL _ _ _ _ _ (seg2 :: [(r8, .cells [.int .i64 (tv + 1), .slice A2 lo2.length c2] 50 2)] :: [(r6, .cells [.int .i64 0, .slice none 0 0] 50 2)] :: lseg r5 x :: tsegR r3 tv A l.length c :: S) _
              refine OL.det trivial (Yields.pure rfl) ?_
              refine OL.nil ?_
              refine PW.keep (T' := [(6, _), (7, _)]) ⟨rfl, rfl, trivial⟩ ?_
              refine PW.ret ?_
              change (Exit.ret = Exit.normal ∨ Exit.ret = Exit.ret) ∧ ∃ a v x, Go.SL.look _ _ = some (.pointer (some a)) ∧ ReadsAs _ _ _ _ _ ∧ Go.SL.look _ _ = some x ∧ _
              have hres := (rwithT_at hp0 hok hch).trans (if_pos (show 32 < (rwOut l at_ x).length by rw [← hlo2]; omega))
              rw [hres]
              refine ⟨.inr rfl, _, tabV 0 none 0 0, .int .i64 7, rfl, tab_read (E := 50) (List.mem_flatten.2 ⟨_, .tail _ (.tail _ (.head _)), List.mem_singleton.2 rfl⟩), rfl, _, Sub.nilL (Sub.drop (Sub.drop (Sub.drop (Sub.drop (Sub.drop (Sub.refl _)))))), none, 0, [], rfl, rfl, SlV.nil 56 3⟩
            · try simp only [decide_eq_true_eq, decide_eq_false_iff_not, beq_iff_eq, bne_iff_ne, beq_eq_false_iff_ne, bne_eq_false_iff_eq, Bool.not_eq_true', Bool.not_eq_false', Bool.not_eq_true, ne_eq, Decidable.not_not] at c86
              refine PW.skip ?_
              refine hK8 _ _ ?_
              refine PW.keep (T' := [(6, _), (8, _)]) ⟨rfl, rfl, trivial⟩ ?_
              refine PW.seqOps ?_
              refine OL.det trivial (Yields.ldA rfl (cs := [.int .i64 (tv + 1), .slice A2 lo2.length c2]) rfl (tabR_at (tv := tv + 1) (A := A2) (n := lo2.length) (c := c2) (r := r8) (List.mem_flatten.2 ⟨_, .tail _ (.head _), List.mem_singleton.2 rfl⟩))) ?_
              refine OL.cons trivial (OW.st (k := 2) (u := tabV (tv + 1) A2 lo2.length c2) rfl rfl rfl rfl (Nat.le_refl 2) rfl) ?_
              rintro _ _ rfl
              change OL _ _ _ _ _ (seg2 :: [(r8, .cells [.int .i64 (tv + 1), .slice A2 lo2.length c2] 50 2)] :: [(r6, .cells [.int .i64 (tv + 1), .slice A2 lo2.length c2] 50 2)] :: lseg r5 x :: tsegR r3 tv A l.length c :: S) _
              refine OL.det trivial (Yields.pure rfl) ?_
              refine OL.nil ?_
              refine PW.keep (T' := [(6, _), (7, _)]) ⟨rfl, rfl, trivial⟩ ?_
              refine PW.ret ?_
              change (Exit.ret = Exit.normal ∨ Exit.ret = Exit.ret) ∧ ∃ a v x, Go.SL.look _ _ = some (.pointer (some a)) ∧ ReadsAs _ _ _ _ _ ∧ Go.SL.look _ _ = some x ∧ _
              have hres := (rwithT_at (tv := tv) hp0 hok hch).trans (if_neg (show ¬ 32 < (rwOut l at_ x).length by rw [← hlo2]; omega))
              rw [hres]
              refine ⟨.inr rfl, _, tabV (tv + 1) A2 lo2.length c2, .int .i64 0, rfl, tab_read (E := 50) (List.mem_flatten.2 ⟨_, .tail _ (.tail _ (.head _)), List.mem_singleton.2 rfl⟩), rfl, _, Sub.cons (Sub.drop (Sub.drop (Sub.drop (Sub.drop (Sub.refl _))))), A2, c2, seg2, ?_, rfl, ?_⟩
              · rw [← hlo2]
              · simp only [← hlo2]; exact hsl2
          · try simp only [decide_eq_true_eq, decide_eq_false_iff_not, beq_iff_eq, bne_iff_ne, beq_eq_false_iff_ne, bne_eq_false_iff_eq, Bool.not_eq_true', Bool.not_eq_false', Bool.not_eq_true, ne_eq, Decidable.not_not] at c74
            obtain rfl : k = l.length := by omega
            have hb0 : b = true := by simpa using c74
            obtain ⟨A2, c2, seg2, lo2, e1, e2, e3, e4⟩ : ∃ A c g z, A = Ao ∧ c = co ∧ g = seg ∧ z = lo := ⟨_, _, _, _, rfl, rfl, rfl, rfl⟩
            subst e1; subst e2; subst e3; subst e4
            have hsl2 := hsl
            have hlo2 : lo2 = rwOut l at_ x := by unfold rwOut; rw [← hst, if_pos hb0]
            refine PW.skip ?_
            refine hK7 _ _ ?_
            refine PW.keep (T' := [(6, _), (8, _)]) ⟨rfl, rfl, trivial⟩ ?_
            refine PW.seq fun K9 hK9 => ?_
            refine PW.seqOps ?_
            refine OL.det trivial (Yields.pure rfl) ?_
            refine OL.det trivial (Yields.ld rfl (own_at (j := 1) (c := [.int .i64 (tv + 1), .slice A2 lo2.length c2]) (E := 50) (tot := 2) (List.mem_flatten.2 ⟨_, .tail _ (.head _), List.mem_singleton.2 rfl⟩) rfl)) ?_
            refine OL.det trivial (Yields.pure rfl) ?_
            refine OL.det trivial (Yields.pure rfl) ?_
            refine OL.nil ?_
            refine PW.keep (T' := [(6, _), (8, _), (86, _)]) ⟨rfl, rfl, rfl, trivial⟩ ?_
            refine PW.cond rfl (fun c86 => ?_) (fun c86 => ?_)
            · try simp only [decide_eq_true_eq, decide_eq_false_iff_not, beq_iff_eq, bne_iff_ne, beq_eq_false_iff_ne, bne_eq_false_iff_eq, Bool.not_eq_true', Bool.not_eq_false', Bool.not_eq_true, ne_eq, Decidable.not_not] at c86
              refine PW.seqOps ?_
              refine OL.det trivial (Yields.build rfl) ?_
              refine OL.cons trivial (OW.st (k := 2) (u := tabV 0 none 0 0) rfl rfl rfl rfl (Nat.le_refl 2) rfl) ?_
              rintro _ _ rfl
              change OL _ _ _ _ _ (seg2 :: [(r8, .cells [.int .i64 (tv + 1), .slice A2 lo2.length c2] 50 2)] :: [(r6, .cells [.int .i64 0, .slice none 0 0] 50 2)] :: lseg r5 x :: tsegR r3 tv A l.length c :: S) _
              refine OL.det trivial (Yields.pure rfl) ?_
              refine OL.nil ?_
              refine PW.keep (T' := [(6, _), (7, _)]) ⟨rfl, rfl, trivial⟩ ?_
              refine PW.ret ?_
              change (Exit.ret = Exit.normal ∨ Exit.ret = Exit.ret) ∧ ∃ a v x, Go.SL.look _ _ = some (.pointer (some a)) ∧ ReadsAs _ _ _ _ _ ∧ Go.SL.look _ _ = some x ∧ _
              have hres := (rwithT_at hp0 hok hch).trans (if_pos (show 32 < (rwOut l at_ x).length by rw [← hlo2]; omega))
              rw [hres]
              refine ⟨.inr rfl, _, tabV 0 none 0 0, .int .i64 7, rfl, tab_read (E := 50) (List.mem_flatten.2 ⟨_, .tail _ (.tail _ (.head _)), List.mem_singleton.2 rfl⟩), rfl, _, Sub.nilL (Sub.drop (Sub.drop (Sub.drop (Sub.drop (Sub.drop (Sub.refl _)))))), none, 0, [], rfl, rfl, SlV.nil 56 3⟩
            · try simp only [decide_eq_true_eq, decide_eq_false_iff_not, beq_iff_eq, bne_iff_ne, beq_eq_false_iff_ne, bne_eq_false_iff_eq, Bool.not_eq_true', Bool.not_eq_false', Bool.not_eq_true, ne_eq, Decidable.not_not] at c86
              refine PW.skip ?_
              refine hK9 _ _ ?_
              refine PW.keep (T' := [(6, _), (8, _)]) ⟨rfl, rfl, trivial⟩ ?_
              refine PW.seqOps ?_
              refine OL.det trivial (Yields.ldA rfl (cs := [.int .i64 (tv + 1), .slice A2 lo2.length c2]) rfl (tabR_at (tv := tv + 1) (A := A2) (n := lo2.length) (c := c2) (r := r8) (List.mem_flatten.2 ⟨_, .tail _ (.head _), List.mem_singleton.2 rfl⟩))) ?_
              refine OL.cons trivial (OW.st (k := 2) (u := tabV (tv + 1) A2 lo2.length c2) rfl rfl rfl rfl (Nat.le_refl 2) rfl) ?_
              rintro _ _ rfl
              change OL _ _ _ _ _ (seg2 :: [(r8, .cells [.int .i64 (tv + 1), .slice A2 lo2.length c2] 50 2)] :: [(r6, .cells [.int .i64 (tv + 1), .slice A2 lo2.length c2] 50 2)] :: lseg r5 x :: tsegR r3 tv A l.length c :: S) _
              refine OL.det trivial (Yields.pure rfl) ?_
              refine OL.nil ?_
              refine PW.keep (T' := [(6, _), (7, _)]) ⟨rfl, rfl, trivial⟩ ?_
              refine PW.ret ?_
              change (Exit.ret = Exit.normal ∨ Exit.ret = Exit.ret) ∧ ∃ a v x, Go.SL.look _ _ = some (.pointer (some a)) ∧ ReadsAs _ _ _ _ _ ∧ Go.SL.look _ _ = some x ∧ _
              have hres := (rwithT_at (tv := tv) hp0 hok hch).trans (if_neg (show ¬ 32 < (rwOut l at_ x).length by rw [← hlo2]; omega))
              rw [hres]
              refine ⟨.inr rfl, _, tabV (tv + 1) A2 lo2.length c2, .int .i64 0, rfl, tab_read (E := 50) (List.mem_flatten.2 ⟨_, .tail _ (.tail _ (.head _)), List.mem_singleton.2 rfl⟩), rfl, _, Sub.cons (Sub.drop (Sub.drop (Sub.drop (Sub.drop (Sub.refl _))))), A2, c2, seg2, ?_, rfl, ?_⟩
              · rw [← hlo2]
              · simp only [← hlo2]; exact hsl2
end Go.Proofs.Rl

set_option linter.unusedVariables false
set_option linter.unusedSimpArgs false
namespace Go.Proofs.Rl
open Go.SL Go.RowKit Go.Proofs Go.Proofs.Lb
set_option maxHeartbeats 1000000
def Srt (l : List RuleB) : Prop := ∀ i j, i < j → (hj : j < l.length) → (hi : i < l.length) → ltB l[i].1 l[j].1 = true
theorem okAt_iff {l : List RuleB} : (List.range l.length).all (okAt l) = true ↔ Srt l ∧ ∀ i (h : i < l.length), prefB l[i].1 = true ∧ okL l[i].2 = true := by
  constructor
  · intro h
    have hi : ∀ i (h : i < l.length), (i = 0 ∨ ltB l[i - 1]!.1 l[i].1 = true) ∧ prefB l[i].1 = true ∧ okL l[i].2 = true := by
      intro i hlt
      have := List.all_eq_true.1 h i (List.mem_range.2 hlt)
      unfold okAt at this
      rw [getElem!_pos l i hlt] at this
      simp only [Bool.and_eq_true, Bool.or_eq_true, decide_eq_true_eq] at this
      exact ⟨this.1.1, this.1.2, this.2⟩
    refine ⟨?_, fun i h => (hi i h).2⟩
    intro i j hij hj hil
    induction j with
    | zero => omega
    | succ j ih =>
      have h1 := (hi (j + 1) hj).1.resolve_left (by omega)
      rw [show j + 1 - 1 = j from rfl, getElem!_pos l j (by omega)] at h1
      by_cases e : i = j
      · subst e; exact h1
      · exact lt_trans (ih (by omega) (by omega)) h1
  · rintro ⟨h1, h2⟩
    rw [List.all_eq_true]
    intro i hi
    have hlt := List.mem_range.1 hi
    unfold okAt
    rw [getElem!_pos l i hlt, (h2 i hlt).1, (h2 i hlt).2]
    by_cases e : i = 0
    · subst e; rfl
    · rw [getElem!_pos l (i - 1) (by omega), h1 (i - 1) i (by omega) hlt (by omega)]; simp
theorem rokAt_iff {l : List RuleB} : (List.range l.length).all (rokAt l) = true ↔ Srt l ∧ ∀ i (h : i < l.length), prefB l[i].1 = true ∧ okL l[i].2 = true := by
  constructor
  · intro h
    have hi : ∀ i (h : i < l.length), prefB l[i].1 = true ∧ okL l[i].2 = true ∧ ∀ j (hj : j < i), ltB l[j].1 l[i].1 = true := by
      intro i hlt
      have := List.all_eq_true.1 h i (List.mem_range.2 hlt)
      unfold rokAt at this
      rw [getElem!_pos l i hlt] at this
      simp only [Bool.and_eq_true] at this
      refine ⟨this.1.1, this.1.2, fun j hj => ?_⟩
      have h3 := List.all_eq_true.1 this.2 j (List.mem_range.2 hj)
      rwa [getElem!_pos l j (by omega)] at h3
    exact ⟨fun i j hij hj hil => (hi j hj).2.2 i hij, fun i h => ⟨(hi i h).1, (hi i h).2.1⟩⟩
  · rintro ⟨h1, h2⟩
    rw [List.all_eq_true]
    intro i hi
    have hlt := List.mem_range.1 hi
    unfold rokAt
    rw [getElem!_pos l i hlt, (h2 i hlt).1, (h2 i hlt).2, Bool.true_and, Bool.true_and, List.all_eq_true]
    intro j hj
    have hj2 := List.mem_range.1 hj
    rw [getElem!_pos l j (by omega)]
    exact h1 j i hj2 hlt (by omega)
theorem chk_eq (l : List RuleB) (tv : Int) : chkT l tv = chkR l tv := by
  unfold chkT chkR
  have : ((List.range l.length).all (okAt l) = true) ↔ ((List.range l.length).all (rokAt l) = true) := okAt_iff.trans rokAt_iff.symm
  simp only [this]
theorem chkT_ok {l : List RuleB} {tv : Int} (h : chkT l tv = 0) : l.length ≤ 32 ∧ (l.length : Int) ≤ tv ∧ Srt l ∧ ∀ i (h : i < l.length), prefB l[i].1 = true ∧ okL l[i].2 = true := by
  unfold chkT at h
  split at h
  · cases h
  · split at h
    · rename_i h1 h2
      obtain ⟨a, b⟩ := okAt_iff.1 h2
      exact ⟨by omega, by omega, a, b⟩
    · cases h
theorem rw_low {l : List RuleB} {a : ByteArray} {x : LabB} {k : Nat} (hk : k ≤ l.length) (h : ∀ y ∈ l.take k, geL a y = false) : ∀ j, j ≤ k → rwK l a x j = (false, l.take j)
  | 0, _ => by simp [rwK]
  | j + 1, hj => by
    have hjl : j < l.length := by omega
    rw [rwK_succ hjl, rw_low hk h j (by omega)]
    have hm : l[j] ∈ l.take k := List.mem_take_iff_getElem.2 ⟨j, by omega, rfl⟩
    have hlt : ltB l[j].1 a = true := by have := h _ hm; simpa [geL] using this
    have hne : ¬ l[j].1 = a := fun e => by rw [e, lt_irrefl] at hlt; cases hlt
    have hle : ¬ leB a l[j].1 = true := by
      unfold leB
      rw [Bool.or_eq_true, decide_eq_true_eq]
      rintro (h2 | h2)
      · have := lt_trans hlt h2; rw [lt_irrefl] at this; cases this
      · exact hne h2.symm
    unfold rwStep
    rw [if_neg hne, if_neg (fun h => hle h.2), rtake_snoc hjl]
theorem rw_high {l : List RuleB} {a : ByteArray} {x : LabB} (hs : Srt l) {k : Nat} (hk : k < l.length) (h : ∀ y ∈ l.take k, geL a y = false) (hq : geL a l[k] = true) : ∀ j, k < j → j ≤ l.length → rwK l a x j = (true, l.take k ++ (a, x) :: ((if l[k].1 = a then [] else [l[k]]) ++ (l.take j).drop (k + 1)))
  | 0, h0, _ => by omega
  | j + 1, h0, hj => by
    have hjl : j < l.length := by omega
    have hge : ltB l[k].1 a = false := by simpa [geL] using hq
    rw [rwK_succ hjl]
    by_cases e : j = k
    · subst e
      rw [rw_low (by omega) h j (Nat.le_refl _)]
      have hle : leB a l[j].1 = true := by
        unfold leB
        rw [Bool.or_eq_true, decide_eq_true_eq]
        rcases lt_total hge with h | h
        · exact .inr h.symm
        · exact .inl h
      have hd : (l.take (j + 1)).drop (j + 1) = [] := List.drop_of_length_le (by simp; omega)
      unfold rwStep
      rw [hd]
      by_cases e2 : l[j].1 = a
      · rw [if_pos e2, if_pos ⟨rfl, hle⟩, if_pos e2]; simp
      · rw [if_neg e2, if_pos ⟨rfl, hle⟩, if_neg e2]; simp
    · rw [rw_high hs hk h hq j (by omega) (by omega)]
      have hkj := hs k j (by omega) hjl hk
      have hne : ¬ l[j].1 = a := fun e2 => by
        rw [e2] at hkj
        rw [hkj] at hge; cases hge
      unfold rwStep
      rw [if_neg hne, if_neg (fun h => by cases h.1)]
      have : (l.take (j + 1)).drop (k + 1) = (l.take j).drop (k + 1) ++ [l[j]] := by
        rw [rtake_snoc hjl, List.drop_append_of_le_length (by simp; omega)]
      rw [this]
      simp
theorem insL_set {l : List RuleB} {k : Nat} (hk : k < l.length) (y : RuleB) : l.take k ++ y :: l.drop (k + 1) = l.set k y := by rw [List.set_eq_take_append_cons_drop, if_pos hk]
theorem with_eq (l : List RuleB) (tv : Int) (a : ByteArray) (x : LabB) : withT l tv a x = rwithT l tv a x := by
  by_cases hp : prefB a = true
  case neg =>
    have hp : prefB a = false := by simpa using hp
    rw [withT_bad hp, rwithT_bad hp]
  by_cases ha : okL x = false ∨ chkT l tv ≠ 0
  · rw [withT_arg hp ha, rwithT_arg hp (by rw [← chk_eq]; exact ha)]
  · have ho : okL x = true := by cases h : okL x <;> simp_all
    have hc : chkT l tv = 0 := by
      rcases Classical.em (chkT l tv = 0) with h | h
      · exact h
      · exact absurd (.inr h) ha
    obtain ⟨k, hkl, hkt, hkq, hkz⟩ := idx_at (geL a) l
    obtain ⟨h32, _, hs, _⟩ := chkT_ok hc
    rw [withT_at hp ho hc hkz, rwithT_at hp ho (by rw [← chk_eq]; exact hc)]
    by_cases hk : k < l.length
    · have hh := rw_high hs hk hkt (hkq hk) l.length hk (Nat.le_refl _) (x := x)
      rw [List.take_length] at hh
      have hout : rwOut l a x = l.take k ++ (a, x) :: ((if l[k].1 = a then [] else [l[k]]) ++ l.drop (k + 1)) := by unfold rwOut; rw [hh, if_pos rfl]
      by_cases e : l[k].1 = a
      · rw [dif_pos ⟨hk, by rw [getElem!_pos l k hk]; exact e⟩]
        rw [if_pos e, List.nil_append, insL_set hk] at hout
        rw [hout, if_neg (by simp; omega)]
      · rw [dif_neg (fun h => e (by rw [← getElem!_pos l k hk]; exact h.2))]
        have hins : rwOut l a x = insL l k (a, x) := by
          rw [hout, if_neg e]
          unfold insL
          congr 2
          simp
        rw [hins, insL_len hkl]
        by_cases e2 : l.length = 32
        · rw [if_pos e2, if_pos (by omega)]
        · rw [if_neg e2, if_neg (by omega)]
    · obtain rfl : k = l.length := by omega
      rw [dif_neg (fun h => hk h.1)]
      have hh := rw_low (x := x) (Nat.le_refl _) hkt l.length (Nat.le_refl _)
      rw [List.take_length] at hh
      have hins : rwOut l a x = insL l l.length (a, x) := by
        unfold rwOut insL
        rw [hh, List.take_length, List.drop_length]
        rfl
      rw [hins, insL_len hkl]
      by_cases e2 : l.length = 32
      · rw [if_pos e2, if_pos (by omega)]
      · rw [if_neg e2, if_neg (by omega)]
theorem sameT_refl (a : Int) (l : List RuleB) : sameT a l a l = true := by unfold sameT; simp
theorem with_len (l : List RuleB) (tv : Int) (a : ByteArray) (x : LabB) : (withT l tv a x).2.2.length ≤ l.length + 1 := by
  unfold withT
  split
  · simp
  · split
    · simp
    · split
      · rename_i k hk
        have hkl := (List.findIdx?_eq_some_iff_getElem.1 hk).1
        split
        · simp
        · split
          · simp
          · simp only []; rw [insL_len (by omega)]; omega
      · split
        · simp
        · simp only []; rw [insL_len (Nat.le_refl _)]; omega
theorem ruls_setpre {l : List RuleB} {k : Nat} (hk : k < l.length) (s : ByteArray) : setAt (ruls l) (k * 3) [.string s] = ruls (l.set k (s, l[k].2)) := by
  rw [setAt_eq _ _ _ (by rw [ruls_len]; simp; omega)]
  have h1 : l = l.take k ++ l[k] :: l.drop (k + 1) := by simp
  have h2 : l.set k (s, l[k].2) = l.take k ++ (s, l[k].2) :: l.drop (k + 1) := by rw [List.set_eq_take_append_cons_drop, if_pos hk]
  have e : ∀ y : RuleB, ruls (l.take k ++ y :: l.drop (k + 1)) = ruls (l.take k) ++ ruleC y ++ ruls (l.drop (k + 1)) := fun y => by rw [ruls_app, List.append_assoc]; rfl
  have hl : (ruls (l.take k)).length = k * 3 := by rw [ruls_len, List.length_take]; omega
  rw [h2, e]
  conv => lhs; rw [h1]
  rw [e]
  have e1 : (ruls (l.take k) ++ ruleC l[k] ++ ruls (l.drop (k + 1))).take (k * 3) = ruls (l.take k) := by
    rw [List.append_assoc, List.take_left' hl]
  have e2 : (ruls (l.take k) ++ ruleC l[k] ++ ruls (l.drop (k + 1))).drop (k * 3 + 1) = [.int .i64 l[k].2.1, .int .u64 (l[k].2.2.toNat : Int)] ++ ruls (l.drop (k + 1)) := by
    have : ruls (l.take k) ++ ruleC l[k] ++ ruls (l.drop (k + 1)) = (ruls (l.take k) ++ [.string l[k].1]) ++ ([.int .i64 l[k].2.1, .int .u64 (l[k].2.2.toNat : Int)] ++ ruls (l.drop (k + 1))) := by simp [ruleC]
    rw [this]
    exact List.drop_left' (by simp [hl])
  show _ ++ _ ++ List.drop (k * 3 + 1) _ = _
  rw [e1, e2]
  simp [ruleC]
end Go.Proofs.Rl
