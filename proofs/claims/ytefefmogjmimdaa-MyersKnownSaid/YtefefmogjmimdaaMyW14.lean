/- Walks and plain facts for the laws of this seat: what each function answers, for every input. -/
import Derived.Test.YtefefmogjmimdaaSl8
import Derived.Test.YtefefmogjmimdaaMyW13
set_option linter.unusedVariables false
set_option linter.unusedSimpArgs false
namespace Go.Proofs
open Go.SL Go.RowKit

open Go.MyPlain
set_option maxHeartbeats 1000000
theorem leftA_keep {X : List ByteArray} {l : List (Int × Int × Int)} {k : Nat} (h : k < l.length) (h2 : ¬ l[k].1 = 2) (h3 : l[k].2.1.toNat < X.length) : leftA X (l.take (k + 1)) = leftA X (l.take k) ++ [X[l[k].2.1.toNat]] := by
  unfold leftA
  rw [List.take_add_one, List.getElem?_eq_getElem h, List.flatMap_append]
  simp [h2, h3]
theorem leftA_skip {X : List ByteArray} {l : List (Int × Int × Int)} {k : Nat} (h : k < l.length) (h2 : l[k].1 = 2) : leftA X (l.take (k + 1)) = leftA X (l.take k) := by
  unfold leftA
  rw [List.take_add_one, List.getElem?_eq_getElem h, List.flatMap_append]
  simp [h2]
theorem leftB_keep {X : List ByteArray} {l : List (Int × Int × Int)} {k : Nat} (h : k < l.length) (h2 : ¬ l[k].1 = 1) (h3 : l[k].2.2.toNat < X.length) : leftB X (l.take (k + 1)) = leftB X (l.take k) ++ [X[l[k].2.2.toNat]] := by
  unfold leftB
  rw [List.take_add_one, List.getElem?_eq_getElem h, List.flatMap_append]
  simp [h2, h3]
theorem leftB_skip {X : List ByteArray} {l : List (Int × Int × Int)} {k : Nat} (h : k < l.length) (h2 : l[k].1 = 1) : leftB X (l.take (k + 1)) = leftB X (l.take k) := by
  unfold leftB
  rw [List.take_add_one, List.getElem?_eq_getElem h, List.flatMap_append]
  simp [h2]
theorem leftA_len (X : List ByteArray) (l : List (Int × Int × Int)) : (leftA X l).length ≤ l.length := by
  unfold leftA
  induction l with
  | nil => simp
  | cons s l ih =>
    rw [List.flatMap_cons, List.length_append, List.length_cons]
    have : (if s.1 = 2 then [] else (X[s.2.1.toNat]?).toList).length ≤ 1 := by
      split
      · simp
      · cases X[s.2.1.toNat]? <;> simp
    omega
theorem leftB_len (X : List ByteArray) (l : List (Int × Int × Int)) : (leftB X l).length ≤ l.length := by
  unfold leftB
  induction l with
  | nil => simp
  | cons s l ih =>
    rw [List.flatMap_cons, List.length_append, List.length_cons]
    have : (if s.1 = 1 then [] else (X[s.2.2.toNat]?).toList).length ≤ 1 := by
      split
      · simp
      · cases X[s.2.2.toNat]? <;> simp
    omega
theorem myleft_fc {w0 : World} {A B : Option Addr} {ca cb : Nat} {xs ys : List ByteArray} (hx : Rd w0 [] A (xs.map .string)) (hy : Rd w0 [] B (ys.map .string)) (hX : xs.length ≤ 1000000000000000) (hY : ys.length ≤ 1000000000000000) (hsx : ∀ s ∈ xs, s.size ≤ 9223372036854775807) (hsy : ∀ s ∈ ys, s.size ≤ 9223372036854775807) :
    FC Try.prog w0 4 [.slice A xs.length ca, .slice B ys.length cb] [] (fun v _ => v = .bool true) := by
  have hcx := cutF_le xs
  have hcy := cutF_le ys
  have hln := scr_length (cutF xs) (cutF ys)
  obtain ⟨hlA, hlB, hrg0⟩ := scr_left (cutF xs) (cutF ys)
  generalize hscr : scr (cutF xs) (cutF ys) = sc at *
  generalize hXs : cutF xs = X at *
  generalize hYs : cutF ys = Y at *
  have hrg : ∀ k (h : k < sc.length), (¬ sc[k].1 = 2 → 0 ≤ sc[k].2.1 ∧ sc[k].2.1 < X.length) ∧ (¬ sc[k].1 = 1 → 0 ≤ sc[k].2.2 ∧ sc[k].2.2 < Y.length) := fun k h => hrg0 _ (List.getElem_mem h)
  refine FC.ofD Try.known4 (by simp) ?_
  unfold Try.pc4
  simp only [argT]
  refine PW.seqOps ?_
  refine OL.det trivial (Yields.pure rfl) ?_
  refine OL.nil ?_
  refine PW.keep (T' := [(0, _), (1, _)]) ⟨rfl, rfl, trivial⟩ ?_
  refine PW.seqOps ?_
  refine OL.det trivial (Yields.pure rfl) ?_
  refine OL.call trivial rfl (cut_fc hx hX hsx) ?_
  rintro vA _ ⟨segA, rfl, hslA⟩
  rw [hXs] at hslA
  refine OL.det trivial (Yields.pure rfl) ?_
  refine OL.call trivial rfl (cut_fc hy.cons hY hsy) ?_
  rintro vB _ ⟨segB, rfl, hslB⟩
  rw [hYs] at hslB
  obtain ⟨AX, cX, rfl, hrX, _⟩ := hslA.rd (S := segB :: segA :: []) (k := 1) rfl
  obtain ⟨AY, cY, rfl, hrY, _⟩ := hslB.rd (S := segB :: segA :: []) (k := 0) rfl
  refine OL.det trivial (Yields.pure rfl) ?_
  refine OL.det trivial (Yields.pure rfl) ?_
  refine OL.nil ?_
  refine PW.keep (T' := [(0, _), (1, _)]) ⟨rfl, rfl, trivial⟩ ?_
  refine PW.seqOps ?_
  refine OL.det trivial (Yields.pure rfl) ?_
  refine OL.det trivial (Yields.pure rfl) ?_
  refine OL.call trivial rfl (diff_fc hrX hrY (by omega) (by omega)) ?_
  rintro _ _ ⟨u1, seg1, rfl, rfl, hsl1⟩
  rw [hscr] at hsl1
  obtain ⟨A1, c1, rfl, hr1, _⟩ := hsl1.rd (S := seg1 :: segB :: segA :: []) (k := 0) rfl
  refine OL.det trivial (Yields.pure rfl) ?_
  refine OL.det trivial (Yields.pure rfl) ?_
  refine OL.det trivial (Yields.pure rfl) ?_
  refine OL.det trivial (Yields.pure rfl) ?_
  refine OL.det trivial (Yields.pure rfl) ?_
  refine OL.nil ?_
  refine PW.keep (T' := [(0, _), (1, _), (5, _), (6, _)]) ⟨rfl, rfl, rfl, rfl, trivial⟩ ?_
  refine PW.seq fun K1 hK1 => ?_
  refine PW.seqOps ?_
  refine OL.det trivial (Yields.pure rfl) ?_
  refine OL.det trivial (Yields.pure rfl) ?_
  refine OL.nil ?_
  refine PW.keep (T' := [(0, _), (1, _), (5, _), (22, _)]) ⟨rfl, rfl, rfl, rfl, trivial⟩ ?_
  refine PW.cond rfl (fun c22 => ?_) (fun c22 => ?_)
  · try simp only [decide_eq_true_eq, decide_eq_false_iff_not, beq_iff_eq, bne_iff_ne, beq_eq_false_iff_ne, bne_eq_false_iff_eq, Bool.not_eq_true', Bool.not_eq_false', Bool.not_eq_true, ne_eq, Decidable.not_not] at c22
    exact absurd trivial c22 -- done
  · try simp only [decide_eq_true_eq, decide_eq_false_iff_not, beq_iff_eq, bne_iff_ne, beq_eq_false_iff_ne, bne_eq_false_iff_eq, Bool.not_eq_true', Bool.not_eq_false', Bool.not_eq_true, ne_eq, Decidable.not_not] at c22
    refine PW.skip ?_
    refine hK1 _ _ ?_
    refine PW.keep (T' := [(0, _), (1, _), (5, _)]) ⟨rfl, rfl, rfl, trivial⟩ ?_
    refine PW.seqOps ?_
    refine OL.nilseg ?_
    refine OL.nilseg ?_
    refine OL.det trivial (Yields.pure rfl) ?_
    refine OL.det trivial (Yields.pure rfl) ?_
    refine OL.nil ?_
    refine PW.keep (T' := [(0, _), (1, _), (5, _), (7, _), (8, _)]) ⟨rfl, rfl, rfl, rfl, rfl, trivial⟩ ?_
    refine PW.seq fun K2 hK2 => ?_
    refine PW.seqOps ?_
    refine OL.det trivial (Yields.pure rfl) ?_
    refine OL.nil ?_
    refine PW.keep (T' := [(0, _), (1, _), (5, _), (7, _), (8, _), (9, _)]) ⟨rfl, rfl, rfl, rfl, rfl, rfl, trivial⟩ ?_
    refine PW.block ?_
    refine PW.keep (T' := [(0, _), (1, _), (5, _), (7, _), (8, _), (9, _)]) ⟨rfl, rfl, rfl, rfl, rfl, rfl, trivial⟩ ?_
    refine PW.loopK (I := fun m T S' => ∃ (k : Nat) (vx : Value) (segx : Seg) (vy : Value) (segy : Seg), (k ≤ sc.length ∧ m = sc.length - k ∧ SlV 9 1 vx (leftA X (sc.take k)).length ((leftA X (sc.take k)).map .string) segx ∧ SlV 9 1 vy (leftB Y (sc.take k)).length ((leftB Y (sc.take k)).map .string) segy) ∧ T = ([(0, .slice AX X.length cX), (1, .slice AY Y.length cY), (5, .slice A1 sc.length c1), (7, vx), (8, vy), (9, .int .i64 k)] : TT) ∧ S' = segx :: segy :: seg1 :: segB :: segA :: []) (m := sc.length) ⟨0, _, [], _, [], ⟨by omega, by omega, SlV.nil 9 1, SlV.nil 9 1⟩, rfl, rfl⟩ ?_
    rintro m _ _ ⟨k, vx, segx, vy, segy, ⟨hk, hm, hslx, hsly⟩, rfl, rfl⟩
    refine PW.seq fun K3 hK3 => ?_
    refine PW.seqOps ?_
    refine OL.det trivial (Yields.pure rfl) ?_
    refine OL.det trivial (Yields.pure rfl) ?_
    refine OL.det trivial (Yields.pure rfl) ?_
    refine OL.det trivial (Yields.pure rfl) ?_
    refine OL.nil ?_
    refine PW.keep (T' := [(0, _), (1, _), (5, _), (7, _), (8, _), (9, _), (26, _)]) ⟨rfl, rfl, rfl, rfl, rfl, rfl, rfl, trivial⟩ ?_
    refine PW.cond rfl (fun c26 => ?_) (fun c26 => ?_)
    · try simp only [decide_eq_true_eq, decide_eq_false_iff_not, beq_iff_eq, bne_iff_ne, beq_eq_false_iff_ne, bne_eq_false_iff_eq, Bool.not_eq_true', Bool.not_eq_false', Bool.not_eq_true, ne_eq, Decidable.not_not] at c26
      have hlt : k < sc.length := by omega
      obtain ⟨a1, rfl⟩ := hr1.some (stsC_ne (by omega))
      have hla := leftA_len X (sc.take k)
      have hlb := leftB_len Y (sc.take k)
      rw [List.length_take] at hla hlb
      obtain ⟨hgA, hgB⟩ := hrg k hlt
      refine PW.skip ?_
      refine hK3 _ _ ?_
      refine PW.keep (T' := [(0, _), (1, _), (5, _), (7, _), (8, _), (9, _)]) ⟨rfl, rfl, rfl, rfl, rfl, rfl, trivial⟩ ?_
      refine PW.seq fun K4 hK4 => ?_
      refine PW.block ?_
      refine PW.seqOps ?_
      refine OL.det trivial (Yields.pure rfl) ?_
      refine OL.det trivial (Yields.pure rfl) ?_
      refine OL.det trivial (Yields.ixN rfl rfl rfl (by omega)) ?_
      refine OL.det trivial (Yields.ldA rfl (by first | rfl | simp) (st_all hr1.cons.cons hlt)) ?_
      refine OL.cons trivial OW.al ?_
      rintro _ _ ⟨r10, rfl, rfl⟩
      refine OL.cons trivial (OW.st (k := 0) rfl rfl rfl rfl (by first | decide | (simp; done) | (simp; omega)) (by first | rfl | simp)) ?_
      rintro _ _ rfl
      refine OL.nil ?_
      refine PW.keep (T' := [(0, _), (1, _), (5, _), (7, _), (8, _), (9, _), (10, _)]) ⟨rfl, rfl, rfl, rfl, rfl, rfl, rfl, trivial⟩ ?_
      refine PW.seq fun K5 hK5 => ?_
      refine PW.seqOps ?_
      refine OL.det trivial (Yields.pure rfl) ?_
      refine OL.det trivial (Yields.ld rfl (own_at (c := stC sc[k]) (E := 36) (tot := 3) (List.Mem.head _) rfl)) ?_
      refine OL.det trivial (Yields.pure rfl) ?_
      refine OL.nil ?_
      refine PW.keep (T' := [(0, _), (1, _), (5, _), (7, _), (8, _), (9, _), (10, _), (35, _)]) ⟨rfl, rfl, rfl, rfl, rfl, rfl, rfl, rfl, trivial⟩ ?_
      refine PW.cond rfl (fun c35 => ?_) (fun c35 => ?_)
      · try simp only [decide_eq_true_eq, decide_eq_false_iff_not, beq_iff_eq, bne_iff_ne, beq_eq_false_iff_ne, bne_eq_false_iff_eq, Bool.not_eq_true', Bool.not_eq_false', Bool.not_eq_true, ne_eq, Decidable.not_not] at c35
        obtain ⟨gA1, gA2⟩ := hgA c35
        obtain ⟨aX, rfl⟩ := hrX.some (strs_ne (by omega))
        refine PW.seq fun K6 hK6 => ?_
        refine PW.seqOps ?_
        refine OL.det trivial (Yields.pure rfl) ?_
        refine OL.det trivial (Yields.ld rfl (own_at (c := stC sc[k]) (E := 36) (tot := 3) (List.Mem.head _) rfl)) ?_
        refine OL.det trivial (Yields.pure rfl) ?_
        refine OL.bool trivial (Yields.pure rfl) (fun g39 => ?_) (fun g39 => ?_)
        · try simp only [decide_eq_true_eq, decide_eq_false_iff_not, beq_iff_eq, bne_iff_ne, beq_eq_false_iff_ne, bne_eq_false_iff_eq, Bool.not_eq_true', Bool.not_eq_false', Bool.not_eq_true, ne_eq, Decidable.not_not] at g39
          exfalso; omega -- done
        · try simp only [decide_eq_true_eq, decide_eq_false_iff_not, beq_iff_eq, bne_iff_ne, beq_eq_false_iff_ne, bne_eq_false_iff_eq, Bool.not_eq_true', Bool.not_eq_false', Bool.not_eq_true, ne_eq, Decidable.not_not] at g39
          refine OL.det rfl (Yields.pure rfl) ?_
          refine OL.det rfl (Yields.ld rfl (own_at (c := stC sc[k]) (E := 36) (tot := 3) (List.Mem.head _) rfl)) ?_
          refine OL.det rfl (Yields.pure rfl) ?_
          refine OL.det rfl (Yields.pure rfl) ?_
          refine OL.det rfl (Yields.pure rfl) ?_
          refine OL.det trivial (Yields.pure rfl) ?_
          refine OL.nil ?_
          refine PW.keep (T' := [(0, _), (1, _), (5, _), (7, _), (8, _), (9, _), (10, _), (45, _)]) ⟨rfl, rfl, rfl, rfl, rfl, rfl, rfl, rfl, trivial⟩ ?_
          refine PW.cond rfl (fun c45 => ?_) (fun c45 => ?_)
          · try simp only [decide_eq_true_eq, decide_eq_false_iff_not, beq_iff_eq, bne_iff_ne, beq_eq_false_iff_ne, bne_eq_false_iff_eq, Bool.not_eq_true', Bool.not_eq_false', Bool.not_eq_true, ne_eq, Decidable.not_not] at c45
            exfalso; omega -- done
          · try simp only [decide_eq_true_eq, decide_eq_false_iff_not, beq_iff_eq, bne_iff_ne, beq_eq_false_iff_ne, bne_eq_false_iff_eq, Bool.not_eq_true', Bool.not_eq_false', Bool.not_eq_true, ne_eq, Decidable.not_not] at c45
            refine PW.skip ?_
            refine hK6 _ _ ?_
            refine PW.keep (T' := [(0, _), (1, _), (5, _), (7, _), (8, _), (9, _), (10, _)]) ⟨rfl, rfl, rfl, rfl, rfl, rfl, rfl, trivial⟩ ?_
            refine PW.ops ?_
            refine OL.det trivial (Yields.pure rfl) ?_
            refine OL.det trivial (Yields.pure rfl) ?_
            refine OL.det trivial (Yields.pure rfl) ?_
            refine OL.det trivial (Yields.ld rfl (own_at (c := stC sc[k]) (E := 36) (tot := 3) (List.Mem.head _) rfl)) ?_
            refine OL.det trivial (Yields.ixN1 rfl rfl (show sc[k].2.1 = ((sc[k].2.1.toNat : Nat) : Int) by omega) (by omega)) ?_
            refine OL.det trivial (Yields.ld rfl (str_at hrX.cons.cons.cons.cons (k := sc[k].2.1.toNat) (by omega))) ?_
            apply OL.app1 (k := 1)
            · rfl
            · rfl
            · rfl
            · rfl
            · rfl
            · rfl
            · exact hslx
            · rfl
            · omega
            · unfold maxLen; omega
            intro v53 seg53 hsl53
            refine OL.det trivial (Yields.pure rfl) ?_
            refine OL.nil ?_
            refine hK5 _ _ ?_
            refine PW.keep (T' := [(0, _), (1, _), (5, _), (7, _), (8, _), (9, _), (10, _)]) ⟨rfl, rfl, rfl, rfl, rfl, rfl, rfl, trivial⟩ ?_
            refine PW.seqOps ?_
            refine OL.det trivial (Yields.pure rfl) ?_
            refine OL.det trivial (Yields.ld rfl (own_at (c := stC sc[k]) (E := 36) (tot := 3) (List.Mem.head _) rfl)) ?_
            refine OL.det trivial (Yields.pure rfl) ?_
            refine OL.nil ?_
            refine PW.keep (T' := [(0, _), (1, _), (5, _), (7, _), (8, _), (9, _), (10, _), (56, _)]) ⟨rfl, rfl, rfl, rfl, rfl, rfl, rfl, rfl, trivial⟩ ?_
            refine PW.cond rfl (fun c56 => ?_) (fun c56 => ?_)
            · try simp only [decide_eq_true_eq, decide_eq_false_iff_not, beq_iff_eq, bne_iff_ne, beq_eq_false_iff_ne, bne_eq_false_iff_eq, Bool.not_eq_true', Bool.not_eq_false', Bool.not_eq_true, ne_eq, Decidable.not_not] at c56
              obtain ⟨gB1, gB2⟩ := hgB c56
              obtain ⟨aY, rfl⟩ := hrY.some (strs_ne (by omega))
              refine PW.seq fun K7 hK7 => ?_
              refine PW.seqOps ?_
              refine OL.det trivial (Yields.pure rfl) ?_
              refine OL.det trivial (Yields.ld rfl (own_at (c := stC sc[k]) (E := 36) (tot := 3) (List.Mem.head _) rfl)) ?_
              refine OL.det trivial (Yields.pure rfl) ?_
              refine OL.bool trivial (Yields.pure rfl) (fun g60 => ?_) (fun g60 => ?_)
              · try simp only [decide_eq_true_eq, decide_eq_false_iff_not, beq_iff_eq, bne_iff_ne, beq_eq_false_iff_ne, bne_eq_false_iff_eq, Bool.not_eq_true', Bool.not_eq_false', Bool.not_eq_true, ne_eq, Decidable.not_not] at g60
                exfalso; omega -- done
              · try simp only [decide_eq_true_eq, decide_eq_false_iff_not, beq_iff_eq, bne_iff_ne, beq_eq_false_iff_ne, bne_eq_false_iff_eq, Bool.not_eq_true', Bool.not_eq_false', Bool.not_eq_true, ne_eq, Decidable.not_not] at g60
                refine OL.det rfl (Yields.pure rfl) ?_
                refine OL.det rfl (Yields.ld rfl (own_at (c := stC sc[k]) (E := 36) (tot := 3) (List.Mem.head _) rfl)) ?_
                refine OL.det rfl (Yields.pure rfl) ?_
                refine OL.det rfl (Yields.pure rfl) ?_
                refine OL.det rfl (Yields.pure rfl) ?_
                refine OL.det trivial (Yields.pure rfl) ?_
                refine OL.nil ?_
                refine PW.keep (T' := [(0, _), (1, _), (5, _), (7, _), (8, _), (9, _), (10, _), (66, _)]) ⟨rfl, rfl, rfl, rfl, rfl, rfl, rfl, rfl, trivial⟩ ?_
                refine PW.cond rfl (fun c66 => ?_) (fun c66 => ?_)
                · try simp only [decide_eq_true_eq, decide_eq_false_iff_not, beq_iff_eq, bne_iff_ne, beq_eq_false_iff_ne, bne_eq_false_iff_eq, Bool.not_eq_true', Bool.not_eq_false', Bool.not_eq_true, ne_eq, Decidable.not_not] at c66
                  exfalso; omega -- done
                · try simp only [decide_eq_true_eq, decide_eq_false_iff_not, beq_iff_eq, bne_iff_ne, beq_eq_false_iff_ne, bne_eq_false_iff_eq, Bool.not_eq_true', Bool.not_eq_false', Bool.not_eq_true, ne_eq, Decidable.not_not] at c66
                  refine PW.skip ?_
                  refine hK7 _ _ ?_
                  refine PW.keep (T' := [(0, _), (1, _), (5, _), (7, _), (8, _), (9, _), (10, _)]) ⟨rfl, rfl, rfl, rfl, rfl, rfl, rfl, trivial⟩ ?_
                  refine PW.ops ?_
                  refine OL.det trivial (Yields.pure rfl) ?_
                  refine OL.det trivial (Yields.pure rfl) ?_
                  refine OL.det trivial (Yields.pure rfl) ?_
                  refine OL.det trivial (Yields.ld rfl (own_at (c := stC sc[k]) (E := 36) (tot := 3) (List.Mem.head _) rfl)) ?_
                  refine OL.det trivial (Yields.ixN1 rfl rfl (show sc[k].2.2 = ((sc[k].2.2.toNat : Nat) : Int) by omega) (by omega)) ?_
                  refine OL.det trivial (Yields.ld rfl (str_at hrY.cons.cons.cons.cons (k := sc[k].2.2.toNat) (by omega))) ?_
                  apply OL.app1 (k := 2)
                  · rfl
                  · rfl
                  · rfl
                  · rfl
                  · rfl
                  · rfl
                  · exact hsly
                  · rfl
                  · omega
                  · unfold maxLen; omega
                  intro v74 seg74 hsl74
                  refine OL.det trivial (Yields.pure rfl) ?_
                  refine OL.nil ?_
                  refine hK4 _ _ ?_
                  refine PW.keep (T' := [(0, _), (1, _), (5, _), (7, _), (8, _), (9, _)]) ⟨rfl, rfl, rfl, rfl, rfl, rfl, trivial⟩ ?_
                  refine PW.ops ?_
                  refine OL.det trivial (Yields.pure rfl) ?_
                  refine OL.det trivial (Yields.add64 rfl rfl (by omega) (by omega)) ?_
                  refine OL.det trivial (Yields.pure rfl) ?_
                  refine OL.nil ?_
                  repeat rw [inBlk_n]
                  rw [thenK_n]
                  refine LoopEnd.mkS (Sub.drop (Sub.refl _)) (T'' := [(0, _), (1, _), (5, _), (7, _), (8, _), (9, _)]) ⟨rfl, rfl, rfl, rfl, rfl, rfl, trivial⟩ ?_
                  refine ⟨sc.length - (k + 1), by omega, k + 1, v53, seg53, v74, seg74, ⟨by omega, rfl, ?_, ?_⟩, rfl, rfl⟩
                  · rw [leftA_keep hlt c35 (by omega), List.length_append, List.map_append]; exact hsl53
                  · rw [leftB_keep hlt c56 (by omega), List.length_append, List.map_append]; exact hsl74
            · try simp only [decide_eq_true_eq, decide_eq_false_iff_not, beq_iff_eq, bne_iff_ne, beq_eq_false_iff_ne, bne_eq_false_iff_eq, Bool.not_eq_true', Bool.not_eq_false', Bool.not_eq_true, ne_eq, Decidable.not_not] at c56
              refine PW.skip ?_
              refine hK4 _ _ ?_
              refine PW.keep (T' := [(0, _), (1, _), (5, _), (7, _), (8, _), (9, _)]) ⟨rfl, rfl, rfl, rfl, rfl, rfl, trivial⟩ ?_
              refine PW.ops ?_
              refine OL.det trivial (Yields.pure rfl) ?_
              refine OL.det trivial (Yields.add64 rfl rfl (by omega) (by omega)) ?_
              refine OL.det trivial (Yields.pure rfl) ?_
              refine OL.nil ?_
              repeat rw [inBlk_n]
              rw [thenK_n]
              refine LoopEnd.mkS (Sub.drop (Sub.refl _)) (T'' := [(0, _), (1, _), (5, _), (7, _), (8, _), (9, _)]) ⟨rfl, rfl, rfl, rfl, rfl, rfl, trivial⟩ ?_
              refine ⟨sc.length - (k + 1), by omega, k + 1, v53, seg53, vy, segy, ⟨by omega, rfl, ?_, ?_⟩, rfl, rfl⟩
              · rw [leftA_keep hlt c35 (by omega), List.length_append, List.map_append]; exact hsl53
              · rw [leftB_skip hlt c56]; exact hsly
      · try simp only [decide_eq_true_eq, decide_eq_false_iff_not, beq_iff_eq, bne_iff_ne, beq_eq_false_iff_ne, bne_eq_false_iff_eq, Bool.not_eq_true', Bool.not_eq_false', Bool.not_eq_true, ne_eq, Decidable.not_not] at c35
        refine PW.skip ?_
        refine hK5 _ _ ?_
        refine PW.keep (T' := [(0, _), (1, _), (5, _), (7, _), (8, _), (9, _), (10, _)]) ⟨rfl, rfl, rfl, rfl, rfl, rfl, rfl, trivial⟩ ?_
        refine PW.seqOps ?_
        refine OL.det trivial (Yields.pure rfl) ?_
        refine OL.det trivial (Yields.ld rfl (own_at (c := stC sc[k]) (E := 36) (tot := 3) (List.Mem.head _) rfl)) ?_
        refine OL.det trivial (Yields.pure rfl) ?_
        refine OL.nil ?_
        refine PW.keep (T' := [(0, _), (1, _), (5, _), (7, _), (8, _), (9, _), (10, _), (56, _)]) ⟨rfl, rfl, rfl, rfl, rfl, rfl, rfl, rfl, trivial⟩ ?_
        refine PW.cond rfl (fun c56 => ?_) (fun c56 => ?_)
        · try simp only [decide_eq_true_eq, decide_eq_false_iff_not, beq_iff_eq, bne_iff_ne, beq_eq_false_iff_ne, bne_eq_false_iff_eq, Bool.not_eq_true', Bool.not_eq_false', Bool.not_eq_true, ne_eq, Decidable.not_not] at c56
          obtain ⟨gB1, gB2⟩ := hgB c56
          obtain ⟨aY, rfl⟩ := hrY.some (strs_ne (by omega))
          refine PW.seq fun K8 hK8 => ?_
          refine PW.seqOps ?_
          refine OL.det trivial (Yields.pure rfl) ?_
          refine OL.det trivial (Yields.ld rfl (own_at (c := stC sc[k]) (E := 36) (tot := 3) (List.Mem.head _) rfl)) ?_
          refine OL.det trivial (Yields.pure rfl) ?_
          refine OL.bool trivial (Yields.pure rfl) (fun g60 => ?_) (fun g60 => ?_)
          · try simp only [decide_eq_true_eq, decide_eq_false_iff_not, beq_iff_eq, bne_iff_ne, beq_eq_false_iff_ne, bne_eq_false_iff_eq, Bool.not_eq_true', Bool.not_eq_false', Bool.not_eq_true, ne_eq, Decidable.not_not] at g60
            exfalso; omega -- done
          · try simp only [decide_eq_true_eq, decide_eq_false_iff_not, beq_iff_eq, bne_iff_ne, beq_eq_false_iff_ne, bne_eq_false_iff_eq, Bool.not_eq_true', Bool.not_eq_false', Bool.not_eq_true, ne_eq, Decidable.not_not] at g60
            refine OL.det rfl (Yields.pure rfl) ?_
            refine OL.det rfl (Yields.ld rfl (own_at (c := stC sc[k]) (E := 36) (tot := 3) (List.Mem.head _) rfl)) ?_
            refine OL.det rfl (Yields.pure rfl) ?_
            refine OL.det rfl (Yields.pure rfl) ?_
            refine OL.det rfl (Yields.pure rfl) ?_
            refine OL.det trivial (Yields.pure rfl) ?_
            refine OL.nil ?_
            refine PW.keep (T' := [(0, _), (1, _), (5, _), (7, _), (8, _), (9, _), (10, _), (66, _)]) ⟨rfl, rfl, rfl, rfl, rfl, rfl, rfl, rfl, trivial⟩ ?_
            refine PW.cond rfl (fun c66 => ?_) (fun c66 => ?_)
            · try simp only [decide_eq_true_eq, decide_eq_false_iff_not, beq_iff_eq, bne_iff_ne, beq_eq_false_iff_ne, bne_eq_false_iff_eq, Bool.not_eq_true', Bool.not_eq_false', Bool.not_eq_true, ne_eq, Decidable.not_not] at c66
              exfalso; omega -- done
            · try simp only [decide_eq_true_eq, decide_eq_false_iff_not, beq_iff_eq, bne_iff_ne, beq_eq_false_iff_ne, bne_eq_false_iff_eq, Bool.not_eq_true', Bool.not_eq_false', Bool.not_eq_true, ne_eq, Decidable.not_not] at c66
              refine PW.skip ?_
              refine hK8 _ _ ?_
              refine PW.keep (T' := [(0, _), (1, _), (5, _), (7, _), (8, _), (9, _), (10, _)]) ⟨rfl, rfl, rfl, rfl, rfl, rfl, rfl, trivial⟩ ?_
              refine PW.ops ?_
              refine OL.det trivial (Yields.pure rfl) ?_
              refine OL.det trivial (Yields.pure rfl) ?_
              refine OL.det trivial (Yields.pure rfl) ?_
              refine OL.det trivial (Yields.ld rfl (own_at (c := stC sc[k]) (E := 36) (tot := 3) (List.Mem.head _) rfl)) ?_
              refine OL.det trivial (Yields.ixN1 rfl rfl (show sc[k].2.2 = ((sc[k].2.2.toNat : Nat) : Int) by omega) (by omega)) ?_
              refine OL.det trivial (Yields.ld rfl (str_at hrY.cons.cons.cons.cons (k := sc[k].2.2.toNat) (by omega))) ?_
              apply OL.app1 (k := 2)
              · rfl
              · rfl
              · rfl
              · rfl
              · rfl
              · rfl
              · exact hsly
              · rfl
              · omega
              · unfold maxLen; omega
              intro v74 seg74 hsl74
              refine OL.det trivial (Yields.pure rfl) ?_
              refine OL.nil ?_
              refine hK4 _ _ ?_
              refine PW.keep (T' := [(0, _), (1, _), (5, _), (7, _), (8, _), (9, _)]) ⟨rfl, rfl, rfl, rfl, rfl, rfl, trivial⟩ ?_
              refine PW.ops ?_
              refine OL.det trivial (Yields.pure rfl) ?_
              refine OL.det trivial (Yields.add64 rfl rfl (by omega) (by omega)) ?_
              refine OL.det trivial (Yields.pure rfl) ?_
              refine OL.nil ?_
              repeat rw [inBlk_n]
              rw [thenK_n]
              refine LoopEnd.mkS (Sub.drop (Sub.refl _)) (T'' := [(0, _), (1, _), (5, _), (7, _), (8, _), (9, _)]) ⟨rfl, rfl, rfl, rfl, rfl, rfl, trivial⟩ ?_
              refine ⟨sc.length - (k + 1), by omega, k + 1, vx, segx, v74, seg74, ⟨by omega, rfl, ?_, ?_⟩, rfl, rfl⟩
              · rw [leftA_skip hlt c35]; exact hslx
              · rw [leftB_keep hlt c56 (by omega), List.length_append, List.map_append]; exact hsl74
        · try simp only [decide_eq_true_eq, decide_eq_false_iff_not, beq_iff_eq, bne_iff_ne, beq_eq_false_iff_ne, bne_eq_false_iff_eq, Bool.not_eq_true', Bool.not_eq_false', Bool.not_eq_true, ne_eq, Decidable.not_not] at c56
          refine PW.skip ?_
          refine hK4 _ _ ?_
          refine PW.keep (T' := [(0, _), (1, _), (5, _), (7, _), (8, _), (9, _)]) ⟨rfl, rfl, rfl, rfl, rfl, rfl, trivial⟩ ?_
          refine PW.ops ?_
          refine OL.det trivial (Yields.pure rfl) ?_
          refine OL.det trivial (Yields.add64 rfl rfl (by omega) (by omega)) ?_
          refine OL.det trivial (Yields.pure rfl) ?_
          refine OL.nil ?_
          repeat rw [inBlk_n]
          rw [thenK_n]
          refine LoopEnd.mkS (Sub.drop (Sub.refl _)) (T'' := [(0, _), (1, _), (5, _), (7, _), (8, _), (9, _)]) ⟨rfl, rfl, rfl, rfl, rfl, rfl, trivial⟩ ?_
          exfalso; omega
    · try simp only [decide_eq_true_eq, decide_eq_false_iff_not, beq_iff_eq, bne_iff_ne, beq_eq_false_iff_ne, bne_eq_false_iff_eq, Bool.not_eq_true', Bool.not_eq_false', Bool.not_eq_true, ne_eq, Decidable.not_not] at c26
      refine PW.exit ?_
      refine hK2 _ _ ?_
      refine PW.keep (T' := [(0, _), (1, _), (7, _), (8, _)]) ⟨rfl, rfl, rfl, rfl, trivial⟩ ?_
      refine PW.seqOps ?_
      obtain rfl : k = sc.length := by omega
      rw [List.take_length, hlA] at hslx
      rw [List.take_length, hlB] at hsly
      obtain ⟨Ax, cx, rfl, hrx, _⟩ := hslx.rd (S := segx :: segy :: seg1 :: segB :: segA :: []) (k := 0) rfl
      obtain ⟨Ay, cy, rfl, hry, _⟩ := hsly.rd (S := segx :: segy :: seg1 :: segB :: segA :: []) (k := 1) rfl
      refine OL.det trivial (Yields.pure rfl) ?_
      refine OL.det trivial (Yields.pure rfl) ?_
      refine OL.call trivial rfl (same_rfl hrx hrX.cons.cons.cons (by omega)) ?_
      rintro _ _ ⟨rfl, rfl⟩
      refine OL.det trivial (Yields.pure rfl) ?_
      refine OL.det rfl (Yields.pure rfl) ?_
      refine OL.det rfl (Yields.pure rfl) ?_
      refine OL.call rfl rfl (same_rfl hry hrY.cons.cons.cons (by omega)) ?_
      rintro _ _ ⟨rfl, rfl⟩
      refine OL.det trivial (Yields.pure rfl) ?_
      refine OL.det trivial (Yields.pure rfl) ?_
      refine OL.call rfl rfl (works_fc) ?_
      rintro _ _ ⟨rfl, rfl⟩
      refine OL.det trivial (Yields.pure rfl) ?_
      refine OL.det trivial (Yields.pure rfl) ?_
      refine OL.nil ?_
      refine PW.keep (T' := [(4, _)]) ⟨rfl, trivial⟩ ?_
      refine PW.ret ?_
      change (Exit.ret = Exit.normal ∨ Exit.ret = Exit.ret) ∧ ∃ v, resV _ _ = some v ∧ _
      exact ⟨.inr rfl, _, rfl, _, Sub.refl _, rfl⟩

end Go.Proofs
