/- Walks and plain facts for the laws of this seat: what each function answers, for every input. -/
import Derived.Test.YtbidjnjbiibdeaaDoorLbW3
set_option linter.unusedVariables false
set_option linter.unusedSimpArgs false
namespace Go.Proofs
open Go.SL Go.RowKit
set_option maxHeartbeats 1000000

/-! the labels over bit vectors: the plain law -/
abbrev LabB := Int × BitVec 64
abbrev lseg (r : Nat) (a : Int × BitVec 64) : Seg := [(r, .cells [.int .i64 a.1, .int .u64 (a.2.toNat : Int)] 24 2)]
def labB (a : LabB) : Value := .agg #[.int .i64 a.1, .int .u64 (a.2.toNat : Int)]
def belowB (a b : LabB) : Bool := decide (a.1 ≤ b.1) && (a.2 &&& ~~~b.2 == 0#64)
def joinB (a b : LabB) : LabB := (max a.1 b.1, a.2 ||| b.2)
def meetB (a b : LabB) : LabB := (min a.1 b.1, a.2 &&& b.2)
def topB : LabB := (15, BitVec.allOnes 64)
def botB : LabB := (0, 0#64)
theorem wrap_bv (x : BitVec 64) : IntKind.u64.wrap (x.toNat : Int) = (x.toNat : Int) := by
  have := x.isLt
  show ((x.toNat : Int)) % 18446744073709551616 = _
  omega
theorem ofInt_bv (x : BitVec 64) : BitVec.ofInt 64 (x.toNat : Int) = x := by simp
theorem andN_eq (a b : BitVec 64) : andN a.toNat b.toNat = ((a &&& ~~~b).toNat : Int) := by
  unfold andN; rw [ofInt_bv, ofInt_bv, wrap_bv]
theorem orN_eq (a b : BitVec 64) : orN a.toNat b.toNat = ((a ||| b).toNat : Int) := by
  unfold orN; rw [ofInt_bv, ofInt_bv, wrap_bv]
theorem amN_eq (a b : BitVec 64) : amN a.toNat b.toNat = ((a &&& b).toNat : Int) := by
  unfold amN; rw [ofInt_bv, ofInt_bv, wrap_bv]
theorem nat_zero (x : BitVec 64) : ((x.toNat : Int) == 0) = (x == 0#64) := by
  rw [Bool.eq_iff_iff]
  simp only [beq_iff_eq]
  constructor
  · intro h
    apply BitVec.eq_of_toNat_eq
    simp; omega
  · rintro rfl; rfl
theorem belowP_eq (a b : LabB) : belowP (a.1, a.2.toNat) (b.1, b.2.toNat) = belowB a b := by
  unfold belowP belowB
  simp only [andN_eq, nat_zero]
section
variable {w0 : World} {S : SS} {a b : LabB}
theorem below_b : FC Tryd.prog w0 17 [labB a, labB b] S (fun v S' => v = .bool (belowB a b) ∧ S' = S) := by
  have := below_fc (w0 := w0) (S := S) (a := (a.1, a.2.toNat)) (b := (b.1, b.2.toNat))
  rw [belowP_eq] at this
  exact this
theorem join_b : FC Tryd.prog w0 15 [labB a, labB b] S (fun v S' => v = labB (joinB a b) ∧ S' = S) := by
  have := join_lab (w0 := w0) (S := S) (a := (a.1, a.2.toNat)) (b := (b.1, b.2.toNat))
  rw [orN_eq] at this
  exact this
theorem meet_b : FC Tryd.prog w0 16 [labB a, labB b] S (fun v S' => v = labB (meetB a b) ∧ S' = S) := by
  have := meet_lab (w0 := w0) (S := S) (a := (a.1, a.2.toNat)) (b := (b.1, b.2.toNat))
  rw [amN_eq] at this
  exact this
theorem check_b : FC Tryd.prog w0 18 [labB a] S (fun v S' => v = .int .i64 (chkP a.1) ∧ S' = S) := check_lab (a := (a.1, a.2.toNat))
theorem top_b : FC Tryd.prog w0 19 [] S (fun v S' => v = labB topB ∧ S' = S) := top_lab
end
theorem sub_iff (a b : BitVec 64) : (a &&& ~~~b == 0#64) = true ↔ ∀ i, a.getLsbD i = true → b.getLsbD i = true := by
  rw [beq_iff_eq]
  constructor
  · intro h i hi
    have h1 := congrArg (fun x => x.getLsbD i) h
    have hl := BitVec.lt_of_getLsbD hi
    simp [hi, hl] at h1
    exact h1
  · intro h
    apply BitVec.eq_of_getLsbD_eq
    intro i hl
    have := h i
    cases ha : a.getLsbD i <;> simp_all
theorem below_iff (a b : LabB) : belowB a b = true ↔ a.1 ≤ b.1 ∧ ∀ i, a.2.getLsbD i = true → b.2.getLsbD i = true := by
  unfold belowB
  rw [Bool.and_eq_true, sub_iff, decide_eq_true_eq]
theorem below_refl (a : LabB) : belowB a a = true := (below_iff a a).2 ⟨by omega, fun _ h => h⟩
theorem below_trans {a b c : LabB} (h : belowB a b = true) (k : belowB b c = true) : belowB a c = true := by
  rw [below_iff] at *
  exact ⟨by omega, fun i hi => k.2 i (h.2 i hi)⟩
theorem below_anti {a b : LabB} (h : belowB a b = true) (k : belowB b a = true) : a = b := by
  rw [below_iff] at *
  refine Prod.ext (by omega) (BitVec.eq_of_getLsbD_eq fun i _ => ?_)
  rw [Bool.eq_iff_iff]
  exact ⟨h.2 i, k.2 i⟩
theorem below_join_l (a b : LabB) : belowB a (joinB a b) = true := by
  rw [below_iff]; exact ⟨by simp only [joinB]; omega, fun i hi => by simp [joinB, hi]⟩
theorem below_join_r (a b : LabB) : belowB b (joinB a b) = true := by
  rw [below_iff]; exact ⟨by simp only [joinB]; omega, fun i hi => by simp [joinB, hi]⟩
theorem meet_below_l (a b : LabB) : belowB (meetB a b) a = true := by
  rw [below_iff]; exact ⟨by simp only [meetB]; omega, fun i hi => by simp only [meetB, BitVec.getLsbD_and, Bool.and_eq_true] at hi; exact hi.1⟩
theorem meet_below_r (a b : LabB) : belowB (meetB a b) b = true := by
  rw [below_iff]; exact ⟨by simp only [meetB]; omega, fun i hi => by simp only [meetB, BitVec.getLsbD_and, Bool.and_eq_true] at hi; exact hi.2⟩
theorem join_least {a b c : LabB} (h : belowB a c = true) : belowB b c = belowB (joinB a b) c := by
  rw [Bool.eq_iff_iff]
  constructor
  · intro k
    rw [below_iff] at *
    refine ⟨by simp only [joinB]; omega, fun i hi => ?_⟩
    simp only [joinB, BitVec.getLsbD_or, Bool.or_eq_true] at hi
    exact hi.elim (h.2 i) (k.2 i)
  · exact fun k => below_trans (below_join_r a b) k
theorem meet_most {a b c : LabB} (h : belowB c a = true) : belowB c b = belowB c (meetB a b) := by
  rw [Bool.eq_iff_iff]
  constructor
  · intro k
    rw [below_iff] at *
    refine ⟨by simp only [meetB]; omega, fun i hi => ?_⟩
    simp [meetB, h.2 i hi, k.2 i hi]
  · exact fun k => below_trans k (meet_below_r a b)
theorem join_meet (a b : LabB) : joinB a (meetB a b) = a := below_anti (by rw [← join_least (below_refl a)]; exact meet_below_l a b) (below_join_l a _)
theorem meet_join (a b : LabB) : meetB a (joinB a b) = a := below_anti (meet_below_l a _) (by rw [← meet_most (below_refl a)]; exact below_join_l a b)
theorem below_is_join (a b : LabB) : belowB a b = decide (joinB a b = b) := by
  rw [Bool.eq_iff_iff, decide_eq_true_eq]
  constructor
  · exact fun h => below_anti (by rw [← join_least h]; exact below_refl b) (below_join_r a b)
  · intro h
    have := below_join_l a b
    rwa [h] at this
theorem bot_below {a : LabB} (h : 0 ≤ a.1) : belowB botB a = true := by
  rw [below_iff]; exact ⟨h, fun i hi => by simp [botB] at hi⟩
theorem below_top {a : LabB} (h : a.1 ≤ 15) : belowB a topB = true := by
  rw [below_iff]; exact ⟨h, fun i hi => by have := BitVec.lt_of_getLsbD hi; show (BitVec.allOnes 64).getLsbD i = true; rw [BitVec.getLsbD_allOnes]; simp [this]⟩
theorem lab_at {w0 : World} {S : SS} {r : Nat} {a : LabB} (hm : (r, AO.cells [.int .i64 a.1, .int .u64 (a.2.toNat : Int)] 24 2) ∈ S.flatten) : ∀ (j : Nat) (v : Value), [Value.int .i64 a.1, .int .u64 (a.2.toNat : Int)][j]? = some v → Cell w0 S ((⟨r, 0, none⟩ : Addr).add j) v :=
  fun j u hj => (Rd.own hm).at hj
theorem eq_lab (a b : LabB) : eqCells [.int .i64, .int .u64] [.int .i64 a.1, .int .u64 (a.2.toNat : Int)] [.int .i64 b.1, .int .u64 (b.2.toNat : Int)] = some (decide (a = b)) := by
  have e : decide (a = b) = (a.1 == b.1 && (a.2.toNat : Int) == (b.2.toNat : Int)) := by
    rw [Bool.eq_iff_iff]
    simp only [decide_eq_true_eq, Bool.and_eq_true, beq_iff_eq]
    constructor
    · rintro rfl; exact ⟨rfl, rfl⟩
    · rintro ⟨h1, h2⟩; exact Prod.ext h1 (BitVec.eq_of_toNat_eq (by omega))
  rw [e]
  simp [eqCells, eqCell]

end Go.Proofs
