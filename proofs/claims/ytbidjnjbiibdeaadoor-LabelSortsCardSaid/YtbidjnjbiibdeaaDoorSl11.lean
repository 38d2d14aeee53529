/- Quotients, remainders, shifts. -/
import Derived.Test.YtbidjnjbiibdeaaDoorSl10
set_option linter.unusedVariables false
set_option linter.unusedSimpArgs false
namespace Go.SL
open Go.RowKit

section
variable {P : Program} {w0 : World} {n : Nat} {T : TT} {S : SS}
theorem Yields.binRaw {op : BinOp} {x y : PV} {u v r : Value} (hx : x.val T = some u) (hy : y.val T = some v) (hg : ∀ t a b w, (eqGuard op t a b u v).run P w = .ok () w) (h : ∀ t w, (binOp op t u v).run P w = .ok r w) : Yields P w0 n (.bin op x y) T S r := by
  intro o ac w hco hs hr
  obtain ⟨t, c, d, z, ho, rfl, rfl, hp⟩ := cOp_spec P hco
  simp only [execOp, ho, hs.eval hx, hs.eval hy]
  simp [hg, h]
theorem Yields.quo {x y : PV} {k : IntKind} {a b : Int} (hx : x.val T = some (.int k a)) (hy : y.val T = some (.int k b)) (hb : b ≠ 0) : Yields P w0 n (.bin .quo x y) T S (.int k (k.wrap (a.tdiv b))) :=
  Yields.binRaw hx hy (fun t a b w => by simp [eqGuard]) (fun t w => by simp [binOp, Op.intDiv, hb])
theorem Yields.rem {x y : PV} {k : IntKind} {a b : Int} (hx : x.val T = some (.int k a)) (hy : y.val T = some (.int k b)) (hb : b ≠ 0) : Yields P w0 n (.bin .rem x y) T S (.int k (a.tmod b)) :=
  Yields.binRaw hx hy (fun t a b w => by simp [eqGuard]) (fun t w => by simp [binOp, Op.intDiv, hb])
theorem Yields.shr {x y : PV} {k j : IntKind} {a b : Int} (hx : x.val T = some (.int k a)) (hy : y.val T = some (.int j b)) (h0 : 0 ≤ b) (h1 : b ≤ k.bits) : Yields P w0 n (.bin .shr x y) T S (.int k (a / 2 ^ b.toNat)) :=
  Yields.binRaw hx hy (fun t a b w => by simp [eqGuard]) (fun t w => by rw [show binOp .shr t (.int k a) (.int j b) = Op.shift .shr k a j b from rfl, shift_shr k j a b h0 h1]; simp)
theorem Yields.shl {x y : PV} {k j : IntKind} {a b : Int} (hx : x.val T = some (.int k a)) (hy : y.val T = some (.int j b)) (h0 : 0 ≤ b) : Yields P w0 n (.bin .shl x y) T S (.int k (k.wrap (a * 2 ^ (min b.toNat k.bits)))) :=
  Yields.binRaw hx hy (fun t a b w => by simp [eqGuard]) (fun t w => by
    have : ¬ b < 0 := by omega
    rw [show binOp .shl t (.int k a) (.int j b) = Op.shift .shl k a j b from rfl]
    simp [Op.shift, this])
theorem u64_wrap {a : Nat} (h : a < 18446744073709551616) : IntKind.u64.wrap (a : Int) = a := IntWalk.u64_in _ ⟨by omega, by omega⟩
/-- of numbers that are not below 0 -/
theorem Yields.quoU {x y : PV} {a b : Nat} (hx : x.val T = some (.int .u64 (a : Int))) (hy : y.val T = some (.int .u64 (b : Int))) (hb : 0 < b) (ha : a < 18446744073709551616) : Yields P w0 n (.bin .quo x y) T S (.int .u64 ((a / b : Nat) : Int)) := by
  refine (Yields.quo hx hy (by omega)).to ?_
  have h1 : (a : Int).tdiv (b : Int) = ((a / b : Nat) : Int) := by
    rw [Int.tdiv_eq_ediv_of_nonneg (by omega)]
    rfl
  rw [h1, u64_wrap]
  exact Nat.lt_of_le_of_lt (Nat.div_le_self _ _) ha
theorem Yields.remU {x y : PV} {a b : Nat} (hx : x.val T = some (.int .u64 (a : Int))) (hy : y.val T = some (.int .u64 (b : Int))) (hb : 0 < b) : Yields P w0 n (.bin .rem x y) T S (.int .u64 ((a % b : Nat) : Int)) := by
  refine (Yields.rem hx hy (by omega)).to ?_
  have h1 : (a : Int).tmod (b : Int) = ((a % b : Nat) : Int) := by
    rw [Int.tmod_eq_emod_of_nonneg (by omega)]
    rfl
  rw [h1]
theorem Yields.shrU {x y : PV} {j : IntKind} {a b : Nat} (hx : x.val T = some (.int .u64 (a : Int))) (hy : y.val T = some (.int j (b : Int))) (hb : b ≤ 64) : Yields P w0 n (.bin .shr x y) T S (.int .u64 ((a / 2 ^ b : Nat) : Int)) := by
  refine (Yields.shr hx hy (by omega) (by show (b : Int) ≤ 64; omega)).to ?_
  simp
theorem cvt_u8 (a : Nat) : IntKind.u8.wrap (a : Int) = ((a % 256 : Nat) : Int) := by
  simp [IntKind.wrap, IntKind.bits, IntKind.signed]
/-- bytes put behind bytes: of a slice that can be read, nil or not -/
theorem OW.appB {t E m q c k : Nat} {z v : Value} {s x : PV} {A : Option Addr} {xs : List Value} {l : List UInt8} {seg : Seg} (hs' : s.val T = some v) (hk : S[k]? = some seg) (hv : SlV E 1 v m xs seg)
    (hx : x.val T = some (.slice A q c)) (hq : l.length = q) (hrd : Rd w0 S A (bytesC l)) (hc : A = none → c = 0) (hb : m + q ≤ 140737488355328) :
    OW P w0 n (.app t E 1 1 z s x) T S (fun v' S' => ∃ seg', S' = S.set k seg' ∧ SlV E 1 v' (m + q) (xs ++ bytesC l) seg') := by
  cases A with
  | none =>
    obtain rfl := hc rfl
    have : l = [] := by
      cases l with
      | nil => rfl
      | cons b l => obtain ⟨_, e, _⟩ := hrd 0 _ rfl; cases e
    subst this
    subst hq
    have := OW.of_yields (OW.app_none (P := P) (w0 := w0) (n := n) (t := t) (bytes := 1) (z := z) hs' hk hv hx)
    refine this.mono ?_
    rintro v' S' ⟨rfl, rfl⟩
    refine ⟨seg, ?_, by simpa [bytesC] using hv⟩
    obtain ⟨A, R, rfl, rfl⟩ := split_at hk
    exact (set_at rfl).symm
  | some a =>
    exact OW.app hs' hk hv hx (by simpa [bytesC] using hq) (fun j u hj => hrd.at hj) (bytesC_all l) (by omega) (by unfold maxLen; omega)
end
end Go.SL
