/- Regions with one operation that turns something, told forward. -/
import Derived.Test.YtbidjnjbiibdeaaDoorSl12
set_option linter.unusedVariables false
set_option linter.unusedSimpArgs false
namespace Go.SL
open Go.RowKit

section
variable {P : Program} {w0 : World} {n : Nat} {T : TT} {S : SS}
/-- all that is of the base is there -/
def Over (base : SS) (S : SS) : Prop := ∀ q ∈ base.flatten, q ∈ S.flatten
def QKs (P : Program) (w0 : World) (n : Nat) (base : SS) (l : List PI) (T : TT) (K : TT → Prop) : Prop := ∃ T' vs, QLs P w0 n (Over base) l T T' vs ∧ K T'
theorem QKs.nil {base : SS} {K : TT → Prop} (h : K T) : QKs P w0 n base [] T K := ⟨T, [], .nil, h⟩
theorem QKs.det {base : SS} {po : PO} {d : Option Nat} {g : Option (Nat × Bool)} {v : Value} {r : List PI} {K : TT → Prop} (hg : gOk T g) (h : ∀ S, Over base S → Yields P w0 n po T S v) (k : QKs P w0 n base r (put d v T) K) : QKs P w0 n base (⟨d, g, po⟩ :: r) T K :=
  let ⟨T', vs, h1, h2⟩ := k; ⟨T', _, .step hg (fun S hS => OW.of_yields (h S hS)) h1, h2⟩
theorem QKs.off {base : SS} {po : PO} {d : Option Nat} {s : Nat} {b : Bool} {u : Value} {r : List PI} {K : TT → Prop} (hl : look T s = some u) (hc : (boolOf u == some b) = false) (k : QKs P w0 n base r (put d undef T) K) : QKs P w0 n base (⟨d, some (s, b), po⟩ :: r) T K :=
  let ⟨T', vs, h1, h2⟩ := k; ⟨T', _, .off hl hc h1, h2⟩
theorem PW.quiet1K {k p d : Nat} {l B : List PI} {c : PI} {base : SS} {Q : Exit → TT → SS → Prop} {K : Value → SS → Prop} (hm : P.follows .mixedOrders = true) (hl : (l.take k).drop p = c :: B) (hcg : c.g = none) (hd : c.d = some d)
    (hcm : ∀ x, c.o ≠ .mov x) (hB : B.all (fun x => x.d != some d) = true) (hS : Over base S)
    (h : QKs P w0 n base ((l.take k).take p) T (fun T1 => OW P w0 n c.o T1 S K ∧ (∀ v S', K v S' → Over base S') ∧ QKs P w0 n base B (SL.del (some d) T1) (fun T2 => ∀ v S', K v S' → OL P w0 n (l.drop k) ((d, v) :: T2) S' (Q .normal)))) : PW P w0 n (.quiet k l) T S Q := by
  obtain ⟨T1, va, h1, h2, h3, T2, vb, h4, h5⟩ := h
  refine PW.quiet1 (A := (l.take k).take p) hm ?_ hcg hd hcm hB h1 h2 hS h3 h4 h5
  rw [← hl, List.take_append_drop]
theorem Over.cons {base : SS} {s : Seg} (h : Over base S) : Over base (s :: S) := fun q hq => by simp [h q hq]
theorem Over.refl (S : SS) : Over S S := fun _ h => h
theorem Over.hd (s : Seg) (S : SS) : Over [s] (s :: S) := fun q hq => by simp only [List.flatten_cons, List.flatten_nil, List.append_nil] at hq; simp [hq]
theorem Yields.ixA1 {len j : Nat} {x i : PV} {a : Addr} {k : IntKind} {z : Int} (hx : x.val T = some (.pointer (some a))) (hi : i.val T = some (.int k z)) (hz : z = (j : Int)) (h : j < len) : Yields P w0 n (.ixA len 1 x i) T S (.pointer (some (a.add j))) := by
  have := Yields.ixA (P := P) (w0 := w0) (n := n) (S := S) (sz := 1) hx hi hz h
  simpa using this
end
end Go.SL
