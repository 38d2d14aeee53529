/-
  No cell of these rows narrows 'for every input' (looked for: loops, veiled, ifaces, maps, wideKeys, modest, calm, conditions, laid).
  DERIVED. THE GIVEN ROWS OF THIS SEAT. 3 by the template 'for every input the law returns true; each argument reads behind the call as it read before'; 0 by the template 'total and deterministic' (their statements: YtbejcoeajlhmcaaGreatTotals.lean).
  GIVEN WITH THE SEED: the statements are not yours to turn. If you find one false, say at which input.
  Laid BY PROGRAM, IN A SANDBOX (cutbox-rows.mjs): the forced cells as the released guide's own fill.sh prints them over the translation 5e97fc3ad941d268… (all of the seat's roots in one cut). By AI agents, Wed Nov 11 2026. No macro, syntax, notation, axiom, sorry.
-/
import Derived.Test.YtbejcoeajlhmcaaGreatChecked
import GoSem.Claim
import GoSem.ClaimJoined
import GoSem.ClaimMapViews
import Derived.JoinedTies
import Derived.KernelRfl
namespace Go.Proofs.YtbejcoeajlhmcaaGreat
/- THE CELL 'sum', in the pinned program and in every row, IS THE sha256 OF THE DUMP (.gsa) THAT YtbejcoeajlhmcaaGreatProg.lean LOADS. Nothing in Lean hashes anything: it is a label: what it is worth is what the hold of that sum in a sandbox is worth. -/
noncomputable def Tryz.pinned : Pinned := { name := "ytbejcoeajlhmcaagreat", sum := "5e97fc3ad941d268797b896b45b82066b120055250f3379052eca55659bf20bf", checked := Tryz.checked }
namespace Rows
def none {H : Type} : Left H := { results := [], args := [] }

/-- 'redwaxlaw17.ChangeHunks': WHATEVER THE INPUT: true; the input reads as it did. -/
def changeHunksSpec : ChangeSpec := { name := "changeHunks", fn := fun _ => fun
  | [d1, d2, d3] => { results := [.lit (.bool true)], args := [d1, d2, d3] }
  | _ => none }
def changeHunksRow : OpenClaim := { program := "ytbejcoeajlhmcaagreat", sum := "5e97fc3ad941d268797b896b45b82066b120055250f3379052eca55659bf20bf", func := "redwax/redwaxlaw17.ChangeHunks", spec := "changeHunks", inPlace := ["internal/bytealg.Compare"], unfollowed := true, recurses := true, plainKeys := false, apart := false }
def ChangeHunksSaid : Prop := changeHunksRow.holds Tryz.pinned (OpenSpec.ofChange changeHunksSpec)

/-- ITS FALSE NEIGHBOUR: 'it returns false'. Refute it at one input. -/
def changeHunksWrong : ChangeSpec := { name := "changeHunks", fn := fun _ => fun
  | [d1, d2, d3] => { results := [.lit (.bool false)], args := [d1, d2, d3] }
  | _ => none }
def ChangeHunksWrongFalsely : Prop := changeHunksRow.holds Tryz.pinned (OpenSpec.ofChange changeHunksWrong)

/-- 'redwaxlaw17.ChangeMakes': WHATEVER THE INPUT: true; the input reads as it did. -/
def changeMakesSpec : ChangeSpec := { name := "changeMakes", fn := fun _ => fun
  | [d1, d2] => { results := [.lit (.bool true)], args := [d1, d2] }
  | _ => none }
def changeMakesRow : OpenClaim := { program := "ytbejcoeajlhmcaagreat", sum := "5e97fc3ad941d268797b896b45b82066b120055250f3379052eca55659bf20bf", func := "redwax/redwaxlaw17.ChangeMakes", spec := "changeMakes", inPlace := ["internal/bytealg.Compare"], unfollowed := true, recurses := true, plainKeys := false, apart := false }
def ChangeMakesSaid : Prop := changeMakesRow.holds Tryz.pinned (OpenSpec.ofChange changeMakesSpec)

/-- ITS FALSE NEIGHBOUR: 'it returns false'. Refute it at one input. -/
def changeMakesWrong : ChangeSpec := { name := "changeMakes", fn := fun _ => fun
  | [d1, d2] => { results := [.lit (.bool false)], args := [d1, d2] }
  | _ => none }
def ChangeMakesWrongFalsely : Prop := changeMakesRow.holds Tryz.pinned (OpenSpec.ofChange changeMakesWrong)

/-- 'redwaxlaw17.ChangeSmall': WHATEVER THE INPUT: true; the input reads as it did. -/
def changeSmallSpec : ChangeSpec := { name := "changeSmall", fn := fun _ => fun
  | [d1, d2, d3] => { results := [.lit (.bool true)], args := [d1, d2, d3] }
  | _ => none }
def changeSmallRow : OpenClaim := { program := "ytbejcoeajlhmcaagreat", sum := "5e97fc3ad941d268797b896b45b82066b120055250f3379052eca55659bf20bf", func := "redwax/redwaxlaw17.ChangeSmall", spec := "changeSmall", inPlace := ["internal/bytealg.Compare"], unfollowed := true, recurses := true, plainKeys := false, apart := false }
def ChangeSmallSaid : Prop := changeSmallRow.holds Tryz.pinned (OpenSpec.ofChange changeSmallSpec)

/-- ITS FALSE NEIGHBOUR: 'it returns false'. Refute it at one input. -/
def changeSmallWrong : ChangeSpec := { name := "changeSmall", fn := fun _ => fun
  | [d1, d2, d3] => { results := [.lit (.bool false)], args := [d1, d2, d3] }
  | _ => none }
def ChangeSmallWrongFalsely : Prop := changeSmallRow.holds Tryz.pinned (OpenSpec.ofChange changeSmallWrong)

/- THE SECOND FORM. 'bulk': how many values and letters a reading holds, each counted each time it is reached (what is shared counts as often as it is met; a slice's spare places count too). A statement '..UptoSaid' is the law's where the arguments, and the package variables that the reading takes, are together of bulk at most 1048576: NARROWER than '..Said'. Prove '..Said' where nothing that the law and all that it calls make is longer than what came in: it says more and counts as full. Else prove '..UptoSaid'. A law counts once. -/
mutual
def uptoBulk {H : Type} : DataW H → Nat
  | .lit (.string bytes) => bytes.length + 1
  | .lit _ => 1
  | .nil => 1
  | .ptr d => uptoBulk d + 1
  | .slice elems spare => uptoBulkAll elems + uptoBulkAll spare + 1
  | .agg parts => uptoBulkAll parts + 1
  | .iface _ d => uptoBulk d + 1
  | .map entries => uptoBulkEntries entries + 1
  | .held _ => 1
def uptoBulkAll {H : Type} : List (DataW H) → Nat
  | [] => 0
  | d :: r => uptoBulk d + uptoBulkAll r
def uptoBulkEntries {H : Type} : List (Lit × DataW H) → Nat
  | [] => 0
  | x :: r => uptoBulkEntry x + uptoBulkEntries r
def uptoBulkEntry {H : Type} : Lit × DataW H → Nat
  | (.string bytes, d) => bytes.length + uptoBulk d + 1
  | (_, d) => uptoBulk d + 1
 end
def uptoSmall : (H : Type) → List (DataW H) → Bool := fun _ ds => decide (uptoBulkAll ds ≤ 1048576)
def OpenSpec.upto (s : _root_.Go.ChangeSpec) : _root_.Go.OpenSpec := { _root_.Go.OpenSpec.ofChange s with cond := some uptoSmall }

/-- 'redwaxlaw17.ChangeHunks', WHERE WHAT IT READS IS OF BULK AT MOST 1048576: true; the input reads as it did. -/
def changeHunksUptoRow : OpenClaim := { program := "ytbejcoeajlhmcaagreat", sum := "5e97fc3ad941d268797b896b45b82066b120055250f3379052eca55659bf20bf", func := "redwax/redwaxlaw17.ChangeHunks", spec := "changeHunks", inPlace := ["internal/bytealg.Compare"], unfollowed := true, recurses := true, plainKeys := false, apart := false, narrowed := true }
def ChangeHunksUptoSaid : Prop := changeHunksUptoRow.holds Tryz.pinned (OpenSpec.upto changeHunksSpec)

/-- 'redwaxlaw17.ChangeMakes', WHERE WHAT IT READS IS OF BULK AT MOST 1048576: true; the input reads as it did. -/
def changeMakesUptoRow : OpenClaim := { program := "ytbejcoeajlhmcaagreat", sum := "5e97fc3ad941d268797b896b45b82066b120055250f3379052eca55659bf20bf", func := "redwax/redwaxlaw17.ChangeMakes", spec := "changeMakes", inPlace := ["internal/bytealg.Compare"], unfollowed := true, recurses := true, plainKeys := false, apart := false, narrowed := true }
def ChangeMakesUptoSaid : Prop := changeMakesUptoRow.holds Tryz.pinned (OpenSpec.upto changeMakesSpec)

/-- 'redwaxlaw17.ChangeSmall', WHERE WHAT IT READS IS OF BULK AT MOST 1048576: true; the input reads as it did. -/
def changeSmallUptoRow : OpenClaim := { program := "ytbejcoeajlhmcaagreat", sum := "5e97fc3ad941d268797b896b45b82066b120055250f3379052eca55659bf20bf", func := "redwax/redwaxlaw17.ChangeSmall", spec := "changeSmall", inPlace := ["internal/bytealg.Compare"], unfollowed := true, recurses := true, plainKeys := false, apart := false, narrowed := true }
def ChangeSmallUptoSaid : Prop := changeSmallUptoRow.holds Tryz.pinned (OpenSpec.upto changeSmallSpec)

end Rows
end Go.Proofs.YtbejcoeajlhmcaaGreat
