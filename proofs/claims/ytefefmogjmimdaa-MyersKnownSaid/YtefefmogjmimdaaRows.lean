/-
  No cell of these rows narrows 'for every input' (looked for: loops, veiled, ifaces, maps, wideKeys, modest, calm, conditions, laid).
  DERIVED. THE GIVEN ROWS OF THIS SEAT. 5 by the template 'for every input the law returns true; each argument reads behind the call as it read before'; 0 by the template 'total and deterministic' (their statements: YtefefmogjmimdaaTotals.lean).
  GIVEN WITH THE SEED: the statements are not yours to turn. If you find one false, say at which input.
  Laid BY PROGRAM, IN A SANDBOX (cutbox-rows.mjs): the forced cells as the released guide's own fill.sh prints them over the translation bd269ff456a3e59f… (all of the seat's roots in one cut). By AI agents, Wed Nov 11 2026. No macro, syntax, notation, axiom, sorry.
-/
import Derived.Test.YtefefmogjmimdaaChecked
import GoSem.Claim
import GoSem.ClaimJoined
import GoSem.ClaimMapViews
import Derived.JoinedTies
import Derived.KernelRfl
namespace Go.Proofs.Ytefefmogjmimdaa
/- THE CELL 'sum', in the pinned program and in every row, IS THE sha256 OF THE DUMP (.gsa) THAT YtefefmogjmimdaaProg.lean LOADS. Nothing in Lean hashes anything: it is a label: what it is worth is what the hold of that sum in a sandbox is worth. -/
noncomputable def Try.pinned : Pinned := { name := "ytefefmogjmimdaa", sum := "bd269ff456a3e59fa9d42e2bf5affc84534658a789327696911b20285e6b1d0d", checked := Try.checked }
namespace Rows
def none {H : Type} : Left H := { results := [], args := [] }

/-- 'redwaxlaw14.MyersSteps': WHATEVER THE INPUT: true; the input reads as it did. -/
def myersStepsSpec : ChangeSpec := { name := "myersSteps", fn := fun _ => fun
  | [d1, d2] => { results := [.lit (.bool true)], args := [d1, d2] }
  | _ => none }
def myersStepsRow : OpenClaim := { program := "ytefefmogjmimdaa", sum := "bd269ff456a3e59fa9d42e2bf5affc84534658a789327696911b20285e6b1d0d", func := "redwax/redwaxlaw14.MyersSteps", spec := "myersSteps", apart := false }
def MyersStepsSaid : Prop := myersStepsRow.holds Try.pinned (OpenSpec.ofChange myersStepsSpec)

/-- ITS FALSE NEIGHBOUR: 'it returns false'. Refute it at one input. -/
def myersStepsWrong : ChangeSpec := { name := "myersSteps", fn := fun _ => fun
  | [d1, d2] => { results := [.lit (.bool false)], args := [d1, d2] }
  | _ => none }
def MyersStepsWrongFalsely : Prop := myersStepsRow.holds Try.pinned (OpenSpec.ofChange myersStepsWrong)

/-- 'redwaxlaw14.MyersLeft': WHATEVER THE INPUT: true; the input reads as it did. -/
def myersLeftSpec : ChangeSpec := { name := "myersLeft", fn := fun _ => fun
  | [d1, d2] => { results := [.lit (.bool true)], args := [d1, d2] }
  | _ => none }
def myersLeftRow : OpenClaim := { program := "ytefefmogjmimdaa", sum := "bd269ff456a3e59fa9d42e2bf5affc84534658a789327696911b20285e6b1d0d", func := "redwax/redwaxlaw14.MyersLeft", spec := "myersLeft", apart := false }
def MyersLeftSaid : Prop := myersLeftRow.holds Try.pinned (OpenSpec.ofChange myersLeftSpec)

/-- ITS FALSE NEIGHBOUR: 'it returns false'. Refute it at one input. -/
def myersLeftWrong : ChangeSpec := { name := "myersLeft", fn := fun _ => fun
  | [d1, d2] => { results := [.lit (.bool false)], args := [d1, d2] }
  | _ => none }
def MyersLeftWrongFalsely : Prop := myersLeftRow.holds Try.pinned (OpenSpec.ofChange myersLeftWrong)

/-- 'redwaxlaw14.MyersPlays': WHATEVER THE INPUT: true; the input reads as it did. -/
def myersPlaysSpec : ChangeSpec := { name := "myersPlays", fn := fun _ => fun
  | [d1, d2, d3] => { results := [.lit (.bool true)], args := [d1, d2, d3] }
  | _ => none }
def myersPlaysRow : OpenClaim := { program := "ytefefmogjmimdaa", sum := "bd269ff456a3e59fa9d42e2bf5affc84534658a789327696911b20285e6b1d0d", func := "redwax/redwaxlaw14.MyersPlays", spec := "myersPlays", apart := false }
def MyersPlaysSaid : Prop := myersPlaysRow.holds Try.pinned (OpenSpec.ofChange myersPlaysSpec)

/-- ITS FALSE NEIGHBOUR: 'it returns false'. Refute it at one input. -/
def myersPlaysWrong : ChangeSpec := { name := "myersPlays", fn := fun _ => fun
  | [d1, d2, d3] => { results := [.lit (.bool false)], args := [d1, d2, d3] }
  | _ => none }
def MyersPlaysWrongFalsely : Prop := myersPlaysRow.holds Try.pinned (OpenSpec.ofChange myersPlaysWrong)

/-- 'redwaxlaw14.MyersLeast': WHATEVER THE INPUT: true; the input reads as it did. -/
def myersLeastSpec : ChangeSpec := { name := "myersLeast", fn := fun _ => fun
  | [d1, d2] => { results := [.lit (.bool true)], args := [d1, d2] }
  | _ => none }
def myersLeastRow : OpenClaim := { program := "ytefefmogjmimdaa", sum := "bd269ff456a3e59fa9d42e2bf5affc84534658a789327696911b20285e6b1d0d", func := "redwax/redwaxlaw14.MyersLeast", spec := "myersLeast", apart := false }
def MyersLeastSaid : Prop := myersLeastRow.holds Try.pinned (OpenSpec.ofChange myersLeastSpec)

/-- ITS FALSE NEIGHBOUR: 'it returns false'. Refute it at one input. -/
def myersLeastWrong : ChangeSpec := { name := "myersLeast", fn := fun _ => fun
  | [d1, d2] => { results := [.lit (.bool false)], args := [d1, d2] }
  | _ => none }
def MyersLeastWrongFalsely : Prop := myersLeastRow.holds Try.pinned (OpenSpec.ofChange myersLeastWrong)

/-- 'redwaxlaw14.MyersKnown': WHATEVER THE INPUT: true; the input reads as it did. -/
def myersKnownSpec : ChangeSpec := { name := "myersKnown", fn := fun _ => fun
  | [] => { results := [.lit (.bool true)], args := [] }
  | _ => none }
def myersKnownRow : OpenClaim := { program := "ytefefmogjmimdaa", sum := "bd269ff456a3e59fa9d42e2bf5affc84534658a789327696911b20285e6b1d0d", func := "redwax/redwaxlaw14.MyersKnown", spec := "myersKnown", apart := false }
def MyersKnownSaid : Prop := myersKnownRow.holds Try.pinned (OpenSpec.ofChange myersKnownSpec)

/-- ITS FALSE NEIGHBOUR: 'it returns false'. Refute it at one input. -/
def myersKnownWrong : ChangeSpec := { name := "myersKnown", fn := fun _ => fun
  | [] => { results := [.lit (.bool false)], args := [] }
  | _ => none }
def MyersKnownWrongFalsely : Prop := myersKnownRow.holds Try.pinned (OpenSpec.ofChange myersKnownWrong)

/- THE SECOND FORM. 'bulk': how many values and letters a reading holds, each counted each time it is reached (what is shared counts as often as it is met; a slice's spare places count too). A statement '..UptoSaid' is the law's where the arguments, and the package variables that the reading takes, are together of bulk at most 1048576: NARROWER than '..Said'. Prove '..Said' where nothing that the law and all that it calls make is longer than what came in: it says more and counts as full. Else prove '..UptoSaid'. A law counts once. -/
mutual
def uptoBulk {H : Type} : DataW H → Nat
  | .lit (.string bytes) => bytes.length + 1
  | .lit _ => 1
  | .nil => 1
  | .ptr d => uptoBulk d + 1
  | .slice elems spare => uptoBulkAll elems + uptoBulkAll spare + 1
  | .agg parts => uptoBulkAll parts + 1
  | .iface _ d => uptoBulk d + 1
  | .map entries => uptoBulkEntries entries + 1
  | .held _ => 1
def uptoBulkAll {H : Type} : List (DataW H) → Nat
  | [] => 0
  | d :: r => uptoBulk d + uptoBulkAll r
def uptoBulkEntries {H : Type} : List (Lit × DataW H) → Nat
  | [] => 0
  | x :: r => uptoBulkEntry x + uptoBulkEntries r
def uptoBulkEntry {H : Type} : Lit × DataW H → Nat
  | (.string bytes, d) => bytes.length + uptoBulk d + 1
  | (_, d) => uptoBulk d + 1
 end
def uptoSmall : (H : Type) → List (DataW H) → Bool := fun _ ds => decide (uptoBulkAll ds ≤ 1048576)
def OpenSpec.upto (s : _root_.Go.ChangeSpec) : _root_.Go.OpenSpec := { _root_.Go.OpenSpec.ofChange s with cond := some uptoSmall }

/-- 'redwaxlaw14.MyersSteps', WHERE WHAT IT READS IS OF BULK AT MOST 1048576: true; the input reads as it did. -/
def myersStepsUptoRow : OpenClaim := { program := "ytefefmogjmimdaa", sum := "bd269ff456a3e59fa9d42e2bf5affc84534658a789327696911b20285e6b1d0d", func := "redwax/redwaxlaw14.MyersSteps", spec := "myersSteps", apart := false, narrowed := true }
def MyersStepsUptoSaid : Prop := myersStepsUptoRow.holds Try.pinned (OpenSpec.upto myersStepsSpec)

/-- 'redwaxlaw14.MyersLeft', WHERE WHAT IT READS IS OF BULK AT MOST 1048576: true; the input reads as it did. -/
def myersLeftUptoRow : OpenClaim := { program := "ytefefmogjmimdaa", sum := "bd269ff456a3e59fa9d42e2bf5affc84534658a789327696911b20285e6b1d0d", func := "redwax/redwaxlaw14.MyersLeft", spec := "myersLeft", apart := false, narrowed := true }
def MyersLeftUptoSaid : Prop := myersLeftUptoRow.holds Try.pinned (OpenSpec.upto myersLeftSpec)

/-- 'redwaxlaw14.MyersPlays', WHERE WHAT IT READS IS OF BULK AT MOST 1048576: true; the input reads as it did. -/
def myersPlaysUptoRow : OpenClaim := { program := "ytefefmogjmimdaa", sum := "bd269ff456a3e59fa9d42e2bf5affc84534658a789327696911b20285e6b1d0d", func := "redwax/redwaxlaw14.MyersPlays", spec := "myersPlays", apart := false, narrowed := true }
def MyersPlaysUptoSaid : Prop := myersPlaysUptoRow.holds Try.pinned (OpenSpec.upto myersPlaysSpec)

/-- 'redwaxlaw14.MyersLeast', WHERE WHAT IT READS IS OF BULK AT MOST 1048576: true; the input reads as it did. -/
def myersLeastUptoRow : OpenClaim := { program := "ytefefmogjmimdaa", sum := "bd269ff456a3e59fa9d42e2bf5affc84534658a789327696911b20285e6b1d0d", func := "redwax/redwaxlaw14.MyersLeast", spec := "myersLeast", apart := false, narrowed := true }
def MyersLeastUptoSaid : Prop := myersLeastUptoRow.holds Try.pinned (OpenSpec.upto myersLeastSpec)

/-- 'redwaxlaw14.MyersKnown', WHERE WHAT IT READS IS OF BULK AT MOST 1048576: true; the input reads as it did. -/
def myersKnownUptoRow : OpenClaim := { program := "ytefefmogjmimdaa", sum := "bd269ff456a3e59fa9d42e2bf5affc84534658a789327696911b20285e6b1d0d", func := "redwax/redwaxlaw14.MyersKnown", spec := "myersKnown", apart := false, narrowed := true }
def MyersKnownUptoSaid : Prop := myersKnownUptoRow.holds Try.pinned (OpenSpec.upto myersKnownSpec)

end Rows
end Go.Proofs.Ytefefmogjmimdaa
