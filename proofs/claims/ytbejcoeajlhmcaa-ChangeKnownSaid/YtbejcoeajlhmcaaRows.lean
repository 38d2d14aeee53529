/-
  No cell of these rows narrows 'for every input' (looked for: loops, veiled, ifaces, maps, wideKeys, modest, calm, conditions, laid).
  DERIVED. THE GIVEN ROWS OF THIS SEAT. 9 by the template 'for every input the law returns true; each argument reads behind the call as it read before'; 0 by the template 'total and deterministic' (their statements: YtbejcoeajlhmcaaTotals.lean).
  GIVEN WITH THE SEED: the statements are not yours to turn. If you find one false, say at which input.
  Laid BY PROGRAM, IN A SANDBOX (cutbox-rows.mjs): the forced cells as the released guide's own fill.sh prints them over the translation 54643e2d5fa8a828… (all of the seat's roots in one cut). By AI agents, Wed Nov 11 2026. No macro, syntax, notation, axiom, sorry.
-/
import Derived.Test.YtbejcoeajlhmcaaChecked
import GoSem.Claim
import GoSem.ClaimJoined
import GoSem.ClaimMapViews
import Derived.JoinedTies
import Derived.KernelRfl
namespace Go.Proofs.Ytbejcoeajlhmcaa
/- THE CELL 'sum', in the pinned program and in every row, IS THE sha256 OF THE DUMP (.gsa) THAT YtbejcoeajlhmcaaProg.lean LOADS. Nothing in Lean hashes anything: it is a label: what it is worth is what the hold of that sum in a sandbox is worth. -/
noncomputable def Try.pinned : Pinned := { name := "ytbejcoeajlhmcaa", sum := "54643e2d5fa8a828268f5676049ce800d737bd299a180a56ffe8f2069852eb26", checked := Try.checked }
namespace Rows
def none {H : Type} : Left H := { results := [], args := [] }

/-- 'redwaxlaw15.GraphNoCircles': WHATEVER THE INPUT: true; the input reads as it did. -/
def graphNoCirclesSpec : ChangeSpec := { name := "graphNoCircles", fn := fun _ => fun
  | [d] => { results := [.lit (.bool true)], args := [d] }
  | _ => none }
def graphNoCirclesRow : OpenClaim := { program := "ytbejcoeajlhmcaa", sum := "54643e2d5fa8a828268f5676049ce800d737bd299a180a56ffe8f2069852eb26", func := "redwax/redwaxlaw15.GraphNoCircles", spec := "graphNoCircles", inPlace := ["maps.clone"], unfollowed := true, recurses := true, plainKeys := false, apart := false }
def GraphNoCirclesSaid : Prop := graphNoCirclesRow.holds Try.pinned (OpenSpec.ofChange graphNoCirclesSpec)

/-- ITS FALSE NEIGHBOUR: 'it returns false'. Refute it at one input. -/
def graphNoCirclesWrong : ChangeSpec := { name := "graphNoCircles", fn := fun _ => fun
  | [d] => { results := [.lit (.bool false)], args := [d] }
  | _ => none }
def GraphNoCirclesWrongFalsely : Prop := graphNoCirclesRow.holds Try.pinned (OpenSpec.ofChange graphNoCirclesWrong)

/-- 'redwaxlaw15.GraphSet': WHATEVER THE INPUT: true; the input reads as it did. -/
def graphSetSpec : ChangeSpec := { name := "graphSet", fn := fun _ => fun
  | [d1, d2] => { results := [.lit (.bool true)], args := [d1, d2] }
  | _ => none }
def graphSetRow : OpenClaim := { program := "ytbejcoeajlhmcaa", sum := "54643e2d5fa8a828268f5676049ce800d737bd299a180a56ffe8f2069852eb26", func := "redwax/redwaxlaw15.GraphSet", spec := "graphSet", unfollowed := true, recurses := true, plainKeys := false, apart := false }
def GraphSetSaid : Prop := graphSetRow.holds Try.pinned (OpenSpec.ofChange graphSetSpec)

/-- ITS FALSE NEIGHBOUR: 'it returns false'. Refute it at one input. -/
def graphSetWrong : ChangeSpec := { name := "graphSet", fn := fun _ => fun
  | [d1, d2] => { results := [.lit (.bool false)], args := [d1, d2] }
  | _ => none }
def GraphSetWrongFalsely : Prop := graphSetRow.holds Try.pinned (OpenSpec.ofChange graphSetWrong)

/-- 'redwaxlaw15.GraphKnown': WHATEVER THE INPUT: true; the input reads as it did. -/
def graphKnownSpec : ChangeSpec := { name := "graphKnown", fn := fun _ => fun
  | [] => { results := [.lit (.bool true)], args := [] }
  | _ => none }
def graphKnownRow : OpenClaim := { program := "ytbejcoeajlhmcaa", sum := "54643e2d5fa8a828268f5676049ce800d737bd299a180a56ffe8f2069852eb26", func := "redwax/redwaxlaw15.GraphKnown", spec := "graphKnown", inPlace := ["maps.clone"], unfollowed := true, recurses := true, plainKeys := false, apart := false }
def GraphKnownSaid : Prop := graphKnownRow.holds Try.pinned (OpenSpec.ofChange graphKnownSpec)

/-- ITS FALSE NEIGHBOUR: 'it returns false'. Refute it at one input. -/
def graphKnownWrong : ChangeSpec := { name := "graphKnown", fn := fun _ => fun
  | [] => { results := [.lit (.bool false)], args := [] }
  | _ => none }
def GraphKnownWrongFalsely : Prop := graphKnownRow.holds Try.pinned (OpenSpec.ofChange graphKnownWrong)

/-- 'redwaxlaw16.RenderItems': WHATEVER THE INPUT: true; the input reads as it did. -/
def renderItemsSpec : ChangeSpec := { name := "renderItems", fn := fun _ => fun
  | [d] => { results := [.lit (.bool true)], args := [d] }
  | _ => none }
def renderItemsRow : OpenClaim := { program := "ytbejcoeajlhmcaa", sum := "54643e2d5fa8a828268f5676049ce800d737bd299a180a56ffe8f2069852eb26", func := "redwax/redwaxlaw16.RenderItems", spec := "renderItems", unfollowed := true, recurses := true, plainKeys := false, apart := false }
def RenderItemsSaid : Prop := renderItemsRow.holds Try.pinned (OpenSpec.ofChange renderItemsSpec)

/-- ITS FALSE NEIGHBOUR: 'it returns false'. Refute it at one input. -/
def renderItemsWrong : ChangeSpec := { name := "renderItems", fn := fun _ => fun
  | [d] => { results := [.lit (.bool false)], args := [d] }
  | _ => none }
def RenderItemsWrongFalsely : Prop := renderItemsRow.holds Try.pinned (OpenSpec.ofChange renderItemsWrong)

/-- 'redwaxlaw16.RenderTexts': WHATEVER THE INPUT: true; the input reads as it did. -/
def renderTextsSpec : ChangeSpec := { name := "renderTexts", fn := fun _ => fun
  | [d] => { results := [.lit (.bool true)], args := [d] }
  | _ => none }
def renderTextsRow : OpenClaim := { program := "ytbejcoeajlhmcaa", sum := "54643e2d5fa8a828268f5676049ce800d737bd299a180a56ffe8f2069852eb26", func := "redwax/redwaxlaw16.RenderTexts", spec := "renderTexts", unfollowed := true, recurses := true, plainKeys := false, apart := false }
def RenderTextsSaid : Prop := renderTextsRow.holds Try.pinned (OpenSpec.ofChange renderTextsSpec)

/-- ITS FALSE NEIGHBOUR: 'it returns false'. Refute it at one input. -/
def renderTextsWrong : ChangeSpec := { name := "renderTexts", fn := fun _ => fun
  | [d] => { results := [.lit (.bool false)], args := [d] }
  | _ => none }
def RenderTextsWrongFalsely : Prop := renderTextsRow.holds Try.pinned (OpenSpec.ofChange renderTextsWrong)

/-- 'redwaxlaw16.RenderWhole': WHATEVER THE INPUT: true; the input reads as it did. -/
def renderWholeSpec : ChangeSpec := { name := "renderWhole", fn := fun _ => fun
  | [d] => { results := [.lit (.bool true)], args := [d] }
  | _ => none }
def renderWholeRow : OpenClaim := { program := "ytbejcoeajlhmcaa", sum := "54643e2d5fa8a828268f5676049ce800d737bd299a180a56ffe8f2069852eb26", func := "redwax/redwaxlaw16.RenderWhole", spec := "renderWhole", unfollowed := true, recurses := true, plainKeys := false, apart := false }
def RenderWholeSaid : Prop := renderWholeRow.holds Try.pinned (OpenSpec.ofChange renderWholeSpec)

/-- ITS FALSE NEIGHBOUR: 'it returns false'. Refute it at one input. -/
def renderWholeWrong : ChangeSpec := { name := "renderWhole", fn := fun _ => fun
  | [d] => { results := [.lit (.bool false)], args := [d] }
  | _ => none }
def RenderWholeWrongFalsely : Prop := renderWholeRow.holds Try.pinned (OpenSpec.ofChange renderWholeWrong)

/-- 'redwaxlaw16.RenderPlain': WHATEVER THE INPUT: true; the input reads as it did. -/
def renderPlainSpec : ChangeSpec := { name := "renderPlain", fn := fun _ => fun
  | [d1, d2, d3] => { results := [.lit (.bool true)], args := [d1, d2, d3] }
  | _ => none }
def renderPlainRow : OpenClaim := { program := "ytbejcoeajlhmcaa", sum := "54643e2d5fa8a828268f5676049ce800d737bd299a180a56ffe8f2069852eb26", func := "redwax/redwaxlaw16.RenderPlain", spec := "renderPlain", unfollowed := true, recurses := true, plainKeys := false, apart := false }
def RenderPlainSaid : Prop := renderPlainRow.holds Try.pinned (OpenSpec.ofChange renderPlainSpec)

/-- ITS FALSE NEIGHBOUR: 'it returns false'. Refute it at one input. -/
def renderPlainWrong : ChangeSpec := { name := "renderPlain", fn := fun _ => fun
  | [d1, d2, d3] => { results := [.lit (.bool false)], args := [d1, d2, d3] }
  | _ => none }
def RenderPlainWrongFalsely : Prop := renderPlainRow.holds Try.pinned (OpenSpec.ofChange renderPlainWrong)

/-- 'redwaxlaw16.RenderKnown': WHATEVER THE INPUT: true; the input reads as it did. -/
def renderKnownSpec : ChangeSpec := { name := "renderKnown", fn := fun _ => fun
  | [] => { results := [.lit (.bool true)], args := [] }
  | _ => none }
def renderKnownRow : OpenClaim := { program := "ytbejcoeajlhmcaa", sum := "54643e2d5fa8a828268f5676049ce800d737bd299a180a56ffe8f2069852eb26", func := "redwax/redwaxlaw16.RenderKnown", spec := "renderKnown", unfollowed := true, recurses := true, plainKeys := false, apart := false }
def RenderKnownSaid : Prop := renderKnownRow.holds Try.pinned (OpenSpec.ofChange renderKnownSpec)

/-- ITS FALSE NEIGHBOUR: 'it returns false'. Refute it at one input. -/
def renderKnownWrong : ChangeSpec := { name := "renderKnown", fn := fun _ => fun
  | [] => { results := [.lit (.bool false)], args := [] }
  | _ => none }
def RenderKnownWrongFalsely : Prop := renderKnownRow.holds Try.pinned (OpenSpec.ofChange renderKnownWrong)

/-- 'redwaxlaw17.ChangeKnown': WHATEVER THE INPUT: true; the input reads as it did. -/
def changeKnownSpec : ChangeSpec := { name := "changeKnown", fn := fun _ => fun
  | [] => { results := [.lit (.bool true)], args := [] }
  | _ => none }
def changeKnownRow : OpenClaim := { program := "ytbejcoeajlhmcaa", sum := "54643e2d5fa8a828268f5676049ce800d737bd299a180a56ffe8f2069852eb26", func := "redwax/redwaxlaw17.ChangeKnown", spec := "changeKnown", inPlace := ["internal/bytealg.Compare"], unfollowed := true, recurses := true, plainKeys := false, apart := false }
def ChangeKnownSaid : Prop := changeKnownRow.holds Try.pinned (OpenSpec.ofChange changeKnownSpec)

/-- ITS FALSE NEIGHBOUR: 'it returns false'. Refute it at one input. -/
def changeKnownWrong : ChangeSpec := { name := "changeKnown", fn := fun _ => fun
  | [] => { results := [.lit (.bool false)], args := [] }
  | _ => none }
def ChangeKnownWrongFalsely : Prop := changeKnownRow.holds Try.pinned (OpenSpec.ofChange changeKnownWrong)

/- THE SECOND FORM. 'bulk': how many values and letters a reading holds, each counted each time it is reached (what is shared counts as often as it is met; a slice's spare places count too). A statement '..UptoSaid' is the law's where the arguments, and the package variables that the reading takes, are together of bulk at most 1048576: NARROWER than '..Said'. Prove '..Said' where nothing that the law and all that it calls make is longer than what came in: it says more and counts as full. Else prove '..UptoSaid'. A law counts once. -/
mutual
def uptoBulk {H : Type} : DataW H → Nat
  | .lit (.string bytes) => bytes.length + 1
  | .lit _ => 1
  | .nil => 1
  | .ptr d => uptoBulk d + 1
  | .slice elems spare => uptoBulkAll elems + uptoBulkAll spare + 1
  | .agg parts => uptoBulkAll parts + 1
  | .iface _ d => uptoBulk d + 1
  | .map entries => uptoBulkEntries entries + 1
  | .held _ => 1
def uptoBulkAll {H : Type} : List (DataW H) → Nat
  | [] => 0
  | d :: r => uptoBulk d + uptoBulkAll r
def uptoBulkEntries {H : Type} : List (Lit × DataW H) → Nat
  | [] => 0
  | x :: r => uptoBulkEntry x + uptoBulkEntries r
def uptoBulkEntry {H : Type} : Lit × DataW H → Nat
  | (.string bytes, d) => bytes.length + uptoBulk d + 1
  | (_, d) => uptoBulk d + 1
 end
def uptoSmall : (H : Type) → List (DataW H) → Bool := fun _ ds => decide (uptoBulkAll ds ≤ 1048576)
def OpenSpec.upto (s : _root_.Go.ChangeSpec) : _root_.Go.OpenSpec := { _root_.Go.OpenSpec.ofChange s with cond := some uptoSmall }

/-- 'redwaxlaw15.GraphNoCircles', WHERE WHAT IT READS IS OF BULK AT MOST 1048576: true; the input reads as it did. -/
def graphNoCirclesUptoRow : OpenClaim := { program := "ytbejcoeajlhmcaa", sum := "54643e2d5fa8a828268f5676049ce800d737bd299a180a56ffe8f2069852eb26", func := "redwax/redwaxlaw15.GraphNoCircles", spec := "graphNoCircles", inPlace := ["maps.clone"], unfollowed := true, recurses := true, plainKeys := false, apart := false, narrowed := true }
def GraphNoCirclesUptoSaid : Prop := graphNoCirclesUptoRow.holds Try.pinned (OpenSpec.upto graphNoCirclesSpec)

/-- 'redwaxlaw15.GraphSet', WHERE WHAT IT READS IS OF BULK AT MOST 1048576: true; the input reads as it did. -/
def graphSetUptoRow : OpenClaim := { program := "ytbejcoeajlhmcaa", sum := "54643e2d5fa8a828268f5676049ce800d737bd299a180a56ffe8f2069852eb26", func := "redwax/redwaxlaw15.GraphSet", spec := "graphSet", unfollowed := true, recurses := true, plainKeys := false, apart := false, narrowed := true }
def GraphSetUptoSaid : Prop := graphSetUptoRow.holds Try.pinned (OpenSpec.upto graphSetSpec)

/-- 'redwaxlaw15.GraphKnown', WHERE WHAT IT READS IS OF BULK AT MOST 1048576: true; the input reads as it did. -/
def graphKnownUptoRow : OpenClaim := { program := "ytbejcoeajlhmcaa", sum := "54643e2d5fa8a828268f5676049ce800d737bd299a180a56ffe8f2069852eb26", func := "redwax/redwaxlaw15.GraphKnown", spec := "graphKnown", inPlace := ["maps.clone"], unfollowed := true, recurses := true, plainKeys := false, apart := false, narrowed := true }
def GraphKnownUptoSaid : Prop := graphKnownUptoRow.holds Try.pinned (OpenSpec.upto graphKnownSpec)

/-- 'redwaxlaw16.RenderItems', WHERE WHAT IT READS IS OF BULK AT MOST 1048576: true; the input reads as it did. -/
def renderItemsUptoRow : OpenClaim := { program := "ytbejcoeajlhmcaa", sum := "54643e2d5fa8a828268f5676049ce800d737bd299a180a56ffe8f2069852eb26", func := "redwax/redwaxlaw16.RenderItems", spec := "renderItems", unfollowed := true, recurses := true, plainKeys := false, apart := false, narrowed := true }
def RenderItemsUptoSaid : Prop := renderItemsUptoRow.holds Try.pinned (OpenSpec.upto renderItemsSpec)

/-- 'redwaxlaw16.RenderTexts', WHERE WHAT IT READS IS OF BULK AT MOST 1048576: true; the input reads as it did. -/
def renderTextsUptoRow : OpenClaim := { program := "ytbejcoeajlhmcaa", sum := "54643e2d5fa8a828268f5676049ce800d737bd299a180a56ffe8f2069852eb26", func := "redwax/redwaxlaw16.RenderTexts", spec := "renderTexts", unfollowed := true, recurses := true, plainKeys := false, apart := false, narrowed := true }
def RenderTextsUptoSaid : Prop := renderTextsUptoRow.holds Try.pinned (OpenSpec.upto renderTextsSpec)

/-- 'redwaxlaw16.RenderWhole', WHERE WHAT IT READS IS OF BULK AT MOST 1048576: true; the input reads as it did. -/
def renderWholeUptoRow : OpenClaim := { program := "ytbejcoeajlhmcaa", sum := "54643e2d5fa8a828268f5676049ce800d737bd299a180a56ffe8f2069852eb26", func := "redwax/redwaxlaw16.RenderWhole", spec := "renderWhole", unfollowed := true, recurses := true, plainKeys := false, apart := false, narrowed := true }
def RenderWholeUptoSaid : Prop := renderWholeUptoRow.holds Try.pinned (OpenSpec.upto renderWholeSpec)

/-- 'redwaxlaw16.RenderPlain', WHERE WHAT IT READS IS OF BULK AT MOST 1048576: true; the input reads as it did. -/
def renderPlainUptoRow : OpenClaim := { program := "ytbejcoeajlhmcaa", sum := "54643e2d5fa8a828268f5676049ce800d737bd299a180a56ffe8f2069852eb26", func := "redwax/redwaxlaw16.RenderPlain", spec := "renderPlain", unfollowed := true, recurses := true, plainKeys := false, apart := false, narrowed := true }
def RenderPlainUptoSaid : Prop := renderPlainUptoRow.holds Try.pinned (OpenSpec.upto renderPlainSpec)

/-- 'redwaxlaw16.RenderKnown', WHERE WHAT IT READS IS OF BULK AT MOST 1048576: true; the input reads as it did. -/
def renderKnownUptoRow : OpenClaim := { program := "ytbejcoeajlhmcaa", sum := "54643e2d5fa8a828268f5676049ce800d737bd299a180a56ffe8f2069852eb26", func := "redwax/redwaxlaw16.RenderKnown", spec := "renderKnown", unfollowed := true, recurses := true, plainKeys := false, apart := false, narrowed := true }
def RenderKnownUptoSaid : Prop := renderKnownUptoRow.holds Try.pinned (OpenSpec.upto renderKnownSpec)

/-- 'redwaxlaw17.ChangeKnown', WHERE WHAT IT READS IS OF BULK AT MOST 1048576: true; the input reads as it did. -/
def changeKnownUptoRow : OpenClaim := { program := "ytbejcoeajlhmcaa", sum := "54643e2d5fa8a828268f5676049ce800d737bd299a180a56ffe8f2069852eb26", func := "redwax/redwaxlaw17.ChangeKnown", spec := "changeKnown", inPlace := ["internal/bytealg.Compare"], unfollowed := true, recurses := true, plainKeys := false, apart := false, narrowed := true }
def ChangeKnownUptoSaid : Prop := changeKnownUptoRow.holds Try.pinned (OpenSpec.upto changeKnownSpec)

end Rows
end Go.Proofs.Ytbejcoeajlhmcaa
