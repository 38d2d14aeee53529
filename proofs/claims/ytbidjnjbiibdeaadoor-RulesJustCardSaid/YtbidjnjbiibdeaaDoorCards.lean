/-
  DERIVED. GIVEN WITH THE SEED: THE CARDS: each row of YtbidjnjbiibdeaaDoorRows.lean that lists a variable, with what it lists TIED to the program's text (the seventh form; the later family's looks); each row that meets fmt, with fmt's text TOLD by the authors' own Lean function (tested against real Go, not proved from fmt's source: count such statements apart). THE CARD IS WHAT COUNTS. Prove the row's statement (the work); the ties are given (YtbidjnjbiibdeaaDoorTie.lean); close each card by the builder's one call (the guide's Derived/Test/ToyasCard.lean, 'card_holds'). Laid BY PROGRAM, IN A SANDBOX (cutbox-door.mjs). By AI agents, Wed Nov 11 2026. No macro, syntax, notation, axiom, sorry.
-/
import Derived.Test.YtbidjnjbiibdeaaDoorRows
import GoSem.ClaimSeven
namespace Go.Proofs.YtbidjnjbiibdeaaDoor
namespace Rows

/-- THE TIED CARD OF 'redwaxlaw05.LabelLattice'. -/
def labelLatticeCard : Claim7 := { stood := { row := labelLatticeRow, standIns := [], harness := (true, "fa3fb9a35d080f509120c60b94cfc74bd3b14c4020010f466a5ec551516fbe61"), looks := true }, kinds := [], alts := [], laidByText := true, laidKinds := [.data, .data, .data], laidTests := true, laidLooks := .later }
def LabelLatticeCardSaid : Prop := Claim7.holds Tryd.pinned (.plain (OpenSpec.ofChange labelLatticeSpec)) labelLatticeCard

/-- THE TIED CARD OF 'redwaxlaw05.LabelTwo'. -/
def labelTwoCard : Claim7 := { stood := { row := labelTwoRow, standIns := [], harness := (true, "fa3fb9a35d080f509120c60b94cfc74bd3b14c4020010f466a5ec551516fbe61"), looks := true }, kinds := [], alts := [], laidByText := true, laidKinds := [.data, .data, .data], laidTests := true, laidLooks := .later }
def LabelTwoCardSaid : Prop := Claim7.holds Tryd.pinned (.plain (OpenSpec.ofChange labelTwoSpec)) labelTwoCard

/-- THE TIED CARD OF 'redwaxlaw06.PathsAre'. -/
def pathsAreCard : Claim7 := { stood := { row := pathsAreRow, standIns := [], harness := (true, "fa3fb9a35d080f509120c60b94cfc74bd3b14c4020010f466a5ec551516fbe61"), looks := true }, kinds := [], alts := [], laidByText := true, laidKinds := [.data, .pinned], laidTests := true, laidLooks := .later }
def PathsAreCardSaid : Prop := Claim7.holds Tryd.pinned (.plain (OpenSpec.ofChange pathsAreSpec)) pathsAreCard

/-- THE TIED CARD OF 'redwaxlaw06.PathsUnder'. -/
def pathsUnderCard : Claim7 := { stood := { row := pathsUnderRow, standIns := [], harness := (true, "fa3fb9a35d080f509120c60b94cfc74bd3b14c4020010f466a5ec551516fbe61"), looks := true }, kinds := [], alts := [], laidByText := true, laidKinds := [.data, .pinned], laidTests := true, laidLooks := .later }
def PathsUnderCardSaid : Prop := Claim7.holds Tryd.pinned (.plain (OpenSpec.ofChange pathsUnderSpec)) pathsUnderCard

/-- THE TIED CARD OF 'redwaxlaw06.PathsBack'. -/
def pathsBackCard : Claim7 := { stood := { row := pathsBackRow, standIns := [], harness := (true, "fa3fb9a35d080f509120c60b94cfc74bd3b14c4020010f466a5ec551516fbe61"), looks := true }, kinds := [], alts := [], laidByText := true, laidKinds := [.data, .pinned], laidTests := true, laidLooks := .later }
def PathsBackCardSaid : Prop := Claim7.holds Tryd.pinned (.plain (OpenSpec.ofChange pathsBackSpec)) pathsBackCard

/-- THE TIED CARD OF 'redwaxlaw06.PathsChain'. -/
def pathsChainCard : Claim7 := { stood := { row := pathsChainRow, standIns := [], harness := (true, "fa3fb9a35d080f509120c60b94cfc74bd3b14c4020010f466a5ec551516fbe61"), looks := true }, kinds := [], alts := [], laidByText := true, laidKinds := [.data, .pinned], laidTests := true, laidLooks := .later }
def PathsChainCardSaid : Prop := Claim7.holds Tryd.pinned (.plain (OpenSpec.ofChange pathsChainSpec)) pathsChainCard

/-- THE TIED CARD OF 'redwaxlaw06.PathsKnown'. -/
def pathsKnownCard : Claim7 := { stood := { row := pathsKnownRow, standIns := [], harness := (true, "fa3fb9a35d080f509120c60b94cfc74bd3b14c4020010f466a5ec551516fbe61"), looks := true }, kinds := [], alts := [], laidByText := true, laidKinds := [.data, .pinned], laidTests := true, laidLooks := .later }
def PathsKnownCardSaid : Prop := Claim7.holds Tryd.pinned (.plain (OpenSpec.ofChange pathsKnownSpec)) pathsKnownCard

/-- THE TIED CARD OF 'redwaxlaw07.RulesWith'. -/
def rulesWithCard : Claim7 := { stood := { row := rulesWithRow, standIns := [], harness := (true, "fa3fb9a35d080f509120c60b94cfc74bd3b14c4020010f466a5ec551516fbe61"), looks := true }, kinds := [], alts := [], laidByText := true, laidKinds := [.data, .pinned], laidTests := true, laidLooks := .later }
def RulesWithCardSaid : Prop := Claim7.holds Tryd.pinned (.plain (OpenSpec.ofChange rulesWithSpec)) rulesWithCard

/-- THE TIED CARD OF 'redwaxlaw07.RulesJust'. -/
def rulesJustCard : Claim7 := { stood := { row := rulesJustRow, standIns := [], harness := (true, "fa3fb9a35d080f509120c60b94cfc74bd3b14c4020010f466a5ec551516fbe61"), looks := true }, kinds := [], alts := [], laidByText := true, laidKinds := [.data, .pinned], laidTests := true, laidLooks := .later }
def RulesJustCardSaid : Prop := Claim7.holds Tryd.pinned (.plain (OpenSpec.ofChange rulesJustSpec)) rulesJustCard

/-- THE TIED CARD OF 'redwaxlaw05.LabelSorts'. -/
def labelSortsCard : Claim7 := { stood := { row := labelSortsRow, standIns := [], harness := (true, "fa3fb9a35d080f509120c60b94cfc74bd3b14c4020010f466a5ec551516fbe61"), looks := true }, kinds := [], alts := [], laidByText := true, laidKinds := [.data, .data, .data], laidTests := true, laidLooks := .later }
def LabelSortsCardSaid : Prop := Claim7.holds Tryd.pinned (.plain (OpenSpec.ofChange labelSortsSpec)) labelSortsCard

/-- THE TIED CARD OF 'redwaxlaw07.RulesTouched'. -/
def rulesTouchedCard : Claim7 := { stood := { row := rulesTouchedRow, standIns := [], harness := (true, "fa3fb9a35d080f509120c60b94cfc74bd3b14c4020010f466a5ec551516fbe61"), looks := true }, kinds := [], alts := [], laidByText := true, laidKinds := [.data, .pinned], laidTests := true, laidLooks := .later }
def RulesTouchedCardSaid : Prop := Claim7.holds Tryd.pinned (.plain (OpenSpec.ofChange rulesTouchedSpec)) rulesTouchedCard

/-- THE TIED CARD OF 'redwaxlaw05.LabelKnown'. -/
def labelKnownCard : Claim7 := { stood := { row := labelKnownRow, standIns := [], harness := (true, "fa3fb9a35d080f509120c60b94cfc74bd3b14c4020010f466a5ec551516fbe61"), looks := true }, kinds := [], alts := [], laidByText := true, laidKinds := [.data, .data, .data, .sentinel, .sentinel], laidTests := true, laidLooks := .later }
def LabelKnownCardSaid : Prop := Claim7.holds Tryd.pinned (.plain (OpenSpec.ofChange labelKnownSpec)) labelKnownCard

/-- THE SECOND FORM's CARD OF 'redwaxlaw05.LabelLattice'. -/
def labelLatticeUptoCard : Claim7 := { stood := { row := labelLatticeUptoRow, standIns := [], harness := (true, "fa3fb9a35d080f509120c60b94cfc74bd3b14c4020010f466a5ec551516fbe61"), looks := true }, kinds := [], alts := [], laidByText := true, laidKinds := [.data, .data, .data], laidTests := true, laidLooks := .later }
def LabelLatticeUptoCardSaid : Prop := Claim7.holds Tryd.pinned (.plain (OpenSpec.upto labelLatticeSpec)) labelLatticeUptoCard

/-- THE SECOND FORM's CARD OF 'redwaxlaw05.LabelTwo'. -/
def labelTwoUptoCard : Claim7 := { stood := { row := labelTwoUptoRow, standIns := [], harness := (true, "fa3fb9a35d080f509120c60b94cfc74bd3b14c4020010f466a5ec551516fbe61"), looks := true }, kinds := [], alts := [], laidByText := true, laidKinds := [.data, .data, .data], laidTests := true, laidLooks := .later }
def LabelTwoUptoCardSaid : Prop := Claim7.holds Tryd.pinned (.plain (OpenSpec.upto labelTwoSpec)) labelTwoUptoCard

/-- THE SECOND FORM's CARD OF 'redwaxlaw06.PathsAre'. -/
def pathsAreUptoCard : Claim7 := { stood := { row := pathsAreUptoRow, standIns := [], harness := (true, "fa3fb9a35d080f509120c60b94cfc74bd3b14c4020010f466a5ec551516fbe61"), looks := true }, kinds := [], alts := [], laidByText := true, laidKinds := [.data, .pinned], laidTests := true, laidLooks := .later }
def PathsAreUptoCardSaid : Prop := Claim7.holds Tryd.pinned (.plain (OpenSpec.upto pathsAreSpec)) pathsAreUptoCard

/-- THE SECOND FORM's CARD OF 'redwaxlaw06.PathsUnder'. -/
def pathsUnderUptoCard : Claim7 := { stood := { row := pathsUnderUptoRow, standIns := [], harness := (true, "fa3fb9a35d080f509120c60b94cfc74bd3b14c4020010f466a5ec551516fbe61"), looks := true }, kinds := [], alts := [], laidByText := true, laidKinds := [.data, .pinned], laidTests := true, laidLooks := .later }
def PathsUnderUptoCardSaid : Prop := Claim7.holds Tryd.pinned (.plain (OpenSpec.upto pathsUnderSpec)) pathsUnderUptoCard

/-- THE SECOND FORM's CARD OF 'redwaxlaw06.PathsBack'. -/
def pathsBackUptoCard : Claim7 := { stood := { row := pathsBackUptoRow, standIns := [], harness := (true, "fa3fb9a35d080f509120c60b94cfc74bd3b14c4020010f466a5ec551516fbe61"), looks := true }, kinds := [], alts := [], laidByText := true, laidKinds := [.data, .pinned], laidTests := true, laidLooks := .later }
def PathsBackUptoCardSaid : Prop := Claim7.holds Tryd.pinned (.plain (OpenSpec.upto pathsBackSpec)) pathsBackUptoCard

/-- THE SECOND FORM's CARD OF 'redwaxlaw06.PathsChain'. -/
def pathsChainUptoCard : Claim7 := { stood := { row := pathsChainUptoRow, standIns := [], harness := (true, "fa3fb9a35d080f509120c60b94cfc74bd3b14c4020010f466a5ec551516fbe61"), looks := true }, kinds := [], alts := [], laidByText := true, laidKinds := [.data, .pinned], laidTests := true, laidLooks := .later }
def PathsChainUptoCardSaid : Prop := Claim7.holds Tryd.pinned (.plain (OpenSpec.upto pathsChainSpec)) pathsChainUptoCard

/-- THE SECOND FORM's CARD OF 'redwaxlaw06.PathsKnown'. -/
def pathsKnownUptoCard : Claim7 := { stood := { row := pathsKnownUptoRow, standIns := [], harness := (true, "fa3fb9a35d080f509120c60b94cfc74bd3b14c4020010f466a5ec551516fbe61"), looks := true }, kinds := [], alts := [], laidByText := true, laidKinds := [.data, .pinned], laidTests := true, laidLooks := .later }
def PathsKnownUptoCardSaid : Prop := Claim7.holds Tryd.pinned (.plain (OpenSpec.upto pathsKnownSpec)) pathsKnownUptoCard

/-- THE SECOND FORM's CARD OF 'redwaxlaw07.RulesWith'. -/
def rulesWithUptoCard : Claim7 := { stood := { row := rulesWithUptoRow, standIns := [], harness := (true, "fa3fb9a35d080f509120c60b94cfc74bd3b14c4020010f466a5ec551516fbe61"), looks := true }, kinds := [], alts := [], laidByText := true, laidKinds := [.data, .pinned], laidTests := true, laidLooks := .later }
def RulesWithUptoCardSaid : Prop := Claim7.holds Tryd.pinned (.plain (OpenSpec.upto rulesWithSpec)) rulesWithUptoCard

/-- THE SECOND FORM's CARD OF 'redwaxlaw07.RulesJust'. -/
def rulesJustUptoCard : Claim7 := { stood := { row := rulesJustUptoRow, standIns := [], harness := (true, "fa3fb9a35d080f509120c60b94cfc74bd3b14c4020010f466a5ec551516fbe61"), looks := true }, kinds := [], alts := [], laidByText := true, laidKinds := [.data, .pinned], laidTests := true, laidLooks := .later }
def RulesJustUptoCardSaid : Prop := Claim7.holds Tryd.pinned (.plain (OpenSpec.upto rulesJustSpec)) rulesJustUptoCard

/-- THE SECOND FORM's CARD OF 'redwaxlaw05.LabelSorts'. -/
def labelSortsUptoCard : Claim7 := { stood := { row := labelSortsUptoRow, standIns := [], harness := (true, "fa3fb9a35d080f509120c60b94cfc74bd3b14c4020010f466a5ec551516fbe61"), looks := true }, kinds := [], alts := [], laidByText := true, laidKinds := [.data, .data, .data], laidTests := true, laidLooks := .later }
def LabelSortsUptoCardSaid : Prop := Claim7.holds Tryd.pinned (.plain (OpenSpec.upto labelSortsSpec)) labelSortsUptoCard

/-- THE SECOND FORM's CARD OF 'redwaxlaw07.RulesTouched'. -/
def rulesTouchedUptoCard : Claim7 := { stood := { row := rulesTouchedUptoRow, standIns := [], harness := (true, "fa3fb9a35d080f509120c60b94cfc74bd3b14c4020010f466a5ec551516fbe61"), looks := true }, kinds := [], alts := [], laidByText := true, laidKinds := [.data, .pinned], laidTests := true, laidLooks := .later }
def RulesTouchedUptoCardSaid : Prop := Claim7.holds Tryd.pinned (.plain (OpenSpec.upto rulesTouchedSpec)) rulesTouchedUptoCard

/-- THE SECOND FORM's CARD OF 'redwaxlaw05.LabelKnown'. -/
def labelKnownUptoCard : Claim7 := { stood := { row := labelKnownUptoRow, standIns := [], harness := (true, "fa3fb9a35d080f509120c60b94cfc74bd3b14c4020010f466a5ec551516fbe61"), looks := true }, kinds := [], alts := [], laidByText := true, laidKinds := [.data, .data, .data, .sentinel, .sentinel], laidTests := true, laidLooks := .later }
def LabelKnownUptoCardSaid : Prop := Claim7.holds Tryd.pinned (.plain (OpenSpec.upto labelKnownSpec)) labelKnownUptoCard
end Rows
end Go.Proofs.YtbidjnjbiibdeaaDoor
