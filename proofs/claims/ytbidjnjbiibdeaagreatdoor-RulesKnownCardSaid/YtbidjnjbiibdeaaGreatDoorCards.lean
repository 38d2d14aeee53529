/-
  DERIVED. GIVEN WITH THE SEED: THE CARDS: each row of YtbidjnjbiibdeaaGreatDoorRows.lean that lists a variable, with what it lists TIED to the program's text (the seventh form; the later family's looks); each row that meets fmt, with fmt's text TOLD by the authors' own Lean function (tested against real Go, not proved from fmt's source: count such statements apart). THE CARD IS WHAT COUNTS. Prove the row's statement (the work); the ties are given (YtbidjnjbiibdeaaGreatDoorTie.lean); close each card by the builder's one call (the guide's Derived/Test/ToyasCard.lean, 'card_holds'). Laid BY PROGRAM, IN A SANDBOX (cutbox-door.mjs). By AI agents, Wed Nov 11 2026. No macro, syntax, notation, axiom, sorry.
-/
import Derived.Test.YtbidjnjbiibdeaaGreatDoorRows
import GoSem.ClaimSeven
namespace Go.Proofs.YtbidjnjbiibdeaaGreatDoor
namespace Rows

/-- THE TIED CARD OF 'redwaxlaw07.RulesFind'. -/
def rulesFindCard : Claim7 := { stood := { row := rulesFindRow, standIns := [], harness := (true, "248e6b223a7263122f827a1e17032f63253117c18b5b9eac6511dcf141aaacad"), looks := false }, kinds := [], alts := [], laidByText := true, laidKinds := [.data, .data, .data, .data, .pinned], laidTests := true, laidLooks := .later }
def RulesFindCardSaid : Prop := Claim7.holds Tryz.pinned (.plain (OpenSpec.ofChange rulesFindSpec)) rulesFindCard

/-- THE TIED CARD OF 'redwaxlaw07.RulesKnown'. -/
def rulesKnownCard : Claim7 := { stood := { row := rulesKnownRow, standIns := [], harness := (true, "248e6b223a7263122f827a1e17032f63253117c18b5b9eac6511dcf141aaacad"), looks := false }, kinds := [], alts := [], laidByText := true, laidKinds := [.data, .data, .data, .data, .pinned], laidTests := true, laidLooks := .later }
def RulesKnownCardSaid : Prop := Claim7.holds Tryz.pinned (.plain (OpenSpec.ofChange rulesKnownSpec)) rulesKnownCard

/-- THE SECOND FORM's CARD OF 'redwaxlaw07.RulesFind'. -/
def rulesFindUptoCard : Claim7 := { stood := { row := rulesFindUptoRow, standIns := [], harness := (true, "248e6b223a7263122f827a1e17032f63253117c18b5b9eac6511dcf141aaacad"), looks := false }, kinds := [], alts := [], laidByText := true, laidKinds := [.data, .data, .data, .data, .pinned], laidTests := true, laidLooks := .later }
def RulesFindUptoCardSaid : Prop := Claim7.holds Tryz.pinned (.plain (OpenSpec.upto rulesFindSpec)) rulesFindUptoCard

/-- THE SECOND FORM's CARD OF 'redwaxlaw07.RulesKnown'. -/
def rulesKnownUptoCard : Claim7 := { stood := { row := rulesKnownUptoRow, standIns := [], harness := (true, "248e6b223a7263122f827a1e17032f63253117c18b5b9eac6511dcf141aaacad"), looks := false }, kinds := [], alts := [], laidByText := true, laidKinds := [.data, .data, .data, .data, .pinned], laidTests := true, laidLooks := .later }
def RulesKnownUptoCardSaid : Prop := Claim7.holds Tryz.pinned (.plain (OpenSpec.upto rulesKnownSpec)) rulesKnownUptoCard
end Rows
end Go.Proofs.YtbidjnjbiibdeaaGreatDoor
