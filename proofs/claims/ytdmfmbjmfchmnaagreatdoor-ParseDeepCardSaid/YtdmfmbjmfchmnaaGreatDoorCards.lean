/-
  DERIVED. GIVEN WITH THE SEED: THE CARDS: each row of YtdmfmbjmfchmnaaGreatDoorRows.lean that lists a variable, with what it lists TIED to the program's text (the seventh form; the later family's looks); each row that meets fmt, with fmt's text TOLD by the authors' own Lean function (tested against real Go, not proved from fmt's source: count such statements apart). THE CARD IS WHAT COUNTS. Prove the row's statement (the work); the ties are given (YtdmfmbjmfchmnaaGreatDoorTie.lean); close each card by the builder's one call (the guide's Derived/Test/ToyasCard.lean, 'card_holds'). Laid BY PROGRAM, IN A SANDBOX (cutbox-door.mjs). By AI agents, Wed Nov 11 2026. No macro, syntax, notation, axiom, sorry.
-/
import Derived.Test.YtdmfmbjmfchmnaaGreatDoorRows
import GoSem.ClaimSeven
namespace Go.Proofs.YtdmfmbjmfchmnaaGreatDoor
namespace Rows

/-- THE TIED CARD OF 'changelinglaw4.ParseDeep'. -/
def parseDeepCard : Claim7 := { stood := { row := parseDeepRow, standIns := [], harness := (true, "88455e59ac99bedd8764e13516b16d209f842c5adcf8d37b285dd79847542e9d"), looks := true }, kinds := [], alts := [], laidByText := true, laidKinds := [.data, .data, .data, .data, .sentinel, .sentinel, .pinned], laidTests := true, laidLooks := .later }
def ParseDeepCardSaid : Prop := Claim7.holds Tryz.pinned (.plain (OpenSpec.ofChange parseDeepSpec)) parseDeepCard

/-- THE TIED CARD OF 'changelinglaw5.ShowBrackets'. -/
def showBracketsCard : Claim7 := { stood := { row := showBracketsRow, standIns := [], harness := (true, "88455e59ac99bedd8764e13516b16d209f842c5adcf8d37b285dd79847542e9d"), looks := true }, kinds := [], alts := [], laidByText := true, laidKinds := [.data, .data, .data, .data, .sentinel, .sentinel, .pinned], laidTests := true, laidLooks := .later }
def ShowBracketsCardSaid : Prop := Claim7.holds Tryz.pinned (.plain (OpenSpec.ofChange showBracketsSpec)) showBracketsCard

/-- THE SECOND FORM's CARD OF 'changelinglaw4.ParseDeep'. -/
def parseDeepUptoCard : Claim7 := { stood := { row := parseDeepUptoRow, standIns := [], harness := (true, "88455e59ac99bedd8764e13516b16d209f842c5adcf8d37b285dd79847542e9d"), looks := true }, kinds := [], alts := [], laidByText := true, laidKinds := [.data, .data, .data, .data, .sentinel, .sentinel, .pinned], laidTests := true, laidLooks := .later }
def ParseDeepUptoCardSaid : Prop := Claim7.holds Tryz.pinned (.plain (OpenSpec.upto parseDeepSpec)) parseDeepUptoCard

/-- THE SECOND FORM's CARD OF 'changelinglaw5.ShowBrackets'. -/
def showBracketsUptoCard : Claim7 := { stood := { row := showBracketsUptoRow, standIns := [], harness := (true, "88455e59ac99bedd8764e13516b16d209f842c5adcf8d37b285dd79847542e9d"), looks := true }, kinds := [], alts := [], laidByText := true, laidKinds := [.data, .data, .data, .data, .sentinel, .sentinel, .pinned], laidTests := true, laidLooks := .later }
def ShowBracketsUptoCardSaid : Prop := Claim7.holds Tryz.pinned (.plain (OpenSpec.upto showBracketsSpec)) showBracketsUptoCard
end Rows
end Go.Proofs.YtdmfmbjmfchmnaaGreatDoor
