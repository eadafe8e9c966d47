/-
  DERIVED. GIVEN WITH THE SEED: THE CARDS: each row of YtkdpinpmjkomoaaGreatDoorRows.lean that lists a variable, with what it lists TIED to the program's text (the seventh form; the later family's looks); each row that meets fmt, with fmt's text TOLD by the authors' own Lean function (tested against real Go, not proved from fmt's source: count such statements apart). THE CARD IS WHAT COUNTS. Prove the row's statement (the work); the ties are given (YtkdpinpmjkomoaaGreatDoorTie.lean); close each card by the builder's one call (the guide's Derived/Test/ToyasCard.lean, 'card_holds'). Laid BY PROGRAM, IN A SANDBOX (cutbox-door.mjs). By AI agents, Wed Nov 11 2026. No macro, syntax, notation, axiom, sorry.
-/
import Derived.Test.YtkdpinpmjkomoaaGreatDoorRows
import GoSem.ClaimSeven
namespace Go.Proofs.YtkdpinpmjkomoaaGreatDoor
namespace Rows

/-- THE TIED CARD OF 'changelinglaw16.RunStrings'. -/
def runStringsCard : Claim7 := { stood := { row := runStringsRow, standIns := [], harness := (true, "c0b9e056dd47ec1ca8491df35406940b72b45a1349c22a6da25690423bc1ebea"), looks := true }, kinds := [], alts := [], laidByText := true, laidKinds := [.data, .pinned], laidTests := true, laidLooks := .later }
def RunStringsCardSaid : Prop := Claim7.holds Tryz.pinned (.plain (OpenSpec.ofChange runStringsSpec)) runStringsCard

/-- THE TIED CARD OF 'changelinglaw16.RunFinal'. -/
def runFinalCard : Claim7 := { stood := { row := runFinalRow, standIns := [], harness := (true, "c0b9e056dd47ec1ca8491df35406940b72b45a1349c22a6da25690423bc1ebea"), looks := true }, kinds := [], alts := [], laidByText := true, laidKinds := [.data, .pinned], laidTests := true, laidLooks := .later }
def RunFinalCardSaid : Prop := Claim7.holds Tryz.pinned (.plain (OpenSpec.ofChange runFinalSpec)) runFinalCard

/-- THE TIED CARD OF 'changelinglaw16.RunBuilds'. -/
def runBuildsCard : Claim7 := { stood := { row := runBuildsRow, standIns := [], harness := (true, "c0b9e056dd47ec1ca8491df35406940b72b45a1349c22a6da25690423bc1ebea"), looks := true }, kinds := [], alts := [], laidByText := true, laidKinds := [.data, .pinned], laidTests := true, laidLooks := .later }
def RunBuildsCardSaid : Prop := Claim7.holds Tryz.pinned (.plain (OpenSpec.ofChange runBuildsSpec)) runBuildsCard

/-- THE TIED CARD OF 'changelinglaw16.RunLoops'. -/
def runLoopsCard : Claim7 := { stood := { row := runLoopsRow, standIns := [], harness := (true, "c0b9e056dd47ec1ca8491df35406940b72b45a1349c22a6da25690423bc1ebea"), looks := true }, kinds := [], alts := [], laidByText := true, laidKinds := [.data, .pinned], laidTests := true, laidLooks := .later }
def RunLoopsCardSaid : Prop := Claim7.holds Tryz.pinned (.plain (OpenSpec.ofChange runLoopsSpec)) runLoopsCard

/-- THE SECOND FORM's CARD OF 'changelinglaw16.RunStrings'. -/
def runStringsUptoCard : Claim7 := { stood := { row := runStringsUptoRow, standIns := [], harness := (true, "c0b9e056dd47ec1ca8491df35406940b72b45a1349c22a6da25690423bc1ebea"), looks := true }, kinds := [], alts := [], laidByText := true, laidKinds := [.data, .pinned], laidTests := true, laidLooks := .later }
def RunStringsUptoCardSaid : Prop := Claim7.holds Tryz.pinned (.plain (OpenSpec.upto runStringsSpec)) runStringsUptoCard

/-- THE SECOND FORM's CARD OF 'changelinglaw16.RunFinal'. -/
def runFinalUptoCard : Claim7 := { stood := { row := runFinalUptoRow, standIns := [], harness := (true, "c0b9e056dd47ec1ca8491df35406940b72b45a1349c22a6da25690423bc1ebea"), looks := true }, kinds := [], alts := [], laidByText := true, laidKinds := [.data, .pinned], laidTests := true, laidLooks := .later }
def RunFinalUptoCardSaid : Prop := Claim7.holds Tryz.pinned (.plain (OpenSpec.upto runFinalSpec)) runFinalUptoCard

/-- THE SECOND FORM's CARD OF 'changelinglaw16.RunBuilds'. -/
def runBuildsUptoCard : Claim7 := { stood := { row := runBuildsUptoRow, standIns := [], harness := (true, "c0b9e056dd47ec1ca8491df35406940b72b45a1349c22a6da25690423bc1ebea"), looks := true }, kinds := [], alts := [], laidByText := true, laidKinds := [.data, .pinned], laidTests := true, laidLooks := .later }
def RunBuildsUptoCardSaid : Prop := Claim7.holds Tryz.pinned (.plain (OpenSpec.upto runBuildsSpec)) runBuildsUptoCard

/-- THE SECOND FORM's CARD OF 'changelinglaw16.RunLoops'. -/
def runLoopsUptoCard : Claim7 := { stood := { row := runLoopsUptoRow, standIns := [], harness := (true, "c0b9e056dd47ec1ca8491df35406940b72b45a1349c22a6da25690423bc1ebea"), looks := true }, kinds := [], alts := [], laidByText := true, laidKinds := [.data, .pinned], laidTests := true, laidLooks := .later }
def RunLoopsUptoCardSaid : Prop := Claim7.holds Tryz.pinned (.plain (OpenSpec.upto runLoopsSpec)) runLoopsUptoCard
end Rows
end Go.Proofs.YtkdpinpmjkomoaaGreatDoor
