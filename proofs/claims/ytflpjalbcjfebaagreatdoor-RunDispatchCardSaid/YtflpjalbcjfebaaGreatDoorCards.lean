/-
  DERIVED. GIVEN WITH THE SEED: THE CARDS: each row of YtflpjalbcjfebaaGreatDoorRows.lean that lists a variable, with what it lists TIED to the program's text (the seventh form; the later family's looks); each row that meets fmt, with fmt's text TOLD by the authors' own Lean function (tested against real Go, not proved from fmt's source: count such statements apart). THE CARD IS WHAT COUNTS. Prove the row's statement (the work); the ties are given (YtflpjalbcjfebaaGreatDoorTie.lean); close each card by the builder's one call (the guide's Derived/Test/ToyasCard.lean, 'card_holds'). Laid BY PROGRAM, IN A SANDBOX (cutbox-door.mjs). By AI agents, Wed Nov 11 2026. No macro, syntax, notation, axiom, sorry.
-/
import Derived.Test.YtflpjalbcjfebaaGreatDoorRows
import GoSem.ClaimSeven
namespace Go.Proofs.YtflpjalbcjfebaaGreatDoor
namespace Rows

/-- THE TIED CARD OF 'changelinglaw16.RunStrings'. -/
def runStringsCard : Claim7 := { stood := { row := runStringsRow, standIns := [], harness := (true, "5d0393c382ca1f05f5d5da579fc63a9a7bcd2f4fe49291cc97d8e21875accc01"), looks := true }, kinds := [], alts := [], laidByText := true, laidKinds := [.data, .pinned], laidTests := true, laidLooks := .later }
def RunStringsCardSaid : Prop := Claim7.holds Tryz.pinned (.plain (OpenSpec.ofChange runStringsSpec)) runStringsCard

/-- THE TIED CARD OF 'changelinglaw16.RunFinal'. -/
def runFinalCard : Claim7 := { stood := { row := runFinalRow, standIns := [], harness := (true, "5d0393c382ca1f05f5d5da579fc63a9a7bcd2f4fe49291cc97d8e21875accc01"), looks := true }, kinds := [], alts := [], laidByText := true, laidKinds := [.data, .pinned], laidTests := true, laidLooks := .later }
def RunFinalCardSaid : Prop := Claim7.holds Tryz.pinned (.plain (OpenSpec.ofChange runFinalSpec)) runFinalCard

/-- THE TIED CARD OF 'changelinglaw16.RunDispatch'. -/
def runDispatchCard : Claim7 := { stood := { row := runDispatchRow, standIns := [], harness := (true, "5d0393c382ca1f05f5d5da579fc63a9a7bcd2f4fe49291cc97d8e21875accc01"), looks := true }, kinds := [], alts := [], laidByText := true, laidKinds := [.data, .pinned], laidTests := true, laidLooks := .later }
def RunDispatchCardSaid : Prop := Claim7.holds Tryz.pinned (.plain (OpenSpec.ofChange runDispatchSpec)) runDispatchCard

/-- THE TIED CARD OF 'changelinglaw16.RunBuilds'. -/
def runBuildsCard : Claim7 := { stood := { row := runBuildsRow, standIns := [], harness := (true, "5d0393c382ca1f05f5d5da579fc63a9a7bcd2f4fe49291cc97d8e21875accc01"), looks := true }, kinds := [], alts := [], laidByText := true, laidKinds := [.data, .pinned], laidTests := true, laidLooks := .later }
def RunBuildsCardSaid : Prop := Claim7.holds Tryz.pinned (.plain (OpenSpec.ofChange runBuildsSpec)) runBuildsCard

/-- THE TIED CARD OF 'changelinglaw16.RunFaults'. -/
def runFaultsCard : Claim7 := { stood := { row := runFaultsRow, standIns := [], harness := (true, "5d0393c382ca1f05f5d5da579fc63a9a7bcd2f4fe49291cc97d8e21875accc01"), looks := true }, kinds := [], alts := [], laidByText := true, laidKinds := [.data, .pinned], laidTests := true, laidLooks := .later }
def RunFaultsCardSaid : Prop := Claim7.holds Tryz.pinned (.plain (OpenSpec.ofChange runFaultsSpec)) runFaultsCard

/-- THE TIED CARD OF 'changelinglaw16.RunLoops'. -/
def runLoopsCard : Claim7 := { stood := { row := runLoopsRow, standIns := [], harness := (true, "5d0393c382ca1f05f5d5da579fc63a9a7bcd2f4fe49291cc97d8e21875accc01"), looks := true }, kinds := [], alts := [], laidByText := true, laidKinds := [.data, .pinned], laidTests := true, laidLooks := .later }
def RunLoopsCardSaid : Prop := Claim7.holds Tryz.pinned (.plain (OpenSpec.ofChange runLoopsSpec)) runLoopsCard

/-- THE SECOND FORM's CARD OF 'changelinglaw16.RunStrings'. -/
def runStringsUptoCard : Claim7 := { stood := { row := runStringsUptoRow, standIns := [], harness := (true, "5d0393c382ca1f05f5d5da579fc63a9a7bcd2f4fe49291cc97d8e21875accc01"), looks := true }, kinds := [], alts := [], laidByText := true, laidKinds := [.data, .pinned], laidTests := true, laidLooks := .later }
def RunStringsUptoCardSaid : Prop := Claim7.holds Tryz.pinned (.plain (OpenSpec.upto runStringsSpec)) runStringsUptoCard

/-- THE SECOND FORM's CARD OF 'changelinglaw16.RunFinal'. -/
def runFinalUptoCard : Claim7 := { stood := { row := runFinalUptoRow, standIns := [], harness := (true, "5d0393c382ca1f05f5d5da579fc63a9a7bcd2f4fe49291cc97d8e21875accc01"), looks := true }, kinds := [], alts := [], laidByText := true, laidKinds := [.data, .pinned], laidTests := true, laidLooks := .later }
def RunFinalUptoCardSaid : Prop := Claim7.holds Tryz.pinned (.plain (OpenSpec.upto runFinalSpec)) runFinalUptoCard

/-- THE SECOND FORM's CARD OF 'changelinglaw16.RunDispatch'. -/
def runDispatchUptoCard : Claim7 := { stood := { row := runDispatchUptoRow, standIns := [], harness := (true, "5d0393c382ca1f05f5d5da579fc63a9a7bcd2f4fe49291cc97d8e21875accc01"), looks := true }, kinds := [], alts := [], laidByText := true, laidKinds := [.data, .pinned], laidTests := true, laidLooks := .later }
def RunDispatchUptoCardSaid : Prop := Claim7.holds Tryz.pinned (.plain (OpenSpec.upto runDispatchSpec)) runDispatchUptoCard

/-- THE SECOND FORM's CARD OF 'changelinglaw16.RunBuilds'. -/
def runBuildsUptoCard : Claim7 := { stood := { row := runBuildsUptoRow, standIns := [], harness := (true, "5d0393c382ca1f05f5d5da579fc63a9a7bcd2f4fe49291cc97d8e21875accc01"), looks := true }, kinds := [], alts := [], laidByText := true, laidKinds := [.data, .pinned], laidTests := true, laidLooks := .later }
def RunBuildsUptoCardSaid : Prop := Claim7.holds Tryz.pinned (.plain (OpenSpec.upto runBuildsSpec)) runBuildsUptoCard

/-- THE SECOND FORM's CARD OF 'changelinglaw16.RunFaults'. -/
def runFaultsUptoCard : Claim7 := { stood := { row := runFaultsUptoRow, standIns := [], harness := (true, "5d0393c382ca1f05f5d5da579fc63a9a7bcd2f4fe49291cc97d8e21875accc01"), looks := true }, kinds := [], alts := [], laidByText := true, laidKinds := [.data, .pinned], laidTests := true, laidLooks := .later }
def RunFaultsUptoCardSaid : Prop := Claim7.holds Tryz.pinned (.plain (OpenSpec.upto runFaultsSpec)) runFaultsUptoCard

/-- THE SECOND FORM's CARD OF 'changelinglaw16.RunLoops'. -/
def runLoopsUptoCard : Claim7 := { stood := { row := runLoopsUptoRow, standIns := [], harness := (true, "5d0393c382ca1f05f5d5da579fc63a9a7bcd2f4fe49291cc97d8e21875accc01"), looks := true }, kinds := [], alts := [], laidByText := true, laidKinds := [.data, .pinned], laidTests := true, laidLooks := .later }
def RunLoopsUptoCardSaid : Prop := Claim7.holds Tryz.pinned (.plain (OpenSpec.upto runLoopsSpec)) runLoopsUptoCard
end Rows
end Go.Proofs.YtflpjalbcjfebaaGreatDoor
