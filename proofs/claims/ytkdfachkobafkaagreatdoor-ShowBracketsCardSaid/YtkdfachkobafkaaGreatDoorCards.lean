/-
  DERIVED. GIVEN WITH THE SEED: THE CARDS: each row of YtkdfachkobafkaaGreatDoorRows.lean that lists a variable, with what it lists TIED to the program's text (the seventh form; the later family's looks); each row that meets fmt, with fmt's text TOLD by the authors' own Lean function (tested against real Go, not proved from fmt's source: count such statements apart). THE CARD IS WHAT COUNTS. Prove the row's statement (the work); the ties are given (YtkdfachkobafkaaGreatDoorTie.lean); close each card by the builder's one call (the guide's Derived/Test/ToyasCard.lean, 'card_holds'). Laid BY PROGRAM, IN A SANDBOX (cutbox-door.mjs). By AI agents, Wed Nov 11 2026. No macro, syntax, notation, axiom, sorry.
-/
import Derived.Test.YtkdfachkobafkaaGreatDoorRows
import GoSem.ClaimSeven
namespace Go.Proofs.YtkdfachkobafkaaGreatDoor
namespace Rows

/-- THE TIED CARD OF 'changelinglaw5.ShowAsks'. -/
def showAsksCard : Claim7 := { stood := { row := showAsksRow, standIns := [], harness := (true, "a81a24b8e373f0a640f6926106dfbb57e42f830719435119976ca9ed3411a929"), looks := true }, kinds := [], alts := [], laidByText := true, laidKinds := [.data, .data, .data, .data, .sentinel, .sentinel, .pinned], laidTests := true, laidLooks := .later }
def ShowAsksCardSaid : Prop := Claim7.holds Tryz.pinned (.plain (OpenSpec.ofChange showAsksSpec)) showAsksCard

/-- THE TIED CARD OF 'changelinglaw5.ShowBrackets'. -/
def showBracketsCard : Claim7 := { stood := { row := showBracketsRow, standIns := [], harness := (true, "a81a24b8e373f0a640f6926106dfbb57e42f830719435119976ca9ed3411a929"), looks := true }, kinds := [], alts := [], laidByText := true, laidKinds := [.data, .data, .data, .data, .sentinel, .sentinel, .pinned], laidTests := true, laidLooks := .later }
def ShowBracketsCardSaid : Prop := Claim7.holds Tryz.pinned (.plain (OpenSpec.ofChange showBracketsSpec)) showBracketsCard

/-- THE TIED CARD OF 'changelinglaw5.ShowSteps'. -/
def showStepsCard : Claim7 := { stood := { row := showStepsRow, standIns := [], harness := (true, "a81a24b8e373f0a640f6926106dfbb57e42f830719435119976ca9ed3411a929"), looks := true }, kinds := [], alts := [], laidByText := true, laidKinds := [.data, .data, .data, .data, .sentinel, .sentinel, .pinned], laidTests := true, laidLooks := .later }
def ShowStepsCardSaid : Prop := Claim7.holds Tryz.pinned (.plain (OpenSpec.ofChange showStepsSpec)) showStepsCard

/-- THE TIED CARD OF 'changelinglaw5.ShowTwice'. -/
def showTwiceCard : Claim7 := { stood := { row := showTwiceRow, standIns := [], harness := (true, "a81a24b8e373f0a640f6926106dfbb57e42f830719435119976ca9ed3411a929"), looks := true }, kinds := [], alts := [], laidByText := true, laidKinds := [.data, .data, .data, .data, .sentinel, .sentinel, .pinned], laidTests := true, laidLooks := .later }
def ShowTwiceCardSaid : Prop := Claim7.holds Tryz.pinned (.plain (OpenSpec.ofChange showTwiceSpec)) showTwiceCard

/-- THE TIED CARD OF 'changelinglaw5.ShowTexts'. -/
def showTextsCard : Claim7 := { stood := { row := showTextsRow, standIns := [], harness := (true, "a81a24b8e373f0a640f6926106dfbb57e42f830719435119976ca9ed3411a929"), looks := true }, kinds := [], alts := [], laidByText := true, laidKinds := [.data, .data, .data, .data, .sentinel, .sentinel, .pinned], laidTests := true, laidLooks := .later }
def ShowTextsCardSaid : Prop := Claim7.holds Tryz.pinned (.plain (OpenSpec.ofChange showTextsSpec)) showTextsCard

/-- THE SECOND FORM's CARD OF 'changelinglaw5.ShowAsks'. -/
def showAsksUptoCard : Claim7 := { stood := { row := showAsksUptoRow, standIns := [], harness := (true, "a81a24b8e373f0a640f6926106dfbb57e42f830719435119976ca9ed3411a929"), looks := true }, kinds := [], alts := [], laidByText := true, laidKinds := [.data, .data, .data, .data, .sentinel, .sentinel, .pinned], laidTests := true, laidLooks := .later }
def ShowAsksUptoCardSaid : Prop := Claim7.holds Tryz.pinned (.plain (OpenSpec.upto showAsksSpec)) showAsksUptoCard

/-- THE SECOND FORM's CARD OF 'changelinglaw5.ShowBrackets'. -/
def showBracketsUptoCard : Claim7 := { stood := { row := showBracketsUptoRow, standIns := [], harness := (true, "a81a24b8e373f0a640f6926106dfbb57e42f830719435119976ca9ed3411a929"), looks := true }, kinds := [], alts := [], laidByText := true, laidKinds := [.data, .data, .data, .data, .sentinel, .sentinel, .pinned], laidTests := true, laidLooks := .later }
def ShowBracketsUptoCardSaid : Prop := Claim7.holds Tryz.pinned (.plain (OpenSpec.upto showBracketsSpec)) showBracketsUptoCard

/-- THE SECOND FORM's CARD OF 'changelinglaw5.ShowSteps'. -/
def showStepsUptoCard : Claim7 := { stood := { row := showStepsUptoRow, standIns := [], harness := (true, "a81a24b8e373f0a640f6926106dfbb57e42f830719435119976ca9ed3411a929"), looks := true }, kinds := [], alts := [], laidByText := true, laidKinds := [.data, .data, .data, .data, .sentinel, .sentinel, .pinned], laidTests := true, laidLooks := .later }
def ShowStepsUptoCardSaid : Prop := Claim7.holds Tryz.pinned (.plain (OpenSpec.upto showStepsSpec)) showStepsUptoCard

/-- THE SECOND FORM's CARD OF 'changelinglaw5.ShowTwice'. -/
def showTwiceUptoCard : Claim7 := { stood := { row := showTwiceUptoRow, standIns := [], harness := (true, "a81a24b8e373f0a640f6926106dfbb57e42f830719435119976ca9ed3411a929"), looks := true }, kinds := [], alts := [], laidByText := true, laidKinds := [.data, .data, .data, .data, .sentinel, .sentinel, .pinned], laidTests := true, laidLooks := .later }
def ShowTwiceUptoCardSaid : Prop := Claim7.holds Tryz.pinned (.plain (OpenSpec.upto showTwiceSpec)) showTwiceUptoCard

/-- THE SECOND FORM's CARD OF 'changelinglaw5.ShowTexts'. -/
def showTextsUptoCard : Claim7 := { stood := { row := showTextsUptoRow, standIns := [], harness := (true, "a81a24b8e373f0a640f6926106dfbb57e42f830719435119976ca9ed3411a929"), looks := true }, kinds := [], alts := [], laidByText := true, laidKinds := [.data, .data, .data, .data, .sentinel, .sentinel, .pinned], laidTests := true, laidLooks := .later }
def ShowTextsUptoCardSaid : Prop := Claim7.holds Tryz.pinned (.plain (OpenSpec.upto showTextsSpec)) showTextsUptoCard
end Rows
end Go.Proofs.YtkdfachkobafkaaGreatDoor
