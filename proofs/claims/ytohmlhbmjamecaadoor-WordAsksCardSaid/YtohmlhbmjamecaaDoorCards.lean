/-
  DERIVED. GIVEN WITH THE SEED: THE CARDS: each row of YtohmlhbmjamecaaDoorRows.lean that lists a variable, with what it lists TIED to the program's text (the seventh form; the later family's looks); each row that meets fmt, with fmt's text TOLD by the authors' own Lean function (tested against real Go, not proved from fmt's source: count such statements apart). THE CARD IS WHAT COUNTS. Prove the row's statement (the work); the ties are given (YtohmlhbmjamecaaDoorTie.lean); close each card by the builder's one call (the guide's Derived/Test/ToyasCard.lean, 'card_holds'). Laid BY PROGRAM, IN A SANDBOX (cutbox-door.mjs). By AI agents, Wed Nov 11 2026. No macro, syntax, notation, axiom, sorry.
-/
import Derived.Test.YtohmlhbmjamecaaDoorRows
import GoSem.ClaimSeven
namespace Go.Proofs.YtohmlhbmjamecaaDoor
namespace Rows

/-- THE TIED CARD OF 'changelinglaw1.SignAsks'. -/
def signAsksCard : Claim7 := { stood := { row := signAsksRow, standIns := [], harness := (true, "e4afd4fc5a9bd47c6972d75cee9750a44cd2821077830ed641b622e4bafad6da"), looks := false }, kinds := [], alts := [], laidByText := true, laidKinds := [.data, .pinned], laidTests := true, laidLooks := .later }
def SignAsksCardSaid : Prop := Claim7.holds Tryd.pinned (.plain (OpenSpec.ofChange signAsksSpec)) signAsksCard

/-- THE TIED CARD OF 'changelinglaw1.SignBack'. -/
def signBackCard : Claim7 := { stood := { row := signBackRow, standIns := [], harness := (true, "e4afd4fc5a9bd47c6972d75cee9750a44cd2821077830ed641b622e4bafad6da"), looks := false }, kinds := [], alts := [], laidByText := true, laidKinds := [.data, .pinned], laidTests := true, laidLooks := .later }
def SignBackCardSaid : Prop := Claim7.holds Tryd.pinned (.plain (OpenSpec.ofChange signBackSpec)) signBackCard

/-- THE TIED CARD OF 'changelinglaw1.SignBad'. -/
def signBadCard : Claim7 := { stood := { row := signBadRow, standIns := [], harness := (true, "e4afd4fc5a9bd47c6972d75cee9750a44cd2821077830ed641b622e4bafad6da"), looks := false }, kinds := [], alts := [], laidByText := true, laidKinds := [.data, .pinned], laidTests := true, laidLooks := .later }
def SignBadCardSaid : Prop := Claim7.holds Tryd.pinned (.plain (OpenSpec.ofChange signBadSpec)) signBadCard

/-- THE TIED CARD OF 'changelinglaw1.SignNames'. -/
def signNamesCard : Claim7 := { stood := { row := signNamesRow, standIns := [], harness := (true, "e4afd4fc5a9bd47c6972d75cee9750a44cd2821077830ed641b622e4bafad6da"), looks := false }, kinds := [], alts := [], laidByText := true, laidKinds := [.data, .pinned], laidTests := true, laidLooks := .later }
def SignNamesCardSaid : Prop := Claim7.holds Tryd.pinned (.plain (OpenSpec.ofChange signNamesSpec)) signNamesCard

/-- THE TIED CARD OF 'changelinglaw1.SignEscapes'. -/
def signEscapesCard : Claim7 := { stood := { row := signEscapesRow, standIns := [], harness := (true, "e4afd4fc5a9bd47c6972d75cee9750a44cd2821077830ed641b622e4bafad6da"), looks := false }, kinds := [], alts := [], laidByText := true, laidKinds := [.data, .pinned], laidTests := true, laidLooks := .later }
def SignEscapesCardSaid : Prop := Claim7.holds Tryd.pinned (.plain (OpenSpec.ofChange signEscapesSpec)) signEscapesCard

/-- THE TIED CARD OF 'changelinglaw2.WordAsks'. -/
def wordAsksCard : Claim7 := { stood := { row := wordAsksRow, standIns := [], harness := (true, "e4afd4fc5a9bd47c6972d75cee9750a44cd2821077830ed641b622e4bafad6da"), looks := false }, kinds := [], alts := [], laidByText := true, laidKinds := [.data, .pinned], laidTests := true, laidLooks := .later }
def WordAsksCardSaid : Prop := Claim7.holds Tryd.pinned (.plain (OpenSpec.ofChange wordAsksSpec)) wordAsksCard

/-- THE TIED CARD OF 'changelinglaw2.WordParts'. -/
def wordPartsCard : Claim7 := { stood := { row := wordPartsRow, standIns := [], harness := (true, "e4afd4fc5a9bd47c6972d75cee9750a44cd2821077830ed641b622e4bafad6da"), looks := false }, kinds := [], alts := [], laidByText := true, laidKinds := [.data, .pinned], laidTests := true, laidLooks := .later }
def WordPartsCardSaid : Prop := Claim7.holds Tryd.pinned (.plain (OpenSpec.ofChange wordPartsSpec)) wordPartsCard

/-- THE TIED CARD OF 'changelinglaw2.WordBlanks'. -/
def wordBlanksCard : Claim7 := { stood := { row := wordBlanksRow, standIns := [], harness := (true, "e4afd4fc5a9bd47c6972d75cee9750a44cd2821077830ed641b622e4bafad6da"), looks := false }, kinds := [], alts := [], laidByText := true, laidKinds := [.data, .pinned], laidTests := true, laidLooks := .later }
def WordBlanksCardSaid : Prop := Claim7.holds Tryd.pinned (.plain (OpenSpec.ofChange wordBlanksSpec)) wordBlanksCard

/-- THE TIED CARD OF 'changelinglaw2.WordSigns'. -/
def wordSignsCard : Claim7 := { stood := { row := wordSignsRow, standIns := [], harness := (true, "e4afd4fc5a9bd47c6972d75cee9750a44cd2821077830ed641b622e4bafad6da"), looks := false }, kinds := [], alts := [], laidByText := true, laidKinds := [.data, .pinned], laidTests := true, laidLooks := .later }
def WordSignsCardSaid : Prop := Claim7.holds Tryd.pinned (.plain (OpenSpec.ofChange wordSignsSpec)) wordSignsCard

/-- THE TIED CARD OF 'changelinglaw2.WordTexts'. -/
def wordTextsCard : Claim7 := { stood := { row := wordTextsRow, standIns := [], harness := (true, "e4afd4fc5a9bd47c6972d75cee9750a44cd2821077830ed641b622e4bafad6da"), looks := false }, kinds := [], alts := [], laidByText := true, laidKinds := [.data, .pinned], laidTests := true, laidLooks := .later }
def WordTextsCardSaid : Prop := Claim7.holds Tryd.pinned (.plain (OpenSpec.ofChange wordTextsSpec)) wordTextsCard

/-- THE TIED CARD OF 'changelinglaw2.WordNotes'. -/
def wordNotesCard : Claim7 := { stood := { row := wordNotesRow, standIns := [], harness := (true, "e4afd4fc5a9bd47c6972d75cee9750a44cd2821077830ed641b622e4bafad6da"), looks := false }, kinds := [], alts := [], laidByText := true, laidKinds := [.data, .pinned], laidTests := true, laidLooks := .later }
def WordNotesCardSaid : Prop := Claim7.holds Tryd.pinned (.plain (OpenSpec.ofChange wordNotesSpec)) wordNotesCard

/-- THE SECOND FORM's CARD OF 'changelinglaw1.SignAsks'. -/
def signAsksUptoCard : Claim7 := { stood := { row := signAsksUptoRow, standIns := [], harness := (true, "e4afd4fc5a9bd47c6972d75cee9750a44cd2821077830ed641b622e4bafad6da"), looks := false }, kinds := [], alts := [], laidByText := true, laidKinds := [.data, .pinned], laidTests := true, laidLooks := .later }
def SignAsksUptoCardSaid : Prop := Claim7.holds Tryd.pinned (.plain (OpenSpec.upto signAsksSpec)) signAsksUptoCard

/-- THE SECOND FORM's CARD OF 'changelinglaw1.SignBack'. -/
def signBackUptoCard : Claim7 := { stood := { row := signBackUptoRow, standIns := [], harness := (true, "e4afd4fc5a9bd47c6972d75cee9750a44cd2821077830ed641b622e4bafad6da"), looks := false }, kinds := [], alts := [], laidByText := true, laidKinds := [.data, .pinned], laidTests := true, laidLooks := .later }
def SignBackUptoCardSaid : Prop := Claim7.holds Tryd.pinned (.plain (OpenSpec.upto signBackSpec)) signBackUptoCard

/-- THE SECOND FORM's CARD OF 'changelinglaw1.SignBad'. -/
def signBadUptoCard : Claim7 := { stood := { row := signBadUptoRow, standIns := [], harness := (true, "e4afd4fc5a9bd47c6972d75cee9750a44cd2821077830ed641b622e4bafad6da"), looks := false }, kinds := [], alts := [], laidByText := true, laidKinds := [.data, .pinned], laidTests := true, laidLooks := .later }
def SignBadUptoCardSaid : Prop := Claim7.holds Tryd.pinned (.plain (OpenSpec.upto signBadSpec)) signBadUptoCard

/-- THE SECOND FORM's CARD OF 'changelinglaw1.SignNames'. -/
def signNamesUptoCard : Claim7 := { stood := { row := signNamesUptoRow, standIns := [], harness := (true, "e4afd4fc5a9bd47c6972d75cee9750a44cd2821077830ed641b622e4bafad6da"), looks := false }, kinds := [], alts := [], laidByText := true, laidKinds := [.data, .pinned], laidTests := true, laidLooks := .later }
def SignNamesUptoCardSaid : Prop := Claim7.holds Tryd.pinned (.plain (OpenSpec.upto signNamesSpec)) signNamesUptoCard

/-- THE SECOND FORM's CARD OF 'changelinglaw1.SignEscapes'. -/
def signEscapesUptoCard : Claim7 := { stood := { row := signEscapesUptoRow, standIns := [], harness := (true, "e4afd4fc5a9bd47c6972d75cee9750a44cd2821077830ed641b622e4bafad6da"), looks := false }, kinds := [], alts := [], laidByText := true, laidKinds := [.data, .pinned], laidTests := true, laidLooks := .later }
def SignEscapesUptoCardSaid : Prop := Claim7.holds Tryd.pinned (.plain (OpenSpec.upto signEscapesSpec)) signEscapesUptoCard

/-- THE SECOND FORM's CARD OF 'changelinglaw2.WordAsks'. -/
def wordAsksUptoCard : Claim7 := { stood := { row := wordAsksUptoRow, standIns := [], harness := (true, "e4afd4fc5a9bd47c6972d75cee9750a44cd2821077830ed641b622e4bafad6da"), looks := false }, kinds := [], alts := [], laidByText := true, laidKinds := [.data, .pinned], laidTests := true, laidLooks := .later }
def WordAsksUptoCardSaid : Prop := Claim7.holds Tryd.pinned (.plain (OpenSpec.upto wordAsksSpec)) wordAsksUptoCard

/-- THE SECOND FORM's CARD OF 'changelinglaw2.WordParts'. -/
def wordPartsUptoCard : Claim7 := { stood := { row := wordPartsUptoRow, standIns := [], harness := (true, "e4afd4fc5a9bd47c6972d75cee9750a44cd2821077830ed641b622e4bafad6da"), looks := false }, kinds := [], alts := [], laidByText := true, laidKinds := [.data, .pinned], laidTests := true, laidLooks := .later }
def WordPartsUptoCardSaid : Prop := Claim7.holds Tryd.pinned (.plain (OpenSpec.upto wordPartsSpec)) wordPartsUptoCard

/-- THE SECOND FORM's CARD OF 'changelinglaw2.WordBlanks'. -/
def wordBlanksUptoCard : Claim7 := { stood := { row := wordBlanksUptoRow, standIns := [], harness := (true, "e4afd4fc5a9bd47c6972d75cee9750a44cd2821077830ed641b622e4bafad6da"), looks := false }, kinds := [], alts := [], laidByText := true, laidKinds := [.data, .pinned], laidTests := true, laidLooks := .later }
def WordBlanksUptoCardSaid : Prop := Claim7.holds Tryd.pinned (.plain (OpenSpec.upto wordBlanksSpec)) wordBlanksUptoCard

/-- THE SECOND FORM's CARD OF 'changelinglaw2.WordSigns'. -/
def wordSignsUptoCard : Claim7 := { stood := { row := wordSignsUptoRow, standIns := [], harness := (true, "e4afd4fc5a9bd47c6972d75cee9750a44cd2821077830ed641b622e4bafad6da"), looks := false }, kinds := [], alts := [], laidByText := true, laidKinds := [.data, .pinned], laidTests := true, laidLooks := .later }
def WordSignsUptoCardSaid : Prop := Claim7.holds Tryd.pinned (.plain (OpenSpec.upto wordSignsSpec)) wordSignsUptoCard

/-- THE SECOND FORM's CARD OF 'changelinglaw2.WordTexts'. -/
def wordTextsUptoCard : Claim7 := { stood := { row := wordTextsUptoRow, standIns := [], harness := (true, "e4afd4fc5a9bd47c6972d75cee9750a44cd2821077830ed641b622e4bafad6da"), looks := false }, kinds := [], alts := [], laidByText := true, laidKinds := [.data, .pinned], laidTests := true, laidLooks := .later }
def WordTextsUptoCardSaid : Prop := Claim7.holds Tryd.pinned (.plain (OpenSpec.upto wordTextsSpec)) wordTextsUptoCard

/-- THE SECOND FORM's CARD OF 'changelinglaw2.WordNotes'. -/
def wordNotesUptoCard : Claim7 := { stood := { row := wordNotesUptoRow, standIns := [], harness := (true, "e4afd4fc5a9bd47c6972d75cee9750a44cd2821077830ed641b622e4bafad6da"), looks := false }, kinds := [], alts := [], laidByText := true, laidKinds := [.data, .pinned], laidTests := true, laidLooks := .later }
def WordNotesUptoCardSaid : Prop := Claim7.holds Tryd.pinned (.plain (OpenSpec.upto wordNotesSpec)) wordNotesUptoCard
end Rows
end Go.Proofs.YtohmlhbmjamecaaDoor
