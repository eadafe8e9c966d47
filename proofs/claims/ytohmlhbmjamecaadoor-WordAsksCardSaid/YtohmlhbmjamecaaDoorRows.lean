/-
  NARROWER THAN 'FOR EVERY INPUT', by the rows' own cells (each row's printed sentence says how): SignAsks: laid · SignBack: laid · SignBad: laid · SignNames: laid · SignEscapes: laid · WordAsks: laid · WordParts: laid · WordBlanks: laid · WordSigns: laid · WordTexts: laid · WordNotes: laid.
  DERIVED. THE GIVEN ROWS OF THIS SEAT. 11 by the template 'for every input the law returns true; each argument reads behind the call as it read before'; 0 by the template 'total and deterministic' (their statements: YtohmlhbmjamecaaDoorTotals.lean).
  GIVEN WITH THE SEED: the statements are not yours to turn. If you find one false, say at which input.
  Laid BY PROGRAM, IN A SANDBOX (cutbox-rows.mjs): the forced cells as the released guide's own fill.sh prints them over the translation 63c1692cdf112dcf… (all of the seat's roots in one cut). By AI agents, Wed Nov 11 2026. No macro, syntax, notation, axiom, sorry.
-/
import Derived.Test.YtohmlhbmjamecaaDoorChecked
import GoSem.PinnedTables
import GoSem.Claim
import GoSem.ClaimJoined
import GoSem.ClaimMapViews
import Derived.JoinedTies
import Derived.KernelRfl
namespace Go.Proofs.YtohmlhbmjamecaaDoor
/- THE CELL 'sum', in the pinned program and in every row, IS THE sha256 OF THE DUMP (.gsa) THAT YtohmlhbmjamecaaDoorProg.lean LOADS. Nothing in Lean hashes anything: it is a label: what it is worth is what the hold of that sum in a sandbox is worth. -/
noncomputable def Tryd.pinned : Pinned := { name := "ytohmlhbmjamecaadoor", sum := "63c1692cdf112dcfa39104b763a3985ba28e859f3e57dab0f3fbe5447bb3559d", checked := Tryd.checked }
namespace Rows
def none {H : Type} : Left H := { results := [], args := [] }

/- WHAT THE LISTED PACKAGE-LEVEL VARIABLES READ AS WHEN THE CALL BEGINS. Each datum BY PROGRAM (the guide's laid-datum.mjs) off the statement by which the dump's own 'gosem.cut.vars' lays the variable. In a bare row this is a premise. The card (YtohmlhbmjamecaaDoorCards.lean) ties it to the program's text. -/
def laid_unicode_utf8_acceptRanges {H : Type} : DataW H := .agg [.agg [.lit (.int .u8 128), .lit (.int .u8 191)], .agg [.lit (.int .u8 160), .lit (.int .u8 191)], .agg [.lit (.int .u8 128), .lit (.int .u8 159)], .agg [.lit (.int .u8 144), .lit (.int .u8 191)], .agg [.lit (.int .u8 128), .lit (.int .u8 143)], .agg [.lit (.int .u8 0), .lit (.int .u8 0)], .agg [.lit (.int .u8 0), .lit (.int .u8 0)], .agg [.lit (.int .u8 0), .lit (.int .u8 0)], .agg [.lit (.int .u8 0), .lit (.int .u8 0)], .agg [.lit (.int .u8 0), .lit (.int .u8 0)], .agg [.lit (.int .u8 0), .lit (.int .u8 0)], .agg [.lit (.int .u8 0), .lit (.int .u8 0)], .agg [.lit (.int .u8 0), .lit (.int .u8 0)], .agg [.lit (.int .u8 0), .lit (.int .u8 0)], .agg [.lit (.int .u8 0), .lit (.int .u8 0)], .agg [.lit (.int .u8 0), .lit (.int .u8 0)]]
/-- One of Go's own tables, pinned by name: the form's constant. -/
def laid_unicode_utf8_first : DataW Unit := Go.Pinned.utf8First

/-- 'changelinglaw1.SignAsks': WHATEVER THE INPUT: true; the input reads as it did. -/
def signAsksSpec : ChangeSpec := { name := "signAsks", fn := fun _ => fun
  | [d1, d2] => { results := [.lit (.bool true)], args := [d1, d2] }
  | _ => none }
def signAsksRow : OpenClaim := { program := "ytohmlhbmjamecaadoor", sum := "63c1692cdf112dcfa39104b763a3985ba28e859f3e57dab0f3fbe5447bb3559d", func := "changeling/changelinglaw1.SignAsks", spec := "signAsks", inPlace := ["internal/abi.NoEscape"], unfollowed := true, recurses := true, named := ["unicode/utf8.first", "unicode/utf8.acceptRanges"], apart := false, laid := [("unicode/utf8.acceptRanges", laid_unicode_utf8_acceptRanges), ("unicode/utf8.first", laid_unicode_utf8_first)] }
def SignAsksSaid : Prop := signAsksRow.holds Tryd.pinned (OpenSpec.ofChange signAsksSpec)

/-- ITS FALSE NEIGHBOUR: 'it returns false'. Refute it at one input. -/
def signAsksWrong : ChangeSpec := { name := "signAsks", fn := fun _ => fun
  | [d1, d2] => { results := [.lit (.bool false)], args := [d1, d2] }
  | _ => none }
def SignAsksWrongFalsely : Prop := signAsksRow.holds Tryd.pinned (OpenSpec.ofChange signAsksWrong)

/-- 'changelinglaw1.SignBack': WHATEVER THE INPUT: true; the input reads as it did. -/
def signBackSpec : ChangeSpec := { name := "signBack", fn := fun _ => fun
  | [d] => { results := [.lit (.bool true)], args := [d] }
  | _ => none }
def signBackRow : OpenClaim := { program := "ytohmlhbmjamecaadoor", sum := "63c1692cdf112dcfa39104b763a3985ba28e859f3e57dab0f3fbe5447bb3559d", func := "changeling/changelinglaw1.SignBack", spec := "signBack", inPlace := ["internal/abi.NoEscape"], unfollowed := true, recurses := true, named := ["unicode/utf8.first", "unicode/utf8.acceptRanges"], apart := false, laid := [("unicode/utf8.acceptRanges", laid_unicode_utf8_acceptRanges), ("unicode/utf8.first", laid_unicode_utf8_first)] }
def SignBackSaid : Prop := signBackRow.holds Tryd.pinned (OpenSpec.ofChange signBackSpec)

/-- ITS FALSE NEIGHBOUR: 'it returns false'. Refute it at one input. -/
def signBackWrong : ChangeSpec := { name := "signBack", fn := fun _ => fun
  | [d] => { results := [.lit (.bool false)], args := [d] }
  | _ => none }
def SignBackWrongFalsely : Prop := signBackRow.holds Tryd.pinned (OpenSpec.ofChange signBackWrong)

/-- 'changelinglaw1.SignBad': WHATEVER THE INPUT: true; the input reads as it did. -/
def signBadSpec : ChangeSpec := { name := "signBad", fn := fun _ => fun
  | [d] => { results := [.lit (.bool true)], args := [d] }
  | _ => none }
def signBadRow : OpenClaim := { program := "ytohmlhbmjamecaadoor", sum := "63c1692cdf112dcfa39104b763a3985ba28e859f3e57dab0f3fbe5447bb3559d", func := "changeling/changelinglaw1.SignBad", spec := "signBad", inPlace := ["internal/abi.NoEscape"], unfollowed := true, recurses := true, named := ["unicode/utf8.first", "unicode/utf8.acceptRanges"], apart := false, laid := [("unicode/utf8.acceptRanges", laid_unicode_utf8_acceptRanges), ("unicode/utf8.first", laid_unicode_utf8_first)] }
def SignBadSaid : Prop := signBadRow.holds Tryd.pinned (OpenSpec.ofChange signBadSpec)

/-- ITS FALSE NEIGHBOUR: 'it returns false'. Refute it at one input. -/
def signBadWrong : ChangeSpec := { name := "signBad", fn := fun _ => fun
  | [d] => { results := [.lit (.bool false)], args := [d] }
  | _ => none }
def SignBadWrongFalsely : Prop := signBadRow.holds Tryd.pinned (OpenSpec.ofChange signBadWrong)

/-- 'changelinglaw1.SignNames': WHATEVER THE INPUT: true; the input reads as it did. -/
def signNamesSpec : ChangeSpec := { name := "signNames", fn := fun _ => fun
  | [d] => { results := [.lit (.bool true)], args := [d] }
  | _ => none }
def signNamesRow : OpenClaim := { program := "ytohmlhbmjamecaadoor", sum := "63c1692cdf112dcfa39104b763a3985ba28e859f3e57dab0f3fbe5447bb3559d", func := "changeling/changelinglaw1.SignNames", spec := "signNames", inPlace := ["internal/abi.NoEscape"], unfollowed := true, recurses := true, named := ["unicode/utf8.first", "unicode/utf8.acceptRanges"], apart := false, laid := [("unicode/utf8.acceptRanges", laid_unicode_utf8_acceptRanges), ("unicode/utf8.first", laid_unicode_utf8_first)] }
def SignNamesSaid : Prop := signNamesRow.holds Tryd.pinned (OpenSpec.ofChange signNamesSpec)

/-- ITS FALSE NEIGHBOUR: 'it returns false'. Refute it at one input. -/
def signNamesWrong : ChangeSpec := { name := "signNames", fn := fun _ => fun
  | [d] => { results := [.lit (.bool false)], args := [d] }
  | _ => none }
def SignNamesWrongFalsely : Prop := signNamesRow.holds Tryd.pinned (OpenSpec.ofChange signNamesWrong)

/-- 'changelinglaw1.SignEscapes': WHATEVER THE INPUT: true; the input reads as it did. -/
def signEscapesSpec : ChangeSpec := { name := "signEscapes", fn := fun _ => fun
  | [d] => { results := [.lit (.bool true)], args := [d] }
  | _ => none }
def signEscapesRow : OpenClaim := { program := "ytohmlhbmjamecaadoor", sum := "63c1692cdf112dcfa39104b763a3985ba28e859f3e57dab0f3fbe5447bb3559d", func := "changeling/changelinglaw1.SignEscapes", spec := "signEscapes", inPlace := ["internal/abi.NoEscape"], unfollowed := true, recurses := true, named := ["unicode/utf8.first", "unicode/utf8.acceptRanges"], apart := false, laid := [("unicode/utf8.acceptRanges", laid_unicode_utf8_acceptRanges), ("unicode/utf8.first", laid_unicode_utf8_first)] }
def SignEscapesSaid : Prop := signEscapesRow.holds Tryd.pinned (OpenSpec.ofChange signEscapesSpec)

/-- ITS FALSE NEIGHBOUR: 'it returns false'. Refute it at one input. -/
def signEscapesWrong : ChangeSpec := { name := "signEscapes", fn := fun _ => fun
  | [d] => { results := [.lit (.bool false)], args := [d] }
  | _ => none }
def SignEscapesWrongFalsely : Prop := signEscapesRow.holds Tryd.pinned (OpenSpec.ofChange signEscapesWrong)

/-- 'changelinglaw2.WordAsks': WHATEVER THE INPUT: true; the input reads as it did. -/
def wordAsksSpec : ChangeSpec := { name := "wordAsks", fn := fun _ => fun
  | [d] => { results := [.lit (.bool true)], args := [d] }
  | _ => none }
def wordAsksRow : OpenClaim := { program := "ytohmlhbmjamecaadoor", sum := "63c1692cdf112dcfa39104b763a3985ba28e859f3e57dab0f3fbe5447bb3559d", func := "changeling/changelinglaw2.WordAsks", spec := "wordAsks", inPlace := ["internal/bytealg.IndexByteString", "internal/bytealg.IndexString", "internal/abi.NoEscape"], unfollowed := true, recurses := true, named := ["unicode/utf8.first", "unicode/utf8.acceptRanges", "internal/bytealg.MaxLen"], apart := false, laid := [("unicode/utf8.acceptRanges", laid_unicode_utf8_acceptRanges), ("unicode/utf8.first", laid_unicode_utf8_first)] }
def WordAsksSaid : Prop := wordAsksRow.holds Tryd.pinned (OpenSpec.ofChange wordAsksSpec)

/-- ITS FALSE NEIGHBOUR: 'it returns false'. Refute it at one input. -/
def wordAsksWrong : ChangeSpec := { name := "wordAsks", fn := fun _ => fun
  | [d] => { results := [.lit (.bool false)], args := [d] }
  | _ => none }
def WordAsksWrongFalsely : Prop := wordAsksRow.holds Tryd.pinned (OpenSpec.ofChange wordAsksWrong)

/-- 'changelinglaw2.WordParts': WHATEVER THE INPUT: true; the input reads as it did. -/
def wordPartsSpec : ChangeSpec := { name := "wordParts", fn := fun _ => fun
  | [d] => { results := [.lit (.bool true)], args := [d] }
  | _ => none }
def wordPartsRow : OpenClaim := { program := "ytohmlhbmjamecaadoor", sum := "63c1692cdf112dcfa39104b763a3985ba28e859f3e57dab0f3fbe5447bb3559d", func := "changeling/changelinglaw2.WordParts", spec := "wordParts", inPlace := ["internal/bytealg.IndexByteString", "internal/bytealg.IndexString", "internal/abi.NoEscape"], unfollowed := true, recurses := true, named := ["unicode/utf8.first", "unicode/utf8.acceptRanges", "internal/bytealg.MaxLen"], apart := false, laid := [("unicode/utf8.acceptRanges", laid_unicode_utf8_acceptRanges), ("unicode/utf8.first", laid_unicode_utf8_first)] }
def WordPartsSaid : Prop := wordPartsRow.holds Tryd.pinned (OpenSpec.ofChange wordPartsSpec)

/-- ITS FALSE NEIGHBOUR: 'it returns false'. Refute it at one input. -/
def wordPartsWrong : ChangeSpec := { name := "wordParts", fn := fun _ => fun
  | [d] => { results := [.lit (.bool false)], args := [d] }
  | _ => none }
def WordPartsWrongFalsely : Prop := wordPartsRow.holds Tryd.pinned (OpenSpec.ofChange wordPartsWrong)

/-- 'changelinglaw2.WordBlanks': WHATEVER THE INPUT: true; the input reads as it did. -/
def wordBlanksSpec : ChangeSpec := { name := "wordBlanks", fn := fun _ => fun
  | [d1, d2] => { results := [.lit (.bool true)], args := [d1, d2] }
  | _ => none }
def wordBlanksRow : OpenClaim := { program := "ytohmlhbmjamecaadoor", sum := "63c1692cdf112dcfa39104b763a3985ba28e859f3e57dab0f3fbe5447bb3559d", func := "changeling/changelinglaw2.WordBlanks", spec := "wordBlanks", inPlace := ["internal/bytealg.IndexByteString", "internal/bytealg.IndexString", "internal/abi.NoEscape"], unfollowed := true, recurses := true, named := ["unicode/utf8.first", "unicode/utf8.acceptRanges", "internal/bytealg.MaxLen"], apart := false, laid := [("unicode/utf8.acceptRanges", laid_unicode_utf8_acceptRanges), ("unicode/utf8.first", laid_unicode_utf8_first)] }
def WordBlanksSaid : Prop := wordBlanksRow.holds Tryd.pinned (OpenSpec.ofChange wordBlanksSpec)

/-- ITS FALSE NEIGHBOUR: 'it returns false'. Refute it at one input. -/
def wordBlanksWrong : ChangeSpec := { name := "wordBlanks", fn := fun _ => fun
  | [d1, d2] => { results := [.lit (.bool false)], args := [d1, d2] }
  | _ => none }
def WordBlanksWrongFalsely : Prop := wordBlanksRow.holds Tryd.pinned (OpenSpec.ofChange wordBlanksWrong)

/-- 'changelinglaw2.WordSigns': WHATEVER THE INPUT: true; the input reads as it did. -/
def wordSignsSpec : ChangeSpec := { name := "wordSigns", fn := fun _ => fun
  | [d1, d2] => { results := [.lit (.bool true)], args := [d1, d2] }
  | _ => none }
def wordSignsRow : OpenClaim := { program := "ytohmlhbmjamecaadoor", sum := "63c1692cdf112dcfa39104b763a3985ba28e859f3e57dab0f3fbe5447bb3559d", func := "changeling/changelinglaw2.WordSigns", spec := "wordSigns", inPlace := ["internal/bytealg.IndexByteString", "internal/bytealg.IndexString", "internal/abi.NoEscape"], unfollowed := true, recurses := true, named := ["unicode/utf8.first", "unicode/utf8.acceptRanges", "internal/bytealg.MaxLen"], apart := false, laid := [("unicode/utf8.acceptRanges", laid_unicode_utf8_acceptRanges), ("unicode/utf8.first", laid_unicode_utf8_first)] }
def WordSignsSaid : Prop := wordSignsRow.holds Tryd.pinned (OpenSpec.ofChange wordSignsSpec)

/-- ITS FALSE NEIGHBOUR: 'it returns false'. Refute it at one input. -/
def wordSignsWrong : ChangeSpec := { name := "wordSigns", fn := fun _ => fun
  | [d1, d2] => { results := [.lit (.bool false)], args := [d1, d2] }
  | _ => none }
def WordSignsWrongFalsely : Prop := wordSignsRow.holds Tryd.pinned (OpenSpec.ofChange wordSignsWrong)

/-- 'changelinglaw2.WordTexts': WHATEVER THE INPUT: true; the input reads as it did. -/
def wordTextsSpec : ChangeSpec := { name := "wordTexts", fn := fun _ => fun
  | [d] => { results := [.lit (.bool true)], args := [d] }
  | _ => none }
def wordTextsRow : OpenClaim := { program := "ytohmlhbmjamecaadoor", sum := "63c1692cdf112dcfa39104b763a3985ba28e859f3e57dab0f3fbe5447bb3559d", func := "changeling/changelinglaw2.WordTexts", spec := "wordTexts", inPlace := ["internal/bytealg.IndexByteString", "internal/bytealg.IndexString", "internal/abi.NoEscape"], unfollowed := true, recurses := true, named := ["unicode/utf8.first", "unicode/utf8.acceptRanges", "internal/bytealg.MaxLen"], apart := false, laid := [("unicode/utf8.acceptRanges", laid_unicode_utf8_acceptRanges), ("unicode/utf8.first", laid_unicode_utf8_first)] }
def WordTextsSaid : Prop := wordTextsRow.holds Tryd.pinned (OpenSpec.ofChange wordTextsSpec)

/-- ITS FALSE NEIGHBOUR: 'it returns false'. Refute it at one input. -/
def wordTextsWrong : ChangeSpec := { name := "wordTexts", fn := fun _ => fun
  | [d] => { results := [.lit (.bool false)], args := [d] }
  | _ => none }
def WordTextsWrongFalsely : Prop := wordTextsRow.holds Tryd.pinned (OpenSpec.ofChange wordTextsWrong)

/-- 'changelinglaw2.WordNotes': WHATEVER THE INPUT: true; the input reads as it did. -/
def wordNotesSpec : ChangeSpec := { name := "wordNotes", fn := fun _ => fun
  | [d] => { results := [.lit (.bool true)], args := [d] }
  | _ => none }
def wordNotesRow : OpenClaim := { program := "ytohmlhbmjamecaadoor", sum := "63c1692cdf112dcfa39104b763a3985ba28e859f3e57dab0f3fbe5447bb3559d", func := "changeling/changelinglaw2.WordNotes", spec := "wordNotes", inPlace := ["internal/bytealg.IndexByteString", "internal/bytealg.IndexString", "internal/abi.NoEscape"], unfollowed := true, recurses := true, named := ["unicode/utf8.first", "unicode/utf8.acceptRanges", "internal/bytealg.MaxLen"], apart := false, laid := [("unicode/utf8.acceptRanges", laid_unicode_utf8_acceptRanges), ("unicode/utf8.first", laid_unicode_utf8_first)] }
def WordNotesSaid : Prop := wordNotesRow.holds Tryd.pinned (OpenSpec.ofChange wordNotesSpec)

/-- ITS FALSE NEIGHBOUR: 'it returns false'. Refute it at one input. -/
def wordNotesWrong : ChangeSpec := { name := "wordNotes", fn := fun _ => fun
  | [d] => { results := [.lit (.bool false)], args := [d] }
  | _ => none }
def WordNotesWrongFalsely : Prop := wordNotesRow.holds Tryd.pinned (OpenSpec.ofChange wordNotesWrong)

/- THE SECOND FORM. 'bulk': how many values and letters a reading holds, each counted each time it is reached (what is shared counts as often as it is met; a slice's spare places count too). A statement '..UptoSaid' is the law's where the arguments, and the package variables that the reading takes, are together of bulk at most 1048576: NARROWER than '..Said'. Prove '..Said' where nothing that the law and all that it calls make is longer than what came in: it says more and counts as full. Else prove '..UptoSaid'. A law counts once. -/
mutual
def uptoBulk {H : Type} : DataW H → Nat
  | .lit (.string bytes) => bytes.length + 1
  | .lit _ => 1
  | .nil => 1
  | .ptr d => uptoBulk d + 1
  | .slice elems spare => uptoBulkAll elems + uptoBulkAll spare + 1
  | .agg parts => uptoBulkAll parts + 1
  | .iface _ d => uptoBulk d + 1
  | .map entries => uptoBulkEntries entries + 1
  | .held _ => 1
def uptoBulkAll {H : Type} : List (DataW H) → Nat
  | [] => 0
  | d :: r => uptoBulk d + uptoBulkAll r
def uptoBulkEntries {H : Type} : List (Lit × DataW H) → Nat
  | [] => 0
  | x :: r => uptoBulkEntry x + uptoBulkEntries r
def uptoBulkEntry {H : Type} : Lit × DataW H → Nat
  | (.string bytes, d) => bytes.length + uptoBulk d + 1
  | (_, d) => uptoBulk d + 1
 end
def uptoSmall : (H : Type) → List (DataW H) → Bool := fun _ ds => decide (uptoBulkAll ds ≤ 1048576)
def OpenSpec.upto (s : _root_.Go.ChangeSpec) : _root_.Go.OpenSpec := { _root_.Go.OpenSpec.ofChange s with cond := some uptoSmall }

/-- 'changelinglaw1.SignAsks', WHERE WHAT IT READS IS OF BULK AT MOST 1048576: true; the input reads as it did. -/
def signAsksUptoRow : OpenClaim := { program := "ytohmlhbmjamecaadoor", sum := "63c1692cdf112dcfa39104b763a3985ba28e859f3e57dab0f3fbe5447bb3559d", func := "changeling/changelinglaw1.SignAsks", spec := "signAsks", inPlace := ["internal/abi.NoEscape"], unfollowed := true, recurses := true, named := ["unicode/utf8.first", "unicode/utf8.acceptRanges"], apart := false, laid := [("unicode/utf8.acceptRanges", laid_unicode_utf8_acceptRanges), ("unicode/utf8.first", laid_unicode_utf8_first)], narrowed := true }
def SignAsksUptoSaid : Prop := signAsksUptoRow.holds Tryd.pinned (OpenSpec.upto signAsksSpec)

/-- 'changelinglaw1.SignBack', WHERE WHAT IT READS IS OF BULK AT MOST 1048576: true; the input reads as it did. -/
def signBackUptoRow : OpenClaim := { program := "ytohmlhbmjamecaadoor", sum := "63c1692cdf112dcfa39104b763a3985ba28e859f3e57dab0f3fbe5447bb3559d", func := "changeling/changelinglaw1.SignBack", spec := "signBack", inPlace := ["internal/abi.NoEscape"], unfollowed := true, recurses := true, named := ["unicode/utf8.first", "unicode/utf8.acceptRanges"], apart := false, laid := [("unicode/utf8.acceptRanges", laid_unicode_utf8_acceptRanges), ("unicode/utf8.first", laid_unicode_utf8_first)], narrowed := true }
def SignBackUptoSaid : Prop := signBackUptoRow.holds Tryd.pinned (OpenSpec.upto signBackSpec)

/-- 'changelinglaw1.SignBad', WHERE WHAT IT READS IS OF BULK AT MOST 1048576: true; the input reads as it did. -/
def signBadUptoRow : OpenClaim := { program := "ytohmlhbmjamecaadoor", sum := "63c1692cdf112dcfa39104b763a3985ba28e859f3e57dab0f3fbe5447bb3559d", func := "changeling/changelinglaw1.SignBad", spec := "signBad", inPlace := ["internal/abi.NoEscape"], unfollowed := true, recurses := true, named := ["unicode/utf8.first", "unicode/utf8.acceptRanges"], apart := false, laid := [("unicode/utf8.acceptRanges", laid_unicode_utf8_acceptRanges), ("unicode/utf8.first", laid_unicode_utf8_first)], narrowed := true }
def SignBadUptoSaid : Prop := signBadUptoRow.holds Tryd.pinned (OpenSpec.upto signBadSpec)

/-- 'changelinglaw1.SignNames', WHERE WHAT IT READS IS OF BULK AT MOST 1048576: true; the input reads as it did. -/
def signNamesUptoRow : OpenClaim := { program := "ytohmlhbmjamecaadoor", sum := "63c1692cdf112dcfa39104b763a3985ba28e859f3e57dab0f3fbe5447bb3559d", func := "changeling/changelinglaw1.SignNames", spec := "signNames", inPlace := ["internal/abi.NoEscape"], unfollowed := true, recurses := true, named := ["unicode/utf8.first", "unicode/utf8.acceptRanges"], apart := false, laid := [("unicode/utf8.acceptRanges", laid_unicode_utf8_acceptRanges), ("unicode/utf8.first", laid_unicode_utf8_first)], narrowed := true }
def SignNamesUptoSaid : Prop := signNamesUptoRow.holds Tryd.pinned (OpenSpec.upto signNamesSpec)

/-- 'changelinglaw1.SignEscapes', WHERE WHAT IT READS IS OF BULK AT MOST 1048576: true; the input reads as it did. -/
def signEscapesUptoRow : OpenClaim := { program := "ytohmlhbmjamecaadoor", sum := "63c1692cdf112dcfa39104b763a3985ba28e859f3e57dab0f3fbe5447bb3559d", func := "changeling/changelinglaw1.SignEscapes", spec := "signEscapes", inPlace := ["internal/abi.NoEscape"], unfollowed := true, recurses := true, named := ["unicode/utf8.first", "unicode/utf8.acceptRanges"], apart := false, laid := [("unicode/utf8.acceptRanges", laid_unicode_utf8_acceptRanges), ("unicode/utf8.first", laid_unicode_utf8_first)], narrowed := true }
def SignEscapesUptoSaid : Prop := signEscapesUptoRow.holds Tryd.pinned (OpenSpec.upto signEscapesSpec)

/-- 'changelinglaw2.WordAsks', WHERE WHAT IT READS IS OF BULK AT MOST 1048576: true; the input reads as it did. -/
def wordAsksUptoRow : OpenClaim := { program := "ytohmlhbmjamecaadoor", sum := "63c1692cdf112dcfa39104b763a3985ba28e859f3e57dab0f3fbe5447bb3559d", func := "changeling/changelinglaw2.WordAsks", spec := "wordAsks", inPlace := ["internal/bytealg.IndexByteString", "internal/bytealg.IndexString", "internal/abi.NoEscape"], unfollowed := true, recurses := true, named := ["unicode/utf8.first", "unicode/utf8.acceptRanges", "internal/bytealg.MaxLen"], apart := false, laid := [("unicode/utf8.acceptRanges", laid_unicode_utf8_acceptRanges), ("unicode/utf8.first", laid_unicode_utf8_first)], narrowed := true }
def WordAsksUptoSaid : Prop := wordAsksUptoRow.holds Tryd.pinned (OpenSpec.upto wordAsksSpec)

/-- 'changelinglaw2.WordParts', WHERE WHAT IT READS IS OF BULK AT MOST 1048576: true; the input reads as it did. -/
def wordPartsUptoRow : OpenClaim := { program := "ytohmlhbmjamecaadoor", sum := "63c1692cdf112dcfa39104b763a3985ba28e859f3e57dab0f3fbe5447bb3559d", func := "changeling/changelinglaw2.WordParts", spec := "wordParts", inPlace := ["internal/bytealg.IndexByteString", "internal/bytealg.IndexString", "internal/abi.NoEscape"], unfollowed := true, recurses := true, named := ["unicode/utf8.first", "unicode/utf8.acceptRanges", "internal/bytealg.MaxLen"], apart := false, laid := [("unicode/utf8.acceptRanges", laid_unicode_utf8_acceptRanges), ("unicode/utf8.first", laid_unicode_utf8_first)], narrowed := true }
def WordPartsUptoSaid : Prop := wordPartsUptoRow.holds Tryd.pinned (OpenSpec.upto wordPartsSpec)

/-- 'changelinglaw2.WordBlanks', WHERE WHAT IT READS IS OF BULK AT MOST 1048576: true; the input reads as it did. -/
def wordBlanksUptoRow : OpenClaim := { program := "ytohmlhbmjamecaadoor", sum := "63c1692cdf112dcfa39104b763a3985ba28e859f3e57dab0f3fbe5447bb3559d", func := "changeling/changelinglaw2.WordBlanks", spec := "wordBlanks", inPlace := ["internal/bytealg.IndexByteString", "internal/bytealg.IndexString", "internal/abi.NoEscape"], unfollowed := true, recurses := true, named := ["unicode/utf8.first", "unicode/utf8.acceptRanges", "internal/bytealg.MaxLen"], apart := false, laid := [("unicode/utf8.acceptRanges", laid_unicode_utf8_acceptRanges), ("unicode/utf8.first", laid_unicode_utf8_first)], narrowed := true }
def WordBlanksUptoSaid : Prop := wordBlanksUptoRow.holds Tryd.pinned (OpenSpec.upto wordBlanksSpec)

/-- 'changelinglaw2.WordSigns', WHERE WHAT IT READS IS OF BULK AT MOST 1048576: true; the input reads as it did. -/
def wordSignsUptoRow : OpenClaim := { program := "ytohmlhbmjamecaadoor", sum := "63c1692cdf112dcfa39104b763a3985ba28e859f3e57dab0f3fbe5447bb3559d", func := "changeling/changelinglaw2.WordSigns", spec := "wordSigns", inPlace := ["internal/bytealg.IndexByteString", "internal/bytealg.IndexString", "internal/abi.NoEscape"], unfollowed := true, recurses := true, named := ["unicode/utf8.first", "unicode/utf8.acceptRanges", "internal/bytealg.MaxLen"], apart := false, laid := [("unicode/utf8.acceptRanges", laid_unicode_utf8_acceptRanges), ("unicode/utf8.first", laid_unicode_utf8_first)], narrowed := true }
def WordSignsUptoSaid : Prop := wordSignsUptoRow.holds Tryd.pinned (OpenSpec.upto wordSignsSpec)

/-- 'changelinglaw2.WordTexts', WHERE WHAT IT READS IS OF BULK AT MOST 1048576: true; the input reads as it did. -/
def wordTextsUptoRow : OpenClaim := { program := "ytohmlhbmjamecaadoor", sum := "63c1692cdf112dcfa39104b763a3985ba28e859f3e57dab0f3fbe5447bb3559d", func := "changeling/changelinglaw2.WordTexts", spec := "wordTexts", inPlace := ["internal/bytealg.IndexByteString", "internal/bytealg.IndexString", "internal/abi.NoEscape"], unfollowed := true, recurses := true, named := ["unicode/utf8.first", "unicode/utf8.acceptRanges", "internal/bytealg.MaxLen"], apart := false, laid := [("unicode/utf8.acceptRanges", laid_unicode_utf8_acceptRanges), ("unicode/utf8.first", laid_unicode_utf8_first)], narrowed := true }
def WordTextsUptoSaid : Prop := wordTextsUptoRow.holds Tryd.pinned (OpenSpec.upto wordTextsSpec)

/-- 'changelinglaw2.WordNotes', WHERE WHAT IT READS IS OF BULK AT MOST 1048576: true; the input reads as it did. -/
def wordNotesUptoRow : OpenClaim := { program := "ytohmlhbmjamecaadoor", sum := "63c1692cdf112dcfa39104b763a3985ba28e859f3e57dab0f3fbe5447bb3559d", func := "changeling/changelinglaw2.WordNotes", spec := "wordNotes", inPlace := ["internal/bytealg.IndexByteString", "internal/bytealg.IndexString", "internal/abi.NoEscape"], unfollowed := true, recurses := true, named := ["unicode/utf8.first", "unicode/utf8.acceptRanges", "internal/bytealg.MaxLen"], apart := false, laid := [("unicode/utf8.acceptRanges", laid_unicode_utf8_acceptRanges), ("unicode/utf8.first", laid_unicode_utf8_first)], narrowed := true }
def WordNotesUptoSaid : Prop := wordNotesUptoRow.holds Tryd.pinned (OpenSpec.upto wordNotesSpec)

end Rows
end Go.Proofs.YtohmlhbmjamecaaDoor
