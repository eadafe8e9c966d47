/- What each row of this seat lists of the decoder's two tables, and a world that meets it. -/
import Derived.Test.YtkdfachkobafkaaGreatDoorCards
import Derived.Test.YtkdfachkobafkaaGreatDoorTie
import Derived.ProofKit
import Derived.OpenShut
import Derived.ShutString
import Derived.Lib.LaidIn
import Derived.Lib.LaidU8
import Derived.Deep.DeepHandedRow
import Derived.Deep.DeepWitnessRowRef
import Derived.SizedLaws
import Derived.SevenTiedAt
namespace Go.Proofs.YtkdfachkobafkaaGreatDoor
open Go.ChangeShapes Go.WideShapes Go.ChangeAt Go.RowKit Go.Lib

theorem own_none : ownKnob Tryz.prog.godebug = none := by kernel_rfl
/-- The list of each row. -/
def laidL : List (String × DataW Unit) := [("math/bits.deBruijn32tab", Rows.laid_math_bits_deBruijn32tab), ("math/bits.deBruijn64tab", Rows.laid_math_bits_deBruijn64tab), ("internal/strconv.uint64pow10", Rows.laid_internal_strconv_uint64pow10), ("unicode/utf8.acceptRanges", Rows.laid_unicode_utf8_acceptRanges), ("strconv.ErrRange", Rows.laid_strconv_ErrRange), ("strconv.ErrSyntax", Rows.laid_strconv_ErrSyntax), ("unicode/utf8.first", Rows.laid_unicode_utf8_first)]
/-- A table's cells, off its datum. -/
def flatD : DataW Unit → List Value
  | .agg l => l.flatMap fun
    | .lit (.int k n) => [.int k n]
    | .agg m => m.flatMap fun
      | .lit (.int k n) => [.int k n]
      | _ => []
    | _ => []
  | _ => []
def textD : DataW Unit → List UInt8
  | .iface _ (.ptr (.agg [.lit (.string l)])) => l
  | _ => []
def putG (h : Array Obj) (g : Nat) (cs : Array Value) : Array Obj := h.modify g fun
  | .cells _ t frozen => .cells cs t frozen
  | o => o
/-- An error: a text of its own. -/
def putE (h : Array Obj) (g : Nat) (l : List UInt8) : Array Obj := (putG h g #[.iface 315 (.pointer (some ⟨h.size, 0, none⟩))]).push (.cells #[.string ⟨l.toArray⟩] 317 (0, 0))
/-- A world for the witness: the settled one, the tables holding what their initialisers lay, the two errors made. -/
noncomputable def laidWorld (os : Os) : World :=
  let w0 := World.holding Tryz.prog os ⟨#[], #[], []⟩
  let h1 := putG w0.heap 1 (Lib.firstTab.map fun z => Value.int .u8 z).toArray
  let h2 := putG h1 2 (flatD Rows.laid_unicode_utf8_acceptRanges).toArray
  let h3 := putG h2 4 (flatD Rows.laid_math_bits_deBruijn32tab).toArray
  let h4 := putG h3 5 (flatD Rows.laid_math_bits_deBruijn64tab).toArray
  let h5 := putG h4 0 (flatD Rows.laid_internal_strconv_uint64pow10).toArray
  let h6 := putE h5 7 (textD Rows.laid_strconv_ErrRange)
  let h7 := putE h6 6 (textD Rows.laid_strconv_ErrSyntax)
  { w0 with heap := h7 }
theorem laid_met (os : Os) (args : Array Value) : laidMet Tryz.prog laidL ((laidWorld os).forCall (fun _ _ => 0) ⟨#[], args, []⟩).memory :=
  (LaidIn.of_run (l := laidL) (List.range 100) 8 (by kernel_rfl) (by kernel_rfl) (by kernel_rfl) (by kernel_rfl)).met

theorem bounds_i32 {n : Int} (h : (Lit.int .i32 n).wf = true) : -2147483648 ≤ n ∧ n ≤ 2147483647 := by
  simp [Lit.wf, IntKind.min, IntKind.max, IntKind.bits, IntKind.signed] at h
  omega
theorem bounds_i64 {n : Int} (h : (Lit.int .i64 n).wf = true) : -9223372036854775808 ≤ n ∧ n ≤ 9223372036854775807 := by
  simp [Lit.wf, IntKind.min, IntKind.max, IntKind.bits, IntKind.signed] at h
  omega
end Go.Proofs.YtkdfachkobafkaaGreatDoor
