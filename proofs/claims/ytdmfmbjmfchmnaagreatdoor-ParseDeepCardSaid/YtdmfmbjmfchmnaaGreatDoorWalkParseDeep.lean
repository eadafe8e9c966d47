/- ParseDeep answers true: its cases, by what the numbers leave. -/
import Derived.Test.YtdmfmbjmfchmnaaGreatDoorParseDeepC0
import Derived.Test.YtdmfmbjmfchmnaaGreatDoorParseDeepC1
import Derived.Test.YtdmfmbjmfchmnaaGreatDoorParseDeepC2
import Derived.Test.YtdmfmbjmfchmnaaGreatDoorParseDeepC3
import Derived.Test.YtdmfmbjmfchmnaaGreatDoorParseDeepC4
import Derived.Test.YtdmfmbjmfchmnaaGreatDoorParseDeepC5
import Derived.Test.YtdmfmbjmfchmnaaGreatDoorParseDeepC6
import Derived.Test.YtdmfmbjmfchmnaaGreatDoorParseDeepC7
import Derived.Test.YtdmfmbjmfchmnaaGreatDoorParseDeepC8
import Derived.Test.YtdmfmbjmfchmnaaGreatDoorParseDeepC9
import Derived.Test.YtdmfmbjmfchmnaaGreatDoorParseDeepC10
namespace Go.Proofs.YtdmfmbjmfchmnaaGreatDoor
open Go E
theorem law_ParseDeep (n0 : Int) (_ : -9223372036854775808 ≤ n0 ∧ n0 ≤ 9223372036854775807) (w : World) : Calls Tryz.prog 3 #[.int .i64 n0] w fun e w' => e = .returned (.bool true) ∧ Go.RowKit.Below w.heap.size w w' := by
  obtain ⟨r0, h0, v0⟩ := res_of n0 11 (by decide)
  refine law_of (xs := [⟨48, r0, 11, []⟩]) ?_ _ (fun g w => VRs.cons' (v0 g w) (VRs.nil')) w
  rcases (show r0 = 0 ∨ r0 = 1 ∨ r0 = 2 ∨ r0 = 3 ∨ r0 = 4 ∨ r0 = 5 ∨ r0 = 6 ∨ r0 = 7 ∨ r0 = 8 ∨ r0 = 9 ∨ r0 = 10 by omega) with rfl | rfl | rfl | rfl | rfl | rfl | rfl | rfl | rfl | rfl | rfl
  · exact cParseDeep0
  · exact cParseDeep1
  · exact cParseDeep2
  · exact cParseDeep3
  · exact cParseDeep4
  · exact cParseDeep5
  · exact cParseDeep6
  · exact cParseDeep7
  · exact cParseDeep8
  · exact cParseDeep9
  · exact cParseDeep10
end Go.Proofs.YtdmfmbjmfchmnaaGreatDoor
