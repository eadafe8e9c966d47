/- RunDispatch answers true: its cases, by what the numbers leave. -/
import Derived.Test.YtflpjalbcjfebaaGreatDoorRunDispatchC0
import Derived.Test.YtflpjalbcjfebaaGreatDoorRunDispatchC1
import Derived.Test.YtflpjalbcjfebaaGreatDoorRunDispatchC2
import Derived.Test.YtflpjalbcjfebaaGreatDoorRunDispatchC3
import Derived.Test.YtflpjalbcjfebaaGreatDoorRunDispatchC4
import Derived.Test.YtflpjalbcjfebaaGreatDoorRunDispatchC5
import Derived.Test.YtflpjalbcjfebaaGreatDoorRunDispatchC6
namespace Go.Proofs.YtflpjalbcjfebaaGreatDoor
open Go E
theorem law_RunDispatch (n0 : Int) (_ : -9223372036854775808 ≤ n0 ∧ n0 ≤ 9223372036854775807) (n1 : Int) (_ : -9223372036854775808 ≤ n1 ∧ n1 ≤ 9223372036854775807) (w : World) : Calls Tryz.prog 5 #[.int .i64 n0, .int .i64 n1] w fun e w' => e = .returned (.bool true) ∧ Go.RowKit.Below w.heap.size w w' := by
  obtain ⟨r0, h0, v0⟩ := res_of n0 3 (by decide)
  obtain ⟨r1, h1, v1⟩ := res_of n1 3 (by decide)
  refine law_of (xs := [⟨48, r0, 3, []⟩, ⟨48, r1, 3, []⟩]) ?_ _ (fun g w => VRs.cons' (v0 g w) (VRs.cons' (v1 g w) (VRs.nil'))) w
  rcases (show r0 = 0 ∨ r0 = 1 ∨ r0 = 2 by omega) with rfl | rfl | rfl <;> rcases (show r1 = 0 ∨ r1 = 1 ∨ r1 = 2 by omega) with rfl | rfl | rfl
  · exact cRunDispatch0
  · exact cRunDispatch1
  · exact cRunDispatch2
  · exact cRunDispatch3
  · exact cRunDispatch4
  · exact cRunDispatch5
  · exact cRunDispatch6
  · exact cRunDispatch7
  · exact cRunDispatch8
end Go.Proofs.YtflpjalbcjfebaaGreatDoor
