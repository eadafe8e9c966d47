/- RunFaults answers true: its cases, by what the numbers leave. -/
import Derived.Test.YtflpjalbcjfebaaGreatDoorRunFaultsC0
import Derived.Test.YtflpjalbcjfebaaGreatDoorRunFaultsC1
import Derived.Test.YtflpjalbcjfebaaGreatDoorRunFaultsC2
import Derived.Test.YtflpjalbcjfebaaGreatDoorRunFaultsC3
import Derived.Test.YtflpjalbcjfebaaGreatDoorRunFaultsC4
namespace Go.Proofs.YtflpjalbcjfebaaGreatDoor
open Go E
theorem law_RunFaults (n0 : Int) (_ : -9223372036854775808 ≤ n0 ∧ n0 ≤ 9223372036854775807) (n1 : Int) (_ : -9223372036854775808 ≤ n1 ∧ n1 ≤ 9223372036854775807) (w : World) : Calls Tryz.prog 7 #[.int .i64 n0, .int .i64 n1] w fun e w' => e = .returned (.bool true) ∧ Go.RowKit.Below w.heap.size w w' := by
  obtain ⟨r0, h0, v0⟩ := res_of n0 4 (by decide)
  obtain ⟨r1, h1, v1⟩ := res_of n1 5 (by decide)
  refine law_of (xs := [⟨48, r0, 4, []⟩, ⟨48, r1, 5, []⟩]) ?_ _ (fun g w => VRs.cons' (v0 g w) (VRs.cons' (v1 g w) (VRs.nil'))) w
  rcases (show r0 = 0 ∨ r0 = 1 ∨ r0 = 2 ∨ r0 = 3 by omega) with rfl | rfl | rfl | rfl <;> rcases (show r1 = 0 ∨ r1 = 1 ∨ r1 = 2 ∨ r1 = 3 ∨ r1 = 4 by omega) with rfl | rfl | rfl | rfl | rfl
  · exact cRunFaults0
  · exact cRunFaults1
  · exact cRunFaults2
  · exact cRunFaults3
  · exact cRunFaults4
  · exact cRunFaults5
  · exact cRunFaults6
  · exact cRunFaults7
  · exact cRunFaults8
  · exact cRunFaults9
  · exact cRunFaults10
  · exact cRunFaults11
  · exact cRunFaults12
  · exact cRunFaults13
  · exact cRunFaults14
  · exact cRunFaults15
  · exact cRunFaults16
  · exact cRunFaults17
  · exact cRunFaults18
  · exact cRunFaults19
end Go.Proofs.YtflpjalbcjfebaaGreatDoor
