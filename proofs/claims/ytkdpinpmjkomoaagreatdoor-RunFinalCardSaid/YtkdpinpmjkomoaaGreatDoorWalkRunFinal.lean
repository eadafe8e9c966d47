/- RunFinal answers true: its cases, by what the numbers leave. -/
import Derived.Test.YtkdpinpmjkomoaaGreatDoorRunFinalC0
import Derived.Test.YtkdpinpmjkomoaaGreatDoorRunFinalC1
import Derived.Test.YtkdpinpmjkomoaaGreatDoorRunFinalC2
import Derived.Test.YtkdpinpmjkomoaaGreatDoorRunFinalC3
import Derived.Test.YtkdpinpmjkomoaaGreatDoorRunFinalC4
import Derived.Test.YtkdpinpmjkomoaaGreatDoorRunFinalC5
import Derived.Test.YtkdpinpmjkomoaaGreatDoorRunFinalC6
import Derived.Test.YtkdpinpmjkomoaaGreatDoorRunFinalC7
import Derived.Test.YtkdpinpmjkomoaaGreatDoorRunFinalC8
import Derived.Test.YtkdpinpmjkomoaaGreatDoorRunFinalC9
namespace Go.Proofs.YtkdpinpmjkomoaaGreatDoor
open Go E
theorem law_RunFinal (n0 : Int) (_ : -9223372036854775808 ≤ n0 ∧ n0 ≤ 9223372036854775807) (n1 : Int) (_ : -9223372036854775808 ≤ n1 ∧ n1 ≤ 9223372036854775807) (n2 : Int) (_ : -9223372036854775808 ≤ n2 ∧ n2 ≤ 9223372036854775807) (w : World) : Calls Tryz.prog 4 #[.int .i64 n0, .int .i64 n1, .int .i64 n2] w fun e w' => e = .returned (.bool true) ∧ Go.RowKit.Below w.heap.size w w' := by
  obtain ⟨r0, h0, v0⟩ := res_of n0 5 (by decide)
  obtain ⟨r1, h1, v1⟩ := res_of n1 4 (by decide)
  obtain ⟨r2, h2, v2⟩ := res_of n2 3 (by decide)
  refine law_of (xs := [⟨48, r0, 5, []⟩, ⟨48, r1, 4, []⟩, ⟨48, r2, 3, []⟩]) ?_ _ (fun g w => VRs.cons' (v0 g w) (VRs.cons' (v1 g w) (VRs.cons' (v2 g w) (VRs.nil')))) w
  rcases (show r0 = 0 ∨ r0 = 1 ∨ r0 = 2 ∨ r0 = 3 ∨ r0 = 4 by omega) with rfl | rfl | rfl | rfl | rfl <;> rcases (show r1 = 0 ∨ r1 = 1 ∨ r1 = 2 ∨ r1 = 3 by omega) with rfl | rfl | rfl | rfl <;> rcases (show r2 = 0 ∨ r2 = 1 ∨ r2 = 2 by omega) with rfl | rfl | rfl
  · exact cRunFinal0
  · exact cRunFinal1
  · exact cRunFinal2
  · exact cRunFinal3
  · exact cRunFinal4
  · exact cRunFinal5
  · exact cRunFinal6
  · exact cRunFinal7
  · exact cRunFinal8
  · exact cRunFinal9
  · exact cRunFinal10
  · exact cRunFinal11
  · exact cRunFinal12
  · exact cRunFinal13
  · exact cRunFinal14
  · exact cRunFinal15
  · exact cRunFinal16
  · exact cRunFinal17
  · exact cRunFinal18
  · exact cRunFinal19
  · exact cRunFinal20
  · exact cRunFinal21
  · exact cRunFinal22
  · exact cRunFinal23
  · exact cRunFinal24
  · exact cRunFinal25
  · exact cRunFinal26
  · exact cRunFinal27
  · exact cRunFinal28
  · exact cRunFinal29
  · exact cRunFinal30
  · exact cRunFinal31
  · exact cRunFinal32
  · exact cRunFinal33
  · exact cRunFinal34
  · exact cRunFinal35
  · exact cRunFinal36
  · exact cRunFinal37
  · exact cRunFinal38
  · exact cRunFinal39
  · exact cRunFinal40
  · exact cRunFinal41
  · exact cRunFinal42
  · exact cRunFinal43
  · exact cRunFinal44
  · exact cRunFinal45
  · exact cRunFinal46
  · exact cRunFinal47
  · exact cRunFinal48
  · exact cRunFinal49
  · exact cRunFinal50
  · exact cRunFinal51
  · exact cRunFinal52
  · exact cRunFinal53
  · exact cRunFinal54
  · exact cRunFinal55
  · exact cRunFinal56
  · exact cRunFinal57
  · exact cRunFinal58
  · exact cRunFinal59
end Go.Proofs.YtkdpinpmjkomoaaGreatDoor
