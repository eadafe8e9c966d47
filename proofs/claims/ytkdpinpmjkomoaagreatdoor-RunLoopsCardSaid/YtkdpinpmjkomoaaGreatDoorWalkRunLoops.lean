/- RunLoops answers true: its cases, by what the numbers leave. -/
import Derived.Test.YtkdpinpmjkomoaaGreatDoorRunLoopsC0
import Derived.Test.YtkdpinpmjkomoaaGreatDoorRunLoopsC1
import Derived.Test.YtkdpinpmjkomoaaGreatDoorRunLoopsC2
import Derived.Test.YtkdpinpmjkomoaaGreatDoorRunLoopsC3
import Derived.Test.YtkdpinpmjkomoaaGreatDoorRunLoopsC4
import Derived.Test.YtkdpinpmjkomoaaGreatDoorRunLoopsC5
import Derived.Test.YtkdpinpmjkomoaaGreatDoorRunLoopsC6
import Derived.Test.YtkdpinpmjkomoaaGreatDoorRunLoopsC7
import Derived.Test.YtkdpinpmjkomoaaGreatDoorRunLoopsC8
import Derived.Test.YtkdpinpmjkomoaaGreatDoorRunLoopsC9
import Derived.Test.YtkdpinpmjkomoaaGreatDoorRunLoopsC10
namespace Go.Proofs.YtkdpinpmjkomoaaGreatDoor
open Go E
theorem law_RunLoops (n0 : Int) (_ : -9223372036854775808 ≤ n0 ∧ n0 ≤ 9223372036854775807) (w : World) : Calls Tryz.prog 6 #[.int .i64 n0] w fun e w' => e = .returned (.bool true) ∧ Go.RowKit.Below w.heap.size w w' := by
  obtain ⟨r0, h0, v0⟩ := res_of n0 41 (by decide)
  refine law_of (xs := [⟨48, r0, 41, []⟩]) ?_ _ (fun g w => VRs.cons' (v0 g w) (VRs.nil')) w
  rcases (show r0 = 0 ∨ r0 = 1 ∨ r0 = 2 ∨ r0 = 3 ∨ r0 = 4 ∨ r0 = 5 ∨ r0 = 6 ∨ r0 = 7 ∨ r0 = 8 ∨ r0 = 9 ∨ r0 = 10 ∨ r0 = 11 ∨ r0 = 12 ∨ r0 = 13 ∨ r0 = 14 ∨ r0 = 15 ∨ r0 = 16 ∨ r0 = 17 ∨ r0 = 18 ∨ r0 = 19 ∨ r0 = 20 ∨ r0 = 21 ∨ r0 = 22 ∨ r0 = 23 ∨ r0 = 24 ∨ r0 = 25 ∨ r0 = 26 ∨ r0 = 27 ∨ r0 = 28 ∨ r0 = 29 ∨ r0 = 30 ∨ r0 = 31 ∨ r0 = 32 ∨ r0 = 33 ∨ r0 = 34 ∨ r0 = 35 ∨ r0 = 36 ∨ r0 = 37 ∨ r0 = 38 ∨ r0 = 39 ∨ r0 = 40 by omega) with rfl | rfl | rfl | rfl | rfl | rfl | rfl | rfl | rfl | rfl | rfl | rfl | rfl | rfl | rfl | rfl | rfl | rfl | rfl | rfl | rfl | rfl | rfl | rfl | rfl | rfl | rfl | rfl | rfl | rfl | rfl | rfl | rfl | rfl | rfl | rfl | rfl | rfl | rfl | rfl | rfl
  · exact cRunLoops0
  · exact cRunLoops1
  · exact cRunLoops2
  · exact cRunLoops3
  · exact cRunLoops4
  · exact cRunLoops5
  · exact cRunLoops6
  · exact cRunLoops7
  · exact cRunLoops8
  · exact cRunLoops9
  · exact cRunLoops10
  · exact cRunLoops11
  · exact cRunLoops12
  · exact cRunLoops13
  · exact cRunLoops14
  · exact cRunLoops15
  · exact cRunLoops16
  · exact cRunLoops17
  · exact cRunLoops18
  · exact cRunLoops19
  · exact cRunLoops20
  · exact cRunLoops21
  · exact cRunLoops22
  · exact cRunLoops23
  · exact cRunLoops24
  · exact cRunLoops25
  · exact cRunLoops26
  · exact cRunLoops27
  · exact cRunLoops28
  · exact cRunLoops29
  · exact cRunLoops30
  · exact cRunLoops31
  · exact cRunLoops32
  · exact cRunLoops33
  · exact cRunLoops34
  · exact cRunLoops35
  · exact cRunLoops36
  · exact cRunLoops37
  · exact cRunLoops38
  · exact cRunLoops39
  · exact cRunLoops40
end Go.Proofs.YtkdpinpmjkomoaaGreatDoor
