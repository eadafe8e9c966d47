/- RunFinal: cases and the calls that they lean on, reckoned by the kernel. -/
import Derived.Test.YtkdpinpmjkomoaaGreatDoorT3
namespace Go.Proofs.YtkdpinpmjkomoaaGreatDoor.E
open Go
theorem cRunFinal12 : MOk Tryz.prog ⟨4, [m 48 1 5 [], m 48 0 4 [], m 48 0 3 []], m 1 1 0 []⟩ := chkB_ok Tryzmix K (l := [tx18]) (mcons tm18 mnil) (n := 5000) (by decide +kernel)
theorem cRunFinal13 : MOk Tryz.prog ⟨4, [m 48 1 5 [], m 48 0 4 [], m 48 1 3 []], m 1 1 0 []⟩ := chkB_ok Tryzmix K (l := [tx18]) (mcons tm18 mnil) (n := 5000) (by decide +kernel)
theorem cRunFinal14 : MOk Tryz.prog ⟨4, [m 48 1 5 [], m 48 0 4 [], m 48 2 3 []], m 1 1 0 []⟩ := chkB_ok Tryzmix K (l := [tx18]) (mcons tm18 mnil) (n := 5000) (by decide +kernel)
theorem cRunFinal15 : MOk Tryz.prog ⟨4, [m 48 1 5 [], m 48 1 4 [], m 48 0 3 []], m 1 1 0 []⟩ := chkB_ok Tryzmix K (l := [tx18]) (mcons tm18 mnil) (n := 5000) (by decide +kernel)
theorem cRunFinal16 : MOk Tryz.prog ⟨4, [m 48 1 5 [], m 48 1 4 [], m 48 1 3 []], m 1 1 0 []⟩ := chkB_ok Tryzmix K (l := [tx18]) (mcons tm18 mnil) (n := 5000) (by decide +kernel)
theorem cRunFinal17 : MOk Tryz.prog ⟨4, [m 48 1 5 [], m 48 1 4 [], m 48 2 3 []], m 1 1 0 []⟩ := chkB_ok Tryzmix K (l := [tx18]) (mcons tm18 mnil) (n := 5000) (by decide +kernel)
end Go.Proofs.YtkdpinpmjkomoaaGreatDoor.E
