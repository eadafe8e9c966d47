/- RunFaults: cases, reckoned by the kernel. -/
import Derived.Test.YtflpjalbcjfebaaGreatDoorT2
namespace Go.Proofs.YtflpjalbcjfebaaGreatDoor.E
open Go
theorem cRunFaults4 : MOk Tryz.prog ⟨7, [m 48 0 4 [], m 48 4 5 []], m 1 1 0 []⟩ := chkB_ok Tryzmix K (l := [x12]) (mcons m12 mnil) (n := 5000) (by decide +kernel)
theorem cRunFaults5 : MOk Tryz.prog ⟨7, [m 48 1 4 [], m 48 0 5 []], m 1 1 0 []⟩ := chkB_ok Tryzmix K (l := [x12]) (mcons m12 mnil) (n := 5000) (by decide +kernel)
theorem cRunFaults6 : MOk Tryz.prog ⟨7, [m 48 1 4 [], m 48 1 5 []], m 1 1 0 []⟩ := chkB_ok Tryzmix K (l := [x12]) (mcons m12 mnil) (n := 5000) (by decide +kernel)
theorem cRunFaults7 : MOk Tryz.prog ⟨7, [m 48 1 4 [], m 48 2 5 []], m 1 1 0 []⟩ := chkB_ok Tryzmix K (l := [x12]) (mcons m12 mnil) (n := 5000) (by decide +kernel)
end Go.Proofs.YtflpjalbcjfebaaGreatDoor.E
