/- RunDispatch: cases whose calls are known. -/
import Derived.Test.YtflpjalbcjfebaaGreatDoorT2
import Derived.Test.YtflpjalbcjfebaaGreatDoorRunDispatchC1
import Derived.Test.YtflpjalbcjfebaaGreatDoorRunDispatchC2
import Derived.Test.YtflpjalbcjfebaaGreatDoorRunDispatchC4
namespace Go.Proofs.YtflpjalbcjfebaaGreatDoor.E
open Go
theorem cRunDispatch3 : MOk Tryz.prog ⟨5, [m 48 1 3 [], m 48 0 3 []], m 1 1 0 []⟩ := chkB_ok Tryzmix K (l := [yRunDispatch19, yRunDispatch21, x12]) (mcons dRunDispatch19 (mcons dRunDispatch21 (mcons m12 mnil))) (n := 5000) (by decide +kernel)
theorem cRunDispatch6 : MOk Tryz.prog ⟨5, [m 48 2 3 [], m 48 0 3 []], m 1 1 0 []⟩ := chkB_ok Tryzmix K (l := [yRunDispatch24, yRunDispatch26, x12]) (mcons dRunDispatch24 (mcons dRunDispatch26 (mcons m12 mnil))) (n := 5000) (by decide +kernel)
theorem cRunDispatch7 : MOk Tryz.prog ⟨5, [m 48 2 3 [], m 48 1 3 []], m 1 1 0 []⟩ := chkB_ok Tryzmix K (l := [yRunDispatch35, yRunDispatch37, x12]) (mcons dRunDispatch35 (mcons dRunDispatch37 (mcons m12 mnil))) (n := 5000) (by decide +kernel)
end Go.Proofs.YtflpjalbcjfebaaGreatDoor.E
