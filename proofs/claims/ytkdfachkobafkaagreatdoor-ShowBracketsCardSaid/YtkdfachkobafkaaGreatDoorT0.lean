/- Calls that are known ahead, reckoned by the kernel. -/
import Derived.Test.YtkdfachkobafkaaGreatDoorMP
namespace Go.Proofs.YtkdfachkobafkaaGreatDoor.E
open Go
/-- changelinglaw5.told -/
def tx0 : ME := ⟨10, [], m 1 1 0 []⟩
theorem tm0 : MOk Tryz.prog tx0 := chkB_ok Tryzmix K Pok (l := []) mnil (n := 5000) (by decide +kernel)
end Go.Proofs.YtkdfachkobafkaaGreatDoor.E
