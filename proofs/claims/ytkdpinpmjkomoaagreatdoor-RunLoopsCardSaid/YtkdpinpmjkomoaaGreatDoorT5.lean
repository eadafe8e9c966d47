/- Calls that are known ahead, reckoned by the kernel. -/
import Derived.Test.YtkdpinpmjkomoaaGreatDoorMP
import Derived.Test.YtkdpinpmjkomoaaGreatDoorT0
import Derived.Test.YtkdpinpmjkomoaaGreatDoorT1
import Derived.Test.YtkdpinpmjkomoaaGreatDoorT2
import Derived.Test.YtkdpinpmjkomoaaGreatDoorT3
import Derived.Test.YtkdpinpmjkomoaaGreatDoorT4
namespace Go.Proofs.YtkdpinpmjkomoaaGreatDoor.E
open Go
/-- changelinglaw16.told -/
def tx12 : ME := ⟨10, [], m 1 1 0 []⟩
theorem tm12 : MOk Tryz.prog tx12 := chkB_ok Tryzmix K Pok (l := [tx1, tx3, tx4, tx5, tx6, tx7, tx8, tx9, tx10, tx11]) (mcons tm1 (mcons tm3 (mcons tm4 (mcons tm5 (mcons tm6 (mcons tm7 (mcons tm8 (mcons tm9 (mcons tm10 (mcons tm11 mnil)))))))))) (n := 5000) (by decide +kernel)
end Go.Proofs.YtkdpinpmjkomoaaGreatDoor.E
