/- No method is taken otherwise here. -/
import Derived.Test.YtkdpinpmjkomoaaGreatDoorMK
namespace Go.Proofs.YtkdpinpmjkomoaaGreatDoor.E
open Go
noncomputable section
def Pr : PO := noPr
theorem Pok : POk Tryz.prog Pr := noPr_ok
end
end Go.Proofs.YtkdpinpmjkomoaaGreatDoor.E
