/- Calls that are known ahead, reckoned by the kernel. -/
import Derived.Test.YtdmfmbjmfchmnaaGreatDoorMC
import Derived.Test.YtdmfmbjmfchmnaaGreatDoorMK
namespace Go.Proofs.YtdmfmbjmfchmnaaGreatDoor.E
open Go
/-- word.All -/
def tx12 : ME := ⟨26, [m 2 10 265415659259631804625202 []], m 16 0 0 [m 7 0 3 [m 15 0 0 [m 38 2 0 [], m 2 10 265415659259631804625202 [], m 38 0 0 []]], m 38 0 0 [], m 38 0 0 []]⟩
theorem tm12 : MOk Tryz.prog tx12 := chkB_ok Tryzmix K (l := []) mnil (n := 5000) (by decide +kernel)
/-- parse.Expr -/
def tx13 : ME := ⟨5, [m 2 10 265415659259631804625202 []], m 16 0 0 [m 15 0 0 [m 38 0 0 [], m 36 0 0 [], m 2 0 0 [], m 2 0 0 [], m 2 0 0 [], m 6 0 0 [], m 2 0 0 [], m 38 0 0 []], m 38 5 0 [], m 38 0 0 []]⟩
theorem tm13 : MOk Tryz.prog tx13 := chkB_ok Tryzmix K (l := [tx12]) (mcons tm12 mnil) (n := 5000) (by decide +kernel)
/-- word.All -/
def tx10 : ME := ⟨26, [m 2 3 2826337 []], m 16 0 0 [m 7 0 3 [m 15 0 0 [m 38 1 0 [], m 2 1 97 [], m 38 0 0 []], m 15 0 0 [m 38 4 0 [], m 2 1 43 [], m 38 2 0 []]], m 38 0 0 [], m 38 0 0 []]⟩
theorem tm10 : MOk Tryz.prog tx10 := chkB_ok Tryzmix K (l := []) mnil (n := 5000) (by decide +kernel)
/-- parse.Expr -/
def tx11 : ME := ⟨5, [m 2 3 2826337 []], m 16 0 0 [m 15 0 0 [m 38 0 0 [], m 36 0 0 [], m 2 0 0 [], m 2 0 0 [], m 2 0 0 [], m 6 0 0 [], m 2 0 0 [], m 38 0 0 []], m 38 3 0 [], m 38 3 0 []]⟩
theorem tm11 : MOk Tryz.prog tx11 := chkB_ok Tryzmix K (l := [tx10]) (mcons tm10 mnil) (n := 5000) (by decide +kernel)
/-- word.All -/
def tx8 : ME := ⟨26, [m 2 14 1381774862443648278593454667014241 []], m 16 0 0 [m 7 0 3 [m 15 0 0 [m 38 1 0 [], m 2 1 97 [], m 38 0 0 []], m 15 0 0 [m 38 4 0 [], m 2 1 45 [], m 38 2 0 []], m 15 0 0 [m 38 1 0 [], m 2 1 98 [], m 38 4 0 []], m 15 0 0 [m 38 4 0 [], m 2 1 45 [], m 38 6 0 []], m 15 0 0 [m 38 1 0 [], m 2 1 99 [], m 38 8 0 []], m 15 0 0 [m 38 1 0 [], m 2 2 29537 [], m 38 10 0 []], m 15 0 0 [m 38 1 0 [], m 2 1 68 [], m 38 13 0 []]], m 38 0 0 [], m 38 0 0 []]⟩
theorem tm8 : MOk Tryz.prog tx8 := chkB_ok Tryzmix K (l := []) mnil (n := 5000) (by decide +kernel)
/-- parse.Expr -/
def tx9 : ME := ⟨5, [m 2 14 1381774862443648278593454667014241 []], m 16 0 0 [m 15 0 0 [m 38 17 0 [], m 36 0 0 [], m 2 0 0 [], m 2 1 45 [], m 2 0 0 [], m 7 0 8 [m 15 0 0 [m 38 17 0 [], m 36 0 0 [], m 2 0 0 [], m 2 1 45 [], m 2 0 0 [], m 7 0 8 [m 15 0 0 [m 38 6 0 [], m 36 0 0 [], m 2 0 0 [], m 2 1 97 [], m 2 0 0 [], m 6 0 0 [], m 2 0 0 [], m 38 0 0 []], m 15 0 0 [m 38 6 0 [], m 36 0 0 [], m 2 0 0 [], m 2 1 98 [], m 2 0 0 [], m 6 0 0 [], m 2 0 0 [], m 38 0 0 []]], m 2 0 0 [], m 38 0 0 []], m 15 0 0 [m 38 15 0 [], m 36 0 0 [], m 2 0 0 [], m 2 0 0 [], m 2 1 68 [], m 7 0 8 [m 15 0 0 [m 38 6 0 [], m 36 0 0 [], m 2 0 0 [], m 2 1 99 [], m 2 0 0 [], m 6 0 0 [], m 2 0 0 [], m 38 0 0 []]], m 2 0 0 [], m 38 0 0 []]], m 2 0 0 [], m 38 0 0 []], m 38 0 0 [], m 38 0 0 []]⟩
theorem tm9 : MOk Tryz.prog tx9 := chkB_ok Tryzmix K (l := [tx8]) (mcons tm8 mnil) (n := 5000) (by decide +kernel)
/-- word.All -/
def tx6 : ME := ⟨26, [m 2 33 14488706244153140643907112216168144608848641435972480765019437854047104594439267 []], m 16 0 0 [m 7 0 3 [m 15 0 0 [m 38 1 0 [], m 2 5 495857003619 [], m 38 0 0 []], m 15 0 0 [m 38 1 0 [], m 2 1 65 [], m 38 6 0 []], m 15 0 0 [m 38 4 0 [], m 2 1 123 [], m 38 8 0 []], m 15 0 0 [m 38 1 0 [], m 2 4 1684631414 [], m 38 10 0 []], m 15 0 0 [m 38 1 0 [], m 2 1 102 [], m 38 15 0 []], m 15 0 0 [m 38 4 0 [], m 2 1 40 [], m 38 16 0 []], m 15 0 0 [m 38 4 0 [], m 2 1 41 [], m 38 17 0 []], m 15 0 0 [m 38 4 0 [], m 2 1 123 [], m 38 19 0 []], m 15 0 0 [m 38 1 0 [], m 2 5 491328140659 [], m 38 21 0 []], m 15 0 0 [m 38 4 0 [], m 2 1 40 [], m 38 26 0 []], m 15 0 0 [m 38 4 0 [], m 2 1 41 [], m 38 27 0 []], m 15 0 0 [m 38 4 0 [], m 2 1 59 [], m 38 28 0 []], m 15 0 0 [m 38 4 0 [], m 2 1 125 [], m 38 30 0 []], m 15 0 0 [m 38 4 0 [], m 2 1 125 [], m 38 32 0 []]], m 38 0 0 [], m 38 0 0 []]⟩
theorem tm6 : MOk Tryz.prog tx6 := chkB_ok Tryzmix K (l := []) mnil (n := 5000) (by decide +kernel)
/-- parse.Program -/
def tx7 : ME := ⟨18, [m 2 33 14488706244153140643907112216168144608848641435972480765019437854047104594439267 []], m 16 0 0 [m 15 0 0 [m 6 0 0 []], m 38 3 0 [], m 38 21 0 []]⟩
theorem tm7 : MOk Tryz.prog tx7 := chkB_ok Tryzmix K (l := [tx6]) (mcons tm6 mnil) (n := 5000) (by decide +kernel)
/-- word.All -/
def tx4 : ME := ⟨26, [m 2 17 42578454894867194030356696782703563992163 []], m 16 0 0 [m 7 0 3 [m 15 0 0 [m 38 1 0 [], m 2 5 495857003619 [], m 38 0 0 []], m 15 0 0 [m 38 1 0 [], m 2 1 65 [], m 38 6 0 []], m 15 0 0 [m 38 4 0 [], m 2 1 123 [], m 38 8 0 []], m 15 0 0 [m 38 1 0 [], m 2 3 7630441 [], m 38 10 0 []], m 15 0 0 [m 38 1 0 [], m 2 1 120 [], m 38 14 0 []], m 15 0 0 [m 38 4 0 [], m 2 1 125 [], m 38 16 0 []]], m 38 0 0 [], m 38 0 0 []]⟩
theorem tm4 : MOk Tryz.prog tx4 := chkB_ok Tryzmix K (l := []) mnil (n := 5000) (by decide +kernel)
/-- parse.Program -/
def tx5 : ME := ⟨18, [m 2 17 42578454894867194030356696782703563992163 []], m 16 0 0 [m 15 0 0 [m 6 0 0 []], m 38 3 0 [], m 38 16 0 []]⟩
theorem tm5 : MOk Tryz.prog tx5 := chkB_ok Tryzmix K (l := [tx4]) (mcons tm4 mnil) (n := 5000) (by decide +kernel)
end Go.Proofs.YtdmfmbjmfchmnaaGreatDoor.E
