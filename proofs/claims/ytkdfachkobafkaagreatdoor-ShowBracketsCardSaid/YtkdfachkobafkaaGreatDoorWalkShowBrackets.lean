/- ShowBrackets answers true: its cases, by what the numbers leave. -/
import Derived.Test.YtkdfachkobafkaaGreatDoorShowBracketsC0
import Derived.Test.YtkdfachkobafkaaGreatDoorShowBracketsC1
namespace Go.Proofs.YtkdfachkobafkaaGreatDoor
open Go E
theorem law_ShowBrackets (n0 : Int) (_ : -9223372036854775808 ≤ n0 ∧ n0 ≤ 9223372036854775807) (n1 : Int) (_ : -9223372036854775808 ≤ n1 ∧ n1 ≤ 9223372036854775807) (n2 : Bool) (w : World) : Calls Tryz.prog 4 #[.int .i64 n0, .int .i64 n1, .bool n2] w fun e w' => e = .returned (.bool true) ∧ Go.RowKit.Below w.heap.size w w' := by
  obtain ⟨r0, h0, v0⟩ := res_of n0 7 (by decide)
  obtain ⟨r1, h1, v1⟩ := res_of n1 7 (by decide)
  have vb : ∀ (g : G) (w : World), VR g w ⟨1, cond n2 1 0, 0, []⟩ (.bool n2) := fun g w => by cases n2; exact VR.of_bool false 0 []; exact VR.of_bool true 0 []
  refine law_of (xs := [⟨48, r0, 7, []⟩, ⟨48, r1, 7, []⟩, ⟨1, cond n2 1 0, 0, []⟩]) ?_ _ (fun g w => VRs.cons' (v0 g w) (VRs.cons' (v1 g w) (VRs.cons' (vb g w) (VRs.nil')))) w
  rcases (show r0 = 0 ∨ r0 = 1 ∨ r0 = 2 ∨ r0 = 3 ∨ r0 = 4 ∨ r0 = 5 ∨ r0 = 6 by omega) with rfl | rfl | rfl | rfl | rfl | rfl | rfl <;> rcases (show r1 = 0 ∨ r1 = 1 ∨ r1 = 2 ∨ r1 = 3 ∨ r1 = 4 ∨ r1 = 5 ∨ r1 = 6 by omega) with rfl | rfl | rfl | rfl | rfl | rfl | rfl <;> cases n2
  · exact cShowBrackets0
  · exact cShowBrackets1
  · exact cShowBrackets2
  · exact cShowBrackets3
  · exact cShowBrackets4
  · exact cShowBrackets5
  · exact cShowBrackets6
  · exact cShowBrackets7
  · exact cShowBrackets8
  · exact cShowBrackets9
  · exact cShowBrackets10
  · exact cShowBrackets11
  · exact cShowBrackets12
  · exact cShowBrackets13
  · exact cShowBrackets14
  · exact cShowBrackets15
  · exact cShowBrackets16
  · exact cShowBrackets17
  · exact cShowBrackets18
  · exact cShowBrackets19
  · exact cShowBrackets20
  · exact cShowBrackets21
  · exact cShowBrackets22
  · exact cShowBrackets23
  · exact cShowBrackets24
  · exact cShowBrackets25
  · exact cShowBrackets26
  · exact cShowBrackets27
  · exact cShowBrackets28
  · exact cShowBrackets29
  · exact cShowBrackets30
  · exact cShowBrackets31
  · exact cShowBrackets32
  · exact cShowBrackets33
  · exact cShowBrackets34
  · exact cShowBrackets35
  · exact cShowBrackets36
  · exact cShowBrackets37
  · exact cShowBrackets38
  · exact cShowBrackets39
  · exact cShowBrackets40
  · exact cShowBrackets41
  · exact cShowBrackets42
  · exact cShowBrackets43
  · exact cShowBrackets44
  · exact cShowBrackets45
  · exact cShowBrackets46
  · exact cShowBrackets47
  · exact cShowBrackets48
  · exact cShowBrackets49
  · exact cShowBrackets50
  · exact cShowBrackets51
  · exact cShowBrackets52
  · exact cShowBrackets53
  · exact cShowBrackets54
  · exact cShowBrackets55
  · exact cShowBrackets56
  · exact cShowBrackets57
  · exact cShowBrackets58
  · exact cShowBrackets59
  · exact cShowBrackets60
  · exact cShowBrackets61
  · exact cShowBrackets62
  · exact cShowBrackets63
  · exact cShowBrackets64
  · exact cShowBrackets65
  · exact cShowBrackets66
  · exact cShowBrackets67
  · exact cShowBrackets68
  · exact cShowBrackets69
  · exact cShowBrackets70
  · exact cShowBrackets71
  · exact cShowBrackets72
  · exact cShowBrackets73
  · exact cShowBrackets74
  · exact cShowBrackets75
  · exact cShowBrackets76
  · exact cShowBrackets77
  · exact cShowBrackets78
  · exact cShowBrackets79
  · exact cShowBrackets80
  · exact cShowBrackets81
  · exact cShowBrackets82
  · exact cShowBrackets83
  · exact cShowBrackets84
  · exact cShowBrackets85
  · exact cShowBrackets86
  · exact cShowBrackets87
  · exact cShowBrackets88
  · exact cShowBrackets89
  · exact cShowBrackets90
  · exact cShowBrackets91
  · exact cShowBrackets92
  · exact cShowBrackets93
  · exact cShowBrackets94
  · exact cShowBrackets95
  · exact cShowBrackets96
  · exact cShowBrackets97
end Go.Proofs.YtkdfachkobafkaaGreatDoor
