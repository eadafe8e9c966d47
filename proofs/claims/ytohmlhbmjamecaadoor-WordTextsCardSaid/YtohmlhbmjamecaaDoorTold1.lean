/- changelinglaw1.told answers true, over this seat's translation. -/
import Derived.Test.YtohmlhbmjamecaaDoorSignP
namespace Go.Proofs.YtohmlhbmjamecaaDoor
open Go.RowKit P

set_option maxHeartbeats 4000000 in
set_option maxRecDepth 100000 in
theorem told1_any (w : World) (hT : Lib.Utf8Tabs 0 1 w) : Calls Tryd.prog 14 #[] w fun e w' => e = .returned (.bool true) ∧ Below w.heap.size w w' := by
  have b0 := Below.refl w.heap.size w
  have z0 := Nat.le_refl w.heap.size
  go_enter Tryd.func14, Tryd.ntmps14
  go_wp2_with fail
  refine (plain_any (ByteArray.mk #[120, 92, 34, 92, 110]) _ (by decide) (Utf8Tabs_below hT b0)).mono ?_
  rintro e w1 ⟨rfl, c1⟩
  rw [show plainO (ByteArray.mk #[120, 92, 34, 92, 110]).data.toList = (some [120, 34, 10]) by decide +kernel]
  simp only [plainRet]
  have b1 := b0.trans (c1.mono z0)
  have z1 := Nat.le_trans z0 c1.size
  clear c1
  go_wp2_with fail
  refine (plain_any (ByteArray.mk #[120, 92, 121]) _ (by decide) (Utf8Tabs_below hT b1)).mono ?_
  rintro e w2 ⟨rfl, c2⟩
  rw [show plainO (ByteArray.mk #[120, 92, 121]).data.toList = none by decide +kernel]
  simp only [plainRet]
  have b2 := b1.trans (c2.mono z1)
  have z2 := Nat.le_trans z1 c2.size
  clear c2
  go_wp2_with fail
  refine (small_any 113 _).mono ?_
  rintro e w' ⟨rfl, rfl⟩
  rw [show smallR 113 = true by decide]
  go_wp2_with fail
  refine (small_any 81 _).mono ?_
  rintro e w' ⟨rfl, rfl⟩
  rw [show smallR 81 = false by decide]
  go_wp2_with fail
  refine (big_any 81 _).mono ?_
  rintro e w' ⟨rfl, rfl⟩
  rw [show bigR 81 = true by decide]
  go_wp2_with fail
  refine (digit_any 55 _).mono ?_
  rintro e w' ⟨rfl, rfl⟩
  rw [show digitR 55 = true by decide]
  go_wp2_with fail
  refine (name_any (ByteArray.mk #[97, 66, 49]) _ (by decide)).mono ?_
  rintro e w3 ⟨rfl, c3⟩
  rw [show nameB (ByteArray.mk #[97, 66, 49]).data.toList = true by decide +kernel]
  have b3 := b2.trans (c3.mono z2)
  have z3 := Nat.le_trans z2 c3.size
  clear c3
  go_wp2_with fail
  refine (name_any (ByteArray.mk #[99, 108, 97, 115, 115]) _ (by decide)).mono ?_
  rintro e w4 ⟨rfl, c4⟩
  rw [show nameB (ByteArray.mk #[99, 108, 97, 115, 115]).data.toList = false by decide +kernel]
  have b4 := b3.trans (c4.mono z3)
  have z4 := Nat.le_trans z3 c4.size
  clear c4
  go_wp2_with fail
  refine (name_any (ByteArray.mk #[66]) _ (by decide)).mono ?_
  rintro e w5 ⟨rfl, c5⟩
  rw [show nameB (ByteArray.mk #[66]).data.toList = false by decide +kernel]
  have b5 := b4.trans (c5.mono z4)
  have z5 := Nat.le_trans z4 c5.size
  clear c5
  go_wp2_with fail
  refine (class_any (ByteArray.mk #[66]) _ (by decide)).mono ?_
  rintro e w6 ⟨rfl, c6⟩
  rw [show classB (ByteArray.mk #[66]).data.toList = true by decide +kernel]
  have b6 := b5.trans (c6.mono z5)
  have z6 := Nat.le_trans z5 c6.size
  clear c6
  go_wp2_with fail
  refine (class_any (ByteArray.mk #[83, 116, 114, 105, 110, 103]) _ (by decide)).mono ?_
  rintro e w7 ⟨rfl, c7⟩
  rw [show classB (ByteArray.mk #[83, 116, 114, 105, 110, 103]).data.toList = false by decide +kernel]
  have b7 := b6.trans (c7.mono z6)
  have z7 := Nat.le_trans z6 c7.size
  clear c7
  go_wp2_with fail
  refine (quote_any (ByteArray.mk #[97, 34, 10]) _ (by decide)).mono ?_
  rintro e w8 ⟨rfl, c8⟩
  rw [show quote (ByteArray.mk #[97, 34, 10]).data.toList = [34, 97, 92, 34, 92, 110, 34] by decide +kernel]
  have b8 := b7.trans (c8.mono z7)
  have z8 := Nat.le_trans z7 c8.size
  clear c8
  go_wp2_with fail
  refine (bad_any (ByteArray.mk #[97, 255]) _ (Utf8Tabs_below hT b8)).mono ?_
  rintro e w9 ⟨rfl, c9⟩
  rw [show bad (ByteArray.mk #[97, 255]).data.toList = 1 by decide +kernel]
  have b9 := b8.trans (c9.mono z8)
  have z9 := Nat.le_trans z8 c9.size
  clear c9
  go_wp2_with fail
  refine (bad_any (ByteArray.mk #[239, 191, 189]) _ (Utf8Tabs_below hT b9)).mono ?_
  rintro e w10 ⟨rfl, c10⟩
  rw [show bad (ByteArray.mk #[239, 191, 189]).data.toList = -1 by decide +kernel]
  have b10 := b9.trans (c10.mono z9)
  have z10 := Nat.le_trans z9 c10.size
  clear c10
  go_wp2_with fail
  refine (quote_any (ByteArray.mk #[255]) _ (by decide)).mono ?_
  rintro e w11 ⟨rfl, c11⟩
  rw [show quote (ByteArray.mk #[255]).data.toList = [34, 239, 191, 189, 34] by decide +kernel]
  have b11 := b10.trans (c11.mono z10)
  have z11 := Nat.le_trans z10 c11.size
  clear c11
  go_wp2
  go_ret
  exact ⟨rfl, b11⟩
end Go.Proofs.YtohmlhbmjamecaaDoor
