/- changelinglaw1.SignAsks answers true, over this seat's translation. -/
import Derived.Test.YtohmlhbmjamecaaDoorTold1
import Derived.Test.YtohmlhbmjamecaaDoorRefP
namespace Go.Proofs.YtohmlhbmjamecaaDoor
open Go.RowKit P

set_option maxHeartbeats 8000000 in
set_option maxRecDepth 100000 in
theorem law_SignAsks (n : Int) (_hn : -2147483648 ≤ n ∧ n ≤ 2147483647) (s : ByteArray) (hs : s.size ≤ 9223372036854775807) (w : World) (hT : Lib.Utf8Tabs 0 1 w) :
    Calls Tryd.prog 3 #[.int .i32 n, .string s] w fun e w' => e = .returned (.bool true) ∧ Below w.heap.size w w' := by
  by_cases hbig : 300 < s.size
  · go_enter Tryd.func3, Tryd.ntmps3
    go_wp2_with (go_at_call 14; refine (told1_any _ hT).mono ?_; rintro e w' ⟨rfl, b1⟩)
    go_ret
    exact ⟨rfl, b1⟩
  have hs2 : s.size ≤ 1000000000000 := by omega
  have B0 := Below.refl w.heap.size w
  have Z0 := Nat.le_refl w.heap.size
  go_enter Tryd.func3, Tryd.ntmps3
  go_wp2_with fail
  refine (plain_any s _ hs2 hT).mono ?_
  rintro e w1 ⟨rfl, c1⟩
  have B1 := B0.trans (c1.mono Z0)
  have Z1 := Nat.le_trans Z0 c1.size
  generalize hq : plainO s.data.toList = po
  have Hq := Lib.hid hq
  clear c1 hq
  rcases po with _ | t
  all_goals
    simp only [plainRet]
    go_wp2_with fail
    refine (rplain_any s _ hs2).mono ?_
    rintro e w2 ⟨rfl, c2⟩
    rw [Hq.out]
    simp only [plainRet]
    have B2 := B1.trans (c2.mono Z1)
    have Z2 := Nat.le_trans Z1 c2.size
    clear c2
    go_wp2_with fail
    refine (told1_any _ (Utf8Tabs_below hT B2)).mono ?_
    rintro e w3 ⟨rfl, c3⟩
    have B3 := B2.trans (c3.mono Z2)
    have Z3 := Nat.le_trans Z2 c3.size
    clear c3
    go_wp2_with fail
    refine (small_any n _).mono ?_
    rintro e w' ⟨rfl, rfl⟩
    go_wp2_with fail
    refine (rsmall_any n _).mono ?_
    rintro e w' ⟨rfl, rfl⟩
    go_wp2_with fail
    refine (big_any n _).mono ?_
    rintro e w' ⟨rfl, rfl⟩
    go_wp2_with fail
    refine (rbig_any n _).mono ?_
    rintro e w' ⟨rfl, rfl⟩
    go_wp2_with fail
    refine (digit_any n _).mono ?_
    rintro e w' ⟨rfl, rfl⟩
    go_wp2_with fail
    refine (rdigit_any n _).mono ?_
    rintro e w' ⟨rfl, rfl⟩
    go_wp2_with fail
    refine (name_any s _ hs).mono ?_
    rintro e w4 ⟨rfl, c4⟩
    have B4 := B3.trans (c4.mono Z3)
    have Z4 := Nat.le_trans Z3 c4.size
    clear c4
    go_wp2_with fail
    refine (rname_any s _ hs).mono ?_
    rintro e w5 ⟨rfl, c5⟩
    have B5 := B4.trans (c5.mono Z4)
    have Z5 := Nat.le_trans Z4 c5.size
    clear c5
    go_wp2_with fail
    refine (class_any s _ hs).mono ?_
    rintro e w6 ⟨rfl, c6⟩
    have B6 := B5.trans (c6.mono Z5)
    have Z6 := Nat.le_trans Z5 c6.size
    clear c6
    go_wp2_with fail
    refine (rclass_any s _ hs).mono ?_
    rintro e w' ⟨rfl, rfl⟩
    go_wp2_with fail
    refine (quote_any s _ hs2).mono ?_
    rintro e w7 ⟨rfl, c7⟩
    have B7 := B6.trans (c7.mono Z6)
    have Z7 := Nat.le_trans Z6 c7.size
    clear c7
    go_wp2_with fail
    refine (rquote_any s _ hs2).mono ?_
    rintro e w8 ⟨rfl, c8⟩
    have B8 := B7.trans (c8.mono Z7)
    have Z8 := Nat.le_trans Z7 c8.size
    clear c8
    go_wp2_with fail
    refine (bad_any s _ (Utf8Tabs_below hT B8)).mono ?_
    rintro e w9 ⟨rfl, c9⟩
    have B9 := B8.trans (c9.mono Z8)
    have Z9 := Nat.le_trans Z8 c9.size
    clear c9
    go_wp2_with fail
    refine (rbad_any s _ hs2).mono ?_
    rintro e w10 ⟨rfl, c10⟩
    have B10 := B9.trans (c10.mono Z9)
    have Z10 := Nat.le_trans Z9 c10.size
    clear c10
    go_wp2
    go_ret
    exact ⟨rfl, B10⟩
end Go.Proofs.YtohmlhbmjamecaaDoor
