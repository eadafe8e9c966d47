/- changelinglaw2.WordTexts answers true, over this seat's translation. -/
import Derived.Test.YtohmlhbmjamecaaDoorTold2
import Derived.Test.YtohmlhbmjamecaaDoorPureN
import Derived.Test.YtohmlhbmjamecaaDoorRefS
import Derived.Test.YtohmlhbmjamecaaDoorWalkSignBack
import Derived.WalkSpells
namespace Go.Proofs.YtohmlhbmjamecaaDoor
open Go.RowKit P

set_option maxHeartbeats 8000000 in
set_option maxRecDepth 100000 in
theorem law_WordTexts (s : ByteArray) (hs : s.size ≤ 9223372036854775807) (w : World) (hT : Lib.Utf8Tabs 0 1 w) :
    Calls Tryd.prog 12 #[.string s] w fun e w' => e = .returned (.bool true) ∧ Below w.heap.size w w' := by
  by_cases hbig : 100 < s.size
  · have qb : decide (100 < (s.size : Int)) = true := by rw [decide_eq_true_eq]; omega
    go_enter Tryd.func12, Tryd.ntmps12
    go_wp2_with (go_at_call 31; refine (told2_any _ hT).mono ?_; rintro e w' ⟨rfl, b1⟩)
    go_ret
    exact ⟨rfl, b1⟩
  have qb : decide (100 < (s.size : Int)) = false := by rw [decide_eq_false_iff_not]; omega
  generalize hkb : bad s.data.toList = kb
  have Hkb := Lib.hid hkb
  clear hkb
  go_enter Tryd.func12, Tryd.ntmps12
  go_wp2_with fail
  refine (rbad_any s _ (by omega)).mono ?_
  rintro e w1 ⟨rfl, b1⟩
  rw [Hkb.out]
  have z1 := b1.size
  by_cases hk : 0 ≤ kb
  · go_wp2_with (go_at_call 31; refine (told2_any _ (Utf8Tabs_below hT b1)).mono ?_; rintro e w' ⟨rfl, b2⟩)
    go_ret
    exact ⟨rfl, b1.trans (b2.mono z1)⟩
  have hbad : bad s.data.toList = -1 := by
    have := bad_lt s.data.toList
    have := Hkb.out
    omega
  have W1 := Lib.hid (text_words _ hbad)
  have W2 := Lib.hid (text_open s.data.toList)
  have hq1 := Lib.hid (show (quote s.data.toList) = 34 :: (inner s.data.toList ++ [34]) by simp [quote])
  clear hbad Hkb
  go_wp2_with fail
  refine (rquote_any s _ (by omega)).mono ?_
  rintro e w2 ⟨rfl, c2⟩
  have b2 := b1.trans (c2.mono z1)
  have z2 := b2.size
  clear c2
  generalize hq : (ByteArray.mk (quote s.data.toList).toArray) = q
  have Hq := Lib.hid (show q.data.toList = quote s.data.toList by rw [← hq])
  clear hq
  have hq2 : 2 ≤ q.size := by rw [← size_list, Hq.out, hq1.out]; simp
  have hil := inner_le s.data.toList
  rw [size_list] at hil
  have hq3 : q.size = (inner s.data.toList).length + 2 := by rw [← size_list, Hq.out, hq1.out]; simp
  have hd1 : (ByteArray.mk #[97] ++ q ++ ByteArray.mk #[98]).data.toList = 97 :: (quote s.data.toList ++ [98]) := by simp [Hq.out]
  have hd2 : (ByteArray.mk #[97] ++ q.extract 0 (q.size - 1)).data.toList = 97 :: 34 :: inner s.data.toList := by
    have : (q.extract 0 (q.size - 1)).data.toList = 34 :: inner s.data.toList := by
      rw [Lib.extract_data, Hq.out, hq1.out, List.drop_zero, show q.size - 1 - 0 = (34 :: inner s.data.toList).length from by simp; omega,
        show (34 :: (inner s.data.toList ++ [34]) : List UInt8) = (34 :: inner s.data.toList) ++ [34] from rfl, List.take_left]
    rw [ByteArray.data_append, Array.toList_append, this]
    rfl
  have hln1 : ¬ 8000 < (97 :: (quote s.data.toList ++ [98]) : List UInt8).length := by rw [hq1.out]; simp; omega
  have hln2 : ¬ 8000 < (97 :: 34 :: inner s.data.toList : List UInt8).length := by simp; omega
  have hz1 : (ByteArray.mk #[97] ++ q ++ ByteArray.mk #[98]).size ≤ 9223372036854775807 := by rw [← size_list, hd1]; omega
  have hz2 : (ByteArray.mk #[97] ++ q.extract 0 (q.size - 1)).size ≤ 9223372036854775807 := by rw [← size_list, hd2]; omega
  have Hd1 := Lib.hid hd1
  have Hln1 := Lib.hid hln1
  have Hln2 := Lib.hid hln2
  have Hz1 := Lib.hid hz1
  have Hz2 := Lib.hid hz2
  clear hz1 hz2
  have Hd2 := Lib.hid hd2
  have hq4 : q.size ≤ 1000 := by omega
  clear hd1 hd2 hln1 hln2 hil hq3
  go_wp2_with fail
  refine (all_any _ _ Hz1.out (Utf8Tabs_below hT b2)).mono ?_
  intro e w3 h
  rw [Hd1.out] at h
  obtain ⟨c3, v, rfl, own3, -⟩ := all_ok h Hln1.out W1.out
  clear h
  have b3 := b2.trans (c3.mono z2)
  have z3 := b3.size
  obtain ⟨g, cap, rfl⟩ := own_form own3 (by simp)
  clear c3
  go_wp2_with fail
  refine (all_any _ _ Hz2.out (Utf8Tabs_below hT b3)).mono ?_
  intro e w4 h
  rw [Hd2.out] at h
  obtain ⟨c4, rfl⟩ := all_err h Hln2.out W2.out
  clear h
  have b4 := b3.trans (c4.mono z3)
  have z4 := b4.size
  have own4 := own_below own3 c4
  clear c4
  go_wp2_with fail
  refine (told2_any _ (Utf8Tabs_below hT b4)).mono ?_
  rintro e w5 ⟨rfl, c5⟩
  have own5 := own_below own4 c5
  obtain ⟨h4, h5, h6⟩ := word_cells own5 1 (by simp)
  simp only [List.getElem_cons_succ, List.getElem_cons_zero, Nat.reduceMul, Nat.reduceAdd] at h4 h5 h6
  have q5 : ((ByteArray.mk s.data.toList.toArray).toList == s.toList) = true := by simp
  clear own3 own4 own5
  go_wp2
  go_ret
  exact ⟨rfl, b4.trans (c5.mono z4)⟩
end Go.Proofs.YtohmlhbmjamecaaDoor
