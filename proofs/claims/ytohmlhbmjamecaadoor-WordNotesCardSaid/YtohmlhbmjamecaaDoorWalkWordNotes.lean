/- changelinglaw2.WordNotes answers true, over this seat's translation. -/
import Derived.Test.YtohmlhbmjamecaaDoorTold2
import Derived.Test.YtohmlhbmjamecaaDoorPureN
import Derived.Test.YtohmlhbmjamecaaDoorWalkSignBad
import Derived.WalkSpells
namespace Go.Proofs.YtohmlhbmjamecaaDoor
open Go.RowKit P

/-- Where the first bad byte stands there are not the three bytes of the sign of a bad one. -/
theorem bad_here (s : ByteArray) (pos : Nat) (hg : badGo (chunks (s.data.toList.drop pos)) pos = (pos : Int)) : (s.extract pos (pos + 3)).data.toList ≠ [239, 191, 189] := by
  intro he
  rw [Lib.extract_data, show pos + 3 - pos = 3 from by omega] at he
  have hd : s.data.toList.drop pos = Lib.encodeRune ((65533 : Nat) : Int) ++ (s.data.toList.drop pos).drop 3 := by
    have e : Lib.encodeRune ((65533 : Nat) : Int) = [239, 191, 189] := encode_fffd
    rw [e, ← he, List.take_append_drop]
  rw [hd, chunks_encode 65533 (.inr (by omega)), badGo, good_encode, if_neg (by simp)] at hg
  have e : (Lib.encodeRune ((65533 : Nat) : Int)).length = 3 := by decide
  have := badGo_ge (chunks ((s.data.toList.drop pos).drop 3)) (pos + 3)
  dsimp only at hg
  rw [e] at hg
  omega

set_option maxHeartbeats 8000000 in
set_option maxRecDepth 100000 in
theorem law_WordNotes (s : ByteArray) (hs : s.size ≤ 9223372036854775807) (w : World) (hT : Lib.Utf8Tabs 0 1 w) :
    Calls Tryd.prog 13 #[.string s] w fun e w' => e = .returned (.bool true) ∧ Below w.heap.size w w' := by
  by_cases hbig : 60 < s.size
  · go_enter Tryd.func13, Tryd.ntmps13
    go_wp2_with (go_at_call 31; refine (told2_any _ hT).mono ?_; rintro e w' ⟨rfl, b1⟩)
    go_ret
    exact ⟨rfl, b1⟩
  have hsl := size_list s
  go_enter Tryd.func13, Tryd.ntmps13
  go_wp2_with fail
  go_loopw [3] (fun i wr => ∃ j : Nat, i = .int .i64 j ∧ j ≤ s.size ∧ w = wr ∧ ∀ b ∈ s.data.toList.take j, b ≠ 10) (fun i _ => s.size - (intOf i).toNat)
  case atStart => exact ⟨0, rfl, Nat.zero_le _, rfl, by simp⟩
  case round =>
    obtain ⟨j, rfl, hj, rfl, hno⟩ := hrel
    have Hno := Lib.hid hno
    clear hno
    by_cases hjs : j < s.size
    · by_cases hb : s[j]'hjs = 10
      · have q1 : (((s[j]'hjs).toNat : Int) == 10) = true := by rw [hb]; rfl
        go_wp2_with (go_at_call 31; refine (told2_any _ hT).mono ?_; rintro e w' ⟨rfl, b1⟩)
        go_ret
        exact ⟨rfl, b1⟩
      · have q1 : (((s[j]'hjs).toNat : Int) == 10) = false := by
          rw [beq_eq_false_iff_ne]
          intro e
          apply hb
          exact UInt8.toNat_inj.1 (by
            have : (s[j]'hjs).toNat = 10 := by omega
            rw [this]; rfl)
        have Hno2 := Lib.hid (show ∀ b ∈ s.data.toList.take (j + 1), b ≠ 10 by
          intro b hb2
          rw [List.take_add_one, List.mem_append] at hb2
          rcases hb2 with hb2 | hb2
          · exact Hno.out b hb2
          · have : s.data.toList[j]? = some (s[j]'hjs) := by
              rw [List.getElem?_eq_getElem (by omega)]
              simp
              rfl
            rw [this] at hb2
            simp at hb2
            rw [hb2]
            exact hb)
        clear hb
        go_wp2
        go_roundw
        case rel => exact ⟨j + 1, rfl, by omega, trivial, Hno2.out⟩
        case measure => simp [intOf]; omega
    · have Hall := Lib.hid (show ∀ b ∈ s.data.toList, b ≠ 10 by
        intro b hb
        exact Hno.out b (by rw [List.take_of_length_le (by omega)]; exact hb))
      clear Hno
      have hdat : ((ByteArray.mk #[97, 32, 47, 47] ++ s) ++ ByteArray.mk #[10, 98]).data.toList = [97, 32, 47, 47] ++ s.data.toList ++ [10, 98] := by simp
      have hwb := note_all s.data.toList Hall.out
      generalize hkb : bad s.data.toList = kb at hwb
      have Hkb := Lib.hid hkb
      clear hkb Hall
      go_wp2_with fail
      refine (all_any _ _ (by rw [← size_list, hdat]; simp; omega) hT).mono ?_
      intro e w1 h
      rw [hdat] at h
      have Hlt := bad_lt s.data.toList
      rw [Hkb.out, hsl] at Hlt
      have hln : ¬ 8000 < ([97, 32, 47, 47] ++ s.data.toList ++ [10, 98]).length := by simp; omega
      rcases Hlt with rfl | ⟨hk0, hk1⟩
      · rw [if_pos rfl] at hwb
        obtain ⟨b1, v, rfl, own1, -⟩ := all_ok h hln hwb
        have z1 := b1.size
        clear h hwb hdat
        obtain ⟨g, cap, rfl⟩ := own_form own1 (by simp)
        go_wp2_with fail
        go_loopw [7] (fun bd wo => ∃ pos : Nat, bd = .int .i64 (-1) ∧ wo.heap[w1.heap.size]? = some (.stringIter s pos) ∧ Below w1.heap.size w1 wo ∧ pos ≤ s.size ∧ badGo (chunks (s.data.toList.drop pos)) pos = bad s.data.toList) (fun _ wo => s.size - wo.iterPos w1.heap.size)
        case atStart => exact ⟨0, rfl, World.iter_heap w1 s 0, (Below.refl _ _).alloc (Nat.le_refl _) _, Nat.zero_le _, rfl⟩
        case round =>
          obtain ⟨pos, rfl, hit, hbw, hps, hgo⟩ := hrel
          have Hgo := Lib.hid hgo
          clear hgo
          have hsz : w1.heap.size < wr.heap.size := (Array.getElem?_eq_some_iff.1 hit).1
          by_cases hp : pos < s.size
          · have hnx : ∀ ty, (Instr.next (.pointer (some ⟨w1.heap.size, 0, none⟩)) true ty).run Tryd.prog wr = _ := fun ty => Lib.run_next_any_at wr w1.heap.size s pos ty hit hp
            have hwd := dec_pos s pos
            have hle := dec_le s pos hp
            have hd1 := decode_le s pos
            have hit2 := Lib.iterAt_heap wr w1.heap.size s pos (pos + (Utf8.decode s pos).2) hit
            have hbw2 := Lib.below_iterAt hbw (k := w1.heap.size) (Nat.le_refl _) s (pos + (Utf8.decode s pos).2)
            have hcase := bad_round s pos hp Hgo.out
            rw [Hkb.out] at hcase
            rcases hcase with ⟨hk, hr⟩ | ⟨-, hg, hr⟩
            · omega
            · have Hg := Lib.hid hg
              by_cases c : (Utf8.decode s pos).1 = 65533
              · obtain ⟨h3, h4⟩ := hr c
                have q2 : (((Utf8.decode s pos).1 : Int) == 65533) = true := by rw [beq_iff_eq, c]; rfl
                have q3 : decide ((s.size : Int) < (pos : Int) + 3) = false := by rw [decide_eq_false_iff_not]; omega
                have q4 : ((s.extract pos (pos + 3)).toList == [239, 191, 189]) = true := by rw [Lib.toList_data, h4]; rfl
                clear c hr h4 hg Hgo
                go_wp2
                go_roundw
                case rel => exact ⟨_, rfl, hit2, hbw2, hle, by rw [Hkb.out]; exact Hg.out⟩
                case measure => rw [iterPos_at hit2, iterPos_at hit]; omega
              · have q2 : (((Utf8.decode s pos).1 : Int) == 65533) = false := by rw [beq_eq_false_iff_ne]; omega
                clear c hr hg Hgo
                go_wp2
                go_roundw
                case rel => exact ⟨_, rfl, hit2, hbw2, hle, by rw [Hkb.out]; exact Hg.out⟩
                case measure => rw [iterPos_at hit2, iterPos_at hit]; omega
          · have hnx : ∀ ty, (Instr.next (.pointer (some ⟨w1.heap.size, 0, none⟩)) true ty).run Tryd.prog wr = _ := fun ty => Lib.run_next_end_at wr w1.heap.size s pos ty hit hp
            have B2 := b1.trans (hbw.mono z1)
            have own2 := own_below own1 hbw
            clear Hgo
            go_wp2_with fail
            refine (told2_any _ (Utf8Tabs_below hT B2)).mono ?_
            rintro e w4 ⟨rfl, b4⟩
            have own4 := own_below own2 b4
            obtain ⟨h4, h5, h6⟩ := word_cells own4 1 (by simp)
            simp only [List.getElem_cons_succ, List.getElem_cons_zero, Nat.reduceMul, Nat.reduceAdd] at h4 h5 h6
            rw [hsl] at h6
            clear own1 own2 own4
            go_wp2
            go_ret
            exact ⟨rfl, B2.trans (b4.mono B2.size)⟩
      · rw [if_neg (by omega)] at hwb
        obtain ⟨b1, rfl⟩ := all_err h hln hwb
        have z1 := b1.size
        clear h hwb hdat
        go_wp2_with fail
        go_loopw [7] (fun bd wo => ∃ (pos : Nat) (bb : Int), bd = .int .i64 bb ∧ wo.heap[w1.heap.size]? = some (.stringIter s pos) ∧ Below w1.heap.size w1 wo ∧ pos ≤ s.size ∧ ((bb = -1 ∧ badGo (chunks (s.data.toList.drop pos)) pos = bad s.data.toList) ∨ bb = kb)) (fun _ wo => s.size - wo.iterPos w1.heap.size)
        case atStart => exact ⟨0, -1, rfl, World.iter_heap w1 s 0, (Below.refl _ _).alloc (Nat.le_refl _) _, Nat.zero_le _, .inl ⟨rfl, rfl⟩⟩
        case round =>
          obtain ⟨pos, bb, rfl, hit, hbw, hps, hgo⟩ := hrel
          have Hgo := Lib.hid hgo
          clear hgo
          have hsz : w1.heap.size < wr.heap.size := (Array.getElem?_eq_some_iff.1 hit).1
          by_cases hp : pos < s.size
          · have hnx : ∀ ty, (Instr.next (.pointer (some ⟨w1.heap.size, 0, none⟩)) true ty).run Tryd.prog wr = _ := fun ty => Lib.run_next_any_at wr w1.heap.size s pos ty hit hp
            have hwd := dec_pos s pos
            have hle := dec_le s pos hp
            have hd1 := decode_le s pos
            have hit2 := Lib.iterAt_heap wr w1.heap.size s pos (pos + (Utf8.decode s pos).2) hit
            have hbw2 := Lib.below_iterAt hbw (k := w1.heap.size) (Nat.le_refl _) s (pos + (Utf8.decode s pos).2)
            rcases Hgo.out with ⟨rfl, hgo⟩ | rfl
            · have hcase := bad_round s pos hp hgo
              have hh := bad_here s pos
              rw [Hkb.out] at hcase hgo
              rcases hcase with ⟨hk, hr⟩ | ⟨-, hg, hr⟩
              · have hh2 := hh (by rw [hgo, hk])
                have q2 : (((Utf8.decode s pos).1 : Int) == 65533) = true := by rw [beq_iff_eq, hr]; rfl
                have HK := Lib.hid hk
                clear hh hgo hk hr Hgo
                by_cases h3 : pos + 3 ≤ s.size
                · have q3 : decide ((s.size : Int) < (pos : Int) + 3) = false := by rw [decide_eq_false_iff_not]; omega
                  have q4 : ((s.extract pos (pos + 3)).toList == [239, 191, 189]) = false := by rw [beq_eq_false_iff_ne, Lib.toList_data]; exact hh2
                  clear hh2
                  go_wp2
                  go_roundw
                  case rel => exact ⟨_, _, rfl, hit2, hbw2, hle, .inr HK.out.symm⟩
                  case measure => rw [iterPos_at hit2, iterPos_at hit]; omega
                · have q3 : decide ((s.size : Int) < (pos : Int) + 3) = true := by rw [decide_eq_true_eq]; omega
                  clear hh2
                  go_wp2
                  go_roundw
                  case rel => exact ⟨_, _, rfl, hit2, hbw2, hle, .inr HK.out.symm⟩
                  case measure => rw [iterPos_at hit2, iterPos_at hit]; omega
              · have Hg := Lib.hid hg
                clear hh hgo
                by_cases c : (Utf8.decode s pos).1 = 65533
                · obtain ⟨h3, h4⟩ := hr c
                  have q2 : (((Utf8.decode s pos).1 : Int) == 65533) = true := by rw [beq_iff_eq, c]; rfl
                  have q3 : decide ((s.size : Int) < (pos : Int) + 3) = false := by rw [decide_eq_false_iff_not]; omega
                  have q4 : ((s.extract pos (pos + 3)).toList == [239, 191, 189]) = true := by rw [Lib.toList_data, h4]; rfl
                  clear c hr h4 hg Hgo
                  go_wp2
                  go_roundw
                  case rel => exact ⟨_, _, rfl, hit2, hbw2, hle, .inl ⟨rfl, by rw [Hkb.out]; exact Hg.out⟩⟩
                  case measure => rw [iterPos_at hit2, iterPos_at hit]; omega
                · have q2 : (((Utf8.decode s pos).1 : Int) == 65533) = false := by rw [beq_eq_false_iff_ne]; omega
                  clear c hr hg Hgo
                  go_wp2
                  go_roundw
                  case rel => exact ⟨_, _, rfl, hit2, hbw2, hle, .inl ⟨rfl, by rw [Hkb.out]; exact Hg.out⟩⟩
                  case measure => rw [iterPos_at hit2, iterPos_at hit]; omega
            · clear Hgo
              have q5 : decide (bb < 0) = false := by rw [decide_eq_false_iff_not]; omega
              by_cases c : (Utf8.decode s pos).1 = 65533
              · have q2 : (((Utf8.decode s pos).1 : Int) == 65533) = true := by rw [beq_iff_eq, c]; rfl
                clear c
                go_wp2
                go_roundw
                case rel => exact ⟨_, _, rfl, hit2, hbw2, hle, .inr rfl⟩
                case measure => rw [iterPos_at hit2, iterPos_at hit]; omega
              · have q2 : (((Utf8.decode s pos).1 : Int) == 65533) = false := by rw [beq_eq_false_iff_ne]; omega
                clear c
                go_wp2
                go_roundw
                case rel => exact ⟨_, _, rfl, hit2, hbw2, hle, .inr rfl⟩
                case measure => rw [iterPos_at hit2, iterPos_at hit]; omega
          · have hnx : ∀ ty, (Instr.next (.pointer (some ⟨w1.heap.size, 0, none⟩)) true ty).run Tryd.prog wr = _ := fun ty => Lib.run_next_end_at wr w1.heap.size s pos ty hit hp
            have B2 := b1.trans (hbw.mono z1)
            rcases Hgo.out with ⟨rfl, hgo⟩ | rfl
            · exfalso
              rw [chunks_end s pos hp, Hkb.out] at hgo
              have : (-1 : Int) = kb := hgo
              omega
            · clear Hgo
              have e4 : max bb 0 = bb := by omega
              have e5 : (4 + bb == 4 + bb) = true := by simp
              go_wp2_with fail
              refine (told2_any _ (Utf8Tabs_below hT B2)).mono ?_
              rintro e w4 ⟨rfl, b4⟩
              go_wp2
              go_ret
              exact ⟨rfl, B2.trans (b4.mono B2.size)⟩
end Go.Proofs.YtohmlhbmjamecaaDoor
