/- changelinglaw1.SignBad answers true, over this seat's translation. -/
import Derived.Test.YtohmlhbmjamecaaDoorTold1
import Derived.WalkSpells
namespace Go.Proofs.YtohmlhbmjamecaaDoor
open Go.RowKit P

theorem isBad_bool (s : ByteArray) (pos : Nat) (h : pos < s.size) : isBad ((Utf8.decode s pos).1, (s.data.toList.drop pos).take (Utf8.decode s pos).2) = ((Utf8.decode s pos).1 == 65533 && (Utf8.decode s pos).2 == 1) := by
  rw [isBad_at s pos h, Bool.eq_iff_iff]
  simp
  omega
/-- What a round knows of the place of the first bad byte. -/
theorem bad_round (s : ByteArray) (pos : Nat) (h : pos < s.size) (hg : badGo (chunks (s.data.toList.drop pos)) pos = bad s.data.toList) :
    (bad s.data.toList = pos ∧ (Utf8.decode s pos).1 = 65533) ∨
    ((bad s.data.toList = -1 ∨ (pos : Int) < bad s.data.toList) ∧ badGo (chunks (s.data.toList.drop (pos + (Utf8.decode s pos).2))) (pos + (Utf8.decode s pos).2) = bad s.data.toList ∧
      ((Utf8.decode s pos).1 = 65533 → pos + 3 ≤ s.size ∧ (s.extract pos (pos + 3)).data.toList = [239, 191, 189])) := by
  have hle := dec_le s pos h
  have hw := dec_pos s pos
  have hl := size_list s
  have htk : ((s.data.toList.drop pos).take (Utf8.decode s pos).2).length = (Utf8.decode s pos).2 := by
    rw [List.length_take, List.length_drop]; omega
  rw [chunks_at s pos h, badGo] at hg
  dsimp only at hg
  rw [htk] at hg
  by_cases hb : isBad ((Utf8.decode s pos).1, (s.data.toList.drop pos).take (Utf8.decode s pos).2) = true
  · rw [if_pos hb] at hg
    exact .inl ⟨hg.symm, by unfold isBad at hb; simp at hb; exact hb.1⟩
  · rw [if_neg hb] at hg
    refine .inr ⟨?_, hg, fun hr => ?_⟩
    · rcases badGo_ge (chunks (s.data.toList.drop (pos + (Utf8.decode s pos).2))) (pos + (Utf8.decode s pos).2) with h1 | h1
      · exact .inl (by rw [← hg]; exact h1)
      · exact .inr (by rw [← hg]; omega)
    · have hgd := chunk_good (s.data.toList.drop pos) _ (by rw [chunks_at s pos h]; exact List.mem_cons_self) (by simpa using hb)
      dsimp only at hgd
      rw [hr] at hgd
      have he : Lib.encodeRune ((65533 : Nat) : Int) = [239, 191, 189] := encode_fffd
      rw [he] at hgd
      have h3 : (Utf8.decode s pos).2 = 3 := by rw [← htk, hgd]; rfl
      rw [h3] at hgd hle
      refine ⟨hle, ?_⟩
      rw [Lib.extract_data, show pos + 3 - pos = 3 from by omega]
      exact hgd

set_option maxHeartbeats 4000000 in
set_option maxRecDepth 100000 in
theorem law_SignBad (s : ByteArray) (hs : s.size ≤ 9223372036854775807) (w : World) (hT : Lib.Utf8Tabs 0 1 w) :
    Calls Tryd.prog 5 #[.string s] w fun e w' => e = .returned (.bool true) ∧ Below w.heap.size w w' := by
  by_cases hbig : 200 < s.size
  · go_enter Tryd.func5, Tryd.ntmps5
    go_wp2_with (go_at_call 14; refine (told1_any _ hT).mono ?_; rintro e w' ⟨rfl, b1⟩)
    go_ret
    exact ⟨rfl, b1⟩
  generalize hkb : bad s.data.toList = kb
  have Hkb := Lib.hid hkb
  clear hkb
  go_enter Tryd.func5, Tryd.ntmps5
  go_wp2_with fail
  refine (bad_any s _ hT).mono ?_
  rintro e w1 ⟨rfl, b1⟩
  rw [Hkb.out]
  have z1 := b1.size
  go_wp2_with fail
  go_loopw [] (fun wr => ∃ pos : Nat, wr.heap[w1.heap.size]? = some (.stringIter s pos) ∧ Below w.heap.size w wr ∧ pos ≤ s.size ∧ badGo (chunks (s.data.toList.drop pos)) pos = bad s.data.toList) (fun wr => s.size - wr.iterPos w1.heap.size)
  case atStart =>
    exact ⟨0, World.iter_heap w1 s 0, b1.alloc z1 _, Nat.zero_le _, rfl⟩
  case round =>
    obtain ⟨pos, hit, hbw, hps, hgo⟩ := hrel
    have Hgo := Lib.hid hgo
    clear hgo
    have hsz : w1.heap.size < wr.heap.size := (Array.getElem?_eq_some_iff.1 hit).1
    by_cases hp : pos < s.size
    · have hnx : ∀ ty, (Instr.next (.pointer (some ⟨w1.heap.size, 0, none⟩)) true ty).run Tryd.prog wr = _ := fun ty => Lib.run_next_any_at wr w1.heap.size s pos ty hit hp
      have hwd := dec_pos s pos
      have hle := dec_le s pos hp
      have hd1 := decode_le s pos
      have hit2 := Lib.iterAt_heap wr w1.heap.size s pos (pos + (Utf8.decode s pos).2) hit
      have hbw2 := Lib.below_iterAt hbw (k := w1.heap.size) (by omega) s (pos + (Utf8.decode s pos).2)
      have hT2 := Utf8Tabs_below hT hbw2
      have hz2 : w.heap.size ≤ (wr.iterAt w1.heap.size s (pos + (Utf8.decode s pos).2)).heap.size := by rw [Lib.iterAt_size]; omega
      have hcase := bad_round s pos hp Hgo.out
      rw [Hkb.out] at hcase
      rcases hcase with ⟨hk, hr⟩ | ⟨hk, hg, hr⟩
      · have q1 : ((pos : Int) == kb) = true := by rw [beq_iff_eq, hk]
        have q2 : (((Utf8.decode s pos).1 : Int) == 65533) = true := by rw [beq_iff_eq, hr]; rfl
        clear hk hr Hgo
        go_wp2_with (go_at_call 14; refine (told1_any _ hT2).mono ?_; rintro e w' ⟨rfl, b2⟩)
        go_ret
        exact ⟨rfl, hbw2.trans (b2.mono hz2)⟩
      · have Hg := Lib.hid hg
        have q1 : ((pos : Int) == kb) = false := by rw [beq_eq_false_iff_ne]; omega
        by_cases c : (Utf8.decode s pos).1 = 65533
        · obtain ⟨h3, h4⟩ := hr c
          have q2 : (((Utf8.decode s pos).1 : Int) == 65533) = true := by rw [beq_iff_eq, c]; rfl
          have q4 : ((s.extract pos (pos + 3)).toList == [239, 191, 189]) = true := by rw [Lib.toList_data, h4]; rfl
          clear c hr h4 hg
          rcases hk with hk | hk
          · subst hk
            go_wp2
            go_roundw
            case rel => exact ⟨_, hit2, hbw2, hle, by rw [Hkb.out]; exact Hg.out⟩
            case measure => rw [iterPos_at hit2, iterPos_at hit]; omega
          · have hk0 : 0 ≤ kb := by omega
            go_wp2
            go_roundw
            case rel => exact ⟨_, hit2, hbw2, hle, by rw [Hkb.out]; exact Hg.out⟩
            case measure => rw [iterPos_at hit2, iterPos_at hit]; omega
        · have q2 : (((Utf8.decode s pos).1 : Int) == 65533) = false := by rw [beq_eq_false_iff_ne]; omega
          clear c hr hg
          rcases hk with hk | hk
          · subst hk
            go_wp2
            go_roundw
            case rel => exact ⟨_, hit2, hbw2, hle, by rw [Hkb.out]; exact Hg.out⟩
            case measure => rw [iterPos_at hit2, iterPos_at hit]; omega
          · have hk0 : 0 ≤ kb := by omega
            go_wp2
            go_roundw
            case rel => exact ⟨_, hit2, hbw2, hle, by rw [Hkb.out]; exact Hg.out⟩
            case measure => rw [iterPos_at hit2, iterPos_at hit]; omega
    · have hnx : ∀ ty, (Instr.next (.pointer (some ⟨w1.heap.size, 0, none⟩)) true ty).run Tryd.prog wr = _ := fun ty => Lib.run_next_end_at wr w1.heap.size s pos ty hit hp
      have q1 : (kb == -1) = true := by
        rw [beq_iff_eq, ← Hkb.out, ← Hgo.out, chunks_end s pos hp]; rfl
      have hT2 := Utf8Tabs_below hT hbw
      clear Hgo
      go_wp2_with (go_at_call 14; refine (told1_any _ hT2).mono ?_; rintro e w' ⟨rfl, b2⟩)
      go_ret
      exact ⟨rfl, hbw.trans (b2.mono (by omega))⟩
end Go.Proofs.YtohmlhbmjamecaaDoor
