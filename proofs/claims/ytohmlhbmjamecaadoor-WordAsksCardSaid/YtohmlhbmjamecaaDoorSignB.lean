/- sign.Name, sign.Class and sign.Bad, over this seat's translation. -/
import Derived.Test.YtohmlhbmjamecaaDoorSignNamed
namespace Go.Proofs.YtohmlhbmjamecaaDoor
open Go.RowKit P

set_option maxHeartbeats 1000000 in
set_option maxRecDepth 100000 in
theorem name_any (s : ByteArray) (w : World) (hs : s.size ≤ 9223372036854775807) : Calls Tryd.prog 23 #[.string s] w fun e w' => e = .returned (.bool (nameB s.data.toList)) ∧ Below w.heap.size w w' := by
  have hres : nameB s.data.toList = (namedB smallR s.data.toList && !keptB s.data.toList) := rfl
  have Hres := Lib.hid hres
  clear hres
  cases h1 : namedB smallR s.data.toList
  all_goals
    cases h2 : keptB s.data.toList
    all_goals
      go_enter Tryd.func23, Tryd.ntmps23
      go_wp2_with fail
      refine (namedSmall_any s w hs).mono ?_
      rintro e w1 ⟨rfl, b1⟩
      go_wp2_with (go_at_call 40; refine (fixed_any s _).mono ?_; rintro e w2 ⟨rfl, b2⟩)
      go_ret
      exact ⟨by rw [Hres.out, h1, h2]; rfl, by first | exact b1.trans (b2.mono b1.size) | exact b1⟩

set_option maxHeartbeats 1000000 in
set_option maxRecDepth 100000 in
theorem class_any (s : ByteArray) (w : World) (hs : s.size ≤ 9223372036854775807) : Calls Tryd.prog 25 #[.string s] w fun e w' => e = .returned (.bool (classB s.data.toList)) ∧ Below w.heap.size w w' := by
  have hres : classB s.data.toList = (namedB bigR s.data.toList && !(s.data.toList == stringL)) := rfl
  have Hres := Lib.hid hres
  clear hres
  cases h1 : namedB bigR s.data.toList
  all_goals
    go_enter Tryd.func25, Tryd.ntmps25
    go_wp2_with fail
    refine (namedBig_any s w hs).mono ?_
    rintro e w1 ⟨rfl, b1⟩
    go_wp2
    go_ret
    exact ⟨by rw [Hres.out, h1]; first | rfl | (simp [stringL, Lib.toList_data]; done), b1⟩

theorem decodeGo_at (s : ByteArray) (pos : Nat) (h : pos < s.size) : Lib.decodeGo (s.extract pos s.size) = Utf8.decode s pos := by
  have hd : (s.extract pos s.size).data.toList = s.data.toList.drop pos := by
    rw [Lib.extract_data, ← size_list s, ← List.length_drop, List.take_length]
  have hz : (s.extract pos s.size).size ≠ 0 := by simp; omega
  unfold Lib.decodeGo
  rw [if_neg hz, ← Lib.decodeL_drop (s.extract pos s.size) 0, List.drop_zero, hd, Lib.decodeL_drop]

theorem isBad_at (s : ByteArray) (pos : Nat) (h : pos < s.size) : isBad ((Utf8.decode s pos).1, (s.data.toList.drop pos).take (Utf8.decode s pos).2) = (((Utf8.decode s pos).1 : Int) == 65533 && ((Utf8.decode s pos).2 : Int) == 1) := by
  have hle := dec_le s pos h
  have hl := size_list s
  unfold isBad
  have e : ((s.data.toList.drop pos).take (Utf8.decode s pos).2).length = (Utf8.decode s pos).2 := by
    rw [List.length_take, List.length_drop]; omega
  dsimp only
  rw [e, Bool.eq_iff_iff]
  simp
  omega

set_option maxHeartbeats 4000000 in
set_option maxRecDepth 100000 in
theorem bad_any (s : ByteArray) (w : World) (hT : Lib.Utf8Tabs 0 1 w) : Calls Tryd.prog 29 #[.string s] w fun e w' => e = .returned (.int .i64 (bad s.data.toList)) ∧ Below w.heap.size w w' := by
  go_enter Tryd.func29, Tryd.ntmps29
  go_wp2
  go_loopw [] (fun wr => ∃ pos : Nat, wr.heap[w.heap.size]? = some (.stringIter s pos) ∧ Below w.heap.size w wr ∧ pos ≤ s.size ∧ badGo (chunks (s.data.toList.drop pos)) pos = bad s.data.toList) (fun wr => s.size - wr.iterPos w.heap.size)
  case atStart =>
    exact ⟨0, World.iter_heap w s 0, (Below.refl _ w).alloc (Nat.le_refl _) _, Nat.zero_le _, rfl⟩
  case round =>
    obtain ⟨pos, hit, hbw, hps, hgo⟩ := hrel
    have Hgo := Lib.hid hgo
    clear hgo
    have hsz : w.heap.size < wr.heap.size := (Array.getElem?_eq_some_iff.1 hit).1
    by_cases hp : pos < s.size
    · have hnx : ∀ ty, (Instr.next (.pointer (some ⟨w.heap.size, 0, none⟩)) true ty).run Tryd.prog wr = _ := fun ty => Lib.run_next_any_at wr w.heap.size s pos ty hit hp
      have hwd := dec_pos s pos
      have hle := dec_le s pos hp
      have hd1 := decode_le s pos
      have hit2 := Lib.iterAt_heap wr w.heap.size s pos (pos + (Utf8.decode s pos).2) hit
      have hbw2 := Lib.below_iterAt hbw (k := w.heap.size) (Nat.le_refl _) s (pos + (Utf8.decode s pos).2)
      have hT2 : Lib.Utf8Tabs 0 1 (wr.iterAt w.heap.size s (pos + (Utf8.decode s pos).2)) := Utf8Tabs_below hT hbw2
      have hch := chunks_at s pos hp
      have hisb := isBad_at s pos hp
      have hdg := decodeGo_at s pos hp
      have Hdg := Lib.hid hdg
      have hel := dec_pos s pos
      have htk : ((s.data.toList.drop pos).take (Utf8.decode s pos).2).length = (Utf8.decode s pos).2 := by
        have hl := size_list s
        rw [List.length_take, List.length_drop]; omega
      have hstep : bad s.data.toList = if ((Utf8.decode s pos).1 : Int) == 65533 && ((Utf8.decode s pos).2 : Int) == 1 then (pos : Int) else badGo (chunks (s.data.toList.drop (pos + (Utf8.decode s pos).2))) (pos + (Utf8.decode s pos).2) := by
        rw [← Hgo.out, hch, badGo, hisb]
        dsimp only
        rw [htk]
      have Hstep := Lib.hid hstep
      clear hch hisb hdg htk hstep Hgo
      cases h1 : ((Utf8.decode s pos).1 : Int) == 65533
      all_goals
        cases h2 : ((Utf8.decode s pos).2 : Int) == 1
        all_goals
          go_wp2_with fail
          refine (Tryd.utf8_DecodeRuneInString (s.extract pos s.size) _ hT2).mono ?_
          rintro e w2 ⟨rfl, b2⟩
          rw [Hdg.out]
          have hsz2 : w.heap.size < (wr.iterAt w.heap.size s (pos + (Utf8.decode s pos).2)).heap.size := by rw [Lib.iterAt_size]; exact hsz
          have hit3 := (b2.block _ hsz2).trans hit2
          have hb3 := hbw2.trans (b2.mono (by omega))
          clear hsz2
          go_wp2
          first
            | (go_ret; exact ⟨by rw [Hstep.out, h1, h2]; rfl, hb3⟩)
            | (go_roundw
               case rel => exact ⟨_, hit3, hb3, hle, by rw [Hstep.out, h1, h2]; rfl⟩
               case measure => rw [iterPos_at hit3, iterPos_at hit]; omega)
    · have hnx : ∀ ty, (Instr.next (.pointer (some ⟨w.heap.size, 0, none⟩)) true ty).run Tryd.prog wr = _ := fun ty => Lib.run_next_end_at wr w.heap.size s pos ty hit hp
      have Hres := Lib.hid (show bad s.data.toList = -1 by rw [← Hgo.out, chunks_end s pos hp]; rfl)
      clear Hgo
      go_wp2
      go_ret
      exact ⟨by rw [Hres.out]; rfl, hbw⟩
end Go.Proofs.YtohmlhbmjamecaaDoor
