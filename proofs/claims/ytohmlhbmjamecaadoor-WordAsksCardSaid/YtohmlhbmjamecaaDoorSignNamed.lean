/- sign.named at Small and at Big, over this seat's translation. -/
import Derived.Test.YtohmlhbmjamecaaDoorSign
namespace Go.Proofs.YtohmlhbmjamecaaDoor
open Go.RowKit P

set_option maxHeartbeats 4000000 in
set_option maxRecDepth 100000 in
theorem namedSmall_any (s : ByteArray) (w : World) (hs : s.size ≤ 9223372036854775807) : Calls Tryd.prog 39 #[.string s, .func (.func 17) #[] #[]] w fun e w' => e = .returned (.bool (namedB smallR s.data.toList)) ∧ Below w.heap.size w w' := by
  go_enter Tryd.func39, Tryd.ntmps39
  go_wp2
  go_loopw [] (fun wr => ∃ pos : Nat, wr.heap[w.heap.size]? = some (.stringIter s pos) ∧ Below w.heap.size w wr ∧ pos ≤ s.size ∧ namedGo smallR (pos == 0) (chunks (s.data.toList.drop pos)) = namedGo smallR true (chunks s.data.toList)) (fun wr => s.size - wr.iterPos w.heap.size)
  case atStart =>
    exact ⟨0, World.iter_heap w s 0, (Below.refl _ w).alloc (Nat.le_refl _) _, Nat.zero_le _, rfl⟩
  case round =>
    obtain ⟨pos, hit, hbw, hps, hgo⟩ := hrel
    have Hgo := Lib.hid hgo
    clear hgo
    have hsz : w.heap.size < wr.heap.size := (Array.getElem?_eq_some_iff.1 hit).1
    by_cases hp : pos < s.size
    · have hnx : ∀ ty, (Instr.next (.pointer (some ⟨w.heap.size, 0, none⟩)) true ty).run Tryd.prog wr = _ := fun ty => Lib.run_next_any_at wr w.heap.size s pos ty hit hp
      have hwd := dec_pos s pos
      have hle := dec_le s pos hp
      have hd1 := decode_le s pos
      have hit2 := Lib.iterAt_heap wr w.heap.size s pos (pos + (Utf8.decode s pos).2) hit
      have hbw2 := Lib.below_iterAt hbw (k := w.heap.size) (Nat.le_refl _) s (pos + (Utf8.decode s pos).2)
      have hch := chunks_at s pos hp
      rw [hch] at Hgo
      have hbad : ∀ z : Bool, (pos == 0) = z → (z = true ∧ smallR ((Utf8.decode s pos).1 : Int) = false) ∨ letterR ((Utf8.decode s pos).1 : Int) = false → namedB smallR s.data.toList = false := by
        intro z hz hc
        have hg := Hgo.out
        rw [hz, namedGo, if_pos hc] at hg
        rw [← named_eq, ← hg]
        rfl
      have hgood : ∀ z : Bool, (pos == 0) = z → ¬ ((z = true ∧ smallR ((Utf8.decode s pos).1 : Int) = false) ∨ letterR ((Utf8.decode s pos).1 : Int) = false) →
          namedGo smallR (pos + (Utf8.decode s pos).2 == 0) (chunks (s.data.toList.drop (pos + (Utf8.decode s pos).2))) = namedGo smallR true (chunks s.data.toList) := by
        intro z hz hc
        have hg := Hgo.out
        rw [hz, namedGo, if_neg hc] at hg
        rw [show (pos + (Utf8.decode s pos).2 == 0) = false by simp; omega]
        exact hg
      have Hbad := Lib.hid hbad
      have Hgood := Lib.hid hgood
      obtain ⟨z, hz⟩ : ∃ z : Bool, (pos == 0) = z := ⟨_, rfl⟩
      have hzi : ((pos : Int) == 0) = z := by
        rw [← hz, Bool.eq_iff_iff]
        simp
      have Hz := Lib.hid hz
      clear hbad hgood hch Hgo hz
      cases z with
      | true =>
        cases hP : smallR ((Utf8.decode s pos).1 : Int) with
        | false =>
          go_wp2_with (first
            | (go_at_call 17; refine (small_any _ _).mono ?_; rintro e w' ⟨rfl, rfl⟩)
            | (go_at_call 19; refine (big_any _ _).mono ?_; rintro e w' ⟨rfl, rfl⟩)
            | (go_at_call 21; refine (digit_any _ _).mono ?_; rintro e w' ⟨rfl, rfl⟩))
          go_ret
          exact ⟨by rw [Hbad.out _ Hz.out (by simp [hP])]; rfl, hbw2⟩
        | true =>
          clear hd1
          have hl : letterR ((Utf8.decode s pos).1 : Int) = true := small_letter _ hP
          have Hl := Lib.hid hl
          clear hl
          go_wp2_with (first
            | (go_at_call 17; refine (small_any _ _).mono ?_; rintro e w' ⟨rfl, rfl⟩)
            | (go_at_call 19; refine (big_any _ _).mono ?_; rintro e w' ⟨rfl, rfl⟩)
            | (go_at_call 21; refine (digit_any _ _).mono ?_; rintro e w' ⟨rfl, rfl⟩))
          go_roundw
          case rel => exact ⟨_, hit2, hbw2, hle, Hgood.out _ Hz.out (by simp [Hl.out, hP])⟩
          case measure => rw [iterPos_at hit2, iterPos_at hit]; omega
      | false =>
        cases h1 : smallR ((Utf8.decode s pos).1 : Int) with
        | true =>
          go_wp2_with (first
            | (go_at_call 17; refine (small_any _ _).mono ?_; rintro e w' ⟨rfl, rfl⟩)
            | (go_at_call 19; refine (big_any _ _).mono ?_; rintro e w' ⟨rfl, rfl⟩)
            | (go_at_call 21; refine (digit_any _ _).mono ?_; rintro e w' ⟨rfl, rfl⟩))
          go_roundw
          case rel => exact ⟨_, hit2, hbw2, hle, Hgood.out _ Hz.out (by simp [letterR, h1])⟩
          case measure => rw [iterPos_at hit2, iterPos_at hit]; omega
        | false =>
          cases h2 : bigR ((Utf8.decode s pos).1 : Int) with
          | true =>
            go_wp2_with (first
              | (go_at_call 17; refine (small_any _ _).mono ?_; rintro e w' ⟨rfl, rfl⟩)
              | (go_at_call 19; refine (big_any _ _).mono ?_; rintro e w' ⟨rfl, rfl⟩)
              | (go_at_call 21; refine (digit_any _ _).mono ?_; rintro e w' ⟨rfl, rfl⟩))
            go_roundw
            case rel => exact ⟨_, hit2, hbw2, hle, Hgood.out _ Hz.out (by simp [letterR, h1, h2])⟩
            case measure => rw [iterPos_at hit2, iterPos_at hit]; omega
          | false =>
            cases h3 : digitR ((Utf8.decode s pos).1 : Int) with
            | true =>
              go_wp2_with (first
                | (go_at_call 17; refine (small_any _ _).mono ?_; rintro e w' ⟨rfl, rfl⟩)
                | (go_at_call 19; refine (big_any _ _).mono ?_; rintro e w' ⟨rfl, rfl⟩)
                | (go_at_call 21; refine (digit_any _ _).mono ?_; rintro e w' ⟨rfl, rfl⟩))
              go_roundw
              case rel => exact ⟨_, hit2, hbw2, hle, Hgood.out _ Hz.out (by simp [letterR, h1, h2, h3])⟩
              case measure => rw [iterPos_at hit2, iterPos_at hit]; omega
            | false =>
              go_wp2_with (first
                | (go_at_call 17; refine (small_any _ _).mono ?_; rintro e w' ⟨rfl, rfl⟩)
                | (go_at_call 19; refine (big_any _ _).mono ?_; rintro e w' ⟨rfl, rfl⟩)
                | (go_at_call 21; refine (digit_any _ _).mono ?_; rintro e w' ⟨rfl, rfl⟩))
              go_ret
              exact ⟨by rw [Hbad.out _ Hz.out (by simp [letterR, h1, h2, h3])]; rfl, hbw2⟩
    · have hnx : ∀ ty, (Instr.next (.pointer (some ⟨w.heap.size, 0, none⟩)) true ty).run Tryd.prog wr = _ := fun ty => Lib.run_next_end_at wr w.heap.size s pos ty hit hp
      have hres : namedB smallR s.data.toList = (!s.data.toList.isEmpty && decide (s.data.toList.length ≤ 20)) := by
        have hg := Hgo.out
        rw [chunks_end s pos hp, namedGo] at hg
        rw [← named_eq, ← hg]
        rfl
      have Hres := Lib.hid hres
      have Hsl := Lib.hid (size_list s)
      clear hres Hgo
      have htl : s.toList = s.data.toList := Lib.toList_data s
      by_cases he : s.data.toList = []
      · have Hr2 := Lib.hid (show namedB smallR s.data.toList = false by rw [Hres.out, he]; rfl)
        have he2 : s.toList = [] := by rw [htl, he]
        clear htl he
        go_wp2
        go_ret
        exact ⟨by rw [Hr2.out]; rfl, hbw⟩
      · have Hr2 := Lib.hid (show namedB smallR s.data.toList = (!s.toList.isEmpty && decide ((s.size : Int) ≤ 20)) by rw [Hres.out, Hsl.out, htl]; congr 1; simp; omega)
        have he2 : ¬ s.toList = [] := by rw [htl]; exact he
        clear htl he
        go_wp2
        go_ret
        exact ⟨by rw [Hr2.out]; rfl, hbw⟩

set_option maxHeartbeats 4000000 in
set_option maxRecDepth 100000 in
theorem namedBig_any (s : ByteArray) (w : World) (hs : s.size ≤ 9223372036854775807) : Calls Tryd.prog 39 #[.string s, .func (.func 19) #[] #[]] w fun e w' => e = .returned (.bool (namedB bigR s.data.toList)) ∧ Below w.heap.size w w' := by
  go_enter Tryd.func39, Tryd.ntmps39
  go_wp2
  go_loopw [] (fun wr => ∃ pos : Nat, wr.heap[w.heap.size]? = some (.stringIter s pos) ∧ Below w.heap.size w wr ∧ pos ≤ s.size ∧ namedGo bigR (pos == 0) (chunks (s.data.toList.drop pos)) = namedGo bigR true (chunks s.data.toList)) (fun wr => s.size - wr.iterPos w.heap.size)
  case atStart =>
    exact ⟨0, World.iter_heap w s 0, (Below.refl _ w).alloc (Nat.le_refl _) _, Nat.zero_le _, rfl⟩
  case round =>
    obtain ⟨pos, hit, hbw, hps, hgo⟩ := hrel
    have Hgo := Lib.hid hgo
    clear hgo
    have hsz : w.heap.size < wr.heap.size := (Array.getElem?_eq_some_iff.1 hit).1
    by_cases hp : pos < s.size
    · have hnx : ∀ ty, (Instr.next (.pointer (some ⟨w.heap.size, 0, none⟩)) true ty).run Tryd.prog wr = _ := fun ty => Lib.run_next_any_at wr w.heap.size s pos ty hit hp
      have hwd := dec_pos s pos
      have hle := dec_le s pos hp
      have hd1 := decode_le s pos
      have hit2 := Lib.iterAt_heap wr w.heap.size s pos (pos + (Utf8.decode s pos).2) hit
      have hbw2 := Lib.below_iterAt hbw (k := w.heap.size) (Nat.le_refl _) s (pos + (Utf8.decode s pos).2)
      have hch := chunks_at s pos hp
      rw [hch] at Hgo
      have hbad : ∀ z : Bool, (pos == 0) = z → (z = true ∧ bigR ((Utf8.decode s pos).1 : Int) = false) ∨ letterR ((Utf8.decode s pos).1 : Int) = false → namedB bigR s.data.toList = false := by
        intro z hz hc
        have hg := Hgo.out
        rw [hz, namedGo, if_pos hc] at hg
        rw [← named_eq, ← hg]
        rfl
      have hgood : ∀ z : Bool, (pos == 0) = z → ¬ ((z = true ∧ bigR ((Utf8.decode s pos).1 : Int) = false) ∨ letterR ((Utf8.decode s pos).1 : Int) = false) →
          namedGo bigR (pos + (Utf8.decode s pos).2 == 0) (chunks (s.data.toList.drop (pos + (Utf8.decode s pos).2))) = namedGo bigR true (chunks s.data.toList) := by
        intro z hz hc
        have hg := Hgo.out
        rw [hz, namedGo, if_neg hc] at hg
        rw [show (pos + (Utf8.decode s pos).2 == 0) = false by simp; omega]
        exact hg
      have Hbad := Lib.hid hbad
      have Hgood := Lib.hid hgood
      obtain ⟨z, hz⟩ : ∃ z : Bool, (pos == 0) = z := ⟨_, rfl⟩
      have hzi : ((pos : Int) == 0) = z := by
        rw [← hz, Bool.eq_iff_iff]
        simp
      have Hz := Lib.hid hz
      clear hbad hgood hch Hgo hz
      cases z with
      | true =>
        cases hP : bigR ((Utf8.decode s pos).1 : Int) with
        | false =>
          go_wp2_with (first
            | (go_at_call 17; refine (small_any _ _).mono ?_; rintro e w' ⟨rfl, rfl⟩)
            | (go_at_call 19; refine (big_any _ _).mono ?_; rintro e w' ⟨rfl, rfl⟩)
            | (go_at_call 21; refine (digit_any _ _).mono ?_; rintro e w' ⟨rfl, rfl⟩))
          go_ret
          exact ⟨by rw [Hbad.out _ Hz.out (by simp [hP])]; rfl, hbw2⟩
        | true =>
          have hb := (bigR_iff _).1 hP
          have h1 : smallR ((Utf8.decode s pos).1 : Int) = false := by rw [← Bool.not_eq_true, smallR_iff]; omega
          clear hb
          have hl : letterR ((Utf8.decode s pos).1 : Int) = true := big_letter _ hP
          have Hl := Lib.hid hl
          clear hl
          go_wp2_with (first
            | (go_at_call 17; refine (small_any _ _).mono ?_; rintro e w' ⟨rfl, rfl⟩)
            | (go_at_call 19; refine (big_any _ _).mono ?_; rintro e w' ⟨rfl, rfl⟩)
            | (go_at_call 21; refine (digit_any _ _).mono ?_; rintro e w' ⟨rfl, rfl⟩))
          go_roundw
          case rel => exact ⟨_, hit2, hbw2, hle, Hgood.out _ Hz.out (by simp [Hl.out, hP])⟩
          case measure => rw [iterPos_at hit2, iterPos_at hit]; omega
      | false =>
        cases h1 : smallR ((Utf8.decode s pos).1 : Int) with
        | true =>
          go_wp2_with (first
            | (go_at_call 17; refine (small_any _ _).mono ?_; rintro e w' ⟨rfl, rfl⟩)
            | (go_at_call 19; refine (big_any _ _).mono ?_; rintro e w' ⟨rfl, rfl⟩)
            | (go_at_call 21; refine (digit_any _ _).mono ?_; rintro e w' ⟨rfl, rfl⟩))
          go_roundw
          case rel => exact ⟨_, hit2, hbw2, hle, Hgood.out _ Hz.out (by simp [letterR, h1])⟩
          case measure => rw [iterPos_at hit2, iterPos_at hit]; omega
        | false =>
          cases h2 : bigR ((Utf8.decode s pos).1 : Int) with
          | true =>
            go_wp2_with (first
              | (go_at_call 17; refine (small_any _ _).mono ?_; rintro e w' ⟨rfl, rfl⟩)
              | (go_at_call 19; refine (big_any _ _).mono ?_; rintro e w' ⟨rfl, rfl⟩)
              | (go_at_call 21; refine (digit_any _ _).mono ?_; rintro e w' ⟨rfl, rfl⟩))
            go_roundw
            case rel => exact ⟨_, hit2, hbw2, hle, Hgood.out _ Hz.out (by simp [letterR, h1, h2])⟩
            case measure => rw [iterPos_at hit2, iterPos_at hit]; omega
          | false =>
            cases h3 : digitR ((Utf8.decode s pos).1 : Int) with
            | true =>
              go_wp2_with (first
                | (go_at_call 17; refine (small_any _ _).mono ?_; rintro e w' ⟨rfl, rfl⟩)
                | (go_at_call 19; refine (big_any _ _).mono ?_; rintro e w' ⟨rfl, rfl⟩)
                | (go_at_call 21; refine (digit_any _ _).mono ?_; rintro e w' ⟨rfl, rfl⟩))
              go_roundw
              case rel => exact ⟨_, hit2, hbw2, hle, Hgood.out _ Hz.out (by simp [letterR, h1, h2, h3])⟩
              case measure => rw [iterPos_at hit2, iterPos_at hit]; omega
            | false =>
              go_wp2_with (first
                | (go_at_call 17; refine (small_any _ _).mono ?_; rintro e w' ⟨rfl, rfl⟩)
                | (go_at_call 19; refine (big_any _ _).mono ?_; rintro e w' ⟨rfl, rfl⟩)
                | (go_at_call 21; refine (digit_any _ _).mono ?_; rintro e w' ⟨rfl, rfl⟩))
              go_ret
              exact ⟨by rw [Hbad.out _ Hz.out (by simp [letterR, h1, h2, h3])]; rfl, hbw2⟩
    · have hnx : ∀ ty, (Instr.next (.pointer (some ⟨w.heap.size, 0, none⟩)) true ty).run Tryd.prog wr = _ := fun ty => Lib.run_next_end_at wr w.heap.size s pos ty hit hp
      have hres : namedB bigR s.data.toList = (!s.data.toList.isEmpty && decide (s.data.toList.length ≤ 20)) := by
        have hg := Hgo.out
        rw [chunks_end s pos hp, namedGo] at hg
        rw [← named_eq, ← hg]
        rfl
      have Hres := Lib.hid hres
      have Hsl := Lib.hid (size_list s)
      clear hres Hgo
      have htl : s.toList = s.data.toList := Lib.toList_data s
      by_cases he : s.data.toList = []
      · have Hr2 := Lib.hid (show namedB bigR s.data.toList = false by rw [Hres.out, he]; rfl)
        have he2 : s.toList = [] := by rw [htl, he]
        clear htl he
        go_wp2
        go_ret
        exact ⟨by rw [Hr2.out]; rfl, hbw⟩
      · have Hr2 := Lib.hid (show namedB bigR s.data.toList = (!s.toList.isEmpty && decide ((s.size : Int) ≤ 20)) by rw [Hres.out, Hsl.out, htl]; congr 1; simp; omega)
        have he2 : ¬ s.toList = [] := by rw [htl]; exact he
        clear htl he
        go_wp2
        go_ret
        exact ⟨by rw [Hr2.out]; rfl, hbw⟩
end Go.Proofs.YtohmlhbmjamecaaDoor
