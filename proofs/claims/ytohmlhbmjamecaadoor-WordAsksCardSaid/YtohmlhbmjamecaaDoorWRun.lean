/- word.letter, word.run at its three function values, over this seat's translation. -/
import Derived.Test.YtohmlhbmjamecaaDoorSignP
import Derived.Test.YtohmlhbmjamecaaDoorPureW
import Derived.WalkSpells
namespace Go.Proofs.YtohmlhbmjamecaaDoor
open Go.RowKit P

theorem letter_any (r : Int) (w : World) : Calls Tryd.prog 58 #[.int .i32 r] w fun e w' => e = .returned (.bool (letterR r)) ∧ w' = w := by
  have Hl := Lib.hid (show letterR r = (smallR r || bigR r || digitR r) from rfl)
  cases h1 : smallR r
  all_goals
    cases h2 : bigR r
    all_goals
      cases h3 : digitR r
      all_goals
        rw [h1, h2, h3] at Hl
        go_enter Tryd.func58, Tryd.ntmps58
        go_wp2_with (first
          | (go_at_call 17; refine (small_any _ _).mono ?_; rintro e w' ⟨rfl, rfl⟩)
          | (go_at_call 19; refine (big_any _ _).mono ?_; rintro e w' ⟨rfl, rfl⟩)
          | (go_at_call 21; refine (digit_any _ _).mono ?_; rintro e w' ⟨rfl, rfl⟩))
        go_ret
        exact ⟨by rw [Hl.out]; rfl, rfl⟩
/-- No line's end. -/
def noLineR (r : Int) : Bool := r != 10
theorem noline_any (r : Int) (w : World) : Calls Tryd.prog 57 #[.int .i32 r] w fun e w' => e = .returned (.bool (noLineR r)) ∧ w' = w := by
  go_enter Tryd.func57, Tryd.ntmps57
  go_wp2
  go_ret
  exact ⟨rfl, rfl⟩

/-- How many bytes the runes in front have that are such ones. -/
def runN (p : Int → Bool) : List (Nat × List UInt8) → Nat
  | [] => 0
  | c :: cs => if p (c.1 : Int) then c.2.length + runN p cs else 0
theorem runN_step (p : Int → Bool) (s : ByteArray) (pos : Nat) (h : pos < s.size) : runN p (chunks (s.data.toList.drop pos)) = if p ((Utf8.decode s pos).1 : Int) then (Utf8.decode s pos).2 + runN p (chunks (s.data.toList.drop (pos + (Utf8.decode s pos).2))) else 0 := by
  have hle := dec_le s pos h
  rw [chunks_at s pos h, runN]
  dsimp only
  rw [List.length_take, List.length_drop, size_list, Nat.min_eq_left (by omega)]
/-- The bytes of a rune that is no byte below 128 are none either. -/
theorem rune_high (a : UInt8) (t : List UInt8) (h : ¬ a.toNat < 128) (b : UInt8) (hb : b ∈ (a :: t).take (Lib.decodeL (a :: t)).2) : ¬ b.toNat < 128 := by
  have hlen : 0 < (a :: t).length := by simp
  rw [Lib.decodeL_N] at hb
  have e0 : (a :: t).getD 0 0 = a := rfl
  rw [e0] at hb
  rcases Lib.decodeN_shape (a :: t).length a.toNat ((a :: t).getD 1 0).toNat ((a :: t).getD 2 0).toNat ((a :: t).getD 3 0).toNat with ⟨c, e⟩ | ⟨c1, c2, c3, cv, e⟩ | ⟨c1, c2, c3, c4, cv, cs, e⟩ | ⟨c1, c2, c3, c4, c5, cv, cw, e⟩ | e
  · omega
  · rw [e] at hb
    dsimp only at hb
    rw [Lib.takeB _ c2] at hb
    simp only [List.mem_cons, List.not_mem_nil, or_false] at hb
    rcases hb with rfl | rfl
    · exact h
    · omega
  · rw [e] at hb
    dsimp only at hb
    rw [Lib.takeC _ c2] at hb
    simp only [List.mem_cons, List.not_mem_nil, or_false] at hb
    rcases hb with rfl | rfl | rfl
    · exact h
    · omega
    · omega
  · rw [e] at hb
    dsimp only at hb
    rw [Lib.takeD _ c2] at hb
    simp only [List.mem_cons, List.not_mem_nil, or_false] at hb
    rcases hb with rfl | rfl | rfl | rfl
    · exact h
    · omega
    · omega
    · omega
  · rw [e] at hb
    dsimp only at hb
    rw [Lib.takeA _ hlen] at hb
    simp only [List.mem_cons, List.not_mem_nil, or_false] at hb
    subst hb
    exact h
/-- Where the sign at a rune hangs on its bytes alone, the runes in front are the bytes in front. -/
theorem runN_bytes (p : Int → Bool) (q : UInt8 → Bool) (hlow : ∀ a : UInt8, a.toNat < 128 → p (a.toNat : Int) = q a) (hhigh : ∀ a : UInt8, ¬ a.toNat < 128 → ∀ r : Nat, 128 ≤ r → p (r : Int) = q a) :
    ∀ (n : Nat) (l : List UInt8), l.length ≤ n → runN p (chunks l) = (l.takeWhile q).length
  | 0, l, hl => by
    have : l = [] := List.eq_nil_of_length_eq_zero (by omega)
    subst this; rfl
  | n + 1, [], _ => rfl
  | n + 1, a :: t, hl => by
    simp only [List.length_cons] at hl
    by_cases ha : a.toNat < 128
    · rw [chunks_low a t ha, runN]
      dsimp only
      rw [hlow a ha, List.takeWhile_cons]
      by_cases hq : q a = true
      · rw [if_pos hq, if_pos hq, runN_bytes p q hlow hhigh n t (by omega)]
        simp only [List.length_cons, List.length_nil]
        omega
      · rw [if_neg hq, if_neg hq]; rfl
    · have hd := decodeL_high a t ha
      have hw := Lib.decodeL_width (a :: t)
      have hle := Lib.decodeL_le (a :: t) (by simp)
      rw [chunks_step _ (by simp), runN]
      dsimp only
      rw [hhigh a ha _ hd]
      by_cases hq : q a = true
      · rw [if_pos hq, runN_bytes p q hlow hhigh n _ (by rw [List.length_drop]; simp only [List.length_cons]; omega)]
        have hall : ∀ b ∈ (a :: t).take (Lib.decodeL (a :: t)).2, q b = true := by
          intro b hb
          have := rune_high a t ha b hb
          have e1 := hhigh b this (Lib.decodeL (a :: t)).1 hd
          have e2 := hhigh a ha (Lib.decodeL (a :: t)).1 hd
          rw [← e1, e2, hq]
        conv => rhs; rw [← List.take_append_drop (Lib.decodeL (a :: t)).2 (a :: t)]
        rw [List.takeWhile_append_of_pos hall, List.length_append]
      · rw [if_neg hq, List.takeWhile_cons, if_neg hq]; rfl

theorem digit_bytes (l : List UInt8) : runN digitR (chunks l) = (l.takeWhile digitB).length :=
  runN_bytes digitR digitB (fun _ _ => rfl) (fun a ha r hr => by
    have h1 : digitR (r : Int) = false := by rw [← Bool.not_eq_true, digitR_iff]; omega
    have h2 : digitB a = false := by unfold digitB; rw [← Bool.not_eq_true, digitR_iff]; omega
    rw [h1, h2]) _ l (Nat.le_refl _)
theorem letter_bytes (l : List UInt8) : runN letterR (chunks l) = (l.takeWhile letterB).length :=
  runN_bytes letterR letterB (fun _ _ => rfl) (fun a ha r hr => by
    have h1 : letterR (r : Int) = false := by rw [← Bool.not_eq_true, letterR_iff]; omega
    have h2 : letterB a = false := by unfold letterB; rw [← Bool.not_eq_true, letterR_iff]; omega
    rw [h1, h2]) _ l (Nat.le_refl _)
theorem noline_bytes (l : List UInt8) : runN noLineR (chunks l) = (l.takeWhile noLine).length :=
  runN_bytes noLineR noLine (fun a _ => by
    unfold noLineR noLine
    rw [Bool.eq_iff_iff]
    simp only [bne_iff_ne, ne_eq]
    constructor
    · intro h hc; subst hc; exact h rfl
    · intro h hc
      apply h
      apply UInt8.toNat_inj.1
      have : a.toNat = 10 := by omega
      rw [this]; rfl) (fun a ha r hr => by
    have h1 : noLineR (r : Int) = true := by unfold noLineR; rw [bne_iff_ne]; omega
    have h2 : noLine a = true := by
      unfold noLine
      rw [bne_iff_ne]
      intro hc; subst hc; exact ha (by decide)
    rw [h1, h2]) _ l (Nat.le_refl _)

set_option maxHeartbeats 4000000 in
set_option maxRecDepth 100000 in
theorem runDigit_any (s : ByteArray) (w : World) : Calls Tryd.prog 56 #[.string s, .func (.func 21) #[] #[]] w fun e w' => ∃ x : ByteArray, e = .returned (.string x) ∧ x.data.toList = s.data.toList.takeWhile digitB ∧ Below w.heap.size w w' := by
  have Hby := Lib.hid (show runN digitR (chunks s.data.toList) = (s.data.toList.takeWhile digitB).length from digit_bytes s.data.toList)
  have Htk := Lib.hid (show ∀ k, k = (s.data.toList.takeWhile digitB).length → s.data.toList.take k = s.data.toList.takeWhile digitB from fun k hk => by
    subst hk
    exact (List.prefix_iff_eq_take.1 (List.takeWhile_prefix digitB)).symm)
  go_enter Tryd.func56, Tryd.ntmps56
  go_wp2
  go_loopw [] (fun wr => ∃ pos : Nat, wr.heap[w.heap.size]? = some (.stringIter s pos) ∧ Below w.heap.size w wr ∧ pos ≤ s.size ∧ pos + runN digitR (chunks (s.data.toList.drop pos)) = (s.data.toList.takeWhile digitB).length) (fun wr => s.size - wr.iterPos w.heap.size)
  case atStart =>
    exact ⟨0, World.iter_heap w s 0, (Below.refl _ w).alloc (Nat.le_refl _) _, Nat.zero_le _, by rw [Nat.zero_add]; exact Hby.out⟩
  case round =>
    obtain ⟨pos, hit, hbw, hps, hgo⟩ := hrel
    have Hgo := Lib.hid hgo
    clear hgo
    have hsz : w.heap.size < wr.heap.size := (Array.getElem?_eq_some_iff.1 hit).1
    by_cases hp : pos < s.size
    · have hnx : ∀ ty, (Instr.next (.pointer (some ⟨w.heap.size, 0, none⟩)) true ty).run Tryd.prog wr = _ := fun ty => Lib.run_next_any_at wr w.heap.size s pos ty hit hp
      have hwd := dec_pos s pos
      have hle := dec_le s pos hp
      have hd1 := decode_le s pos
      have hit2 := Lib.iterAt_heap wr w.heap.size s pos (pos + (Utf8.decode s pos).2) hit
      have hbw2 := Lib.below_iterAt hbw (k := w.heap.size) (Nat.le_refl _) s (pos + (Utf8.decode s pos).2)
      have Hst := Lib.hid (runN_step digitR s pos hp)
      cases h1 : digitR ((Utf8.decode s pos).1 : Int)
      · have Hr := Lib.hid (show s.data.toList.take pos = s.data.toList.takeWhile digitB from Htk.out pos (by rw [← Hgo.out, Hst.out, h1]; rfl))
        clear Hgo
        go_wp2_with (go_at_call 21; refine (digit_any _ _).mono ?_; rintro e w' ⟨rfl, rfl⟩)
        go_ret
        refine ⟨_, rfl, ?_, hbw2⟩
        rw [Lib.extract_data]
        simpa using Hr.out
      · have Hr := Lib.hid (show pos + (Utf8.decode s pos).2 + runN digitR (chunks (s.data.toList.drop (pos + (Utf8.decode s pos).2))) = (s.data.toList.takeWhile digitB).length by
          rw [← Hgo.out, Hst.out, h1, if_pos rfl]; omega)
        clear Hgo
        go_wp2_with (go_at_call 21; refine (digit_any _ _).mono ?_; rintro e w' ⟨rfl, rfl⟩)
        go_roundw
        case rel => exact ⟨_, hit2, hbw2, hle, Hr.out⟩
        case measure => rw [iterPos_at hit2, iterPos_at hit]; omega
    · have hnx : ∀ ty, (Instr.next (.pointer (some ⟨w.heap.size, 0, none⟩)) true ty).run Tryd.prog wr = _ := fun ty => Lib.run_next_end_at wr w.heap.size s pos ty hit hp
      have Hr := Lib.hid (show s.data.toList = s.data.toList.takeWhile digitB by
        have h1 := Htk.out pos (by rw [← Hgo.out, chunks_end s pos hp]; rfl)
        rw [List.take_of_length_le (by rw [size_list]; omega)] at h1
        exact h1)
      clear Hgo
      go_wp2
      go_ret
      exact ⟨_, rfl, Hr.out, hbw⟩

set_option maxHeartbeats 4000000 in
set_option maxRecDepth 100000 in
theorem runLetter_any (s : ByteArray) (w : World) : Calls Tryd.prog 56 #[.string s, .func (.func 58) #[] #[]] w fun e w' => ∃ x : ByteArray, e = .returned (.string x) ∧ x.data.toList = s.data.toList.takeWhile letterB ∧ Below w.heap.size w w' := by
  have Hby := Lib.hid (show runN letterR (chunks s.data.toList) = (s.data.toList.takeWhile letterB).length from letter_bytes s.data.toList)
  have Htk := Lib.hid (show ∀ k, k = (s.data.toList.takeWhile letterB).length → s.data.toList.take k = s.data.toList.takeWhile letterB from fun k hk => by
    subst hk
    exact (List.prefix_iff_eq_take.1 (List.takeWhile_prefix letterB)).symm)
  go_enter Tryd.func56, Tryd.ntmps56
  go_wp2
  go_loopw [] (fun wr => ∃ pos : Nat, wr.heap[w.heap.size]? = some (.stringIter s pos) ∧ Below w.heap.size w wr ∧ pos ≤ s.size ∧ pos + runN letterR (chunks (s.data.toList.drop pos)) = (s.data.toList.takeWhile letterB).length) (fun wr => s.size - wr.iterPos w.heap.size)
  case atStart =>
    exact ⟨0, World.iter_heap w s 0, (Below.refl _ w).alloc (Nat.le_refl _) _, Nat.zero_le _, by rw [Nat.zero_add]; exact Hby.out⟩
  case round =>
    obtain ⟨pos, hit, hbw, hps, hgo⟩ := hrel
    have Hgo := Lib.hid hgo
    clear hgo
    have hsz : w.heap.size < wr.heap.size := (Array.getElem?_eq_some_iff.1 hit).1
    by_cases hp : pos < s.size
    · have hnx : ∀ ty, (Instr.next (.pointer (some ⟨w.heap.size, 0, none⟩)) true ty).run Tryd.prog wr = _ := fun ty => Lib.run_next_any_at wr w.heap.size s pos ty hit hp
      have hwd := dec_pos s pos
      have hle := dec_le s pos hp
      have hd1 := decode_le s pos
      have hit2 := Lib.iterAt_heap wr w.heap.size s pos (pos + (Utf8.decode s pos).2) hit
      have hbw2 := Lib.below_iterAt hbw (k := w.heap.size) (Nat.le_refl _) s (pos + (Utf8.decode s pos).2)
      have Hst := Lib.hid (runN_step letterR s pos hp)
      cases h1 : letterR ((Utf8.decode s pos).1 : Int)
      · have Hr := Lib.hid (show s.data.toList.take pos = s.data.toList.takeWhile letterB from Htk.out pos (by rw [← Hgo.out, Hst.out, h1]; rfl))
        clear Hgo
        go_wp2_with (go_at_call 58; refine (letter_any _ _).mono ?_; rintro e w' ⟨rfl, rfl⟩)
        go_ret
        refine ⟨_, rfl, ?_, hbw2⟩
        rw [Lib.extract_data]
        simpa using Hr.out
      · have Hr := Lib.hid (show pos + (Utf8.decode s pos).2 + runN letterR (chunks (s.data.toList.drop (pos + (Utf8.decode s pos).2))) = (s.data.toList.takeWhile letterB).length by
          rw [← Hgo.out, Hst.out, h1, if_pos rfl]; omega)
        clear Hgo
        go_wp2_with (go_at_call 58; refine (letter_any _ _).mono ?_; rintro e w' ⟨rfl, rfl⟩)
        go_roundw
        case rel => exact ⟨_, hit2, hbw2, hle, Hr.out⟩
        case measure => rw [iterPos_at hit2, iterPos_at hit]; omega
    · have hnx : ∀ ty, (Instr.next (.pointer (some ⟨w.heap.size, 0, none⟩)) true ty).run Tryd.prog wr = _ := fun ty => Lib.run_next_end_at wr w.heap.size s pos ty hit hp
      have Hr := Lib.hid (show s.data.toList = s.data.toList.takeWhile letterB by
        have h1 := Htk.out pos (by rw [← Hgo.out, chunks_end s pos hp]; rfl)
        rw [List.take_of_length_le (by rw [size_list]; omega)] at h1
        exact h1)
      clear Hgo
      go_wp2
      go_ret
      exact ⟨_, rfl, Hr.out, hbw⟩

set_option maxHeartbeats 4000000 in
set_option maxRecDepth 100000 in
theorem runLine_any (s : ByteArray) (w : World) : Calls Tryd.prog 56 #[.string s, .func (.func 57) #[] #[]] w fun e w' => ∃ x : ByteArray, e = .returned (.string x) ∧ x.data.toList = s.data.toList.takeWhile noLine ∧ Below w.heap.size w w' := by
  have Hby := Lib.hid (show runN noLineR (chunks s.data.toList) = (s.data.toList.takeWhile noLine).length from noline_bytes s.data.toList)
  have Htk := Lib.hid (show ∀ k, k = (s.data.toList.takeWhile noLine).length → s.data.toList.take k = s.data.toList.takeWhile noLine from fun k hk => by
    subst hk
    exact (List.prefix_iff_eq_take.1 (List.takeWhile_prefix noLine)).symm)
  go_enter Tryd.func56, Tryd.ntmps56
  go_wp2
  go_loopw [] (fun wr => ∃ pos : Nat, wr.heap[w.heap.size]? = some (.stringIter s pos) ∧ Below w.heap.size w wr ∧ pos ≤ s.size ∧ pos + runN noLineR (chunks (s.data.toList.drop pos)) = (s.data.toList.takeWhile noLine).length) (fun wr => s.size - wr.iterPos w.heap.size)
  case atStart =>
    exact ⟨0, World.iter_heap w s 0, (Below.refl _ w).alloc (Nat.le_refl _) _, Nat.zero_le _, by rw [Nat.zero_add]; exact Hby.out⟩
  case round =>
    obtain ⟨pos, hit, hbw, hps, hgo⟩ := hrel
    have Hgo := Lib.hid hgo
    clear hgo
    have hsz : w.heap.size < wr.heap.size := (Array.getElem?_eq_some_iff.1 hit).1
    by_cases hp : pos < s.size
    · have hnx : ∀ ty, (Instr.next (.pointer (some ⟨w.heap.size, 0, none⟩)) true ty).run Tryd.prog wr = _ := fun ty => Lib.run_next_any_at wr w.heap.size s pos ty hit hp
      have hwd := dec_pos s pos
      have hle := dec_le s pos hp
      have hd1 := decode_le s pos
      have hit2 := Lib.iterAt_heap wr w.heap.size s pos (pos + (Utf8.decode s pos).2) hit
      have hbw2 := Lib.below_iterAt hbw (k := w.heap.size) (Nat.le_refl _) s (pos + (Utf8.decode s pos).2)
      have Hst := Lib.hid (runN_step noLineR s pos hp)
      cases h1 : noLineR ((Utf8.decode s pos).1 : Int)
      · have Hr := Lib.hid (show s.data.toList.take pos = s.data.toList.takeWhile noLine from Htk.out pos (by rw [← Hgo.out, Hst.out, h1]; rfl))
        clear Hgo
        go_wp2_with (go_at_call 57; refine (noline_any _ _).mono ?_; rintro e w' ⟨rfl, rfl⟩)
        go_ret
        refine ⟨_, rfl, ?_, hbw2⟩
        rw [Lib.extract_data]
        simpa using Hr.out
      · have Hr := Lib.hid (show pos + (Utf8.decode s pos).2 + runN noLineR (chunks (s.data.toList.drop (pos + (Utf8.decode s pos).2))) = (s.data.toList.takeWhile noLine).length by
          rw [← Hgo.out, Hst.out, h1, if_pos rfl]; omega)
        clear Hgo
        go_wp2_with (go_at_call 57; refine (noline_any _ _).mono ?_; rintro e w' ⟨rfl, rfl⟩)
        go_roundw
        case rel => exact ⟨_, hit2, hbw2, hle, Hr.out⟩
        case measure => rw [iterPos_at hit2, iterPos_at hit]; omega
    · have hnx : ∀ ty, (Instr.next (.pointer (some ⟨w.heap.size, 0, none⟩)) true ty).run Tryd.prog wr = _ := fun ty => Lib.run_next_end_at wr w.heap.size s pos ty hit hp
      have Hr := Lib.hid (show s.data.toList = s.data.toList.takeWhile noLine by
        have h1 := Htk.out pos (by rw [← Hgo.out, chunks_end s pos hp]; rfl)
        rw [List.take_of_length_le (by rw [size_list]; omega)] at h1
        exact h1)
      clear Hgo
      go_wp2
      go_ret
      exact ⟨_, rfl, Hr.out, hbw⟩
end Go.Proofs.YtohmlhbmjamecaaDoor
