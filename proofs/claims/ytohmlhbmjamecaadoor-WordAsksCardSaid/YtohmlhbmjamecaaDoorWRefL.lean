/- changelingref1.one at a letter, a quote, a sign, over this seat's translation. -/
import Derived.Test.YtohmlhbmjamecaaDoorWRefO
namespace Go.Proofs.YtohmlhbmjamecaaDoor
open Go.RowKit P

set_option maxHeartbeats 8000000 in
set_option maxRecDepth 100000 in
theorem rone_letter (s : ByteArray) (pos : Nat) (w : World) (hs : s.size ≤ 1000000000000) (hp : pos < s.size) (hd0 : digitB (s[pos]'hp) = false) (hc : letterB (s[pos]'hp) = true) :
    Calls Tryd.prog 48 #[.string s, .int .i64 pos] w fun e w' => e = .returned (roneV (s.data.toList.drop pos) pos) ∧ Below w.heap.size w w' := by
  have hd := drop_at s pos hp
  have hr := hc
  unfold letterB at hr
  have hr2 := (letterR_iff _).1 hr
  have Hv := Lib.hid (show ∀ n, twN letterB s pos = n → roneV (s.data.toList.drop pos) pos = .tuple #[.agg #[.int .i64 1, .string (s.extract pos (pos + n)), .int .i64 pos], .int .i64 n] from fun n hn => by
    rw [cut_word s pos n letterB hn]
    apply roneV_word _ _ _ 1
    · unfold wordO
      rw [hd, List.headD_cons, if_neg (by rw [hd0]; simp), if_pos hc, ← hd]
      rw [show ((s.data.toList.drop pos).takeWhile letterB).length = n from hn]
    · rw [hd]
      apply gap_tail
      · unfold blankB
        simp only [Bool.or_eq_false_iff, beq_eq_false_iff_ne]
        refine ⟨⟨⟨?_, ?_⟩, ?_⟩, ?_⟩ <;> (intro e; rw [e] at hr2; revert hr2; decide)
      · simp only [List.isPrefixOf, Bool.and_eq_false_iff, beq_eq_false_iff_ne]
        left
        intro e
        rw [← e] at hr2
        revert hr2
        decide)
  have hn1 := Lib.hid (twN_yes letterB s pos hp hc)
  clear hd
  have q1 : (((s[pos]'hp).toNat : Int) == 32) = false := by rw [beq_eq_false_iff_ne]; omega
  have q2 : (((s[pos]'hp).toNat : Int) == 9) = false := by rw [beq_eq_false_iff_ne]; omega
  have q3 : (((s[pos]'hp).toNat : Int) == 10) = false := by rw [beq_eq_false_iff_ne]; omega
  have q4 : (((s[pos]'hp).toNat : Int) == 13) = false := by rw [beq_eq_false_iff_ne]; omega
  have q5 : (((s[pos]'hp).toNat : Int) == 47) = false := by rw [beq_eq_false_iff_ne]; omega
  have h256 : (s[pos]'hp).toNat < 256 := (s[pos]'hp).toNat_lt
  unfold digitB at hd0
  clear hr2 hr
  go_enter Tryd.func48, Tryd.ntmps48
  go_wp2_with (first | (go_at_call 22; refine (rdigit_any _ _).mono ?_; rintro e w' ⟨rfl, rfl⟩) | (go_at_call 61; refine (rletter_any _ _).mono ?_; rintro e w' ⟨rfl, rfl⟩))
  go_loop [7] (fun v => ∃ n : Nat, v = .int .i64 n ∧ 1 ≤ n ∧ pos + n ≤ s.size ∧ twN letterB s pos = n + twN letterB s (pos + n)) (fun v => s.size - (intOf v).toNat)
  case atStart => exact ⟨1, rfl, Nat.le_refl _, by omega, by rw [hn1.out]; omega⟩
  case round =>
    obtain ⟨n, rfl, h1, h2, h3⟩ := hrel
    have H3 := Lib.hid h3
    clear h3
    by_cases hk : pos + n < s.size
    · have h256 : (s[pos + n]'hk).toNat < 256 := (s[pos + n]'hk).toNat_lt
      cases hb : letterB (s[pos + n]'hk)
      · have hz := twN_no letterB s (pos + n) hk hb
        have Hv2 := Lib.hid (Hv.out n (by rw [H3.out, hz]; rfl))
        clear hz
        go_wp2_with (first | (go_at_call 22; refine (rdigit_any _ _).mono ?_; rintro e w' ⟨rfl, rfl⟩) | (go_at_call 61; refine (rletter_any _ _).mono ?_; rintro e w' ⟨rfl, rfl⟩))
        rw [Hv2.out]
        exact bodyPost_ret (v := .tuple #[.agg #[.int .i64 1, .string (s.extract pos (pos + n)), .int .i64 pos], .int .i64 n]) (by simp [results, Tryd.results48, go_sem]) rfl ⟨rfl, (Below.refl _ _).alloc (Nat.le_refl _) _⟩
      · have hy := Lib.hid (twN_yes letterB s (pos + n) hk hb)
        go_wp2_with (first | (go_at_call 22; refine (rdigit_any _ _).mono ?_; rintro e w' ⟨rfl, rfl⟩) | (go_at_call 61; refine (rletter_any _ _).mono ?_; rintro e w' ⟨rfl, rfl⟩))
        go_round
        case rel => exact ⟨n + 1, by go_num, by omega, by omega, by rw [H3.out, hy.out, show pos + (n + 1) = pos + n + 1 from by omega]; omega⟩
        case measure => simp [intOf]; omega
    · have hz := twN_end letterB s (pos + n) hk
      have Hv2 := Lib.hid (Hv.out n (by rw [H3.out, hz]; rfl))
      clear hz
      go_wp2
      rw [Hv2.out]
      exact bodyPost_ret (v := .tuple #[.agg #[.int .i64 1, .string (s.extract pos (pos + n)), .int .i64 pos], .int .i64 n]) (by simp [results, Tryd.results48, go_sem]) rfl ⟨rfl, (Below.refl _ _).alloc (Nat.le_refl _) _⟩
end Go.Proofs.YtohmlhbmjamecaaDoor
