/- changelingref1.one: the word at a place, over this seat's translation. -/
import Derived.Test.YtohmlhbmjamecaaDoorWRef
namespace Go.Proofs.YtohmlhbmjamecaaDoor
open Go.RowKit P

def zeroW : Value := .agg #[.int .i64 0, .string ⟨#[]⟩, .int .i64 0]
def roneV (l : List UInt8) (at_ : Nat) : Value :=
  if gapN l ≠ 0 then .tuple #[zeroW, .int .i64 (gapN l)]
  else match wordO l with
    | none => .tuple #[zeroW, .int .i64 0]
    | some (k, x, n) => .tuple #[.agg #[.int .i64 k, .string ⟨x.toArray⟩, .int .i64 at_], .int .i64 n]
theorem roneV_gap (l : List UInt8) (at_ n : Nat) (h : gapN l = n) (h0 : n ≠ 0) : roneV l at_ = .tuple #[zeroW, .int .i64 n] := by
  unfold roneV
  rw [h, if_pos h0]
theorem roneV_none (l : List UInt8) (at_ : Nat) (h : gapN l = 0) (hw : wordO l = none) : roneV l at_ = .tuple #[zeroW, .int .i64 0] := by
  unfold roneV
  rw [if_neg (by omega), hw]
theorem roneV_word (l : List UInt8) (at_ : Nat) (h : gapN l = 0) (k : Nat) (x : List UInt8) (n : Nat) (hw : wordO l = some (k, x, n)) : roneV l at_ = .tuple #[.agg #[.int .i64 k, .string ⟨x.toArray⟩, .int .i64 at_], .int .i64 n] := by
  unfold roneV
  rw [if_neg (by omega), hw]

/-- How many such bytes stand at a place. -/
def twN (p : UInt8 → Bool) (s : ByteArray) (k : Nat) : Nat := ((s.data.toList.drop k).takeWhile p).length
theorem twN_yes (p : UInt8 → Bool) (s : ByteArray) (k : Nat) (h : k < s.size) (hp : p (s[k]'h) = true) : twN p s k = twN p s (k + 1) + 1 := by
  unfold twN
  rw [drop_at s k h, List.takeWhile_cons, if_pos hp, List.length_cons]
theorem twN_no (p : UInt8 → Bool) (s : ByteArray) (k : Nat) (h : k < s.size) (hp : p (s[k]'h) = false) : twN p s k = 0 := by
  unfold twN
  rw [drop_at s k h, List.takeWhile_cons, if_neg (by rw [hp]; simp)]
  rfl
theorem twN_end (p : UInt8 → Bool) (s : ByteArray) (k : Nat) (h : ¬ k < s.size) : twN p s k = 0 := by
  unfold twN
  rw [List.drop_eq_nil_of_le (by rw [size_list]; omega)]
  rfl
theorem gap_tail (c : UInt8) (t : List UInt8) (hb : blankB c = false) (hp : [47, 47].isPrefixOf (c :: t) = false) : gapN (c :: t) = 0 := by
  unfold gapN
  rw [List.headD_cons, hb, hp]
  rfl

set_option maxHeartbeats 8000000 in
set_option maxRecDepth 100000 in
theorem rone_blank (s : ByteArray) (pos : Nat) (w : World) (hp : pos < s.size) (hc : s[pos]'hp = 32 ∨ s[pos]'hp = 9 ∨ s[pos]'hp = 10 ∨ s[pos]'hp = 13) :
    Calls Tryd.prog 48 #[.string s, .int .i64 pos] w fun e w' => e = .returned (roneV (s.data.toList.drop pos) pos) ∧ Below w.heap.size w w' := by
  have hd := drop_at s pos hp
  have Hv := Lib.hid (show roneV (s.data.toList.drop pos) pos = .tuple #[zeroW, .int .i64 1] from roneV_gap _ _ 1 (by
    rw [hd]
    unfold gapN
    rw [List.headD_cons]
    rcases hc with h | h | h | h <;> (rw [h]; rfl)) (by decide))
  clear hd
  have q1 : (((s[pos]'hp).toNat : Int) == 32 || ((s[pos]'hp).toNat : Int) == 9 || ((s[pos]'hp).toNat : Int) == 10 || ((s[pos]'hp).toNat : Int) == 13) = true := by
    rcases hc with h | h | h | h <;> (rw [h]; rfl)
  rcases hc with h | h | h | h
  all_goals
    have e1 : ((s[pos]'hp).toNat : Int) = _ := congrArg (fun z : UInt8 => (z.toNat : Int)) h
    simp only [UInt8.reduceToNat] at e1
    clear h q1
    go_enter Tryd.func48, Tryd.ntmps48
    go_wp2
    rw [Hv.out]
    exact bodyPost_ret (v := .tuple #[zeroW, .int .i64 1]) (by simp [results, Tryd.results48, go_sem, zeroW]) rfl ⟨rfl, (Below.refl _ _).alloc (Nat.le_refl _) _⟩

theorem not_blankB (c : UInt8) (h : blankB c = false) : c ≠ 32 ∧ c ≠ 9 ∧ c ≠ 10 ∧ c ≠ 13 := by
  unfold blankB at h
  simp at h
  exact ⟨h.1.1.1, h.1.1.2, h.1.2, h.2⟩

set_option maxHeartbeats 8000000 in
set_option maxRecDepth 100000 in
theorem rone_note (s : ByteArray) (pos : Nat) (w : World) (hs : s.size ≤ 1000000000000) (hp : pos < s.size) (hc : s[pos]'hp = 47) (hp2 : pos + 1 < s.size) (hc2 : s[pos + 1]'hp2 = 47) :
    Calls Tryd.prog 48 #[.string s, .int .i64 pos] w fun e w' => e = .returned (roneV (s.data.toList.drop pos) pos) ∧ Below w.heap.size w w' := by
  have hd := drop_at s pos hp
  have hd2 := drop_at s (pos + 1) hp2
  have hn1 := twN_yes noLine s pos hp (by rw [hc]; decide)
  have Hv := Lib.hid (show roneV (s.data.toList.drop pos) pos = .tuple #[zeroW, .int .i64 (twN noLine s pos)] from roneV_gap _ _ (twN noLine s pos) (by
    unfold gapN twN
    rw [hd, hd2, hc, hc2, List.headD_cons]
    rfl) (by omega))
  have e1 : ((s[pos]'hp).toNat : Int) = 47 := by rw [hc]; rfl
  have e2 : ((s[pos + 1]'hp2).toNat : Int) = 47 := by rw [hc2]; rfl
  have Hn1 := Lib.hid hn1
  clear hd hd2 hc hc2 hn1
  go_enter Tryd.func48, Tryd.ntmps48
  go_wp2
  go_loop [7] (fun v => ∃ n : Nat, v = .int .i64 n ∧ 1 ≤ n ∧ pos + n ≤ s.size ∧ twN noLine s pos = n + twN noLine s (pos + n)) (fun v => s.size - (intOf v).toNat)
  case atStart => exact ⟨1, rfl, Nat.le_refl _, by omega, by rw [Hn1.out]; omega⟩
  case round =>
    obtain ⟨n, rfl, h1, h2, h3⟩ := hrel
    have H3 := Lib.hid h3
    clear h3
    by_cases hk : pos + n < s.size
    · by_cases hb : s[pos + n]'hk = 10
      · have q1 : (((s[pos + n]'hk).toNat : Int) != 10) = false := by rw [hb]; rfl
        have hz := twN_no noLine s (pos + n) hk (by rw [hb]; rfl)
        have Hv2 := Lib.hid (show roneV (s.data.toList.drop pos) pos = .tuple #[zeroW, .int .i64 n] by rw [Hv.out, H3.out, hz]; rfl)
        clear hb hz
        go_wp2
        rw [Hv2.out]
        exact bodyPost_ret (v := .tuple #[zeroW, .int .i64 n]) (by simp [results, Tryd.results48, go_sem, zeroW]) rfl ⟨rfl, (Below.refl _ _).alloc (Nat.le_refl _) _⟩
      · have q1 : (((s[pos + n]'hk).toNat : Int) != 10) = true := byte_bne _ 10 (by decide) hb
        have hy := Lib.hid (twN_yes noLine s (pos + n) hk (by unfold noLine; simpa using hb))
        clear hb
        go_wp2
        go_round
        case rel => exact ⟨n + 1, by go_num, by omega, by omega, by rw [H3.out, hy.out, show pos + (n + 1) = pos + n + 1 from by omega]; omega⟩
        case measure => simp [intOf]; omega
    · have hz := twN_end noLine s (pos + n) hk
      have Hv2 := Lib.hid (show roneV (s.data.toList.drop pos) pos = .tuple #[zeroW, .int .i64 n] by rw [Hv.out, H3.out, hz]; rfl)
      clear hz
      go_wp2
      rw [Hv2.out]
      exact bodyPost_ret (v := .tuple #[zeroW, .int .i64 n]) (by simp [results, Tryd.results48, go_sem, zeroW]) rfl ⟨rfl, (Below.refl _ _).alloc (Nat.le_refl _) _⟩

/-- No note begins here, in the walk's own words. -/
def noNote (s : ByteArray) (pos : Nat) : Prop := ∀ (hp : pos < s.size) (hp2 : pos + 1 < s.size), ¬ (s[pos]'hp = 47 ∧ s[pos + 1]'hp2 = 47)
theorem noNote_prefix (s : ByteArray) (pos : Nat) (hp : pos < s.size) (h : noNote s pos) : [47, 47].isPrefixOf (s.data.toList.drop pos) = false := by
  rw [drop_at s pos hp]
  by_cases hp2 : pos + 1 < s.size
  · rw [drop_at s (pos + 1) hp2]
    have := h hp hp2
    simp only [List.isPrefixOf, Bool.and_true, Bool.and_eq_false_iff, beq_eq_false_iff_ne]
    by_cases h1 : s[pos]'hp = 47
    · exact .inr (fun e => this ⟨h1, e.symm⟩)
    · exact .inl (fun e => h1 e.symm)
  · rw [List.drop_eq_nil_of_le (by rw [size_list]; omega)]
    simp [List.isPrefixOf]
theorem cut_word (s : ByteArray) (pos n : Nat) (p : UInt8 → Bool) (h : twN p s pos = n) : s.extract pos (pos + n) = ⟨((s.data.toList.drop pos).takeWhile p).toArray⟩ := by
  have e : (s.extract pos (pos + n)).data.toList = (s.data.toList.drop pos).takeWhile p := by
    rw [Lib.extract_data, show pos + n - pos = n from by omega, ← h]
    exact prefix_take (List.takeWhile_prefix _)
  rw [← e]

set_option maxHeartbeats 8000000 in
set_option maxRecDepth 100000 in
theorem rone_digit (s : ByteArray) (pos : Nat) (w : World) (hs : s.size ≤ 1000000000000) (hp : pos < s.size) (hc : digitB (s[pos]'hp) = true) :
    Calls Tryd.prog 48 #[.string s, .int .i64 pos] w fun e w' => e = .returned (roneV (s.data.toList.drop pos) pos) ∧ Below w.heap.size w w' := by
  have hd := drop_at s pos hp
  have hr := hc
  unfold digitB at hr
  have hr2 := (digitR_iff _).1 hr
  have Hv := Lib.hid (show ∀ n, twN digitB s pos = n → roneV (s.data.toList.drop pos) pos = .tuple #[.agg #[.int .i64 2, .string (s.extract pos (pos + n)), .int .i64 pos], .int .i64 n] from fun n hn => by
    rw [cut_word s pos n digitB hn]
    apply roneV_word _ _ _ 2
    · unfold wordO
      rw [hd, List.headD_cons, if_pos hc, ← hd]
      rw [show ((s.data.toList.drop pos).takeWhile digitB).length = n from hn]
    · rw [hd]
      apply gap_tail
      · unfold blankB
        simp only [Bool.or_eq_false_iff, beq_eq_false_iff_ne]
        refine ⟨⟨⟨?_, ?_⟩, ?_⟩, ?_⟩ <;> (intro e; rw [e] at hr2; revert hr2; decide)
      · simp only [List.isPrefixOf, Bool.and_eq_false_iff, beq_eq_false_iff_ne]
        left
        intro e
        rw [← e] at hr2
        revert hr2
        decide)
  have hn1 := Lib.hid (twN_yes digitB s pos hp hc)
  clear hd hc
  have q1 : (((s[pos]'hp).toNat : Int) == 32) = false := by rw [beq_eq_false_iff_ne]; omega
  have q2 : (((s[pos]'hp).toNat : Int) == 9) = false := by rw [beq_eq_false_iff_ne]; omega
  have q3 : (((s[pos]'hp).toNat : Int) == 10) = false := by rw [beq_eq_false_iff_ne]; omega
  have q4 : (((s[pos]'hp).toNat : Int) == 13) = false := by rw [beq_eq_false_iff_ne]; omega
  have q5 : (((s[pos]'hp).toNat : Int) == 47) = false := by rw [beq_eq_false_iff_ne]; omega
  have h256 : (s[pos]'hp).toNat < 256 := (s[pos]'hp).toNat_lt
  clear hr2
  go_enter Tryd.func48, Tryd.ntmps48
  go_wp2_with (go_at_call 22; refine (rdigit_any _ _).mono ?_; rintro e w' ⟨rfl, rfl⟩)
  go_loop [7] (fun v => ∃ n : Nat, v = .int .i64 n ∧ 1 ≤ n ∧ pos + n ≤ s.size ∧ twN digitB s pos = n + twN digitB s (pos + n)) (fun v => s.size - (intOf v).toNat)
  case atStart => exact ⟨1, rfl, Nat.le_refl _, by omega, by rw [hn1.out]; omega⟩
  case round =>
    obtain ⟨n, rfl, h1, h2, h3⟩ := hrel
    have H3 := Lib.hid h3
    clear h3
    by_cases hk : pos + n < s.size
    · have h256 : (s[pos + n]'hk).toNat < 256 := (s[pos + n]'hk).toNat_lt
      cases hb : digitB (s[pos + n]'hk)
      · have hz := twN_no digitB s (pos + n) hk hb
        have Hv2 := Lib.hid (Hv.out n (by rw [H3.out, hz]; rfl))
        unfold digitB at hb
        clear hz
        go_wp2_with (go_at_call 22; refine (rdigit_any _ _).mono ?_; rintro e w' ⟨rfl, rfl⟩)
        rw [Hv2.out]
        exact bodyPost_ret (v := .tuple #[.agg #[.int .i64 2, .string (s.extract pos (pos + n)), .int .i64 pos], .int .i64 n]) (by simp [results, Tryd.results48, go_sem]) rfl ⟨rfl, (Below.refl _ _).alloc (Nat.le_refl _) _⟩
      · have hy := Lib.hid (twN_yes digitB s (pos + n) hk hb)
        unfold digitB at hb
        go_wp2_with (go_at_call 22; refine (rdigit_any _ _).mono ?_; rintro e w' ⟨rfl, rfl⟩)
        go_round
        case rel => exact ⟨n + 1, by go_num, by omega, by omega, by rw [H3.out, hy.out, show pos + (n + 1) = pos + n + 1 from by omega]; omega⟩
        case measure => simp [intOf]; omega
    · have hz := twN_end digitB s (pos + n) hk
      have Hv2 := Lib.hid (Hv.out n (by rw [H3.out, hz]; rfl))
      clear hz
      go_wp2
      rw [Hv2.out]
      exact bodyPost_ret (v := .tuple #[.agg #[.int .i64 2, .string (s.extract pos (pos + n)), .int .i64 pos], .int .i64 n]) (by simp [results, Tryd.results48, go_sem]) rfl ⟨rfl, (Below.refl _ _).alloc (Nat.le_refl _) _⟩
end Go.Proofs.YtohmlhbmjamecaaDoor
