/- The references' Plain (changelingref1), over this seat's translation. -/
import Derived.Test.YtohmlhbmjamecaaDoorRefS
namespace Go.Proofs.YtohmlhbmjamecaaDoor
open Go.RowKit P

/-- A rune below 128 is its byte. -/
theorem low_rune (s : ByteArray) (pos : Nat) (h : pos < s.size) (hr : (Utf8.decode s pos).1 < 128) : (s[pos]'h).toNat = (Utf8.decode s pos).1 ∧ (Utf8.decode s pos).2 = 1 := by
  by_cases ha : (s[pos]'h).toNat < 128
  · rw [decode_ascii s pos h ha]
    exact ⟨rfl, rfl⟩
  · have := (decode_high s pos h (by omega)).1
    omega
theorem chunk_at_low (s : ByteArray) (pos : Nat) (h : pos < s.size) (ha : (s[pos]'h).toNat < 128) : chunks (s.data.toList.drop pos) = ((s[pos]'h).toNat, [s[pos]'h]) :: chunks (s.data.toList.drop (pos + 1)) := by
  rw [chunks_at s pos h, decode_ascii s pos h ha]
  congr 2
  have hl : pos < s.data.toList.length := by rw [size_list]; exact h
  rw [List.drop_eq_getElem_cons hl]
  rfl
theorem chunk_at_high (s : ByteArray) (pos : Nat) (h : pos < s.size) (ha : ¬ (s[pos]'h).toNat < 128) : ∃ c cs, chunks (s.data.toList.drop pos) = c :: cs ∧ 128 ≤ c.1 :=
  ⟨_, _, chunks_at s pos h, (decode_high s pos h (by omega)).1⟩
theorem len_drop (s : ByteArray) (pos : Nat) : (chunks (s.data.toList.drop pos)).length ≤ s.size - pos := by
  have := chunks_length (s.data.toList.drop pos)
  rw [List.length_drop, size_list] at this
  exact this

def RP (s : ByteArray) (pos : Nat) (acc : List UInt8) : Option (List UInt8) := rplainGo (s.size + 1) (chunks (s.data.toList.drop pos)) acc
theorem RP_end (s : ByteArray) (pos : Nat) (acc : List UInt8) (h : ¬ pos < s.size) : RP s pos acc = some acc := by
  unfold RP
  rw [chunks_end s pos h, rplainGo]
theorem RP_none (s : ByteArray) (pos : Nat) (acc : List UInt8) (h : pos < s.size) (hc : badAt s pos = true ∨ (Utf8.decode s pos).1 = 34 ∨ (Utf8.decode s pos).1 = 10) : RP s pos acc = none := by
  unfold RP
  rw [chunks_at s pos h]
  exact rplain_none _ _ _ _ (by rw [badAt_chunk s pos h]; exact hc)
theorem RP_rune (s : ByteArray) (pos : Nat) (acc : List UInt8) (h : pos < s.size) (hb : badAt s pos = false) (h34 : (Utf8.decode s pos).1 ≠ 34) (h10 : (Utf8.decode s pos).1 ≠ 10) (h92 : (Utf8.decode s pos).1 ≠ 92) :
    RP s pos acc = RP s (pos + (Utf8.decode s pos).2) (acc ++ (s.data.toList.drop pos).take (Utf8.decode s pos).2) := by
  have hw := dec_pos s pos
  have h1 := len_drop s (pos + (Utf8.decode s pos).2)
  unfold RP
  rw [chunks_at s pos h, rplain_plain _ _ _ _ (by rw [badAt_chunk s pos h, hb]; simp [h34, h10]) h92]
  exact rplain_fuel _ _ _ _ (by omega) (by omega)
theorem RP_last (s : ByteArray) (pos : Nat) (acc : List UInt8) (h : pos < s.size) (hb : badAt s pos = false) (h92 : (Utf8.decode s pos).1 = 92) (he : ¬ pos + 1 < s.size) : RP s pos acc = none := by
  obtain ⟨_, hw⟩ := low_rune s pos h (by omega)
  unfold RP
  rw [chunks_at s pos h, hw, chunks_end s (pos + 1) he]
  rw [rplain_last _ _ _ (by have := badAt_chunk s pos h; rw [hw] at this; rw [this, hb]; simp [h92]) h92]
theorem RP_esc (s : ByteArray) (pos : Nat) (acc : List UInt8) (h : pos < s.size) (hb : badAt s pos = false) (h92 : (Utf8.decode s pos).1 = 92) (he : pos + 1 < s.size) :
    RP s pos acc = if (s[pos + 1]'he).toNat = 34 ∨ (s[pos + 1]'he).toNat = 92 then RP s (pos + 2) (acc ++ [s[pos + 1]'he]) else if (s[pos + 1]'he).toNat = 110 then RP s (pos + 2) (acc ++ [10]) else none := by
  obtain ⟨_, hw⟩ := low_rune s pos h (by omega)
  have hbc := badAt_chunk s pos h
  rw [hw] at hbc
  have hg : ¬ (isBad ((Utf8.decode s pos).1, (s.data.toList.drop pos).take 1) = true ∨ (Utf8.decode s pos).1 = 34 ∨ (Utf8.decode s pos).1 = 10) := by
    rw [hbc, hb]; simp [h92]
  have h2 := len_drop s (pos + 2)
  unfold RP
  rw [chunks_at s pos h, hw]
  by_cases ha : (s[pos + 1]'he).toNat < 128
  · rw [chunk_at_low s (pos + 1) he ha, rplain_esc _ _ _ _ _ hg h92]
    dsimp only
    rw [rplain_fuel s.size (s.size + 1) _ (acc ++ [s[pos + 1]'he]) (by show _ < _; rw [show pos + 1 + 1 = pos + 2 from rfl]; omega) (by rw [show pos + 1 + 1 = pos + 2 from rfl]; omega),
      rplain_fuel s.size (s.size + 1) _ (acc ++ [10]) (by rw [show pos + 1 + 1 = pos + 2 from rfl]; omega) (by rw [show pos + 1 + 1 = pos + 2 from rfl]; omega)]
  · obtain ⟨c, cs, e, hc⟩ := chunk_at_high s (pos + 1) he ha
    rw [e, rplain_esc _ _ _ _ _ hg h92, if_neg (by omega), if_neg (by omega), if_neg (by omega), if_neg (by omega)]

set_option maxHeartbeats 8000000 in
set_option maxRecDepth 100000 in
theorem rplain_any (s : ByteArray) (w : World) (hs : s.size ≤ 1000000000000) :
    Calls Tryd.prog 16 #[.string s] w fun e w' => e = .returned (plainRet (plainO s.data.toList)) ∧ Below w.heap.size w w' := by
  have H0 := Lib.hid (show RP s 0 [] = plainO s.data.toList from rplain_eq s.data.toList (s.size + 1) (by have := chunks_length s.data.toList; rw [size_list] at this; omega))
  go_enter Tryd.func16, Tryd.ntmps16
  go_wp2
  go_loopw [4, 5] (fun o c wr => ∃ (pos : Nat) (acc : List UInt8) (ob : ByteArray), o = .string ob ∧ c = .int .i64 pos ∧ ob.data.toList = acc ∧ Below w.heap.size w wr ∧ pos ≤ s.size ∧ RP s pos acc = plainO s.data.toList ∧ acc.length ≤ 4 * pos) (fun _ c _ => s.size - (intOf c).toNat)
  case atStart => exact ⟨0, [], ⟨#[]⟩, rfl, rfl, rfl, Below.refl _ _, Nat.zero_le _, H0.out, by simp⟩
  case round =>
    obtain ⟨pos, acc, ob, rfl, rfl, hob, hbw, hps, hgo, hal⟩ := hrel
    have Hgo := Lib.hid hgo
    have Hob := Lib.hid hob
    have hosz : ob.size = acc.length := by rw [← size_list, hob]
    have hosz2 : ob.size ≤ 4 * pos := by omega
    have hz := hbw.size
    clear hgo hob hosz H0
    by_cases hp : pos < s.size
    · have hwd := dec_pos s pos
      have hle := dec_le s pos hp
      cases hb : badAt s pos
      · have Hv := Lib.hid (oneV_at s pos false hb)
        have Hb := Lib.hid hb
        clear hb
        go_wp2_with fail
        refine (one_any s pos _ hs hp).mono ?_
        rintro e w1 ⟨rfl, b1⟩
        rw [Hv.out]
        have b2 := (hbw.trans (b1.mono hz)).alloc (Nat.le_trans hz b1.size) (.cells #[.int .i32 ((Utf8.decode s pos).1 : Int), .int .i64 ((Utf8.decode s pos).2 : Int), .bool false] 54)
        by_cases c34 : (Utf8.decode s pos).1 = 34
        · have Hr := Lib.hid (show plainO s.data.toList = none by rw [← Hgo.out]; exact RP_none s pos acc hp (.inr (.inl c34)))
          have q34 : (((Utf8.decode s pos).1 : Int) == 34) = true := by rw [beq_iff_eq]; omega
          clear c34
          go_wp2
          go_ret2
          exact ⟨by rw [Hr.out]; rfl, b2⟩
        by_cases c10 : (Utf8.decode s pos).1 = 10
        · have Hr := Lib.hid (show plainO s.data.toList = none by rw [← Hgo.out]; exact RP_none s pos acc hp (.inr (.inr c10)))
          have q34 : (((Utf8.decode s pos).1 : Int) == 34) = false := by rw [beq_eq_false_iff_ne]; omega
          have q10 : (((Utf8.decode s pos).1 : Int) == 10) = true := by rw [beq_iff_eq]; omega
          clear c34 c10
          go_wp2
          go_ret2
          exact ⟨by rw [Hr.out]; rfl, b2⟩
        have q34 : (((Utf8.decode s pos).1 : Int) == 34) = false := by rw [beq_eq_false_iff_ne]; omega
        have q10 : (((Utf8.decode s pos).1 : Int) == 10) = false := by rw [beq_eq_false_iff_ne]; omega
        by_cases c92 : (Utf8.decode s pos).1 = 92
        · have q92 : (((Utf8.decode s pos).1 : Int) != 92) = false := by rw [bne, Bool.not_eq_false', beq_iff_eq]; omega
          have Hc := Lib.hid c92
          clear c34 c10 c92
          by_cases he : pos + 1 < s.size
          · have Hstep := Lib.hid (RP_esc s pos acc hp Hb.out Hc.out he)
            have h256 : (s[pos + 1]'he).toNat < 256 := (s[pos + 1]'he).toNat_lt
            by_cases d34 : (s[pos + 1]'he).toNat = 34 ∨ (s[pos + 1]'he).toNat = 92
            · have Hr := Lib.hid (show RP s (pos + 2) (acc ++ [s[pos + 1]'he]) = plainO s.data.toList by rw [← Hgo.out, Hstep.out, if_pos d34])
              have hx := Lib.hid (show (s.data.toList.drop (pos + 1)).take 1 = [s[pos + 1]'he] by
                have hl : pos + 1 < s.data.toList.length := by rw [size_list]; exact he
                rw [List.drop_eq_getElem_cons hl]
                rfl)
              have hz2 : (((s[pos + 1]'he).toNat : Int) == 34 || ((s[pos + 1]'he).toNat : Int) == 92) = true := by simp; omega
              clear d34
              cases r34 : ((s[pos + 1]'he).toNat : Int) == 34
              all_goals
                rw [r34] at hz2
                simp only [Bool.false_or, Bool.true_or] at hz2
                go_wp2
                go_roundw
                case rel => exact ⟨pos + 2, _, _, rfl, by go_num, by simp [Hob.out, hx.out], b2, by omega, Hr.out, by simp; omega⟩
                case measure => simp [intOf]; omega
            · have r34 : (((s[pos + 1]'he).toNat : Int) == 34) = false := by rw [beq_eq_false_iff_ne]; omega
              have r92 : (((s[pos + 1]'he).toNat : Int) == 92) = false := by rw [beq_eq_false_iff_ne]; omega
              by_cases d110 : (s[pos + 1]'he).toNat = 110
              · have Hr := Lib.hid (show RP s (pos + 2) (acc ++ [10]) = plainO s.data.toList by rw [← Hgo.out, Hstep.out, if_neg d34, if_pos d110])
                have r110 : (((s[pos + 1]'he).toNat : Int) == 110) = true := by rw [beq_iff_eq]; omega
                clear d34 d110
                go_wp2
                go_roundw
                case rel => exact ⟨pos + 2, _, _, rfl, by go_num, by simp [Hob.out], b2, by omega, Hr.out, by simp; omega⟩
                case measure => simp [intOf]; omega
              · have Hr := Lib.hid (show plainO s.data.toList = none by rw [← Hgo.out, Hstep.out, if_neg d34, if_neg d110])
                have r110 : (((s[pos + 1]'he).toNat : Int) == 110) = false := by rw [beq_eq_false_iff_ne]; omega
                clear d34 d110
                go_wp2
                go_ret2
                exact ⟨by rw [Hr.out]; rfl, b2⟩
          · have Hr := Lib.hid (show plainO s.data.toList = none by rw [← Hgo.out]; exact RP_last s pos acc hp Hb.out Hc.out he)
            go_wp2
            go_ret2
            exact ⟨by rw [Hr.out]; rfl, b2⟩
        · have Hr := Lib.hid (show RP s (pos + (Utf8.decode s pos).2) (acc ++ (s.data.toList.drop pos).take (Utf8.decode s pos).2) = plainO s.data.toList by
            rw [← Hgo.out]; exact (RP_rune s pos acc hp Hb.out c34 c10 c92).symm)
          have q92 : (((Utf8.decode s pos).1 : Int) != 92) = true := by rw [bne_iff_ne]; omega
          have hxz : (s.extract pos (pos + (Utf8.decode s pos).2)).size ≤ (Utf8.decode s pos).2 := by simp; omega
          have hw4 : (Utf8.decode s pos).2 ≤ 4 := by
            have := enc_len ((Utf8.decode s pos).1 : Int)
            rw [← good_bytes s pos hp Hb.out, List.length_take, List.length_drop, size_list] at this
            omega
          clear c34 c10 c92
          go_wp2
          go_roundw
          case rel =>
            refine ⟨pos + (Utf8.decode s pos).2, _, _, rfl, by go_num, by simp [Hob.out], b2, hle, Hr.out, ?_⟩
            simp [List.length_take]
            omega
          case measure => simp [intOf]; omega
      · have Hv := Lib.hid (oneV_at s pos true hb)
        have Hr := Lib.hid (show plainO s.data.toList = none by rw [← Hgo.out]; exact RP_none s pos acc hp (.inl hb))
        clear hb
        go_wp2_with fail
        refine (one_any s pos _ hs hp).mono ?_
        rintro e w1 ⟨rfl, b1⟩
        rw [Hv.out]
        have b2 := (hbw.trans (b1.mono hz)).alloc (Nat.le_trans hz b1.size) (.cells #[.int .i32 ((Utf8.decode s pos).1 : Int), .int .i64 ((Utf8.decode s pos).2 : Int), .bool true] 54)
        go_wp2
        go_ret2
        exact ⟨by rw [Hr.out]; rfl, b2⟩
    · have Hr := Lib.hid (show plainO s.data.toList = some acc by rw [← Hgo.out]; exact RP_end s pos acc hp)
      have Hm := Lib.hid (mk_eq ob acc Hob.out)
      clear Hgo
      go_wp2
      go_ret2
      exact ⟨by rw [Hr.out, Hm.out]; rfl, hbw⟩
end Go.Proofs.YtohmlhbmjamecaaDoor
