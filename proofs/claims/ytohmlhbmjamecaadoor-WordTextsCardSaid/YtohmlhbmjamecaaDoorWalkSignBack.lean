/- changelinglaw1.SignBack answers true, over this seat's translation. -/
import Derived.Test.YtohmlhbmjamecaaDoorTold1
import Derived.WalkSpells
namespace Go.Proofs.YtohmlhbmjamecaaDoor
open Go.RowKit P

theorem byte_at' (s : ByteArray) (i : Nat) (h : i < s.size) : (s[i]'h).toNat = (s.data.toList.getD i 0).toNat := by
  have : i < s.data.toList.length := by rw [size_list]; exact h
  rw [List.getD_eq_getElem?_getD, List.getElem?_eq_getElem this]
  rfl
theorem quote_len (l : List UInt8) : (quote l).length = (inner l).length + 2 := by simp [quote]
/-- A quote, cut at its ends. -/
theorem quote_cut (q : ByteArray) (l : List UInt8) (h : q.data.toList = quote l) : (q.extract 1 (q.size - 1)).data.toList = inner l := by
  have hs := size_list q
  rw [h, quote_len] at hs
  rw [Lib.extract_data, h, ← hs]
  unfold quote
  simp
theorem quote_first (q : ByteArray) (l : List UInt8) (h : q.data.toList = quote l) (h0 : 0 < q.size) : (q[0]'h0).toNat = 34 := by
  rw [byte_at' q 0 h0, h]
  rfl
theorem quote_last (q : ByteArray) (l : List UInt8) (h : q.data.toList = quote l) (k : Nat) (hk : k + 1 = q.size) : (q[k]'(by omega)).toNat = 34 := by
  have hs := size_list q
  rw [h, quote_len] at hs
  rw [byte_at' q k (by omega), h]
  unfold quote
  have : k = (inner l).length + 1 := by omega
  subst this
  simp [List.getD_eq_getElem?_getD]

/-- What the law asks of a text and its quote. -/
theorem back_law (l : List UInt8) : plainO (inner l) = some (encR (runesOf l)) ∧ (bad l = -1 → encR (runesOf l) = l) ∧ quote (encR (runesOf l)) = quote l ∧ bad (quote l) = -1 :=
  ⟨plain_inner l, encR_runes l, quote_encR l, bad_quote l⟩
theorem enc_len' (r : Int) : (Lib.encodeRune r).length ≤ 4 := enc_len r
theorem chunks_len' (l : List UInt8) : (chunks l).length ≤ l.length := by
  have : ∀ (n : Nat) (l : List UInt8), (chunksF n l).length ≤ n := by
    intro n
    induction n with
    | zero => intro l; simp [chunksF]
    | succ n ih =>
      intro l
      cases l with
      | nil => simp [chunksF]
      | cons a t =>
        simp only [chunksF, List.length_cons]
        have := ih ((a :: t).drop (Lib.decodeL (a :: t)).2)
        omega
  exact this _ l
theorem encR_len (rs : List Nat) : (encR rs).length ≤ 4 * rs.length := by
  induction rs with
  | nil => simp [encR]
  | cons r rs ih =>
    rw [encR_cons, List.length_append, List.length_cons]
    have := enc_len (r : Int)
    omega
theorem inner_le (l : List UInt8) : (inner l).length ≤ 8 * l.length := by
  unfold inner runesOf
  have h1 : ∀ cs : List (Nat × List UInt8), (encR ((cs.map (·.1)).flatMap escR)).length ≤ 8 * cs.length := by
    intro cs
    induction cs with
    | nil => simp [encR]
    | cons c cs ih =>
      rw [List.map_cons, List.flatMap_cons, encR_append, List.length_append, List.length_cons]
      have : (encR (escR c.1)).length ≤ 8 := by
        unfold escR
        have a := enc_len' (c.1 : Int)
        have b := enc_len' 92
        have d := enc_len' 110
        split
        · simp [encR]; omega
        · split
          · simp [encR]; omega
          · simp [encR]; omega
      omega
  have h2 := chunks_len' l
  have := h1 (chunks l)
  omega

set_option maxHeartbeats 8000000 in
set_option maxRecDepth 100000 in
theorem law_SignBack (s : ByteArray) (hs : s.size ≤ 9223372036854775807) (w : World) (hT : Lib.Utf8Tabs 0 1 w) :
    Calls Tryd.prog 4 #[.string s] w fun e w' => e = .returned (.bool true) ∧ Below w.heap.size w w' := by
  by_cases hbig : 200 < s.size
  · go_enter Tryd.func4, Tryd.ntmps4
    go_wp2_with (go_at_call 14; refine (told1_any _ hT).mono ?_; rintro e w' ⟨rfl, b1⟩)
    go_ret
    exact ⟨rfl, b1⟩
  have hs2 : s.size ≤ 1000000000000 := by omega
  obtain ⟨p1, p2, p3, p4⟩ := back_law s.data.toList
  have hil := inner_le s.data.toList
  rw [size_list] at hil
  have hql := quote_len s.data.toList
  have Z0 := Nat.le_refl w.heap.size
  go_enter Tryd.func4, Tryd.ntmps4
  have P1 := Lib.hid p1
  have P2 := Lib.hid p2
  have P3 := Lib.hid p3
  have P4 := Lib.hid p4
  have Hql := Lib.hid hql
  clear p1 p2 p3 p4 hql
  go_wp2_with fail
  refine (quote_any s _ hs2).mono ?_
  rintro e w1 ⟨rfl, B1⟩
  have Z1 := B1.size
  obtain ⟨q, hq⟩ : ∃ q : ByteArray, q = ⟨(quote s.data.toList).toArray⟩ := ⟨_, rfl⟩
  have hqd : q.data.toList = quote s.data.toList := by rw [hq]
  have hqs : q.size = (inner s.data.toList).length + 2 := by rw [← size_list, hqd, Hql.out]
  have hq0 : 0 < q.size := by omega
  have hk : q.size - 1 + 1 = q.size := by omega
  have e0 : (((q[0]'hq0).toNat : Int) != 34) = false := by rw [quote_first q _ hqd hq0]; rfl
  have e1 : (((q[q.size - 1]'(by omega)).toNat : Int) != 34) = false := by rw [quote_last q _ hqd _ hk]; rfl
  have Hqd := Lib.hid hqd
  have Hcut := Lib.hid (quote_cut q _ hqd)
  have hqle : q.size ≤ 2000 := by omega
  have hqge : 2 ≤ q.size := by omega
  rw [← hq]
  have Hq := Lib.hid hq
  clear hq hqd hqs hil
  go_wp2_with fail
  refine (plain_any (q.extract 1 (q.size - 1)) _ (by simp; omega) (Utf8Tabs_below hT B1)).mono ?_
  rintro e w2 ⟨rfl, c2⟩
  rw [Hcut.out, P1.out]
  simp only [plainRet]
  have B2 := B1.trans (c2.mono Z1)
  have Z2 := B2.size
  obtain ⟨tb, htb⟩ : ∃ tb : ByteArray, tb = ⟨(encR (runesOf s.data.toList)).toArray⟩ := ⟨_, rfl⟩
  have htd : tb.data.toList = encR (runesOf s.data.toList) := by rw [htb]
  have hts : tb.size ≤ 1000000 := by
    rw [← size_list, htd]
    have h1 := encR_len (runesOf s.data.toList)
    have h2 := chunks_len' s.data.toList
    rw [size_list] at h2
    unfold runesOf at h1 ⊢
    rw [List.length_map] at h1
    omega
  have Htd := Lib.hid htd
  rw [← htb]
  clear htb htd c2
  have Hqt := Lib.hid (show (⟨(quote tb.data.toList).toArray⟩ : ByteArray) = q by rw [Hq.out, Htd.out, P3.out])
  have Hbq := Lib.hid (show bad q.data.toList = -1 by rw [Hqd.out, P4.out])
  have Hbt := Lib.hid (show bad s.data.toList = -1 → (tb.toList == s.toList) = true by
    intro h
    rw [Lib.toList_data, Lib.toList_data, Htd.out, P2.out h]
    simp)
  have Hge := Lib.hid (badGo_ge (chunks s.data.toList) 0)
  generalize hkb : bad s.data.toList = kb at Hbt
  have Hkb := Lib.hid hkb
  clear hkb
  have hcase : kb = -1 ∨ 0 ≤ kb := by
    rcases Hge.out with h | h
    · exact .inl (Hkb.out ▸ h)
    · exact .inr (by have : (0 : Int) ≤ bad s.data.toList := h; rw [Hkb.out] at this; exact this)
  rcases hcase with hc | hc
  · have ht := Hbt.out hc
    subst hc
    go_wp2_with fail
    refine (told1_any _ (Utf8Tabs_below hT B2)).mono ?_
    rintro e w3 ⟨rfl, c3⟩
    have B3 := B2.trans (c3.mono Z2)
    have Z3 := B3.size
    clear c3
    go_wp2_with fail
    refine (bad_any s _ (Utf8Tabs_below hT B3)).mono ?_
    rintro e w4 ⟨rfl, c4⟩
    rw [Hkb.out]
    have B4 := B3.trans (c4.mono Z3)
    have Z4 := B4.size
    clear c4
    go_wp2_with fail
    refine (quote_any tb _ (by omega)).mono ?_
    rintro e w5 ⟨rfl, c5⟩
    rw [Hqt.out]
    have B5 := B4.trans (c5.mono Z4)
    have Z5 := B5.size
    clear c5
    go_wp2_with fail
    refine (bad_any q _ (Utf8Tabs_below hT B5)).mono ?_
    rintro e w6 ⟨rfl, c6⟩
    rw [Hbq.out]
    have B6 := B5.trans (c6.mono Z5)
    clear c6
    go_wp2
    go_ret
    exact ⟨rfl, B6⟩
  · go_wp2_with fail
    refine (told1_any _ (Utf8Tabs_below hT B2)).mono ?_
    rintro e w3 ⟨rfl, c3⟩
    have B3 := B2.trans (c3.mono Z2)
    have Z3 := B3.size
    clear c3
    go_wp2_with fail
    refine (bad_any s _ (Utf8Tabs_below hT B3)).mono ?_
    rintro e w4 ⟨rfl, c4⟩
    rw [Hkb.out]
    have B4 := B3.trans (c4.mono Z3)
    have Z4 := B4.size
    clear c4
    go_wp2_with fail
    refine (quote_any tb _ (by omega)).mono ?_
    rintro e w5 ⟨rfl, c5⟩
    rw [Hqt.out]
    have B5 := B4.trans (c5.mono Z4)
    have Z5 := B5.size
    clear c5
    go_wp2_with fail
    refine (bad_any q _ (Utf8Tabs_below hT B5)).mono ?_
    rintro e w6 ⟨rfl, c6⟩
    rw [Hbq.out]
    have B6 := B5.trans (c6.mono Z5)
    clear c6
    go_wp2
    go_ret
    exact ⟨rfl, B6⟩
end Go.Proofs.YtohmlhbmjamecaaDoor
