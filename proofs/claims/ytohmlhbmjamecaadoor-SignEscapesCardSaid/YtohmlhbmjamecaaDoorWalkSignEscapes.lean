/- changelinglaw1.SignEscapes answers true, over this seat's translation. -/
import Derived.Test.YtohmlhbmjamecaaDoorWalkSignBack
import Derived.Test.YtohmlhbmjamecaaDoorRefS
import Derived.Laws.Runes
namespace Go.Proofs.YtohmlhbmjamecaaDoor
open Go.RowKit P

/-- The rune that string(r) writes. -/
def runeN (n : Int) : Nat := if 0 ≤ n ∧ ValidR n.toNat then n.toNat else 65533
theorem runeN_valid (n : Int) : ValidR (runeN n) := by
  unfold runeN
  split
  · rename_i h; exact h.2
  · decide
theorem encode_text (n : Int) : (Utf8.encode n).data.toList = Lib.encodeRune ((runeN n : Nat) : Int) := by
  have hv : Utf8.valid n = decide (0 ≤ n ∧ ValidR n.toNat) := by
    unfold Utf8.valid ValidR
    rw [Bool.eq_iff_iff]
    simp
    omega
  have hc : (if Utf8.valid n then n.toNat else Utf8.runeError) = runeN n := by
    unfold runeN
    rw [hv]
    simp only [decide_eq_true_eq]
    rfl
  have hval := runeN_valid n
  unfold Utf8.encode
  rw [hc]
  generalize runeN n = c at hval
  unfold ValidR at hval
  unfold Lib.encodeRune
  by_cases c1 : c < 128
  · rw [if_pos c1, Lib.encodeRuneZ_one (by omega) (by omega)]
    simp
  rw [if_neg c1]
  by_cases c2 : c < 2048
  · rw [if_pos c2, Lib.encodeRuneZ_two (by omega) (by omega)]
    simp only [List.map_cons, List.map_nil]
    repeat (first | rfl | congr 1)
  rw [if_neg c2]
  by_cases c3 : c < 65536
  · rw [if_pos c3, Lib.encodeRuneZ_three (by omega)]
    simp only [List.map_cons, List.map_nil]
    repeat (first | rfl | congr 1)
  · rw [if_neg c3, Lib.encodeRuneZ_four (by omega) (by omega)]
    simp only [List.map_cons, List.map_nil]
    repeat (first | rfl | congr 1)

theorem encR_one (r : Nat) : encR [r] = Lib.encodeRune (r : Int) := by simp [encR]
theorem runes_one (r : Nat) (h : ValidR r) : runesOf (Lib.encodeRune (r : Int)) = [r] := by
  rw [← encR_one]
  exact runes_encR [r] (by simpa using h)
theorem bad_one (r : Nat) (h : ValidR r) : bad (Lib.encodeRune (r : Int)) = -1 := by
  rw [← encR_one]
  exact bad_encR [r] (by simpa using h)
theorem inner_one (r : Nat) (h : ValidR r) : inner (Lib.encodeRune (r : Int)) = encR (escR r) := by
  unfold inner
  rw [runes_one r h]
  simp
theorem enc_ge (r : Nat) : 1 ≤ (Lib.encodeRune (r : Int)).length := by
  have := Lib.runeCells_le (r : Int)
  rw [Lib.runeCells_length] at this
  omega
/-- What stands first between the quotes. -/
theorem inner_first (r : Nat) (_h : ValidR r) : ((encR (escR r)).getD 0 0).toNat = 92 ↔ (r = 34 ∨ r = 92 ∨ r = 10) := by
  unfold escR
  by_cases c1 : r = 34 ∨ r = 92
  · rw [if_pos c1]
    simp only [encR, List.flatMap_cons, List.flatMap_nil]
    rw [show Lib.encodeRune (((92 : Nat)) : Int) = [92] from enc92]
    simp
    omega
  · rw [if_neg c1]
    by_cases c2 : r = 10
    · subst c2
      decide
    · rw [if_neg c2, encR_one]
      constructor
      · intro hf
        exfalso
        have hb := Lib.encodeRuneZ_byte (r : Int)
        unfold Lib.encodeRune Lib.encodeRuneZ at hf
        split at hf
        · simp at hf; omega
        · split at hf
          · simp at hf; omega
          · split at hf
            · simp at hf; omega
            · split at hf
              · simp at hf; omega
              · simp at hf
      · intro hf; omega

set_option maxHeartbeats 8000000 in
set_option maxRecDepth 100000 in
theorem law_SignEscapes (n : Int) (hn : -2147483648 ≤ n ∧ n ≤ 2147483647) (w : World) (hT : Lib.Utf8Tabs 0 1 w) :
    Calls Tryd.prog 7 #[.int .i32 n] w fun e w' => e = .returned (.bool true) ∧ Below w.heap.size w w' := by
  have hv := runeN_valid n
  have hr : (n = 34 ∨ n = 92 ∨ n = 10) ↔ (runeN n = 34 ∨ runeN n = 92 ∨ runeN n = 10) := by
    unfold runeN
    split
    · omega
    · rename_i h
      constructor
      · intro hx
        exfalso
        apply h
        unfold ValidR
        omega
      · intro hx; omega
  obtain ⟨t, htd, hcv⟩ : ∃ t : ByteArray, t.data.toList = Lib.encodeRune ((runeN n : Nat) : Int) ∧ Utf8.encode n = t := ⟨_, encode_text n, rfl⟩
  generalize runeN n = r at hv hr htd
  have hts : t.size ≤ 4 := by rw [← size_list, htd]; exact enc_len _
  have hq2 : quote t.data.toList = 34 :: (encR (escR r) ++ [34]) := by
    unfold quote
    rw [htd, inner_one r hv]
    rfl
  have hge : 1 ≤ (encR (escR r)).length := by
    unfold escR
    split
    · simp only [encR, List.flatMap_cons, List.length_append]; have := enc_ge 92; omega
    · split
      · decide
      · simp only [encR, List.flatMap_cons, List.length_append]; have := enc_ge r; omega
  have hle : (encR (escR r)).length ≤ 8 := by
    have h1 := encR_len (escR r)
    have h2 : (escR r).length ≤ 2 := by unfold escR; split; simp; split; simp; simp
    omega
  have Hpl := Lib.hid (show plainO (inner t.data.toList) = some t.data.toList by
    rw [plain_inner, htd, runes_one r hv, encR_one])
  have Hbt := Lib.hid (show bad t.data.toList = -1 by rw [htd]; exact bad_one r hv)
  have Hcv := Lib.hid hcv
  have Hq2 := Lib.hid hq2
  have hin : inner t.data.toList = encR (escR r) := by rw [htd, inner_one r hv]
  have Hin := Lib.hid hin
  have hf := inner_first r hv
  clear hcv hq2 htd hin
  have Z0 := Nat.le_refl w.heap.size
  go_enter Tryd.func7, Tryd.ntmps7
  go_wp2_with fail
  rw [Hcv.out]
  refine (quote_any t _ (by omega)).mono ?_
  rintro e w1 ⟨rfl, B1⟩
  have Z1 := B1.size
  obtain ⟨q, hq⟩ : ∃ q : ByteArray, q = ⟨(quote t.data.toList).toArray⟩ := ⟨_, rfl⟩
  have hqd : q.data.toList = quote t.data.toList := by rw [hq]
  have hqs : q.size = (encR (escR r)).length + 2 := by rw [← size_list, hqd, quote_len, Hin.out]
  have hq1 : 1 < q.size := by omega
  have e1 : (((q[1]'hq1).toNat : Int) == 92) = (n == 34 || n == 92 || n == 10) := by
    have hg1 : (34 :: (encR (escR r) ++ [34])).getD 1 0 = (encR (escR r)).getD 0 0 := by
      cases hx : encR (escR r) with
      | nil => rw [hx] at hge; simp at hge
      | cons a b => rfl
    rw [byte_at' q 1 hq1, hqd, Hq2.out, hg1]
    rw [Bool.eq_iff_iff]
    simp only [beq_iff_eq, Bool.or_eq_true, or_assoc]
    rw [hr, ← hf]
    omega
  have Hcut := Lib.hid (quote_cut q _ hqd)
  have hqle : q.size ≤ 2000 := by omega
  have hqge : 3 ≤ q.size := by omega
  rw [← hq]
  clear hq hqd hqs hge hle hf hr
  go_wp2_with fail
  refine (plain_any (q.extract 1 (q.size - 1)) _ (by simp; omega) (Utf8Tabs_below hT B1)).mono ?_
  rintro e w2 ⟨rfl, c2⟩
  rw [Hcut.out, Hpl.out]
  simp only [plainRet]
  rw [← mk_eq t t.data.toList rfl]
  have B2 := B1.trans (c2.mono Z1)
  have Z2 := B2.size
  clear c2
  cases h34 : n == 34
  all_goals
    cases h92 : n == 92
    all_goals
      cases h10 : n == 10
      all_goals
        rw [h34, h92, h10] at e1
        simp only [Bool.or_self, Bool.or_false, Bool.or_true] at e1
        go_wp2_with fail
        refine (told1_any _ (Utf8Tabs_below hT B2)).mono ?_
        rintro e w3 ⟨rfl, c3⟩
        have B3 := B2.trans (c3.mono Z2)
        have Z3 := B3.size
        clear c3
        go_wp2_with fail
        refine (rbad_any t _ (by omega)).mono ?_
        rintro e w4 ⟨rfl, c4⟩
        rw [Hbt.out]
        have B4 := B3.trans (c4.mono Z3)
        clear c4
        go_wp2
        go_ret
        exact ⟨rfl, B4⟩
end Go.Proofs.YtohmlhbmjamecaaDoor
