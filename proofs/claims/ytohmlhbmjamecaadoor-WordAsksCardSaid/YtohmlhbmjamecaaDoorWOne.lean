/- word.one: the word in front of a text, over this seat's translation. -/
import Derived.Test.YtohmlhbmjamecaaDoorWBlank
namespace Go.Proofs.YtohmlhbmjamecaaDoor
open Go.RowKit P

def oneRet : Option (Nat × List UInt8 × Nat) → Value
  | some (k, x, n) => .tuple #[.int .i64 k, .string ⟨x.toArray⟩, .int .i64 n]
  | none => .tuple #[.int .i64 0, .string ⟨#[]⟩, .int .i64 0]

theorem mk_eq' (p : ByteArray) : p = ⟨p.data.toList.toArray⟩ := size_inj _ _ (by simp)
theorem oneRet_mk (k : Nat) (x : ByteArray) (n : Nat) : oneRet (some (k, x.data.toList, n)) = .tuple #[.int .i64 k, .string x, .int .i64 n] := by
  conv => rhs; rw [mk_eq' x]
  rfl
theorem head_zero (s : ByteArray) (h0 : 0 < s.size) : (s.data.toList.headD 0) = s[0]'h0 := by
  have hl : 0 < s.data.toList.length := by rw [size_list]; exact h0
  cases hc : s.data.toList with
  | nil => rw [hc] at hl; simp at hl
  | cons a t =>
    have : s[0]'h0 = s.data.toList[0] := rfl
    rw [this]
    simp [hc]
/-- A sign that only bytes below 128 bear is borne by the rune in front just if by its first byte. -/
theorem head_rune (s : ByteArray) (h0 : 0 < s.size) (p : Int → Bool) (hp : ∀ r, p r = true → r < 128) : p ((s.data.toList.headD 0).toNat : Int) = p ((Utf8.decode s 0).1 : Int) := by
  rw [head_zero s h0]
  by_cases ha : (s[0]'h0).toNat < 128
  · rw [decode_ascii s 0 h0 ha]
  · have hr := (decode_high s 0 h0 (by omega)).1
    have e1 : p ((s[0]'h0).toNat : Int) = false := by
      rw [← Bool.not_eq_true]; intro h; have := hp _ h; omega
    have e2 : p ((Utf8.decode s 0).1 : Int) = false := by
      rw [← Bool.not_eq_true]; intro h; have := hp _ h; omega
    rw [e1, e2]
theorem head_digit (s : ByteArray) (h0 : 0 < s.size) : digitB (s.data.toList.headD 0) = digitR ((Utf8.decode s 0).1 : Int) :=
  head_rune s h0 digitR (fun r h => by rw [digitR_iff] at h; omega)
theorem head_letter (s : ByteArray) (h0 : 0 < s.size) : letterB (s.data.toList.headD 0) = letterR ((Utf8.decode s 0).1 : Int) :=
  head_rune s h0 letterR (fun r h => by rw [letterR_iff] at h; omega)
theorem head_quote (s : ByteArray) (h0 : 0 < s.size) : (s.data.toList.headD 0 = 34) ↔ (Utf8.decode s 0).1 = 34 := by
  have h := head_rune s h0 (fun r => r == 34) (fun r h => by simp at h; omega)
  have e : (s.data.toList.headD 0 = 34) ↔ ((((s.data.toList.headD 0).toNat : Int) == 34) = true) := by
    rw [beq_iff_eq]
    constructor
    · intro h; rw [h]; rfl
    · intro h
      apply UInt8.toNat_inj.1
      show _ = 34
      omega
  rw [e, h, beq_iff_eq]
  omega

def signL : List (List UInt8) := twos ++ ones
def signS : List ByteArray := signL.map fun l => ⟨l.toArray⟩
theorem sign_cut (l : List UInt8) (k : Nat) (hk : k < signS.length) :
    (signL.drop k).find? (fun w => w.isPrefixOf l) = if Lib.hasPrefix l (signS.getD k ByteArray.empty).data.toList then some (signS.getD k ByteArray.empty).data.toList else (signL.drop (k + 1)).find? (fun w => w.isPrefixOf l) := by
  have hk2 : k < signL.length := by simpa [signS] using hk
  have e : (signS.getD k ByteArray.empty).data.toList = signL[k] := by
    unfold signS
    rw [List.getD_eq_getElem?_getD, List.getElem?_map, List.getElem?_eq_getElem hk2]
    simp
  rw [List.drop_eq_getElem_cons hk2, List.find?_cons, e]
  unfold Lib.hasPrefix
  cases signL[k].isPrefixOf l <;> rfl
theorem sign_done (l : List UInt8) (k : Nat) (hk : ¬ k < signS.length) : (signL.drop k).find? (fun w => w.isPrefixOf l) = none := by
  have : signL.drop k = [] := List.drop_eq_nil_of_le (by simp [signS] at hk; omega)
  rw [this]; rfl
theorem quoted_none (l : List UInt8) (h0 : l ≠ []) (h34 : l.headD 0 = 34) (hd : digitB (l.headD 0) = false) (hl : letterB (l.headD 0) = false) (hq : quotedL l = []) : wordO l = none := by
  unfold wordO
  rw [hd, hl, if_neg (by simp), if_neg (by simp), if_pos h34]
  unfold litO
  unfold quotedL at hq
  cases hs : scan false 1 l.tail with
  | none => rfl
  | some n =>
    rw [hs] at hq
    dsimp only at hq
    have := scan_ge _ _ _ _ hs
    cases l with
    | nil => exact absurd rfl h0
    | cons a t =>
      obtain ⟨m, hm⟩ : ∃ m, n = m + 1 := ⟨n - 1, by omega⟩
      rw [hm] at hq
      simp at hq
theorem quoted_some (l : List UInt8) (h0 : l ≠ []) (h34 : l.headD 0 = 34) (hd : digitB (l.headD 0) = false) (hl : letterB (l.headD 0) = false) (hq : quotedL l ≠ []) :
    2 ≤ (quotedL l).length ∧ wordO l = (plainO (((quotedL l).take ((quotedL l).length - 1)).drop 1)).map fun t => (3, t, (quotedL l).length) := by
  unfold wordO
  rw [hd, hl, if_neg (by simp), if_neg (by simp), if_pos h34]
  unfold litO quotedL
  unfold quotedL at hq
  cases hs : scan false 1 l.tail with
  | none => rw [hs] at hq; exact absurd rfl hq
  | some n =>
    dsimp only
    have := scan_ge _ _ _ _ hs
    have hll : 0 < l.length := List.length_pos_iff.2 h0
    rw [List.length_tail] at this
    have hlen : (l.take n).length = n := by rw [List.length_take]; omega
    rw [hlen, List.take_take, Nat.min_eq_left (by omega)]
    refine ⟨by omega, ?_⟩
    cases plainO ((l.take (n - 1)).drop 1) <;> rfl

set_option maxHeartbeats 8000000 in
set_option maxRecDepth 100000 in
theorem one_word (s : ByteArray) (w : World) (hs : s.size ≤ 1000000000000) (h0 : 0 < s.size) (hT : Lib.Utf8Tabs 0 1 w) :
    Calls Tryd.prog 47 #[.string s] w fun e w' => e = .returned (oneRet (wordO s.data.toList)) ∧ Below w.heap.size w w' := by
  have hne : s.data.toList ≠ [] := by
    intro e
    have := size_list s
    rw [e] at this
    simp at this
    omega
  have hdg := head_digit s h0
  have hlt := head_letter s h0
  have hqt := head_quote s h0
  have hd1 := decode_le s 0
  go_enter Tryd.func47, Tryd.ntmps47
  have Hdg := Lib.hid hdg
  have Hlt := Lib.hid hlt
  have Hqt := Lib.hid hqt
  have Hne := Lib.hid hne
  clear hdg hlt hqt hne
  go_wp2
  go_loopw [] (fun wr => wr.heap[w.heap.size]? = some (.stringIter s 0) ∧ Below w.heap.size w wr) (fun _ => 0)
  case atStart => exact ⟨World.iter_heap w s 0, (Below.refl _ w).alloc (Nat.le_refl _) _⟩
  case round =>
    obtain ⟨hit, hbw⟩ := hrel
    have hsz : w.heap.size < wr.heap.size := (Array.getElem?_eq_some_iff.1 hit).1
    have hnx : ∀ ty, (Instr.next (.pointer (some ⟨w.heap.size, 0, none⟩)) true ty).run Tryd.prog wr = _ := fun ty => Lib.run_next_any_at wr w.heap.size s 0 ty hit h0
    have hbw2 := Lib.below_iterAt hbw (k := w.heap.size) (Nat.le_refl _) s (0 + (Utf8.decode s 0).2)
    rw [Nat.zero_add] at hnx hbw2
    have hz2 : w.heap.size ≤ (wr.iterAt w.heap.size s (Utf8.decode s 0).2).heap.size := by rw [Lib.iterAt_size]; omega
    have hT2 := Utf8Tabs_below hT hbw2
    generalize wr.iterAt w.heap.size s (Utf8.decode s 0).2 = W1 at hnx hbw2 hz2 hT2
    clear hit hsz hbw
    cases h1 : digitR ((Utf8.decode s 0).1 : Int)
    · cases h2 : letterR ((Utf8.decode s 0).1 : Int)
      · by_cases h3 : (Utf8.decode s 0).1 = 34
        · have q34 : (((Utf8.decode s 0).1 : Int) == 34) = true := by rw [beq_iff_eq]; omega
          have ha : (s[0]'h0).toNat = 34 := by
            rw [← head_zero s h0, Hqt.out.2 h3]; rfl
          by_cases hq : quotedL s.data.toList = []
          · have Hw := Lib.hid (quoted_none s.data.toList Hne.out (Hqt.out.2 h3) (by rw [Hdg.out, h1]) (by rw [Hlt.out, h2]) hq)
            have Hq := Lib.hid hq
            have Ha := Lib.hid ha
            clear h3 hq ha
            go_wp2_with (first
              | (go_at_call 21; refine (digit_any _ _).mono ?_; rintro e W1 ⟨rfl, rfl⟩)
              | (go_at_call 58; refine (letter_any _ _).mono ?_; rintro e W1 ⟨rfl, rfl⟩)
              | (go_at_call 59; refine (quoted_any s _ hs h0 Ha.out).mono ?_; rintro e w3 ⟨x, rfl, hx, b3⟩; rw [Hq.out] at hx; obtain rfl : x = ⟨#[]⟩ := size_inj _ _ (by simpa using hx)))
            go_ret3
            exact ⟨by rw [Hw.out]; rfl, hbw2.trans (b3.mono hz2)⟩
          · obtain ⟨hq2, hw⟩ := quoted_some s.data.toList Hne.out (Hqt.out.2 h3) (by rw [Hdg.out, h1]) (by rw [Hlt.out, h2]) hq
            have hqle : (quotedL s.data.toList).length ≤ s.size := by
              unfold quotedL
              rw [← size_list]
              cases scan false 1 s.data.toList.tail with
              | none => simp
              | some n => simp [List.length_take]; omega
            have Hw := Lib.hid hw
            have Ha := Lib.hid ha
            clear h3 hq ha hw
            go_wp2_with (first
              | (go_at_call 21; refine (digit_any _ _).mono ?_; rintro e W1 ⟨rfl, rfl⟩)
              | (go_at_call 58; refine (letter_any _ _).mono ?_; rintro e W1 ⟨rfl, rfl⟩)
              | fail)
            refine (quoted_any s _ hs h0 Ha.out).mono ?_
            rintro e w3 ⟨x, rfl, hx, b3⟩
            rw [← hx] at Hw hq2 hqle
            have hxs := size_list x
            rw [hxs] at Hw hq2 hqle
            have Hx := Lib.hid hx
            have hx0 : x.toList.isEmpty = false := by
              rw [Lib.toList_data]
              cases he : x.data.toList with
              | nil => rw [he] at hxs; simp at hxs; omega
              | cons a t => rfl
            have Hcut := Lib.hid (show (x.extract 1 (x.size - 1)).data.toList = (x.data.toList.take (x.size - 1)).drop 1 by
              rw [Lib.extract_data, List.drop_take])
            have B3 := hbw2.trans (b3.mono hz2)
            have Z3 : w.heap.size ≤ w3.heap.size := B3.size
            clear hx hxs b3
            go_wp2_with fail
            refine (plain_any (x.extract 1 (x.size - 1)) _ (by simp; omega) (Utf8Tabs_below hT B3)).mono ?_
            rintro e w4 ⟨rfl, b4⟩
            have B4 := B3.trans (b4.mono Z3)
            rw [Hcut.out]
            rcases hp : plainO ((x.data.toList.take (x.size - 1)).drop 1) with _ | t
            all_goals
              rw [hp] at Hw
              clear hp
              simp only [plainRet]
              go_wp2
              go_ret3
              exact ⟨by rw [Hw.out]; rfl, B4⟩
        · have q34 : (((Utf8.decode s 0).1 : Int) == 34) = false := by rw [beq_eq_false_iff_ne]; omega
          have Hw := Lib.hid (show wordO s.data.toList = (signO s.data.toList).map fun w => (4, w, w.length) by
            unfold wordO
            rw [Hdg.out, Hlt.out, h1, h2, if_neg (by simp), if_neg (by simp), if_neg (fun h => h3 (Hqt.out.1 h))])
          clear h3
          go_wp2_with (first
            | (go_at_call 21; refine (digit_any _ _).mono ?_; rintro e W1 ⟨rfl, rfl⟩)
            | (go_at_call 58; refine (letter_any _ _).mono ?_; rintro e W1 ⟨rfl, rfl⟩)
            | (go_at_call 60; go_in))
          have Hlit := Lib.hid (fun j hj => lit_cells W1 signS 9 j hj)
          have b3 := hbw2.alloc hz2 (.cells (signS.map Value.string).toArray 9)
          go_loop [58] (fun v => ∃ k : Nat, k ≤ 23 ∧ v = .int .i64 k ∧ (signL.drop k).find? (fun w => w.isPrefixOf s.data.toList) = signO s.data.toList) (fun v => 23 - (intOf v).toNat)
          case atStart => exact ⟨0, by omega, rfl, rfl⟩
          case round =>
            obtain ⟨k, hk, rfl, hf⟩ := hrel
            have Hf := Lib.hid hf
            clear hf
            by_cases hlt : k < 23
            · have hc1 := Hlit.out k (by show k < 23; exact hlt)
              rw [Nat.zero_add] at hc1
              have hst := sign_cut s.data.toList k (by show k < 23; exact hlt)
              rw [Hf.out] at hst
              have Hst := Lib.hid hst
              clear hst
              generalize signS.getD k ByteArray.empty = z at hc1 Hst
              have hc2 : (W1.alloc (.cells #[.string ⟨#[58, 58]⟩, .string ⟨#[60, 61]⟩, .string ⟨#[61, 61]⟩, .string ⟨#[33, 61]⟩, .string ⟨#[38, 38]⟩, .string ⟨#[124, 124]⟩, .string ⟨#[123]⟩, .string ⟨#[125]⟩, .string ⟨#[40]⟩, .string ⟨#[41]⟩, .string ⟨#[59]⟩, .string ⟨#[44]⟩, .string ⟨#[46]⟩, .string ⟨#[61]⟩, .string ⟨#[60]⟩, .string ⟨#[43]⟩, .string ⟨#[45]⟩, .string ⟨#[42]⟩, .string ⟨#[47]⟩, .string ⟨#[37]⟩, .string ⟨#[64]⟩, .string ⟨#[33]⟩, .string ⟨#[35]⟩] 9)).cell? ⟨W1.heap.size, k, none⟩ = some (.string z) := hc1
              clear hc1
              cases hb : Lib.hasPrefix s.data.toList z.data.toList
              all_goals
                rw [hb] at Hst
                go_wp2_with (go_at_call 55; refine (Tryd.strings_HasPrefix s z _).mono ?_; rintro e w3 ⟨rfl, rfl⟩)
                first
                  | (go_ret3
                     refine ⟨?_, b3⟩
                     rw [Hw.out, Hst.out]
                     simp only [if_true, Option.map_some]
                     rw [size_list, oneRet_mk]
                     rfl)
                  | (go_round
                     case rel =>
                       have hf2 : (signL.drop (k + 1)).find? (fun w => w.isPrefixOf s.data.toList) = signO s.data.toList := by rw [Hst.out]; rfl
                       first
                         | exact ⟨k + 1, by omega, by go_num, hf2⟩
                         | (refine ⟨trivial, ?_⟩; (repeat apply Exists.intro); exact ⟨⟨k + 1, by omega, by go_num, hf2⟩, rfl⟩)
                     case measure => simp [intOf]; omega)
            · have Hn := Lib.hid (show signO s.data.toList = none by rw [← Hf.out]; exact sign_done _ k (by show ¬ k < 23; exact hlt))
              go_wp2
              go_ret3
              exact ⟨by rw [Hw.out, Hn.out]; rfl, b3⟩
      · have Hw := Lib.hid (show wordO s.data.toList = some (1, s.data.toList.takeWhile letterB, (s.data.toList.takeWhile letterB).length) by
          unfold wordO
          rw [Hdg.out, Hlt.out, h1, h2, if_neg (by simp), if_pos rfl])
        go_wp2_with (first
          | (go_at_call 21; refine (digit_any _ _).mono ?_; rintro e w' ⟨rfl, rfl⟩)
          | (go_at_call 58; refine (letter_any _ _).mono ?_; rintro e w' ⟨rfl, rfl⟩)
          | (go_at_call 56; refine (runLetter_any s _).mono ?_; rintro e w3 ⟨x, rfl, hx, b3⟩; have Hx := Lib.hid hx; have Hxs := Lib.hid (size_list x); clear hx))
        go_ret3
        exact ⟨by rw [Hw.out, ← Hx.out, Hxs.out, oneRet_mk]; rfl, hbw2.trans (b3.mono hz2)⟩
    · have Hw := Lib.hid (show wordO s.data.toList = some (2, s.data.toList.takeWhile digitB, (s.data.toList.takeWhile digitB).length) by
        unfold wordO
        rw [Hdg.out, h1, if_pos rfl])
      go_wp2_with (first
        | (go_at_call 21; refine (digit_any _ _).mono ?_; rintro e w' ⟨rfl, rfl⟩)
        | (go_at_call 56; refine (runDigit_any s _).mono ?_; rintro e w3 ⟨x, rfl, hx, b3⟩; have Hx := Lib.hid hx; have Hxs := Lib.hid (size_list x); clear hx))
      go_ret3
      exact ⟨by rw [Hw.out, ← Hx.out, Hxs.out, oneRet_mk]; rfl, hbw2.trans (b3.mono hz2)⟩
end Go.Proofs.YtohmlhbmjamecaaDoor
