/- Plain Lean: texts with notes and quotes (WordNotes, WordTexts). -/
import Derived.Test.YtohmlhbmjamecaaDoorPureP
namespace Go.Proofs.YtohmlhbmjamecaaDoor.P
open Go.Lib

/-! ### 1. Runes end where a byte below 128 stands -/
theorem decodeN_past (n m b0 b1 b2 b3 c1 c2 c3 : Nat) (h1 : n = 1 → c1 < 128) (h2 : 1 < n → c1 = b1) (h3 : n = 2 → c2 < 128) (h4 : 2 < n → c2 = b2) (h5 : n = 3 → c3 < 128) (h6 : 3 < n → c3 = b3) (hn : 0 < n) (hm : n < m) :
    decodeN m b0 c1 c2 c3 = decodeN n b0 b1 b2 b3 := by
  rcases (by omega : n = 1 ∨ n = 2 ∨ n = 3 ∨ 3 < n) with h | h | h | h
  · have k1 := h1 h
    subst h
    have e1 : ¬ c1 / 64 = 2 := by omega
    simp only [decodeN, e1, Nat.lt_irrefl, false_and, and_false, if_false]
  · have k1 := h2 (by omega)
    have k2 := h3 h
    subst h k1
    have e1 : ¬ c2 / 64 = 2 := by omega
    have e2 : 1 < m := by omega
    simp only [decodeN, e1, e2, Nat.lt_irrefl, false_and, and_false, if_false, show 1 < 2 from by omega, true_and]
  · have k1 := h2 (by omega)
    have k2 := h4 (by omega)
    have k3 := h5 h
    subst h k1 k2
    have e1 : ¬ c3 / 64 = 2 := by omega
    have e2 : 1 < m := by omega
    have e3 : 2 < m := by omega
    simp only [decodeN, e1, e2, e3, Nat.lt_irrefl, false_and, and_false, if_false, show 1 < 3 from by omega, show 2 < 3 from by omega, true_and]
  · have k1 := h2 (by omega)
    have k2 := h4 (by omega)
    have k3 := h6 (by omega)
    subst k1 k2 k3
    have e2 : 1 < m := by omega
    have e3 : 2 < m := by omega
    have e4 : 3 < m := by omega
    have f2 : 1 < n := by omega
    have f3 : 2 < n := by omega
    simp only [decodeN, e2, e3, e4, f2, f3, h]
theorem getD_app (l t : List UInt8) (c : UInt8) (i : Nat) : (i = l.length → (l ++ c :: t).getD i 0 = c) ∧ (i < l.length → (l ++ c :: t).getD i 0 = l.getD i 0) := by
  constructor
  · rintro rfl
    simp [List.getD_eq_getElem?_getD]
  · intro h
    simp [List.getD_eq_getElem?_getD, List.getElem?_append_left h]
theorem decodeL_past (l t : List UInt8) (c : UInt8) (hl : l ≠ []) (hc : c.toNat < 128) : decodeL (l ++ c :: t) = decodeL l := by
  have h0 : 0 < l.length := List.length_pos_iff.2 hl
  rw [decodeL_N, decodeL_N, (getD_app l t c 0).2 h0]
  apply decodeN_past
  · intro h; rw [(getD_app l t c 1).1 h.symm]; exact hc
  · intro h; rw [(getD_app l t c 1).2 h]
  · intro h; rw [(getD_app l t c 2).1 h.symm]; exact hc
  · intro h; rw [(getD_app l t c 2).2 h]
  · intro h; rw [(getD_app l t c 3).1 h.symm]; exact hc
  · intro h; rw [(getD_app l t c 3).2 h]
  · exact h0
  · simp
theorem chunks_past : ∀ (n : Nat) (l t : List UInt8) (c : UInt8), l.length ≤ n → c.toNat < 128 → chunks (l ++ c :: t) = chunks l ++ chunks (c :: t)
  | n, [], t, c, _, _ => rfl
  | 0, a :: l, t, c, hn, _ => by simp at hn
  | n + 1, a :: l, t, c, hn, hc => by
    have hw := decodeL_width (a :: l)
    have hle : (decodeL (a :: l)).2 ≤ (a :: l).length := by
      by_cases hx : (decodeL (a :: l)).2 ≤ (a :: l).length
      · exact hx
      · rw [decodeL_N] at hx
        exfalso
        rcases decodeN_shape (a :: l).length ((a :: l).getD 0 0).toNat ((a :: l).getD 1 0).toNat ((a :: l).getD 2 0).toNat ((a :: l).getD 3 0).toNat with ⟨c, e⟩ | ⟨c1, c2, c3, cv, e⟩ | ⟨c1, c2, c3, c4, cv, cs, e⟩ | ⟨c1, c2, c3, c4, c5, cv, cw, e⟩ | e
        all_goals (rw [e] at hx; simp only [List.length_cons] at *; omega)
    rw [chunks_step _ (by simp), decodeL_past (a :: l) t c (by simp) hc, chunks_step (a :: l) (by simp), List.take_append_of_le_length hle, List.drop_append_of_le_length hle,
      chunks_past n _ t c (by rw [List.length_drop]; simp only [List.length_cons] at *; omega) hc]
    rfl
theorem badGo_app : ∀ (a b : List (Nat × List UInt8)) (k : Nat), badGo a k = -1 → badGo (a ++ b) k = badGo b (k + (a.flatMap (·.2)).length)
  | [], b, k, _ => by simp
  | x :: a, b, k, h => by
    simp only [badGo, List.cons_append] at h ⊢
    split at h
    · omega
    · rename_i hx
      rw [if_neg hx, badGo_app a b _ h]
      congr 1
      simp only [List.flatMap_cons, List.length_append]
      omega
theorem badGo_app2 : ∀ (a b : List (Nat × List UInt8)) (k : Nat), badGo a k ≠ -1 → badGo (a ++ b) k = badGo a k
  | [], b, k, h => absurd rfl h
  | x :: a, b, k, h => by
    simp only [badGo, List.cons_append] at h ⊢
    split
    · rfl
    · rename_i hx
      rw [if_neg hx] at h
      exact badGo_app2 a b _ h
theorem badGo_shift : ∀ (a : List (Nat × List UInt8)) (k m : Nat), badGo a (k + m) = if badGo a k = -1 then -1 else badGo a k + m
  | [], k, m => by simp [badGo]
  | x :: a, k, m => by
    simp only [badGo]
    split
    · rw [if_neg (by omega)]; omega
    · rw [show k + m + x.2.length = k + x.2.length + m from by omega, badGo_shift a _ m]

/-! ### 2. A note -/
theorem noLine_all (s : List UInt8) (h : ∀ b ∈ s, b ≠ 10) (t : List UInt8) : (s ++ 10 :: t).takeWhile noLine = s := by
  induction s with
  | nil => simp [noLine]
  | cons a s ih =>
    have ha : noLine a = true := by unfold noLine; simpa using h a List.mem_cons_self
    rw [List.cons_append, List.takeWhile_cons, if_pos ha, ih (fun b hb => h b (List.mem_cons_of_mem _ hb))]
theorem bad_low (a : UInt8) (h : a.toNat < 128) (cs : List (Nat × List UInt8)) (k : Nat) : badGo ((a.toNat, [a]) :: cs) k = badGo cs (k + 1) := by
  have : isBad (a.toNat, [a]) = false := by unfold isBad; simp; omega
  rw [badGo, if_neg (by rw [this]; simp)]
  rfl
theorem note_words (s : List UInt8) (h : ∀ b ∈ s, b ≠ 10) : wordsL ([97, 32, 47, 47] ++ s ++ [10, 98]) 0 [] = .ok [(1, [97], 0), (1, [98], 5 + s.length)] := by
  have e0 : [97, 32, 47, 47] ++ s ++ [10, 98] = (97 : UInt8) :: (32 :: 47 :: 47 :: (s ++ [10, 98])) := by simp
  rw [e0, wordsL_word _ (by simp) _ _ (by rfl) 1 [97] 1 (by rfl), List.drop_succ_cons, List.drop_zero]
  rw [wordsL_gap _ (by simp) _ _ (by rw [show gapN (32 :: 47 :: 47 :: (s ++ [10, 98])) = 1 from rfl]; decide), show gapN (32 :: 47 :: 47 :: (s ++ [10, 98])) = 1 from rfl, List.drop_succ_cons, List.drop_zero]
  have hg : gapN (47 :: 47 :: (s ++ [10, 98])) = s.length + 2 := by
    have h1 : blankB ((47 :: 47 :: (s ++ [10, 98])).headD 0) = false := rfl
    have h2 : [47, 47].isPrefixOf (47 :: 47 :: (s ++ [10, 98])) = true := by simp
    unfold gapN
    rw [h1, h2, if_neg (by simp), if_pos rfl]
    have : (47 :: 47 :: (s ++ [10, 98])).takeWhile noLine = 47 :: 47 :: s := by
      have := noLine_all (47 :: 47 :: s) (by
        intro b hb
        simp only [List.mem_cons] at hb
        rcases hb with rfl | rfl | hb
        · decide
        · decide
        · exact h b hb) [98]
      simpa using this
    rw [this]
    simp
  rw [wordsL_gap _ (by simp) _ _ (by omega), hg, show (47 :: 47 :: (s ++ [10, 98])).drop (s.length + 2) = [10, 98] from by simp]
  rw [wordsL_gap _ (by simp) _ _ (by decide), show gapN [10, 98] = 1 from rfl, List.drop_succ_cons, List.drop_zero]
  rw [wordsL_word _ (by simp) _ _ (by rfl) 1 [98] 1 (by rfl), List.drop_succ_cons, List.drop_zero, wordsL_nil]
  congr 1
  simp
  omega
theorem note_bad (s : List UInt8) : bad ([97, 32, 47, 47] ++ s ++ [10, 98]) = if bad s = -1 then -1 else bad s + 4 := by
  have e0 : [97, 32, 47, 47] ++ s ++ [10, 98] = (97 : UInt8) :: (32 :: 47 :: 47 :: (s ++ [10, 98])) := by simp
  unfold bad
  rw [e0, chunks_low 97 _ (by decide), chunks_low 32 _ (by decide), chunks_low 47 _ (by decide), chunks_low 47 _ (by decide)]
  rw [bad_low 97 (by decide), bad_low 32 (by decide), bad_low 47 (by decide), bad_low 47 (by decide), chunks_past s.length s [98] 10 (Nat.le_refl _) (by decide)]
  have h98 : chunks [10, 98] = [(10, [10]), (98, [98])] := by decide
  have hs := badGo_shift (chunks s) 0 4
  simp only [Nat.zero_add] at hs ⊢
  by_cases hb : badGo (chunks s) 0 = -1
  · rw [if_pos hb] at hs ⊢
    rw [badGo_app _ _ _ hs, h98]
    rfl
  · rw [if_neg hb] at hs ⊢
    rw [badGo_app2 _ _ _ (by rw [hs]; have := badGo_ge (chunks s) 0; omega), hs]
    rfl
theorem note_all (s : List UInt8) (h : ∀ b ∈ s, b ≠ 10) :
    wordsB ([97, 32, 47, 47] ++ s ++ [10, 98]) = if bad s = -1 then .ok [(1, [97], 0), (1, [98], 5 + s.length)] else .err (4 + (bad s).toNat) := by
  unfold wordsB
  rw [note_words s h, note_bad s]
  have hge : bad s = -1 ∨ 0 ≤ bad s := by
    have := badGo_ge (chunks s) 0
    unfold bad
    omega
  by_cases hb : bad s = -1
  · rw [if_pos hb, if_pos hb]
    rfl
  · rw [if_neg hb, if_neg hb]
    unfold finish
    rw [if_neg (by omega)]
    simp only [Res.err.injEq]
    omega

/-! ### 3. A text -/
theorem scan_plain : ∀ (bs : List UInt8) (k : Nat) (t : List UInt8), (∀ b ∈ bs, b ≠ 10 ∧ b ≠ 92 ∧ b ≠ 34) → scan false k (bs ++ t) = scan false (k + bs.length) t
  | [], k, t, _ => by simp
  | b :: bs, k, t, h => by
    obtain ⟨h1, h2, h3⟩ := h b List.mem_cons_self
    rw [List.cons_append, scan, if_neg h1, if_neg (by simp), if_neg h2, if_neg h3, scan_plain bs _ t (fun x hx => h x (List.mem_cons_of_mem _ hx))]
    congr 1
    simp only [List.length_cons]
    omega
theorem encode_bytes (r : Nat) (hv : ValidR r) (h : r ≠ 10 ∧ r ≠ 92 ∧ r ≠ 34) : ∀ b ∈ encodeRune (r : Int), b ≠ 10 ∧ b ≠ 92 ∧ b ≠ 34 := by
  intro b hb
  unfold encodeRune at hb
  rw [List.mem_map] at hb
  obtain ⟨x, hx, rfl⟩ := hb
  have key : ∀ z : Int, 0 ≤ z → z < 256 → z ≠ 10 → z ≠ 92 → z ≠ 34 → z.toNat.toUInt8 ≠ 10 ∧ z.toNat.toUInt8 ≠ 92 ∧ z.toNat.toUInt8 ≠ 34 := by
    intro z h0 h1 h2 h3 h4
    have e := byte_toNat z h0 h1
    refine ⟨fun q => ?_, fun q => ?_, fun q => ?_⟩ <;> (rw [q] at e; simp at e; omega)
  have hv' := hv
  unfold ValidR at hv
  by_cases c1 : r ≤ 127
  · rw [encodeRuneZ_one (by omega) (by omega), List.mem_singleton] at hx
    subst hx
    exact key _ (by omega) (by omega) (by omega) (by omega) (by omega)
  · by_cases c2 : r ≤ 2047
    · rw [encodeRuneZ_two (by omega) (by omega)] at hx
      simp only [List.mem_cons, List.not_mem_nil, or_false] at hx
      rcases hx with rfl | rfl <;> exact key _ (by omega) (by omega) (by omega) (by omega) (by omega)
    · by_cases c3 : r ≤ 65535
      · rw [encodeRuneZ_three (by omega)] at hx
        simp only [List.mem_cons, List.not_mem_nil, or_false] at hx
        rcases hx with rfl | rfl | rfl <;> exact key _ (by omega) (by omega) (by omega) (by omega) (by omega)
      · rw [encodeRuneZ_four (by omega) (by omega)] at hx
        simp only [List.mem_cons, List.not_mem_nil, or_false] at hx
        rcases hx with rfl | rfl | rfl | rfl <;> exact key _ (by omega) (by omega) (by omega) (by omega) (by omega)

theorem encode_low (r : Nat) (h : r < 128) : encodeRune (r : Int) = [r.toUInt8] := by
  unfold encodeRune
  rw [encodeRuneZ_one (by omega) (by omega)]
  simp
theorem scan_esc : ∀ (rs : List Nat) (k : Nat) (t : List UInt8), (∀ r ∈ rs, ValidR r) → scan false k (encR (rs.flatMap escR) ++ t) = scan false (k + (encR (rs.flatMap escR)).length) t
  | [], k, t, _ => by simp [encR]
  | r :: rs, k, t, h => by
    have hr := h r List.mem_cons_self
    have ih := fun k => scan_esc rs k t (fun x hx => h x (List.mem_cons_of_mem _ hx))
    rw [List.flatMap_cons, encR_append, List.append_assoc, List.length_append]
    generalize encR (rs.flatMap escR) = X at ih ⊢
    unfold escR
    split
    · rename_i c
      have e1 : encodeRune ((92 : Nat) : Int) = [92] := by decide
      have e2 : encodeRune ((r : Nat) : Int) = [r.toUInt8] := encode_low r (by omega)
      have e3 : encR [92, r] = [92, r.toUInt8] := by
        rw [encR_cons, encR_cons, e1, e2]
        simp [encR]
      have e4 : r.toUInt8 ≠ 10 := by rcases c with rfl | rfl <;> decide
      rw [e3, List.cons_append, scan, if_neg (by decide), if_neg (by simp), if_pos rfl, List.cons_append, scan, if_neg e4, if_pos rfl, List.nil_append, ih]
      congr 1
      simp only [List.length_cons, List.length_nil]
      omega
    · split
      · rename_i c
        subst c
        have e3 : encR [92, 110] = [92, 110] := by decide
        rw [e3, List.cons_append, scan, if_neg (by decide), if_neg (by simp), if_pos rfl, List.cons_append, scan, if_neg (by decide), if_pos rfl, List.nil_append, ih]
        congr 1
        simp only [List.length_cons, List.length_nil]
        omega
      · rename_i c1 c2
        have e3 : encR [r] = encodeRune (r : Int) := by simp [encR]
        rw [e3, scan_plain _ _ _ (encode_bytes r hr (by omega)), ih]
        congr 1
        omega
theorem lit_quote (s : List UInt8) (hb : bad s = -1) (t : List UInt8) : litO (quote s ++ t) = some (s, (quote s).length) := by
  have hs : scan false 1 ((quote s ++ t).tail) = some ((quote s).length) := by
    have e : (quote s ++ t).tail = inner s ++ (34 :: t) := by simp [quote]
    rw [e]
    unfold inner
    rw [scan_esc _ _ _ (runes_valid s), scan, if_neg (by decide), if_neg (by simp), if_neg (by decide), if_pos rfl]
    simp only [quote, inner, List.length_append, List.length_cons, List.length_nil]
  unfold litO
  rw [hs]
  have e2 : ((quote s ++ t).take ((quote s).length - 1)).drop 1 = inner s := by
    have e : quote s ++ t = (34 :: inner s) ++ (34 :: t) := by simp [quote]
    have e3 : (quote s).length - 1 = (34 :: inner s).length := by simp [quote]
    rw [e, e3, List.take_left]
    rfl
  dsimp only
  rw [e2, plain_inner, encR_runes s hb]
theorem lit_open (s : List UInt8) : litO (34 :: inner s) = none := by
  unfold litO
  rw [List.tail_cons]
  have := scan_esc (runesOf s) 1 [] (runes_valid s)
  rw [List.append_nil] at this
  unfold inner
  rw [this]
  rfl
theorem wordO_quote (t : List UInt8) : wordO (34 :: t) = (litO (34 :: t)).map fun x => (3, x.1, x.2) := by
  have h1 : digitB ((34 :: t : List UInt8).headD 0) = false := rfl
  have h2 : letterB ((34 :: t : List UInt8).headD 0) = false := rfl
  unfold wordO
  rw [h1, h2, if_neg (by simp), if_neg (by simp), List.headD_cons, if_pos rfl]
theorem gap_quote (t : List UInt8) : gapN (34 :: t) = 0 := rfl
theorem word_a (t : List UInt8) (h : letterB (t.headD 0) = false) : wordO (97 :: t) = some (1, [97], 1) := by
  have h1 : digitB ((97 :: t : List UInt8).headD 0) = false := rfl
  have h2 : letterB ((97 :: t : List UInt8).headD 0) = true := rfl
  have h3 : (97 :: t : List UInt8).takeWhile letterB = [97] := by
    rw [List.takeWhile_cons, if_pos (by decide)]
    cases t with
    | nil => rfl
    | cons a t => rw [List.takeWhile_cons, if_neg (by simpa using h)]
  unfold wordO
  rw [h1, h2, if_neg (by simp), if_pos rfl, h3]
  rfl
theorem gap_a (t : List UInt8) : gapN (97 :: t) = 0 := rfl
theorem text_words (s : List UInt8) (hb : bad s = -1) : wordsB (97 :: (quote s ++ [98])) = .ok [(1, [97], 0), (3, s, 1), (1, [98], 1 + (quote s).length)] := by
  have h1 : wordsL (97 :: (quote s ++ [98])) 0 [] = .ok [(1, [97], 0), (3, s, 1), (1, [98], 1 + (quote s).length)] := by
    have hq : quote s ++ [98] = 34 :: (inner s ++ [34] ++ [98]) := by simp [quote]
    rw [wordsL_word _ (by simp) _ _ (gap_a _) 1 [97] 1 (word_a _ (by rw [hq]; rfl)), List.drop_succ_cons, List.drop_zero]
    rw [wordsL_word (quote s ++ [98]) (by simp) _ _ (by rw [hq]; rfl) 3 s (quote s).length (by rw [hq, wordO_quote, ← hq, lit_quote s hb]; rfl)]
    rw [List.drop_left, wordsL_word [98] (by simp) _ _ (by rfl) 1 [98] 1 (by rfl), List.drop_succ_cons, List.drop_zero, wordsL_nil]
    simp
  unfold wordsB
  rw [h1]
  have hbad : bad (97 :: (quote s ++ [98])) = -1 := by
    have e : 97 :: (quote s ++ [98]) = encR (97 :: (34 :: ((runesOf s).flatMap escR ++ [34]) ++ [98])) := by
      rw [encR_cons, encR_append, ← quote_eq]
      rfl
    rw [e]
    apply bad_encR
    intro r hr
    simp only [List.mem_cons, List.mem_append, List.not_mem_nil, or_false] at hr
    rcases hr with rfl | (rfl | hr | rfl) | rfl
    · exact .inl (by omega)
    · exact .inl (by omega)
    · exact esc_valid _ (runes_valid s) r hr
    · exact .inl (by omega)
    · exact .inl (by omega)
  rw [hbad]
  rfl
theorem text_open (s : List UInt8) : wordsB (97 :: 34 :: inner s) = .err 1 := by
  have h1 : wordsL (97 :: 34 :: inner s) 0 [] = .err 1 := by
    rw [wordsL_word _ (by simp) _ _ (gap_a _) 1 [97] 1 (word_a _ rfl), List.drop_succ_cons, List.drop_zero]
    exact wordsL_none _ (by simp) _ _ (gap_quote _) (by rw [wordO_quote, lit_open]; rfl)
  unfold wordsB
  rw [h1]
  have hbad : bad (97 :: 34 :: inner s) = -1 := by
    have e : 97 :: 34 :: inner s = encR (97 :: 34 :: (runesOf s).flatMap escR) := by
      rw [encR_cons, encR_cons]
      rfl
    rw [e]
    apply bad_encR
    intro r hr
    simp only [List.mem_cons] at hr
    rcases hr with rfl | rfl | hr
    · exact .inl (by omega)
    · exact .inl (by omega)
    · exact esc_valid _ (runes_valid s) r hr
  rw [hbad]
  rfl
end Go.Proofs.YtohmlhbmjamecaaDoor.P
