/- Plain Lean: blanks and a note ahead of a word change its place alone (WordBlanks). -/
import Derived.Test.YtohmlhbmjamecaaDoorPureN
namespace Go.Proofs.YtohmlhbmjamecaaDoor.P
open Go.Lib

/-! ### 1. What is in front depends on the bytes that it takes -/
theorem tw_same (p : UInt8 → Bool) (b : UInt8) (w : List UInt8) (hb : p b = false) : ∀ (u v : List UInt8), ((u ++ v).takeWhile p).length ≤ u.length → (u ++ b :: w).takeWhile p = (u ++ v).takeWhile p
  | [], v, h => by
    have : v.takeWhile p = [] := List.eq_nil_of_length_eq_zero (by simpa using h)
    rw [List.nil_append, List.nil_append, this, List.takeWhile_cons, if_neg (by rw [hb]; simp)]
  | a :: u, v, h => by
    rw [List.cons_append, List.cons_append, List.takeWhile_cons, List.takeWhile_cons] at *
    by_cases ha : p a = true
    · rw [if_pos ha] at h
      rw [if_pos ha, if_pos ha, tw_same p b w hb u v (by simpa using h)]
    · rw [if_neg ha, if_neg ha]
theorem tw_line (v : List UInt8) (hv : v ≠ []) (h10 : v.headD 0 ≠ 10) (w : List UInt8) : ∀ (u : List UInt8), ((u ++ v).takeWhile noLine).length ≤ u.length → (u ++ w).takeWhile noLine = (u ++ v).takeWhile noLine
  | [], h => by
    exfalso
    have := takeWhile_pos noLine v hv (by unfold noLine; simpa using h10)
    rw [List.nil_append] at h
    simp at h
    rw [h] at this
    simp at this
  | a :: u, h => by
    rw [List.cons_append, List.cons_append, List.takeWhile_cons, List.takeWhile_cons] at *
    by_cases ha : noLine a = true
    · rw [if_pos ha] at h
      rw [if_pos ha, if_pos ha, tw_line v hv h10 w u (by simpa using h)]
    · rw [if_neg ha, if_neg ha]
theorem scan_same (v w : List UInt8) : ∀ (u : List UInt8) (b : Bool) (k n : Nat), scan b k (u ++ v) = some n → n ≤ k + u.length → scan b k (u ++ w) = some n
  | [], b, k, n, h, hn => by
    have := scan_ge _ _ _ _ h
    simp only [List.length_nil] at hn
    omega
  | c :: u, b, k, n, h, hn => by
    rw [List.cons_append, scan] at *
    simp only [List.length_cons] at hn
    split
    · rename_i hc
      rw [if_pos hc] at h
      cases h
    · rename_i hc
      rw [if_neg hc] at h
      split
      · rename_i hb
        rw [if_pos hb] at h
        exact scan_same v w u _ _ n h (by omega)
      · rename_i hb
        rw [if_neg hb] at h
        split
        · rename_i h92
          rw [if_pos h92] at h
          exact scan_same v w u _ _ n h (by omega)
        · rename_i h92
          rw [if_neg h92] at h
          split
          · rename_i h34
            rw [if_pos h34] at h
            exact h
          · rename_i h34
            rw [if_neg h34] at h
            exact scan_same v w u _ _ n h (by omega)
theorem sign_two (c d : UInt8) (t : List UInt8) : signO (c :: d :: t) = signO [c, d] := by
  simp only [signO, twos, ones, List.cons_append, List.nil_append, List.find?, List.isPrefixOf]
theorem sign_one (c : UInt8) (v w : List UInt8) (x : List UInt8) (h : signO (c :: v) = some x) (hx : x.length ≤ 1) : signO (c :: 32 :: w) = some x := by
  obtain ⟨hm, hp⟩ := signO_spec _ _ h
  have hl := sign_pos x hm
  match x, hl, hp with
  | [a], _, hp =>
    obtain ⟨t, ht⟩ := hp
    simp only [List.cons_append, List.nil_append, List.cons.injEq] at ht
    obtain ⟨rfl, -⟩ := ht
    have key : ∀ a ∈ ([123, 125, 40, 41, 59, 44, 46, 61, 60, 43, 45, 42, 47, 37, 64, 33, 35] : List UInt8), signO [a, 32] = some [a] := by decide
    rw [sign_two]
    apply key
    simp only [twos, ones, List.cons_append, List.nil_append, List.mem_cons, List.cons.injEq, List.not_mem_nil, or_false, and_true] at hm ⊢
    simpa using hm
  | a :: b :: t, _, _ => simp at hx
theorem word_same (u v w : List UInt8) (hu : u ≠ []) (k : Nat) (x : List UInt8) (n : Nat) (h : wordO (u ++ v) = some (k, x, n)) (hn : n ≤ u.length) : wordO (u ++ 32 :: w) = some (k, x, n) := by
  cases u with
  | nil => exact absurd rfl hu
  | cons a t =>
    unfold wordO at h ⊢
    rw [List.cons_append, List.headD_cons] at h ⊢
    split
    · rename_i hd
      rw [if_pos hd] at h
      simp only [Option.some.injEq, Prod.mk.injEq] at h
      obtain ⟨rfl, rfl, rfl⟩ := h
      have := tw_same digitB 32 w (by decide) (a :: t) v hn
      rw [List.cons_append, List.cons_append] at this
      rw [this]
    · rename_i hd
      rw [if_neg hd] at h
      split
      · rename_i hl
        rw [if_pos hl] at h
        simp only [Option.some.injEq, Prod.mk.injEq] at h
        obtain ⟨rfl, rfl, rfl⟩ := h
        have := tw_same letterB 32 w (by decide) (a :: t) v hn
        rw [List.cons_append, List.cons_append] at this
        rw [this]
      · rename_i hl
        rw [if_neg hl] at h
        split
        · rename_i hq
          rw [if_pos hq] at h
          simp only [Option.map_eq_some_iff, Prod.exists, Prod.mk.injEq] at h ⊢
          obtain ⟨y, m, hy, rfl, rfl, rfl⟩ := h
          refine ⟨y, m, ?_, rfl, rfl, rfl⟩
          unfold litO at hy ⊢
          rw [List.tail_cons] at hy ⊢
          cases hs : scan false 1 (t ++ v) with
          | none => rw [hs] at hy; cases hy
          | some m' =>
            rw [hs] at hy
            dsimp only at hy
            cases hp : plainO ((List.take (m' - 1) (a :: (t ++ v))).drop 1) with
            | none => rw [hp] at hy; cases hy
            | some z =>
              rw [hp] at hy
              simp only [Option.some.injEq, Prod.mk.injEq] at hy
              obtain ⟨rfl, rfl⟩ := hy
              simp only [List.length_cons] at hn
              rw [scan_same v (32 :: w) t _ _ _ hs (by omega)]
              dsimp only
              have e : List.take (m' - 1) (a :: (t ++ 32 :: w)) = List.take (m' - 1) (a :: (t ++ v)) := by
                rw [← List.cons_append, ← List.cons_append, List.take_append_of_le_length (by simp only [List.length_cons]; omega), List.take_append_of_le_length (by simp only [List.length_cons]; omega)]
              rw [e, hp]
        · rename_i hq
          rw [if_neg hq] at h
          simp only [Option.map_eq_some_iff, Prod.mk.injEq] at h ⊢
          obtain ⟨y, hy, rfl, rfl, rfl⟩ := h
          refine ⟨y, ?_, rfl, rfl, rfl⟩
          cases t with
          | nil => exact sign_one a v w y hy hn
          | cons d t =>
            rw [List.cons_append, sign_two] at hy ⊢
            exact hy
theorem gap_same (u v w : List UInt8) (hu : u ≠ []) (hv : v ≠ []) (h10 : v.headD 0 ≠ 10) (h0 : gapN (u ++ v) ≠ 0) (hn : gapN (u ++ v) ≤ u.length) : gapN (u ++ 32 :: w) = gapN (u ++ v) := by
  cases u with
  | nil => exact absurd rfl hu
  | cons a t =>
    unfold gapN at h0 hn ⊢
    rw [List.cons_append, List.headD_cons] at h0 hn ⊢
    rw [List.cons_append, List.headD_cons]
    by_cases hb : blankB a = true
    · rw [if_pos hb, if_pos hb]
    · rw [if_neg hb] at h0 hn
      rw [if_neg hb, if_neg hb]
      by_cases hp : [47, 47].isPrefixOf (a :: (t ++ v)) = true
      · rw [if_pos hp] at h0 hn
        rw [if_pos hp]
        have hp2 : [47, 47].isPrefixOf (a :: (t ++ 32 :: w)) = true := by
          cases t with
          | nil =>
            exfalso
            rw [List.nil_append] at hn hp
            cases v with
            | nil => exact hv rfl
            | cons c v =>
              simp only [List.isPrefixOf, Bool.and_eq_true, beq_iff_eq] at hp
              obtain ⟨h1, h2, -⟩ := hp
              rw [← h1, ← h2, List.takeWhile_cons, if_pos (by decide), List.takeWhile_cons, if_pos (by decide)] at hn
              simp at hn
          | cons d t =>
            simp only [List.cons_append, List.isPrefixOf, Bool.and_eq_true, beq_iff_eq, and_true] at hp ⊢
            exact hp
        rw [if_pos hp2]
        have := tw_line v hv h10 (32 :: w) (a :: t) hn
        rw [List.cons_append, List.cons_append] at this
        rw [this]
      · rw [if_neg hp] at h0
        exact absurd rfl h0

theorem gap_zero (u v w : List UInt8) (hu : u ≠ []) (h0 : gapN (u ++ v) = 0) : gapN (u ++ 32 :: w) = 0 := by
  cases u with
  | nil => exact absurd rfl hu
  | cons a t =>
    unfold gapN at h0 ⊢
    rw [List.cons_append, List.headD_cons] at h0 ⊢
    by_cases hb : blankB a = true
    · rw [if_pos hb] at h0; cases h0
    · rw [if_neg hb] at h0 ⊢
      by_cases hp : [47, 47].isPrefixOf (a :: (t ++ v)) = true
      · rw [if_pos hp] at h0
        exfalso
        have ha : a = 47 := by
          simp only [List.isPrefixOf, Bool.and_eq_true, beq_iff_eq] at hp
          exact hp.1.symm
        have := takeWhile_pos noLine (a :: (t ++ v)) (by simp) (by rw [List.headD_cons, ha]; decide)
        omega
      · have hp2 : ¬ [47, 47].isPrefixOf (a :: (t ++ 32 :: w)) = true := by
          intro h
          apply hp
          cases t with
          | nil => simp [List.isPrefixOf] at h
          | cons d t =>
            simp only [List.cons_append, List.isPrefixOf, Bool.and_eq_true, beq_iff_eq, and_true] at h ⊢
            exact h
        rw [if_neg hp2]

/-! ### 2. Words further on -/
def plusW (m : Nat) (x : W3) : W3 := (x.1, x.2.1, x.2.2 + m)
theorem wordsF_plus : ∀ (f : Nat) (l : List UInt8) (at_ : Nat) (acc ws : List W3), wordsF f l at_ acc = .ok ws →
    ∃ tail, ws = acc ++ tail ∧ (∀ x ∈ tail, at_ ≤ x.2.2) ∧ ∀ (m : Nat) (acc' : List W3), wordsF f l (at_ + m) acc' = .ok (acc' ++ tail.map (plusW m))
  | 0, _, _, acc, ws, h => by
    simp only [wordsF, Res.ok.injEq] at h
    exact ⟨[], by simp [h], by simp, fun m acc' => by simp [wordsF]⟩
  | f + 1, [], _, acc, ws, h => by
    simp only [wordsF, Res.ok.injEq] at h
    exact ⟨[], by simp [h], by simp, fun m acc' => by simp [wordsF]⟩
  | f + 1, a :: t, at_, acc, ws, h => by
    rw [wordsF] at h
    by_cases hg : gapN (a :: t) ≠ 0
    · rw [if_pos hg] at h
      obtain ⟨tail, e, h1, h2⟩ := wordsF_plus f _ _ _ _ h
      refine ⟨tail, e, fun x hx => by have := h1 x hx; omega, fun m acc' => ?_⟩
      rw [wordsF, if_pos hg, ← h2 m acc']
      congr 1
      omega
    · rw [if_neg hg] at h
      cases hw : wordO (a :: t) with
      | none => rw [hw] at h; cases h
      | some y =>
        obtain ⟨k, x, n⟩ := y
        rw [hw] at h
        dsimp only at h
        obtain ⟨tail, e, h1, h2⟩ := wordsF_plus f _ _ _ _ h
        refine ⟨(k, x, at_) :: tail, by rw [e]; simp, fun y hy => ?_, fun m acc' => ?_⟩
        · rcases List.mem_cons.1 hy with rfl | hy
          · exact Nat.le_refl _
          · have := h1 y hy
            omega
        · rw [wordsF, if_neg hg, hw]
          dsimp only
          have := h2 m (acc' ++ [(k, x, at_ + m)])
          rw [show at_ + m + n = at_ + n + m from by omega, this]
          simp [plusW]

def blanksL : List UInt8 := [32, 47, 47, 32, 120, 32, 34, 32, 63, 10, 9]
theorem blanks_step (v : List UInt8) (at_ : Nat) (acc : List W3) : wordsL (blanksL ++ v) at_ acc = wordsL v (at_ + 11) acc := by
  have e0 : blanksL ++ v = 32 :: ([47, 47, 32, 120, 32, 34, 32, 63] ++ 10 :: (9 :: v)) := rfl
  have h1 : gapN (32 :: ([47, 47, 32, 120, 32, 34, 32, 63] ++ 10 :: (9 :: v))) = 1 := rfl
  have h2 : gapN ([47, 47, 32, 120, 32, 34, 32, 63] ++ 10 :: (9 :: v)) = 8 := by
    have a1 : blankB (([47, 47, 32, 120, 32, 34, 32, 63] ++ 10 :: (9 :: v)).headD 0) = false := rfl
    have a2 : [47, 47].isPrefixOf ([47, 47, 32, 120, 32, 34, 32, 63] ++ 10 :: (9 :: v)) = true := rfl
    unfold gapN
    rw [a1, a2, if_neg (by simp), if_pos rfl, noLine_all _ (by decide)]
    rfl
  have h3 : gapN (10 :: 9 :: v) = 1 := rfl
  have h4 : gapN (9 :: v) = 1 := rfl
  rw [e0, wordsL_gap _ (by simp) _ _ (by rw [h1]; decide), h1, List.drop_succ_cons, List.drop_zero]
  rw [wordsL_gap _ (by simp) _ _ (by rw [h2]; decide), h2, List.drop_left' (by rfl)]
  rw [wordsL_gap _ (by simp) _ _ (by rw [h3]; decide), h3, List.drop_succ_cons, List.drop_zero]
  rw [wordsL_gap _ (by simp) _ _ (by rw [h4]; decide), h4, List.drop_succ_cons, List.drop_zero]

def shiftW (k : Nat) (x : W3) : W3 := (x.1, x.2.1, if k ≤ x.2.2 then x.2.2 + 11 else x.2.2)
theorem blanks_main (L : List UInt8) (k : Nat) (hkL : k ≤ L.length) (hv : L.drop k ≠ []) (h10 : (L.drop k).headD 0 ≠ 10) : ∀ (f at_ : Nat) (acc tail : List W3), at_ ≤ k → L.length - at_ ≤ f → wordsF f (L.drop at_) at_ acc = .ok (acc ++ tail) →
    (∃ x ∈ tail, x.2.2 = k) → ∀ acc', wordsL ((L.take k).drop at_ ++ (blanksL ++ L.drop k)) at_ acc' = .ok (acc' ++ tail.map (shiftW k))
  | f, at_, acc, tail, hat, hf, h, hm, acc' => by
    by_cases hk : at_ = k
    · subst hk
      rw [List.drop_eq_nil_of_le (by rw [List.length_take]; omega), List.nil_append, blanks_step]
      obtain ⟨tail2, e, h1, h2⟩ := wordsF_plus f _ _ _ _ h
      have e2 := List.append_cancel_left e
      subst e2
      have := h2 11 acc'
      unfold wordsL
      rw [wordsF_fuel _ f _ _ _ (Nat.le_refl _) (by rw [List.length_drop]; exact hf), this]
      congr 2
      apply List.map_congr_left
      intro x hx
      have := h1 x hx
      simp [plusW, shiftW, this]
    · have hu : (L.take k).drop at_ ≠ [] := by
        intro e
        have := congrArg List.length e
        rw [List.length_drop, List.length_take] at this
        simp at this
        omega
      have hul : ((L.take k).drop at_).length = k - at_ := by rw [List.length_drop, List.length_take]; omega
      have hL : L.drop at_ = (L.take k).drop at_ ++ L.drop k := by
        conv => lhs; rw [← List.take_append_drop k L]
        rw [List.drop_append_of_le_length (by rw [List.length_take]; omega)]
      have hB : blanksL ++ L.drop k = 32 :: ([47, 47, 32, 120, 32, 34, 32, 63, 10, 9] ++ L.drop k) := rfl
      match f, hf, h with
      | 0, hf, h => omega
      | f + 1, hf, h =>
        cases hl : L.drop at_ with
        | nil =>
          have := congrArg List.length hl
          rw [List.length_drop] at this
          simp at this
          omega
        | cons a t =>
          rw [hl, wordsF, ← hl] at h
          by_cases hg : gapN (L.drop at_) ≠ 0
          · rw [if_pos hg, List.drop_drop] at h
            obtain ⟨tail2, e, h1, -⟩ := wordsF_plus f _ _ _ _ h
            have e2 := List.append_cancel_left e
            subst e2
            obtain ⟨x, hx, hxk⟩ := hm
            have hle := h1 x hx
            have hgs : gapN ((L.take k).drop at_ ++ (blanksL ++ L.drop k)) = gapN (L.drop at_) := by
              rw [hB, hL]
              exact gap_same _ _ _ hu hv h10 (by rw [← hL]; exact hg) (by rw [← hL, hul]; omega)
            rw [wordsL_gap _ (by simp [hu]) _ _ (by rw [hgs]; exact hg), hgs, List.drop_append_of_le_length (by omega), List.drop_drop]
            exact blanks_main L k hkL hv h10 f (at_ + gapN (L.drop at_)) acc tail (by omega) (by omega) h ⟨x, hx, hxk⟩ acc'
          · rw [if_neg hg] at h
            cases hw : wordO (L.drop at_) with
            | none => rw [hw] at h; cases h
            | some y =>
              obtain ⟨kk, xx, n⟩ := y
              rw [hw] at h
              dsimp only at h
              rw [List.drop_drop] at h
              have hnn := wordO_ge _ (by rw [hl]; simp) _ _ _ hw
              obtain ⟨tail2, e, h1, -⟩ := wordsF_plus f _ _ _ _ h
              have e2 : tail = (kk, xx, at_) :: tail2 := by
                rw [List.append_assoc] at e
                exact List.append_cancel_left e
              subst e2
              obtain ⟨x, hx, hxk⟩ := hm
              have hx2 : x ∈ tail2 := by
                rcases List.mem_cons.1 hx with rfl | hx
                · exact absurd hxk hk
                · exact hx
              have hle := h1 x hx2
              have hws : wordO ((L.take k).drop at_ ++ (blanksL ++ L.drop k)) = some (kk, xx, n) := by
                rw [hB]
                exact word_same _ (L.drop k) _ hu _ _ _ (by rw [← hL]; exact hw) (by rw [hul]; omega)
              have hgs : gapN ((L.take k).drop at_ ++ (blanksL ++ L.drop k)) = 0 := by
                rw [hB]
                exact gap_zero _ (L.drop k) _ hu (by rw [← hL]; omega)
              rw [wordsL_word _ (by simp [hu]) _ _ hgs kk xx n hws, List.drop_append_of_le_length (by omega), List.drop_drop]
              have := blanks_main L k hkL hv h10 f (at_ + n) (acc ++ [(kk, xx, at_)]) tail2 (by omega) (by omega) (by rw [List.append_assoc]; exact h) ⟨x, hx2, hxk⟩ (acc' ++ [(kk, xx, at_)])
              rw [this]
              simp [shiftW]
              omega

/-! ### 3. Where words begin -/
theorem wordsF_starts (L : List UInt8) : ∀ (f at_ : Nat) (acc tail : List W3), wordsF f (L.drop at_) at_ acc = .ok (acc ++ tail) →
    ∀ x ∈ tail, ∃ n, L.drop x.2.2 ≠ [] ∧ gapN (L.drop x.2.2) = 0 ∧ wordO (L.drop x.2.2) = some (x.1, x.2.1, n)
  | 0, at_, acc, tail, h => by
    simp only [wordsF, Res.ok.injEq] at h
    have : tail = [] := by
      have := congrArg List.length h
      simp at this
      exact this
    subst this
    simp
  | f + 1, at_, acc, tail, h => by
    cases hl : L.drop at_ with
    | nil =>
      rw [hl] at h
      simp only [wordsF, Res.ok.injEq] at h
      have : tail = [] := by
        have := congrArg List.length h
        simp at this
        exact this
      subst this
      simp
    | cons a t =>
      rw [hl, wordsF, ← hl] at h
      by_cases hg : gapN (L.drop at_) ≠ 0
      · rw [if_pos hg, List.drop_drop] at h
        exact wordsF_starts L f _ _ _ h
      · rw [if_neg hg] at h
        cases hw : wordO (L.drop at_) with
        | none => rw [hw] at h; cases h
        | some y =>
          obtain ⟨kk, xx, n⟩ := y
          rw [hw] at h
          dsimp only at h
          rw [List.drop_drop] at h
          obtain ⟨tail2, e, -, -⟩ := wordsF_plus f _ _ _ _ h
          have e2 : tail = (kk, xx, at_) :: tail2 := by
            rw [List.append_assoc] at e
            exact List.append_cancel_left e
          subst e2
          have ih := wordsF_starts L f (at_ + n) (acc ++ [(kk, xx, at_)]) tail2 (by rw [List.append_assoc]; exact h)
          intro x hx
          rcases List.mem_cons.1 hx with rfl | hx
          · exact ⟨n, by rw [hl]; simp, Decidable.not_not.1 hg, hw⟩
          · exact ih x hx
theorem head_low (l : List UInt8) (y : Nat × List UInt8 × Nat) (h : wordO l = some y) : (l.headD 0).toNat < 128 := by
  unfold wordO at h
  split at h
  · rename_i hd
    unfold digitB at hd
    rw [digitR_iff] at hd
    omega
  · split at h
    · rename_i hl
      exact letterB_low _ hl
    · split at h
      · rename_i hq
        rw [hq]
        decide
      · simp only [Option.map_eq_some_iff] at h
        obtain ⟨w, hw, -⟩ := h
        obtain ⟨hm, hp⟩ := signO_spec _ _ hw
        obtain ⟨t, ht⟩ := hp
        have key : ∀ w ∈ twos ++ ones, w ≠ [] ∧ (w.headD 0).toNat < 128 := by decide
        obtain ⟨hne, hk⟩ := key w hm
        rw [← ht]
        cases w with
        | nil => exact absurd rfl hne
        | cons a w => exact hk
/-- What the law asks. -/
theorem blanks_words (L : List UInt8) (ws : List W3) (h : wordsB L = .ok ws) (x : W3) (hx : x ∈ ws) :
    x.2.2 < L.length ∧ wordsB (L.take x.2.2 ++ (blanksL ++ L.drop x.2.2)) = .ok (ws.map (shiftW x.2.2)) := by
  unfold wordsB finish at h
  have hbad : bad L = -1 := by
    rcases bad_lt L with hb | ⟨h0, -⟩
    · exact hb
    · rw [if_neg (by omega)] at h
      split at h <;> cases h
  rw [hbad, if_pos (by omega)] at h
  unfold wordsL at h
  have h' : wordsF L.length (L.drop 0) 0 [] = .ok ([] ++ ws) := by rw [List.drop_zero, List.nil_append]; exact h
  obtain ⟨n, hv, hg, hw⟩ := wordsF_starts L L.length 0 [] ws h' x hx
  obtain ⟨k, hk⟩ : ∃ k, x.2.2 = k := ⟨_, rfl⟩
  rw [hk] at hv hg hw ⊢
  have hkL : k < L.length := by
    by_cases hk : k < L.length
    · exact hk
    · exact absurd (List.drop_eq_nil_of_le (by omega)) hv
  refine ⟨hkL, ?_⟩
  have hlow := head_low _ _ hw
  cases hd : L.drop k with
  | nil => exact absurd hd hv
  | cons c v =>
    rw [hd, List.headD_cons] at hlow
    have h10 : (L.drop k).headD 0 ≠ 10 := by
      rw [hd, List.headD_cons]
      rintro rfl
      rw [hd] at hg
      have : gapN (10 :: v) = 1 := rfl
      omega
    have hm := blanks_main L k (by omega) hv h10 L.length 0 [] ws (Nat.zero_le _) (by omega) h' ⟨x, hx, hk⟩ []
    rw [List.drop_zero, List.nil_append, hd] at hm
    have hb2 : bad (L.take k ++ (blanksL ++ c :: v)) = -1 := by
      rw [bad_none] at hbad ⊢
      rw [← List.take_append_drop k L, hd, chunks_past _ _ _ _ (Nat.le_refl _) hlow] at hbad
      rw [show blanksL ++ c :: v = 32 :: 47 :: 47 :: 32 :: 120 :: 32 :: 34 :: 32 :: 63 :: 10 :: 9 :: c :: v from rfl, chunks_past _ _ _ _ (Nat.le_refl _) (by decide),
        chunks_low 32 _ (by decide), chunks_low 47 _ (by decide), chunks_low 47 _ (by decide), chunks_low 32 _ (by decide), chunks_low 120 _ (by decide), chunks_low 32 _ (by decide), chunks_low 34 _ (by decide), chunks_low 32 _ (by decide), chunks_low 63 _ (by decide), chunks_low 10 _ (by decide), chunks_low 9 _ (by decide)]
      intro y hy
      simp only [List.mem_append, List.mem_cons] at hy hbad
      rcases hy with hy | rfl | rfl | rfl | rfl | rfl | rfl | rfl | rfl | rfl | rfl | rfl | hy
      · exact hbad y (.inl hy)
      all_goals first | rfl | exact hbad y (.inr hy)
    unfold wordsB
    rw [hb2, hm]
    rfl
end Go.Proofs.YtohmlhbmjamecaaDoor.P
