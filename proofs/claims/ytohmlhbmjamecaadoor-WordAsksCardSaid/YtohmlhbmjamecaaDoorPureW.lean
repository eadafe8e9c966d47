/- Plain Lean: a text's words. -/
import Derived.Test.YtohmlhbmjamecaaDoorPure2
namespace Go.Proofs.YtohmlhbmjamecaaDoor.P
open Go.Lib

/-! ### 1. What stands at the front of a text -/
def blankB (b : UInt8) : Bool := b == 32 || b == 9 || b == 10 || b == 13
def digitB (b : UInt8) : Bool := digitR (b.toNat : Int)
def noLine (b : UInt8) : Bool := b != 10
/-- How far a text goes from behind its first quote to its last one, both counted: behind a sign that takes the next one along, or not. -/
def scan : Bool → Nat → List UInt8 → Option Nat
  | _, _, [] => none
  | b, k, c :: t =>
    if c = 10 then none
    else if b = true then scan false (k + 1) t
    else if c = 92 then scan true (k + 1) t
    else if c = 34 then some (k + 1)
    else scan false (k + 1) t
/-- The literal in front: what it says, how many bytes. -/
def litO (l : List UInt8) : Option (List UInt8 × Nat) :=
  match scan false 1 l.tail with
  | none => none
  | some n => match plainO ((l.take (n - 1)).drop 1) with
    | none => none
    | some t => some (t, n)
def twos : List (List UInt8) := [[58, 58], [60, 61], [61, 61], [33, 61], [38, 38], [124, 124]]
def ones : List (List UInt8) := [[123], [125], [40], [41], [59], [44], [46], [61], [60], [43], [45], [42], [47], [37], [64], [33], [35]]
/-- The sign in front. -/
def signO (l : List UInt8) : Option (List UInt8) := (twos ++ ones).find? fun w => w.isPrefixOf l
/-- The word in front: its kind, its text, how many bytes. -/
def wordO (l : List UInt8) : Option (Nat × List UInt8 × Nat) :=
  if digitB (l.headD 0) then some (2, l.takeWhile digitB, (l.takeWhile digitB).length)
  else if letterB (l.headD 0) then some (1, l.takeWhile letterB, (l.takeWhile letterB).length)
  else if l.headD 0 = 34 then (litO l).map fun x => (3, x.1, x.2)
  else (signO l).map fun w => (4, w, w.length)
/-- The bytes in front that are no word's: one blank, or one note. -/
def gapN (l : List UInt8) : Nat :=
  if blankB (l.headD 0) then 1
  else if [47, 47].isPrefixOf l then (l.takeWhile noLine).length
  else 0

/-! ### 2. A text's words -/
abbrev W3 := Nat × List UInt8 × Nat
inductive Res where
  | ok (ws : List W3)
  | err (at_ : Nat)
  deriving DecidableEq
def wordsF : Nat → List UInt8 → Nat → List W3 → Res
  | 0, _, _, acc => .ok acc
  | _ + 1, [], _, acc => .ok acc
  | f + 1, a :: t, at_, acc =>
    if gapN (a :: t) ≠ 0 then wordsF f ((a :: t).drop (gapN (a :: t))) (at_ + gapN (a :: t)) acc
    else match wordO (a :: t) with
      | none => .err at_
      | some (k, x, n) => wordsF f ((a :: t).drop n) (at_ + n) (acc ++ [(k, x, at_)])
def wordsL (l : List UInt8) (at_ : Nat) (acc : List W3) : Res := wordsF l.length l at_ acc
/-- With the place of the first byte that is no UTF-8. -/
def finish (r : Res) (b : Int) : Res :=
  if b < 0 then r else match r with
    | .ok _ => .err b.toNat
    | .err p => .err (min p b.toNat)
def wordsB (l : List UInt8) : Res := finish (wordsL l 0 []) (bad l)

/-! ### 3. Each word has a byte -/
theorem scan_ge : ∀ (l : List UInt8) (b : Bool) (k n : Nat), scan b k l = some n → k < n ∧ n ≤ k + l.length
  | [], _, _, _, h => by simp [scan] at h
  | c :: t, b, k, n, h => by
    unfold scan at h
    split at h
    · cases h
    · split at h
      · have := scan_ge t _ _ _ h
        simp only [List.length_cons]; omega
      · split at h
        · have := scan_ge t _ _ _ h
          simp only [List.length_cons]; omega
        · split at h
          · injection h with h
            simp only [List.length_cons]; omega
          · have := scan_ge t _ _ _ h
            simp only [List.length_cons]; omega
theorem litO_ge (l : List UInt8) (h0 : l ≠ []) (t : List UInt8) (n : Nat) (h : litO l = some (t, n)) : 1 < n ∧ n ≤ l.length := by
  unfold litO at h
  cases hs : scan false 1 l.tail with
  | none => rw [hs] at h; cases h
  | some m =>
    rw [hs] at h
    dsimp only at h
    cases hp : plainO ((l.take (m - 1)).drop 1) with
    | none => rw [hp] at h; cases h
    | some x =>
      rw [hp] at h
      simp only [Option.some.injEq, Prod.mk.injEq] at h
      obtain ⟨_, rfl⟩ := h
      have := scan_ge _ _ _ _ hs
      have hl : 0 < l.length := List.length_pos_iff.2 h0
      rw [List.length_tail] at this
      omega
theorem takeWhile_len (p : UInt8 → Bool) (l : List UInt8) : (l.takeWhile p).length ≤ l.length := (List.takeWhile_prefix p).length_le
theorem takeWhile_pos (p : UInt8 → Bool) (l : List UInt8) (h0 : l ≠ []) (h : p (l.headD 0) = true) : 0 < (l.takeWhile p).length := by
  cases l with
  | nil => exact absurd rfl h0
  | cons a t =>
    simp only [List.headD_cons] at h
    rw [List.takeWhile_cons, if_pos h]
    simp
theorem signO_spec (l w : List UInt8) (h : signO l = some w) : w ∈ twos ++ ones ∧ w <+: l := by
  have := List.find?_some h
  exact ⟨List.mem_of_find?_eq_some h, List.isPrefixOf_iff_prefix.1 this⟩
theorem sign_pos (w : List UInt8) (h : w ∈ twos ++ ones) : 0 < w.length ∧ w.length ≤ 2 := by
  have : ∀ w ∈ twos ++ ones, 0 < w.length ∧ w.length ≤ 2 := by decide
  exact this w h
theorem wordO_ge (l : List UInt8) (h0 : l ≠ []) (k : Nat) (x : List UInt8) (n : Nat) (h : wordO l = some (k, x, n)) : 0 < n ∧ n ≤ l.length := by
  unfold wordO at h
  split at h
  · rename_i hd
    simp only [Option.some.injEq, Prod.mk.injEq] at h
    obtain ⟨_, _, rfl⟩ := h
    exact ⟨takeWhile_pos _ l h0 hd, takeWhile_len _ l⟩
  · split at h
    · rename_i hd
      simp only [Option.some.injEq, Prod.mk.injEq] at h
      obtain ⟨_, _, rfl⟩ := h
      exact ⟨takeWhile_pos _ l h0 hd, takeWhile_len _ l⟩
    · split at h
      · simp only [Option.map_eq_some_iff, Prod.exists, Prod.mk.injEq] at h
        obtain ⟨a, b, hl, _, _, rfl⟩ := h
        have := litO_ge l h0 a b hl
        omega
      · simp only [Option.map_eq_some_iff, Prod.mk.injEq] at h
        obtain ⟨w, hw, _, _, rfl⟩ := h
        have h1 := signO_spec l w hw
        have h2 := sign_pos w h1.1
        exact ⟨h2.1, h1.2.length_le⟩
theorem gapN_le (l : List UInt8) (h0 : l ≠ []) : gapN l ≤ l.length := by
  have hl : 0 < l.length := List.length_pos_iff.2 h0
  unfold gapN
  split
  · omega
  · split
    · exact takeWhile_len _ l
    · omega

/-- More rounds give the same. -/
theorem wordsF_fuel : ∀ (f g : Nat) (l : List UInt8) (at_ : Nat) (acc : List W3), l.length ≤ f → l.length ≤ g → wordsF f l at_ acc = wordsF g l at_ acc
  | 0, g, l, at_, acc, hf, _ => by
    have : l = [] := List.eq_nil_of_length_eq_zero (by omega)
    subst this
    cases g <;> rfl
  | f + 1, 0, l, at_, acc, _, hg => by
    have : l = [] := List.eq_nil_of_length_eq_zero (by omega)
    subst this
    rfl
  | f + 1, g + 1, [], at_, acc, _, _ => rfl
  | f + 1, g + 1, a :: t, at_, acc, hf, hg => by
    simp only [List.length_cons] at hf hg
    unfold wordsF
    by_cases hgap : gapN (a :: t) = 0
    · rw [if_neg (fun h => h hgap), if_neg (fun h => h hgap)]
      cases hw : wordO (a :: t) with
      | none => rfl
      | some x =>
        obtain ⟨k, x, n⟩ := x
        have := wordO_ge _ (by simp) _ _ _ hw
        exact wordsF_fuel f g _ _ _ (by rw [List.length_drop]; simp only [List.length_cons]; omega) (by rw [List.length_drop]; simp only [List.length_cons]; omega)
    · rw [if_pos hgap, if_pos hgap]
      exact wordsF_fuel f g _ _ _ (by rw [List.length_drop]; simp only [List.length_cons]; omega) (by rw [List.length_drop]; simp only [List.length_cons]; omega)

theorem wordsL_nil (at_ : Nat) (acc : List W3) : wordsL [] at_ acc = .ok acc := rfl
theorem wordsL_gap (l : List UInt8) (h0 : l ≠ []) (at_ : Nat) (acc : List W3) (hg : gapN l ≠ 0) : wordsL l at_ acc = wordsL (l.drop (gapN l)) (at_ + gapN l) acc := by
  cases l with
  | nil => exact absurd rfl h0
  | cons a t =>
    unfold wordsL
    simp only [List.length_cons]
    rw [wordsF, if_pos hg]
    exact wordsF_fuel _ _ _ _ _ (by rw [List.length_drop]; simp only [List.length_cons]; omega) (Nat.le_refl _)
theorem wordsL_none (l : List UInt8) (h0 : l ≠ []) (at_ : Nat) (acc : List W3) (hg : gapN l = 0) (hw : wordO l = none) : wordsL l at_ acc = .err at_ := by
  cases l with
  | nil => exact absurd rfl h0
  | cons a t =>
    unfold wordsL
    simp only [List.length_cons]
    rw [wordsF, if_neg (fun h => h hg), hw]
theorem wordsL_word (l : List UInt8) (h0 : l ≠ []) (at_ : Nat) (acc : List W3) (hg : gapN l = 0) (k : Nat) (x : List UInt8) (n : Nat) (hw : wordO l = some (k, x, n)) :
    wordsL l at_ acc = wordsL (l.drop n) (at_ + n) (acc ++ [(k, x, at_)]) := by
  cases l with
  | nil => exact absurd rfl h0
  | cons a t =>
    have := wordO_ge _ (by simp) _ _ _ hw
    unfold wordsL
    simp only [List.length_cons] at this ⊢
    rw [wordsF, if_neg (fun h => h hg), hw]
    exact wordsF_fuel _ _ _ _ _ (by rw [List.length_drop]; simp only [List.length_cons]; omega) (Nat.le_refl _)

/-- An error stands no further ahead than where one began. -/
theorem wordsF_at : ∀ (f : Nat) (l : List UInt8) (at_ : Nat) (acc : List W3) (p : Nat), wordsF f l at_ acc = .err p → at_ ≤ p
  | 0, _, _, _, _, h => by simp [wordsF] at h
  | f + 1, [], _, _, _, h => by simp [wordsF] at h
  | f + 1, a :: t, at_, acc, p, h => by
    unfold wordsF at h
    split at h
    · have := wordsF_at f _ _ _ _ h
      omega
    · split at h
      · injection h with h; omega
      · have := wordsF_at f _ _ _ _ h
        omega
theorem wordsL_at (l : List UInt8) (at_ : Nat) (acc : List W3) (p : Nat) (h : wordsL l at_ acc = .err p) : at_ ≤ p := wordsF_at _ _ _ _ _ h
/-- What is behind the first bad byte doesn't count. -/
theorem finish_bad (l : List UInt8) (at_ : Nat) (acc : List W3) (b : Nat) (h : b ≤ at_) : finish (wordsL l at_ acc) (b : Int) = .err b := by
  unfold finish
  rw [if_neg (by omega)]
  cases hr : wordsL l at_ acc with
  | ok ws => simp
  | err p =>
    have := wordsL_at _ _ _ _ hr
    simp
    omega
end Go.Proofs.YtohmlhbmjamecaaDoor.P
