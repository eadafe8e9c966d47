/- Plain Lean: the two ways of unquoting a text are one. -/
import Derived.Test.YtohmlhbmjamecaaDoorPure
namespace Go.Proofs.YtohmlhbmjamecaaDoor.P
open Go.Lib

/-! ### 6. Unquoting as the document says it -/
def rplainGo : Nat → List (Nat × List UInt8) → List UInt8 → Option (List UInt8)
  | 0, _, _ => none
  | _ + 1, [], acc => some acc
  | f + 1, c :: cs, acc =>
    if isBad c = true ∨ c.1 = 34 ∨ c.1 = 10 then none
    else if c.1 ≠ 92 then rplainGo f cs (acc ++ c.2)
    else match cs with
      | [] => none
      | d :: ds =>
        if d.1 = 34 ∨ d.1 = 92 then rplainGo f ds (acc ++ d.2)
        else if d.1 = 110 then rplainGo f ds (acc ++ [10])
        else none

theorem rplain_none (f : Nat) (c : Nat × List UInt8) (cs : List (Nat × List UInt8)) (acc : List UInt8) (h : isBad c = true ∨ c.1 = 34 ∨ c.1 = 10) : rplainGo (f + 1) (c :: cs) acc = none := by
  unfold rplainGo
  rw [if_pos h]
theorem rplain_plain (f : Nat) (c : Nat × List UInt8) (cs : List (Nat × List UInt8)) (acc : List UInt8) (h : ¬ (isBad c = true ∨ c.1 = 34 ∨ c.1 = 10)) (h2 : c.1 ≠ 92) : rplainGo (f + 1) (c :: cs) acc = rplainGo f cs (acc ++ c.2) := by
  conv => lhs; unfold rplainGo
  exact (if_neg h).trans (if_pos h2)
theorem rplain_last (f : Nat) (c : Nat × List UInt8) (acc : List UInt8) (h : ¬ (isBad c = true ∨ c.1 = 34 ∨ c.1 = 10)) (h2 : c.1 = 92) : rplainGo (f + 1) [c] acc = none := by
  unfold rplainGo
  rw [if_neg h, if_neg (fun x => x h2)]
theorem rplain_esc (f : Nat) (c d : Nat × List UInt8) (ds : List (Nat × List UInt8)) (acc : List UInt8) (h : ¬ (isBad c = true ∨ c.1 = 34 ∨ c.1 = 10)) (h2 : c.1 = 92) :
    rplainGo (f + 1) (c :: d :: ds) acc = if d.1 = 34 ∨ d.1 = 92 then rplainGo f ds (acc ++ d.2) else if d.1 = 110 then rplainGo f ds (acc ++ [10]) else none := by
  rw [rplainGo, if_neg h, if_neg (fun x => x h2)]

theorem plain_none0 (c : Nat × List UInt8) (cs : List (Nat × List UInt8)) (acc : List UInt8) (h : c.1 = 34 ∨ c.1 = 10) : plainGo (c :: cs) false acc = none := by
  rw [plainGo, if_neg (by simp), if_pos (.inr ⟨rfl, h⟩)]
theorem plain_back0 (c : Nat × List UInt8) (cs : List (Nat × List UInt8)) (acc : List UInt8) (h : c.1 = 92) : plainGo (c :: cs) false acc = plainGo cs true acc := by
  rw [plainGo, if_neg (by simp), if_neg (by simp; omega), if_pos ⟨rfl, h⟩]
theorem plain_rune0 (c : Nat × List UInt8) (cs : List (Nat × List UInt8)) (acc : List UInt8) (h : ¬ (c.1 = 34 ∨ c.1 = 10)) (h2 : c.1 ≠ 92) : plainGo (c :: cs) false acc = plainGo cs false (acc ++ encodeRune (c.1 : Int)) := by
  rw [plainGo, if_neg (by simp), if_neg (by simp; omega), if_neg (fun x => h2 x.2)]
theorem plain_esc1 (c : Nat × List UInt8) (cs : List (Nat × List UInt8)) (acc : List UInt8) :
    plainGo (c :: cs) true acc = if c.1 = 34 ∨ c.1 = 92 then plainGo cs false (acc ++ encodeRune (c.1 : Int)) else if c.1 = 110 then plainGo cs false (acc ++ [10]) else none := by
  rw [plainGo]
  by_cases h3 : c.1 = 34 ∨ c.1 = 92
  · rw [if_pos h3, if_neg (fun x => by omega), if_neg (by simp; omega), if_neg (by simp)]
  · rw [if_neg h3]
    by_cases h4 : c.1 = 110
    · rw [if_pos h4, if_pos ⟨rfl, h4⟩]
    · rw [if_neg h4, if_neg (fun x => h4 x.2), if_pos (.inl ⟨rfl, fun x => h3 (.inl x), fun x => h3 (.inr x)⟩)]

theorem rplain_good : ∀ (f : Nat) (cs : List (Nat × List UInt8)) (acc : List UInt8), cs.length < f → (∀ c ∈ cs, isBad c = false ∧ c.2 = encodeRune (c.1 : Int)) →
    rplainGo f cs acc = plainGo cs false acc
  | 0, cs, acc, h, _ => by omega
  | f + 1, [], acc, _, _ => by simp [rplainGo, plainGo]
  | f + 1, [c], acc, hl, h => by
    obtain ⟨hb, hc⟩ := h c (by simp)
    simp only [List.length_cons, List.length_nil] at hl
    by_cases h1 : c.1 = 34 ∨ c.1 = 10
    · rw [rplain_none _ _ _ _ (.inr h1), plain_none0 _ _ _ h1]
    · have hg : ¬ (isBad c = true ∨ c.1 = 34 ∨ c.1 = 10) := by rw [hb]; simpa using h1
      by_cases h2 : c.1 = 92
      · rw [rplain_last _ _ _ hg h2, plain_back0 _ _ _ h2]
        simp [plainGo]
      · rw [rplain_plain _ _ _ _ hg h2, plain_rune0 _ _ _ h1 h2, rplain_good f [] _ (by simp only [List.length_nil]; omega) (by simp), hc]
  | f + 1, c :: d :: ds, acc, hl, h => by
    obtain ⟨hb, hc⟩ := h c (by simp)
    obtain ⟨hb2, hd⟩ := h d (by simp)
    simp only [List.length_cons] at hl
    by_cases h1 : c.1 = 34 ∨ c.1 = 10
    · rw [rplain_none _ _ _ _ (.inr h1), plain_none0 _ _ _ h1]
    · have hg : ¬ (isBad c = true ∨ c.1 = 34 ∨ c.1 = 10) := by rw [hb]; simpa using h1
      by_cases h2 : c.1 = 92
      · rw [rplain_esc _ _ _ _ _ hg h2, plain_back0 _ _ _ h2, plain_esc1, hd,
          rplain_good f ds _ (by omega) (fun x hx => h x (by simp [hx])), rplain_good f ds _ (by omega) (fun x hx => h x (by simp [hx]))]
      · rw [rplain_plain _ _ _ _ hg h2, plain_rune0 _ _ _ h1 h2, rplain_good f (d :: ds) _ (by simp only [List.length_cons]; omega) (fun x hx => h x (by simp only [List.mem_cons] at hx ⊢; exact .inr hx)), hc]

theorem isBad_rune (c : Nat × List UInt8) (h : isBad c = true) : c.1 = 65533 := by
  unfold isBad at h
  simp at h
  exact h.1

theorem rplain_bad : ∀ (f : Nat) (cs : List (Nat × List UInt8)) (acc : List UInt8), (∃ c ∈ cs, isBad c = true) → rplainGo f cs acc = none
  | 0, _, _, _ => rfl
  | f + 1, [], _, h => by obtain ⟨c, hc, _⟩ := h; simp at hc
  | f + 1, [c], acc, h => by
    obtain ⟨x, hx, hb⟩ := h
    simp at hx
    subst hx
    exact rplain_none _ _ _ _ (.inl hb)
  | f + 1, c :: d :: ds, acc, h => by
    obtain ⟨x, hx, hb⟩ := h
    by_cases h1 : isBad c = true ∨ c.1 = 34 ∨ c.1 = 10
    · exact rplain_none _ _ _ _ h1
    · have hx2 : x ∈ d :: ds := by
        simp only [List.mem_cons] at hx ⊢
        rcases hx with hx | hx
        · subst hx; exact absurd (.inl hb) h1
        · exact hx
      by_cases h2 : c.1 = 92
      · rw [rplain_esc _ _ _ _ _ h1 h2]
        simp only [List.mem_cons] at hx2
        rcases hx2 with hx2 | hx2
        · subst hx2
          have := isBad_rune x hb
          rw [if_neg (by omega), if_neg (by omega)]
        · rw [rplain_bad f ds _ ⟨x, hx2, hb⟩, rplain_bad f ds _ ⟨x, hx2, hb⟩]
          simp
      · rw [rplain_plain _ _ _ _ h1 h2, rplain_bad f (d :: ds) _ ⟨x, hx2, hb⟩]

/-- Both ways of unquoting are one. -/
theorem rplain_eq (l : List UInt8) (f : Nat) (hf : (chunks l).length < f) : rplainGo f (chunks l) [] = plainO l := by
  unfold plainO
  by_cases h : bad l = -1
  · rw [if_pos h]
    rw [bad_none] at h
    exact rplain_good f _ _ hf fun c hc => ⟨h c hc, chunk_good l c hc (h c hc)⟩
  · rw [if_neg h]
    rw [bad_none] at h
    refine rplain_bad f _ _ ?_
    apply Classical.byContradiction
    intro hn
    refine h fun c hc => ?_
    cases hb : isBad c with
    | false => rfl
    | true => exact absurd ⟨c, hc, hb⟩ hn
/-- More rounds give the same. -/
theorem rplain_fuel : ∀ (f g : Nat) (cs : List (Nat × List UInt8)) (acc : List UInt8), cs.length < f → cs.length < g → rplainGo f cs acc = rplainGo g cs acc
  | 0, _, _, _, h, _ => by omega
  | _ + 1, 0, _, _, _, h => by omega
  | f + 1, g + 1, [], acc, _, _ => rfl
  | f + 1, g + 1, [c], acc, hf, hg => by
    simp only [List.length_cons, List.length_nil] at hf hg
    unfold rplainGo
    rw [rplain_fuel f g [] _ (by simp only [List.length_nil]; omega) (by simp only [List.length_nil]; omega)]
  | f + 1, g + 1, c :: d :: ds, acc, hf, hg => by
    simp only [List.length_cons] at hf hg
    unfold rplainGo
    rw [rplain_fuel f g (d :: ds) _ (by simp only [List.length_cons]; omega) (by simp only [List.length_cons]; omega)]
    dsimp only
    rw [rplain_fuel f g ds (acc ++ d.2) (by omega) (by omega), rplain_fuel f g ds (acc ++ [10]) (by omega) (by omega)]
theorem chunksF_length : ∀ (n : Nat) (l : List UInt8), (chunksF n l).length ≤ n
  | 0, _ => by simp [chunksF]
  | n + 1, [] => by simp [chunksF]
  | n + 1, a :: t => by
    simp only [chunksF, List.length_cons]
    have := chunksF_length n ((a :: t).drop (decodeL (a :: t)).2)
    omega
theorem chunks_length (l : List UInt8) : (chunks l).length ≤ l.length := chunksF_length _ _
end Go.Proofs.YtohmlhbmjamecaaDoor.P
