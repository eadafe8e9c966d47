/- Plain Lean: where words stand (WordParts). -/
import Derived.Test.YtohmlhbmjamecaaDoorPureW
namespace Go.Proofs.YtohmlhbmjamecaaDoor.P
open Go.Lib

def Parts (L : List UInt8) : Nat → List W3 → Prop
  | _, [] => True
  | e, (k, x, p) :: ws => e ≤ p ∧ p < L.length ∧ 1 ≤ k ∧ k ≤ 4 ∧
    (k = 3 → L[p]? = some 34 ∧ Parts L (p + 1) ws) ∧
    (k ≠ 3 → x ≠ [] ∧ p + x.length ≤ L.length ∧ (L.drop p).take x.length = x ∧ Parts L (p + x.length) ws)

theorem Parts_le (L : List UInt8) : ∀ (ws : List W3) (e e' : Nat), e ≤ e' → Parts L e' ws → Parts L e ws
  | [], _, _, _, _ => trivial
  | (k, x, p) :: ws, e, e', h, hp => ⟨by have := hp.1; omega, hp.2⟩

theorem prefix_take {x l : List UInt8} (h : x <+: l) : l.take x.length = x := by
  obtain ⟨t, rfl⟩ := h
  exact List.take_left
theorem wordO_parts (l : List UInt8) (h0 : l ≠ []) (k : Nat) (x : List UInt8) (n : Nat) (h : wordO l = some (k, x, n)) :
    1 ≤ k ∧ k ≤ 4 ∧ (k = 3 → l.headD 0 = 34) ∧ (k ≠ 3 → x ≠ [] ∧ x.length = n ∧ l.take x.length = x) := by
  have hn := wordO_ge l h0 k x n h
  unfold wordO at h
  split at h
  · rename_i hd
    simp only [Option.some.injEq, Prod.mk.injEq] at h
    obtain ⟨rfl, rfl, rfl⟩ := h
    refine ⟨by omega, by omega, fun h => by omega, fun _ => ⟨fun e => ?_, rfl, prefix_take (List.takeWhile_prefix _)⟩⟩
    rw [e] at hn
    exact absurd hn.1 (by simp)
  · split at h
    · rename_i hd
      simp only [Option.some.injEq, Prod.mk.injEq] at h
      obtain ⟨rfl, rfl, rfl⟩ := h
      refine ⟨by omega, by omega, fun h => by omega, fun _ => ⟨fun e => ?_, rfl, prefix_take (List.takeWhile_prefix _)⟩⟩
      rw [e] at hn
      exact absurd hn.1 (by simp)
    · split at h
      · rename_i hq
        simp only [Option.map_eq_some_iff, Prod.exists, Prod.mk.injEq] at h
        obtain ⟨a, b, hl, rfl, rfl, rfl⟩ := h
        exact ⟨by omega, by omega, fun _ => hq, fun h => absurd rfl h⟩
      · simp only [Option.map_eq_some_iff, Prod.mk.injEq] at h
        obtain ⟨w, hw, rfl, rfl, rfl⟩ := h
        have h1 := signO_spec l w hw
        refine ⟨by omega, by omega, fun h => by omega, fun _ => ⟨fun e => ?_, rfl, prefix_take h1.2⟩⟩
        rw [e] at hn
        exact absurd hn.1 (by simp)

theorem wordsF_parts (L : List UInt8) : ∀ (f at_ : Nat) (acc ws : List W3), at_ ≤ L.length → wordsF f (L.drop at_) at_ acc = .ok ws → ∃ tail, ws = acc ++ tail ∧ Parts L at_ tail
  | 0, at_, acc, ws, _, h => by
    simp only [wordsF, Res.ok.injEq] at h
    exact ⟨[], by simp [h], trivial⟩
  | f + 1, at_, acc, ws, hat, h => by
    cases hl : L.drop at_ with
    | nil =>
      rw [hl] at h
      simp only [wordsF, Res.ok.injEq] at h
      exact ⟨[], by simp [h], trivial⟩
    | cons a t =>
      rw [hl] at h
      have hlen : (L.drop at_).length = L.length - at_ := List.length_drop
      rw [hl] at hlen
      simp only [List.length_cons] at hlen
      unfold wordsF at h
      split at h
      · have hg := gapN_le (a :: t) (by simp)
        simp only [List.length_cons] at hg
        rw [← hl, List.drop_drop, hl] at h
        obtain ⟨tail, e, hp⟩ := wordsF_parts L f (at_ + gapN (a :: t)) acc ws (by omega) h
        exact ⟨tail, e, Parts_le L tail _ _ (by omega) hp⟩
      · cases hw : wordO (a :: t) with
        | none => rw [hw] at h; simp at h
        | some y =>
          obtain ⟨k, x, n⟩ := y
          rw [hw] at h
          dsimp only at h
          have hn := wordO_ge _ (by simp) _ _ _ hw
          simp only [List.length_cons] at hn
          rw [← hl, List.drop_drop] at h
          obtain ⟨tail, e, hp⟩ := wordsF_parts L f (at_ + n) _ ws (by omega) h
          obtain ⟨h1, h2, h3, h4⟩ := wordO_parts _ (by simp) _ _ _ hw
          refine ⟨(k, x, at_) :: tail, by rw [e]; simp, Nat.le_refl _, by omega, h1, h2, fun hk => ⟨?_, Parts_le L tail _ _ (by omega) hp⟩, fun hk => ?_⟩
          · have := h3 hk
            simp only [List.headD_cons] at this
            rw [← Nat.add_zero at_, ← List.getElem?_drop, hl, this]
            rfl
          · obtain ⟨h5, h6, h7⟩ := h4 hk
            refine ⟨h5, by omega, by rw [hl]; exact h7, ?_⟩
            rw [h6]
            exact hp
theorem wordsF_lt (L : List UInt8) : ∀ (f at_ : Nat) (acc : List W3) (p : Nat), at_ ≤ L.length → wordsF f (L.drop at_) at_ acc = .err p → p < L.length
  | 0, at_, acc, p, _, h => by simp [wordsF] at h
  | f + 1, at_, acc, p, hat, h => by
    cases hl : L.drop at_ with
    | nil => rw [hl] at h; simp [wordsF] at h
    | cons a t =>
      rw [hl] at h
      have hlen : (L.drop at_).length = L.length - at_ := List.length_drop
      rw [hl] at hlen
      simp only [List.length_cons] at hlen
      unfold wordsF at h
      split at h
      · have hg := gapN_le (a :: t) (by simp)
        simp only [List.length_cons] at hg
        rw [← hl, List.drop_drop, hl] at h
        exact wordsF_lt L f (at_ + gapN (a :: t)) acc p (by omega) h
      · cases hw : wordO (a :: t) with
        | none => rw [hw] at h; simp at h; omega
        | some y =>
          obtain ⟨k, x, n⟩ := y
          rw [hw] at h
          dsimp only at h
          have hn := wordO_ge _ (by simp) _ _ _ hw
          simp only [List.length_cons] at hn
          rw [← hl, List.drop_drop] at h
          exact wordsF_lt L f (at_ + n) _ p (by omega) h

theorem badGo_lt : ∀ (cs : List (Nat × List UInt8)) (k : Nat), badGo cs k = -1 ∨ badGo cs k < k + (cs.flatMap (·.2)).length
  | [], _ => .inl rfl
  | c :: cs, k => by
    unfold badGo
    split
    · rename_i hb
      refine .inr ?_
      have : c.2.length = 1 := by unfold isBad at hb; simp at hb; exact hb.2
      simp only [List.flatMap_cons, List.length_append]
      omega
    · rcases badGo_lt cs (k + c.2.length) with h | h
      · exact .inl h
      · refine .inr ?_
        simp only [List.flatMap_cons, List.length_append]
        omega
theorem bad_lt (l : List UInt8) : bad l = -1 ∨ (0 ≤ bad l ∧ bad l < l.length) := by
  have h1 := badGo_lt (chunks l) 0
  rw [chunks_flat] at h1
  have h2 := badGo_ge (chunks l) 0
  unfold bad
  omega

/-- What the law asks of a text's words. -/
theorem words_parts (l : List UInt8) (ws : List W3) (h : wordsB l = .ok ws) : Parts l 0 ws := by
  unfold wordsB finish at h
  split at h
  · unfold wordsL at h
    obtain ⟨tail, e, hp⟩ := wordsF_parts l l.length 0 [] ws (Nat.zero_le _) (by rw [List.drop_zero]; exact h)
    rw [e]
    exact hp
  · split at h <;> simp at h
theorem words_lt (l : List UInt8) (p : Nat) (h : wordsB l = .err p) : p < l.length := by
  unfold wordsB finish at h
  split at h
  · unfold wordsL at h
    exact wordsF_lt l l.length 0 [] p (Nat.zero_le _) (by rw [List.drop_zero]; exact h)
  · have hb := bad_lt l
    split at h <;> simp at h <;> omega
end Go.Proofs.YtohmlhbmjamecaaDoor.P
