/- changelinglaw2.told answers true, over this seat's translation; what a caller of word.All knows of the words in memory. -/
import Derived.Test.YtohmlhbmjamecaaDoorWAll
namespace Go.Proofs.YtohmlhbmjamecaaDoor
open Go.RowKit P

theorem all_ok {B : Nat} {l : List UInt8} {w w' : World} {e : Ending} {ws : List W3} (h : AllRes B l w e w') (hl : ¬ 8000 < l.length) (hw : wordsB l = .ok ws) :
    Below B w w' ∧ ∃ v, e = .returned (.tuple #[v, .int .i64 0, .int .i64 0]) ∧ w'.ownsRow B 38 3 v ws.length (wcells ws) ∧ ws.length ≤ l.length := by
  obtain ⟨hb, v, c, p, he, h⟩ := h
  rw [if_neg hl, hw] at h
  obtain ⟨rfl, rfl, h1, h2⟩ := h
  exact ⟨hb, v, he, h1, h2⟩
theorem all_err {B : Nat} {l : List UInt8} {w w' : World} {e : Ending} {q : Nat} (h : AllRes B l w e w') (hl : ¬ 8000 < l.length) (hw : wordsB l = .err q) :
    Below B w w' ∧ e = .returned (.tuple #[.slice none 0 0, .int .i64 2, .int .i64 q]) := by
  obtain ⟨hb, v, c, p, he, h⟩ := h
  rw [if_neg hl, hw] at h
  obtain ⟨rfl, rfl, rfl⟩ := h
  exact ⟨hb, he⟩
theorem wcells_get (ws : List W3) : ∀ (i : Nat) (h : i < ws.length), (wcells ws)[3 * i]? = some (.int .i64 (ws[i]'h).1) ∧ (wcells ws)[3 * i + 1]? = some (.string ⟨(ws[i]'h).2.1.toArray⟩) ∧ (wcells ws)[3 * i + 2]? = some (.int .i64 (ws[i]'h).2.2) := by
  induction ws with
  | nil => intro i h; simp at h
  | cons x ws ih =>
    intro i h
    have e : wcells (x :: ws) = .int .i64 x.1 :: .string ⟨x.2.1.toArray⟩ :: .int .i64 x.2.2 :: wcells ws := rfl
    rw [e]
    cases i with
    | zero => exact ⟨rfl, rfl, rfl⟩
    | succ i =>
      have := ih i (by simp only [List.length_cons] at h; omega)
      rw [show 3 * (i + 1) = 3 * i + 1 + 1 + 1 from by omega]
      simp only [List.getElem?_cons_succ, List.getElem_cons_succ]
      exact this
theorem add_plain (g j : Nat) : (⟨g, 0, none⟩ : Addr).add j = ⟨g, j, none⟩ := by unfold Addr.add; split <;> simp_all
theorem own_form {w : World} {B n size : Nat} {e : TypeId} {v : Value} {xs : List Value} (h : w.ownsRow B e size v n xs) (hn : 0 < n) : ∃ g cap, v = .slice (some ⟨g, 0, none⟩) n cap := by
  rcases h.2 with ⟨_, h0⟩ | ⟨g, cap, cur, hv, _⟩
  · omega
  · exact ⟨g, cap, hv⟩
/-- The cells of a word in memory. -/
theorem word_cells {w : World} {B g n cap : Nat} {ws : List W3} (h : w.ownsRow B 38 3 (.slice (some ⟨g, 0, none⟩) n cap) n (wcells ws)) (i : Nat) (hi : i < ws.length) :
    w.cell? ⟨g, 3 * i, none⟩ = some (.int .i64 (ws[i]'hi).1) ∧ w.cell? ⟨g, 3 * i + 1, none⟩ = some (.string ⟨(ws[i]'hi).2.1.toArray⟩) ∧ w.cell? ⟨g, 3 * i + 2, none⟩ = some (.int .i64 (ws[i]'hi).2.2) := by
  obtain ⟨h1, h2, h3⟩ := wcells_get ws i hi
  rw [← add_plain g (3 * i), ← add_plain g (3 * i + 1), ← add_plain g (3 * i + 2)]
  exact ⟨h.cells (g := g) rfl _ _ h1, h.cells (g := g) rfl _ _ h2, h.cells (g := g) rfl _ _ h3⟩

set_option maxHeartbeats 4000000 in
set_option maxRecDepth 100000 in
theorem told2_any (w : World) (hT : Lib.Utf8Tabs 0 1 w) : Calls Tryd.prog 31 #[] w fun e w' => e = .returned (.bool true) ∧ Below w.heap.size w w' := by
  go_enter Tryd.func31, Tryd.ntmps31
  go_wp2_with fail
  refine (all_any (ByteArray.mk #[97, 60, 61, 98, 32, 47, 47, 32, 99, 10, 32, 34, 120, 92, 110, 34]) _ (by decide) hT).mono ?_
  intro e w1 h
  obtain ⟨b1, v, rfl, own1, -⟩ := all_ok h (by decide) (show wordsB (ByteArray.mk #[97, 60, 61, 98, 32, 47, 47, 32, 99, 10, 32, 34, 120, 92, 110, 34]).data.toList = .ok [(1, [97], 0), (4, [60, 61], 1), (1, [98], 3), (3, [120, 10], 11)] by decide +kernel)
  clear h
  have z1 := b1.size
  obtain ⟨g, cap, rfl⟩ := own_form own1 (by decide)
  go_wp2_with fail
  refine (all_any (ByteArray.mk #[97, 98, 32, 63]) _ (by decide) (Utf8Tabs_below hT b1)).mono ?_
  intro e w2 h
  obtain ⟨c2, rfl⟩ := all_err h (by decide) (show wordsB (ByteArray.mk #[97, 98, 32, 63]).data.toList = .err 3 by decide +kernel)
  clear h
  have b2 := b1.trans (c2.mono z1)
  have z2 := b2.size
  have own2 := own_below own1 c2
  clear c2 own1
  go_wp2_with fail
  refine (all_any (ByteArray.mk #[97, 32, 34, 98]) _ (by decide) (Utf8Tabs_below hT b2)).mono ?_
  intro e w3 h
  obtain ⟨c3, rfl⟩ := all_err h (by decide) (show wordsB (ByteArray.mk #[97, 32, 34, 98]).data.toList = .err 2 by decide +kernel)
  clear h
  have b3 := b2.trans (c3.mono z2)
  have z3 := b3.size
  have own3 := own_below own2 c3
  clear c3 own2
  go_wp2_with fail
  refine (all_any (ByteArray.mk #[97, 32, 255, 32, 63]) _ (by decide) (Utf8Tabs_below hT b3)).mono ?_
  intro e w4 h
  obtain ⟨c4, rfl⟩ := all_err h (by decide) (show wordsB (ByteArray.mk #[97, 32, 255, 32, 63]).data.toList = .err 2 by decide +kernel)
  clear h
  have b4 := b3.trans (c4.mono z3)
  have z4 := b4.size
  have own4 := own_below own3 c4
  clear c4 own3
  obtain ⟨h3, h4, h5⟩ := word_cells own4 1 (by decide)
  obtain ⟨h9, h10, h11⟩ := word_cells own4 3 (by decide)
  simp only [List.getElem_cons_succ, List.getElem_cons_zero, Nat.reduceMul, Nat.reduceAdd] at h3 h4 h5 h9 h10 h11
  clear own4
  go_wp2
  go_ret
  exact ⟨rfl, b4⟩
end Go.Proofs.YtohmlhbmjamecaaDoor
