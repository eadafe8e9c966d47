/- changelinglaw2.WordAsks answers true, over this seat's translation. -/
import Derived.Test.YtohmlhbmjamecaaDoorTold2
import Derived.Test.YtohmlhbmjamecaaDoorWRefW
import Derived.WalkSpells
import Derived.BigQuiet
import Derived.Deep.QuietTactic
namespace Go.Proofs.YtohmlhbmjamecaaDoor
open Go.RowKit P

theorem as_below {B : Nat} {a w : World} (h : Below B a w) (n : Nat) : Below B a (w.drewN n) := h.trans ⟨rfl, rfl, rfl, Nat.le_refl _, fun _ _ => rfl⟩
/-- The cells of a word of the references in memory. -/
theorem rword_cells {w : World} {B g n cap : Nat} {ws : List W3} (h : w.ownsRow B 64 3 (.slice (some ⟨g, 0, none⟩) n cap) n (wcells ws)) (i : Nat) (hi : i < ws.length) :
    w.cell? ⟨g, 3 * i, none⟩ = some (.int .i64 (ws[i]'hi).1) ∧ w.cell? ⟨g, 3 * i + 1, none⟩ = some (.string ⟨(ws[i]'hi).2.1.toArray⟩) ∧ w.cell? ⟨g, 3 * i + 2, none⟩ = some (.int .i64 (ws[i]'hi).2.2) := by
  obtain ⟨h1, h2, h3⟩ := wcells_get ws i hi
  rw [← add_plain g (3 * i), ← add_plain g (3 * i + 1), ← add_plain g (3 * i + 2)]
  exact ⟨h.cells (g := g) rfl _ _ h1, h.cells (g := g) rfl _ _ h2, h.cells (g := g) rfl _ _ h3⟩

set_option maxHeartbeats 8000000 in
set_option maxRecDepth 100000 in
theorem words_same (ws : List W3) (v v2 : Value) (B B2 : Nat) (w : World) (hn : ws.length ≤ 1000000) (own1 : w.ownsRow B 38 3 v ws.length (wcells ws)) (own2 : w.ownsRow B2 64 3 v2 ws.length (wcells ws)) :
    Calls Tryd.prog 34 #[v, v2] w fun e w' => e = .returned (.bool true) ∧ Below w.heap.size w w' := by
  by_cases hn0 : ws.length = 0
  · have : ws = [] := List.eq_nil_of_length_eq_zero hn0
    subst this
    rcases own1.2 with ⟨rfl, -⟩ | ⟨g, cap, cur, rfl, -⟩ <;> rcases own2.2 with ⟨rfl, -⟩ | ⟨g2, cap2, cur2, rfl, -⟩
    all_goals (
      clear own1 own2
      go_enter Tryd.func34, Tryd.ntmps34
      go_wp2
      go_loopw [5] (fun i wr => i = .int .i64 0 ∧ w = wr) (fun _ _ => 0)
      case atStart => exact ⟨rfl, rfl⟩
      case round =>
        obtain ⟨rfl, rfl⟩ := hrel
        go_wp2
        go_ret
        exact ⟨rfl, Below.refl _ _⟩)
  have hnp : 0 < ws.length := by omega
  obtain ⟨g, cap, rfl⟩ := own_form own1 hnp
  obtain ⟨g2, cap2, rfl⟩ := own_form own2 hnp
  have Own1 := Lib.hid own1
  have Own2 := Lib.hid own2
  clear own1 own2
  go_enter Tryd.func34, Tryd.ntmps34
  go_wp2
  go_loopw [5] (fun iv wr => ∃ j : Nat, iv = .int .i64 j ∧ j ≤ ws.length ∧ Below w.heap.size w wr) (fun iv _ => ws.length - (intOf iv).toNat)
  case atStart => exact ⟨0, rfl, Nat.zero_le _, Below.refl _ _⟩
  case round =>
    obtain ⟨j, rfl, hj, hbw⟩ := hrel
    by_cases hjn : j < ws.length
    · obtain ⟨h3, h4, h5⟩ := word_cells (own_below Own1.out hbw) j hjn
      obtain ⟨k3, k4, k5⟩ := rword_cells (own_below Own2.out hbw) j hjn
      rw [Nat.mul_comm 3 j] at h3 h4 h5 k3 k4 k5
      generalize ws[j].1 = kk at h3 k3
      generalize ws[j].2.1 = x at h4 k4
      generalize ws[j].2.2 = p at h5 k5
      go_wp2
      go_quiet (fail)
      go_wp2
      refine ⟨⟨j + 1, rfl, by omega, as_below hbw _⟩, by simp [intOf]; omega⟩
    · go_wp2
      go_ret
      exact ⟨rfl, hbw⟩

set_option maxHeartbeats 8000000 in
set_option maxRecDepth 100000 in
theorem law_WordAsks (s : ByteArray) (hs : s.size ≤ 9223372036854775807) (w : World) (hT : Lib.Utf8Tabs 0 1 w) :
    Calls Tryd.prog 8 #[.string s] w fun e w' => e = .returned (.bool true) ∧ Below w.heap.size w w' := by
  by_cases hbig : 500 < s.size
  · go_enter Tryd.func8, Tryd.ntmps8
    go_wp2_with (go_at_call 31; refine (told2_any _ hT).mono ?_; rintro e w' ⟨rfl, b1⟩)
    go_ret
    exact ⟨rfl, b1⟩
  have hsl := size_list s
  go_enter Tryd.func8, Tryd.ntmps8
  go_wp2_with fail
  refine (all_any s _ hs hT).mono ?_
  intro e w1 h
  rcases hw : wordsB s.data.toList with ws | p
  · obtain ⟨b1, v, rfl, own1, hlen⟩ := all_ok h (by omega) hw
    clear h
    have z1 := b1.size
    go_wp2_with fail
    refine (rwords_any s _ hs).mono ?_
    intro e w2 h
    obtain ⟨c2, v2, cc, pp, rfl, h⟩ := h
    rw [if_neg (by omega), hw] at h
    obtain ⟨rfl, rfl, own2, -⟩ := h
    have b2 := b1.trans (c2.mono z1)
    have z2 := b2.size
    have own1' := own_below own1 c2
    have Hn := Lib.hid (show ws.length ≤ 1000000 by omega)
    clear hw own1 c2 hlen
    have Own1 := Lib.hid own1'
    have Own2 := Lib.hid own2
    clear own1' own2
    go_wp2_with fail
    refine (told2_any _ (Utf8Tabs_below hT b2)).mono ?_
    rintro e w3 ⟨rfl, c3⟩
    go_wp2_with fail
    refine (words_same ws v v2 _ _ _ Hn.out (own_below Own1.out c3) (own_below Own2.out c3)).mono ?_
    rintro e w4 ⟨rfl, c4⟩
    have b3 := b2.trans (c3.mono z2)
    go_wp2
    go_ret
    exact ⟨rfl, b3.trans (c4.mono b3.size)⟩
  · obtain ⟨b1, rfl⟩ := all_err h (by omega) hw
    clear h
    have z1 := b1.size
    go_wp2_with fail
    refine (rwords_any s _ hs).mono ?_
    intro e w2 h
    obtain ⟨c2, v2, cc, pp, rfl, h⟩ := h
    rw [if_neg (by omega), hw] at h
    obtain ⟨rfl, rfl, rfl⟩ := h
    have b2 := b1.trans (c2.mono z1)
    have z2 := b2.size
    clear hw c2
    go_wp2_with fail
    refine (told2_any _ (Utf8Tabs_below hT b2)).mono ?_
    rintro e w3 ⟨rfl, c3⟩
    go_wp2_with fail
    refine (words_same [] (.slice none 0 0) (.slice none 0 0) w.heap.size w.heap.size _ (by decide) ⟨rfl, .inl ⟨rfl, rfl⟩⟩ ⟨rfl, .inl ⟨rfl, rfl⟩⟩).mono ?_
    rintro e w4 ⟨rfl, c4⟩
    have b3 := b2.trans (c3.mono z2)
    go_wp2
    go_ret
    exact ⟨rfl, b3.trans (c4.mono b3.size)⟩
end Go.Proofs.YtohmlhbmjamecaaDoor
