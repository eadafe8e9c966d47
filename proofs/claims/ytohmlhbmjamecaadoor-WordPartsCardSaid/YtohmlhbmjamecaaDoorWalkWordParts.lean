/- changelinglaw2.WordParts answers true, over this seat's translation. -/
import Derived.Test.YtohmlhbmjamecaaDoorTold2
import Derived.Test.YtohmlhbmjamecaaDoorPureP
import Derived.WalkSpells
import Derived.BigQuiet
import Derived.Deep.QuietTactic
namespace Go.Proofs.YtohmlhbmjamecaaDoor
open Go.RowKit P

theorem drewN_below {B : Nat} {a w : World} (h : Below B a w) (n : Nat) : Below B a (w.drewN n) := h.trans ⟨rfl, rfl, rfl, Nat.le_refl _, fun _ _ => rfl⟩

set_option maxHeartbeats 8000000 in
set_option maxRecDepth 100000 in
theorem law_WordParts (s : ByteArray) (hs : s.size ≤ 9223372036854775807) (w : World) (hT : Lib.Utf8Tabs 0 1 w) :
    Calls Tryd.prog 9 #[.string s] w fun e w' => e = .returned (.bool true) ∧ Below w.heap.size w w' := by
  by_cases hbig : 300 < s.size
  · go_enter Tryd.func9, Tryd.ntmps9
    go_wp2_with (go_at_call 31; refine (told2_any _ hT).mono ?_; rintro e w' ⟨rfl, b1⟩)
    go_ret
    exact ⟨rfl, b1⟩
  have hsl := size_list s
  go_enter Tryd.func9, Tryd.ntmps9
  go_wp2_with fail
  refine (all_any s _ hs hT).mono ?_
  intro e w1 h
  rcases hw : wordsB s.data.toList with ws | p
  · obtain ⟨b1, v, rfl, own1, hlen⟩ := all_ok h (by omega) hw
    clear h
    have z1 := b1.size
    have HP := Lib.hid (words_parts _ _ hw)
    clear hw
    go_wp2_with fail
    by_cases hn0 : ws.length = 0
    · have : ws = [] := List.eq_nil_of_length_eq_zero hn0
      subst this
      rcases own1.2 with ⟨rfl, -⟩ | ⟨g, cap, cur, rfl, -⟩
      · go_loopw [7] (fun i wr => i = .int .i64 0 ∧ wr = w1) (fun _ _ => 0)
        case atStart => exact ⟨rfl, rfl⟩
        case round =>
          obtain ⟨rfl, rfl⟩ := hrel
          go_wp2_with (go_at_call 31; refine (told2_any _ (Utf8Tabs_below hT b1)).mono ?_; rintro e w' ⟨rfl, b2⟩)
          go_ret
          exact ⟨rfl, b1.trans (b2.mono z1)⟩
      · go_loopw [7] (fun i wr => i = .int .i64 0 ∧ wr = w1) (fun _ _ => 0)
        case atStart => exact ⟨rfl, rfl⟩
        case round =>
          obtain ⟨rfl, rfl⟩ := hrel
          go_wp2_with (go_at_call 31; refine (told2_any _ (Utf8Tabs_below hT b1)).mono ?_; rintro e w' ⟨rfl, b2⟩)
          go_ret
          exact ⟨rfl, b1.trans (b2.mono z1)⟩
    obtain ⟨g, cap, rfl⟩ := own_form own1 (by omega)
    go_loopw [6, 7] (fun e i wr => ∃ en j : Nat, e = .int .i64 en ∧ i = .int .i64 j ∧ j ≤ ws.length ∧ Below w.heap.size w wr ∧ wr.ownsRow w.heap.size 38 3 (.slice (some ⟨g, 0, none⟩) ws.length cap) ws.length (wcells ws) ∧ Parts s.data.toList en (ws.drop j)) (fun _ i _ => ws.length - (intOf i).toNat)
    case atStart => exact ⟨0, 0, rfl, rfl, Nat.zero_le _, b1, own1, HP.out⟩
    case round =>
      clear own1 b1 z1
      obtain ⟨en, j, rfl, rfl, hj, hbw, hown, hps⟩ := hrel
      have z1 := hbw.size
      by_cases hjn : j < ws.length
      · obtain ⟨h3, h4, h5⟩ := word_cells hown j hjn
        rw [Nat.mul_comm 3 j] at h3 h4 h5
        have hd : ws.drop j = (ws[j].1, ws[j].2.1, ws[j].2.2) :: ws.drop (j + 1) := List.drop_eq_getElem_cons hjn
        rw [hd] at hps
        generalize ws[j].1 = k at h3 hps
        generalize ws[j].2.1 = x at h4 hps
        generalize ws[j].2.2 = p at h5 hps
        clear hd
        have Hown := Lib.hid hown
        obtain ⟨p1, p2, p3, p4, p5, p6⟩ := hps
        rw [hsl] at p2
        clear hown
        by_cases hk : k = 3
        · obtain ⟨p7, p8⟩ := p5 hk
          clear p5 p6
          subst hk
          have q34 : (((s[p]'p2).toNat : Int) != 34) = false := by
            rw [bne_eq_false_iff_eq]
            have : s[p]'p2 = 34 := by
              rw [List.getElem?_eq_some_iff] at p7
              obtain ⟨h, p7⟩ := p7
              exact (by simpa using p7 : s.data[p]'p2 = 34)
            rw [this]; rfl
          clear p7
          go_wp2
          refine ⟨⟨p + 1, j + 1, rfl, rfl, by omega, hbw.alloc z1 _, own_below Hown.out ((Below.refl _ _).alloc (Nat.le_refl _) _), p8⟩, by simp [intOf]; omega⟩
        · obtain ⟨p7, p8, p9, p10⟩ := p6 hk
          clear p5 p6
          have qk : ((k : Int) == 3) = false := by rw [beq_eq_false_iff_ne]; omega
          have q2 : decide ((s.size : Int) < (p : Int) + (x.length : Int)) = false := by rw [decide_eq_false_iff_not]; omega
          have q3 : ((s.extract p (p + x.length)).toList == x) = true := by
            rw [beq_iff_eq, Lib.toList_data, Lib.extract_data, show p + x.length - p = x.length from by omega]
            exact p9
          have q5 : x.isEmpty = false := by simpa using p7
          rw [hsl] at p8
          clear p9
          have e1 : (0 : Int) ≤ (p : Int) + (x.length : Int) := by omega
          have e2 : (p : Int) + (x.length : Int) ≤ (s.size : Int) := by omega
          have e3 : (p : Int) ≤ (p : Int) + (x.length : Int) := by omega
          have e4 : ((p : Int) + (x.length : Int)).toNat = p + x.length := by omega
          go_wp2
          go_quiet (fail)
          go_wp2
          refine ⟨⟨p + x.length, j + 1, by simp, rfl, by omega, drewN_below (hbw.alloc z1 _) nq, own_below Hown.out (drewN_below ((Below.refl _ _).alloc (Nat.le_refl _) _) nq), p10⟩, by simp [intOf]; omega⟩
      · go_wp2_with (go_at_call 31; refine (told2_any _ (Utf8Tabs_below hT hbw)).mono ?_; rintro e w' ⟨rfl, b2⟩)
        go_ret
        exact ⟨rfl, hbw.trans (b2.mono z1)⟩
  · obtain ⟨b1, rfl⟩ := all_err h (by omega) hw
    clear h
    have z1 := b1.size
    have hpl := words_lt _ _ hw
    rw [hsl] at hpl
    clear hw
    have hT1 := Utf8Tabs_below hT b1
    go_wp2_with (go_at_call 31; refine (told2_any _ hT1).mono ?_; rintro e w' ⟨rfl, b2⟩)
    go_ret
    exact ⟨rfl, b1.trans (b2.mono z1)⟩
end Go.Proofs.YtohmlhbmjamecaaDoor
