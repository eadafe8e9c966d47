/- changelinglaw2.WordBlanks answers true, over this seat's translation. -/
import Derived.Test.YtohmlhbmjamecaaDoorTold2
import Derived.Test.YtohmlhbmjamecaaDoorPureB
import Derived.WalkSpells
import Derived.BigQuiet
import Derived.Deep.QuietTactic
import Derived.Deep.RegionWith
namespace Go.Proofs.YtohmlhbmjamecaaDoor
open Go.RowKit P

theorem bl_below {B : Nat} {a w : World} (h : Below B a w) (n : Nat) : Below B a (w.drewN n) := h.trans ⟨rfl, rfl, rfl, Nat.le_refl _, fun _ _ => rfl⟩
/-- What a number picks of n. -/
theorem bl_pick (a : Int) (n : Nat) (hn : 0 < n) (hn2 : n ≤ 1000000000000) : ∃ ua i : Nat, IntKind.u64.wrap a = (ua : Int) ∧ i < n ∧ (ua : Int).tmod (n : Int) = (i : Int) ∧ IntKind.u64.wrap (n : Int) = (n : Int) ∧ IntKind.i64.wrap (i : Int) = (i : Int) := by
  have h := Int.emod_nonneg a (show (2 ^ 64 : Int) ≠ 0 by decide)
  have e : IntKind.u64.wrap a = a % 2 ^ 64 := by simp [IntKind.wrap, IntKind.signed, IntKind.bits]
  have e2 : IntKind.u64.wrap (n : Int) = (n : Int) % 2 ^ 64 := by simp [IntKind.wrap, IntKind.signed, IntKind.bits]
  have hi := Nat.mod_lt (IntKind.u64.wrap a).toNat hn
  refine ⟨(IntKind.u64.wrap a).toNat, (IntKind.u64.wrap a).toNat % n, by omega, hi, ?_, by omega, IntWalk.i64_in _ (by omega)⟩
  rw [Int.tmod_eq_emod_of_nonneg (by omega)]
  exact (Int.natCast_emod _ _).symm

set_option maxHeartbeats 8000000 in
set_option maxRecDepth 100000 in
theorem law_WordBlanks (s : ByteArray) (hs : s.size ≤ 9223372036854775807) (a : Int) (_ha : -9223372036854775808 ≤ a ∧ a ≤ 9223372036854775807) (w : World) (hT : Lib.Utf8Tabs 0 1 w) :
    Calls Tryd.prog 10 #[.string s, .int .i64 a] w fun e w' => e = .returned (.bool true) ∧ Below w.heap.size w w' := by
  by_cases hbig : 150 < s.size
  · go_enter Tryd.func10, Tryd.ntmps10
    go_wp2_with (go_at_call 31; refine (told2_any _ hT).mono ?_; rintro e w' ⟨rfl, b1⟩)
    go_ret
    exact ⟨rfl, b1⟩
  have hsl := size_list s
  go_enter Tryd.func10, Tryd.ntmps10
  go_wp2_with fail
  refine (all_any s _ hs hT).mono ?_
  intro e w1 h
  rcases hw : wordsB s.data.toList with ws | p
  rotate_left
  · obtain ⟨b1, rfl⟩ := all_err h (by omega) hw
    clear h hw
    have z1 := b1.size
    go_wp2_with (go_at_call 31; refine (told2_any _ (Utf8Tabs_below hT b1)).mono ?_; rintro e w' ⟨rfl, b2⟩)
    go_ret
    exact ⟨rfl, b1.trans (b2.mono z1)⟩
  obtain ⟨b1, v, rfl, own1, hlen⟩ := all_ok h (by omega) hw
  clear h
  have z1 := b1.size
  by_cases hn0 : ws.length = 0
  · have : ws = [] := List.eq_nil_of_length_eq_zero hn0
    subst this
    clear hw
    rcases own1.2 with ⟨rfl, -⟩ | ⟨g, cap, cur, rfl, -⟩
    all_goals (
      go_wp2_with (go_at_call 31; refine (told2_any _ (Utf8Tabs_below hT b1)).mono ?_; rintro e w' ⟨rfl, b2⟩)
      go_ret
      exact ⟨rfl, b1.trans (b2.mono z1)⟩)
  rw [hsl] at hlen
  have hnp : 0 < ws.length := by omega
  obtain ⟨g, cap, rfl⟩ := own_form own1 hnp
  obtain ⟨ua, i, p1, p2, p3, p4, p5⟩ := bl_pick a ws.length hnp (by omega)
  obtain ⟨h3, h4, h5⟩ := word_cells own1 i p2
  rw [Nat.mul_comm 3 i] at h3 h4 h5
  have hmem : ws[i] ∈ ws := List.getElem_mem p2
  have Hall := Lib.hid (show ∀ x ∈ ws, x.2.2 < s.size from fun x hx => by rw [← hsl]; exact (blanks_words _ ws hw x hx).1)
  obtain ⟨hk, hws⟩ := blanks_words _ ws hw _ hmem
  rw [hsl] at hk
  generalize hkk : ws[i].2.2 = k at h5 hk hws
  have Hws := Lib.hid hws
  have q0 : ((ws.length : Int) == 0) = false := by rw [beq_eq_false_iff_ne]; omega
  clear hmem hws hw h3 h4 hkk
  have Hown := Lib.hid own1
  have Hb := Lib.hid b1
  have hdat : (s.extract 0 k ++ ByteArray.mk #[32, 47, 47, 32, 120, 32, 34, 32, 63, 10, 9] ++ s.extract k s.size).data.toList = s.data.toList.take k ++ (blanksL ++ s.data.toList.drop k) := by
    rw [ByteArray.data_append, Array.toList_append, ByteArray.data_append, Array.toList_append, Lib.extract_to_end, Lib.extract_data, List.drop_zero, Nat.sub_zero, List.append_assoc]
    rfl
  have Hd := Lib.hid hdat
  have hln : ¬ 8000 < (s.data.toList.take k ++ (blanksL ++ s.data.toList.drop k)).length := by
    simp only [List.length_append, List.length_take, List.length_drop, hsl, blanksL, List.length_cons, List.length_nil]
    omega
  have hz : (s.extract 0 k ++ ByteArray.mk #[32, 47, 47, 32, 120, 32, 34, 32, 63, 10, 9] ++ s.extract k s.size).size ≤ 9223372036854775807 := by
    rw [← size_list, hdat]
    omega
  have Hz := Lib.hid hz
  have Hln := Lib.hid hln
  clear hdat hln hz
  go_wp2
  go_region_with (go_at_call 32; refine (all_any _ _ Hz.out (Utf8Tabs_below hT (bl_below Hb.out _))).mono ?_; intro e w2 h; rw [Hd.out] at h; obtain ⟨c2, v, rfl, own2, -⟩ := all_ok h Hln.out Hws.out)
  all_goals (
    clear h
    rw [List.length_map] at own2
    have c2' : Below w1.heap.size w1 w2 := (bl_below (Below.refl _ _) 1).trans c2
    have own1' := own_below Hown.out c2'
    have b2 := Hb.out.trans (c2'.mono z1)
    have own2' : w2.ownsRow w1.heap.size 38 3 v ws.length (wcells (ws.map (shiftW k))) := own2
    obtain ⟨g2, cap2, rfl⟩ := own_form own2' hnp
    clear own2 c2 c2' own1 h5 Hd Hz Hln Hws b1 p3 p4 p5
    have Own1 := Lib.hid own1'
    have Own2 := Lib.hid own2'
    clear own1' own2'
    go_wp2_with fail
    go_loopw [13] (fun iv wr => ∃ j : Nat, iv = .int .i64 j ∧ j ≤ ws.length ∧ Below w2.heap.size w2 wr) (fun iv _ => ws.length - (intOf iv).toNat)
    case atStart => exact ⟨0, rfl, Nat.zero_le _, Below.refl _ _⟩
    case round =>
      obtain ⟨j, rfl, hj, hbw⟩ := hrel
      by_cases hjn : j < ws.length
      · obtain ⟨h3, h4, h5⟩ := word_cells (own_below Own1.out hbw) j hjn
        obtain ⟨k3, k4, k5⟩ := word_cells (ws := ws.map (shiftW k)) (own_below Own2.out hbw) j (by rw [List.length_map]; exact hjn)
        rw [Nat.mul_comm 3 j] at h3 h4 h5 k3 k4 k5
        rw [List.getElem_map] at k3 k4 k5
        simp only [shiftW] at k3 k4 k5
        have hpl := Hall.out _ (List.getElem_mem hjn)
        generalize ws[j].1 = kk at h3 k3
        generalize ws[j].2.1 = x at h4 k4
        generalize ws[j].2.2 = p at h5 k5 hpl
        by_cases hkp : k ≤ p
        · rw [if_pos hkp] at k5
          go_wp2
          go_quiet (fail)
          go_wp2
          refine ⟨⟨j + 1, rfl, by omega, bl_below hbw _⟩, by simp [intOf]; omega⟩
        · rw [if_neg hkp] at k5
          go_wp2
          go_quiet (fail)
          go_wp2
          refine ⟨⟨j + 1, rfl, by omega, bl_below hbw _⟩, by simp [intOf]; omega⟩
      · go_wp2_with fail
        refine (told2_any _ (Utf8Tabs_below hT (b2.trans (hbw.mono b2.size)))).mono ?_
        rintro e w4 ⟨rfl, b4⟩
        go_wp2
        go_ret
        exact ⟨rfl, (b2.trans (hbw.mono b2.size)).trans (b4.mono (b2.trans (hbw.mono b2.size)).size)⟩)
end Go.Proofs.YtohmlhbmjamecaaDoor
