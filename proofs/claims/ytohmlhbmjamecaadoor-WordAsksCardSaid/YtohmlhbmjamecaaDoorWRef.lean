/- The references' words (changelingref1: letter, text), over this seat's translation. -/
import Derived.Test.YtohmlhbmjamecaaDoorRefP
import Derived.Test.YtohmlhbmjamecaaDoorRefQ
import Derived.Test.YtohmlhbmjamecaaDoorPureP
import Derived.WalkSpells
namespace Go.Proofs.YtohmlhbmjamecaaDoor
open Go.RowKit P

theorem rletter_any (c : UInt8) (w : World) : Calls Tryd.prog 61 #[.int .u8 (c.toNat : Int)] w fun e w' => e = .returned (.bool (letterB c)) ∧ w' = w := by
  have h256 : c.toNat < 256 := c.toNat_lt
  have Hl := Lib.hid (show letterB c = (smallR (c.toNat : Int) || bigR (c.toNat : Int) || digitR (c.toNat : Int)) from rfl)
  cases h1 : smallR (c.toNat : Int)
  all_goals
    cases h2 : bigR (c.toNat : Int)
    all_goals
      cases h3 : digitR (c.toNat : Int)
      all_goals
        rw [h1, h2, h3] at Hl
        go_enter Tryd.func61, Tryd.ntmps61
        go_wp2_with (first
          | (go_at_call 18; refine (rsmall_any _ _).mono ?_; rintro e w' ⟨rfl, rfl⟩)
          | (go_at_call 20; refine (rbig_any _ _).mono ?_; rintro e w' ⟨rfl, rfl⟩)
          | (go_at_call 22; refine (rdigit_any _ _).mono ?_; rintro e w' ⟨rfl, rfl⟩))
        go_ret
        exact ⟨by rw [Hl.out]; rfl, rfl⟩

theorem drop_at (s : ByteArray) (k : Nat) (h : k < s.size) : s.data.toList.drop k = (s[k]'h) :: s.data.toList.drop (k + 1) := by
  have : k < s.data.toList.length := by rw [size_list]; exact h
  rw [List.drop_eq_getElem_cons this]
  rfl
theorem byte_ne (c : UInt8) (n : Nat) (hn : n < 256) (h : c ≠ n.toUInt8) : ((c.toNat : Int) == (n : Int)) = false := by
  rw [beq_eq_false_iff_ne]
  intro e
  apply h
  apply UInt8.toNat_inj.1
  have : c.toNat = n := by omega
  rw [this]
  simp [Nat.toUInt8]
  omega
theorem byte_bne (c : UInt8) (n : Nat) (hn : n < 256) (h : c ≠ n.toUInt8) : ((c.toNat : Int) != (n : Int)) = true := by
  rw [bne, byte_ne c n hn h]
  rfl
/-- How long the literal at a place is: 0: it is none. -/
def litN (l : List UInt8) : Nat := match litO l with
  | none => 0
  | some (_, n) => n
theorem lit_cut (s : ByteArray) (a k : Nat) (hak : a < k) : ((s.data.toList.drop a).take (k + 1 - a - 1)).drop 1 = (s.extract (a + 1) k).data.toList := by
  rw [Lib.extract_data, List.drop_take, List.drop_drop, show k + 1 - a - 1 - 1 = k - (a + 1) from by omega]

set_option maxHeartbeats 8000000 in
set_option maxRecDepth 100000 in
theorem rtext_any (s : ByteArray) (pos : Nat) (w : World) (hs : s.size ≤ 1000000000000) (hp : pos < s.size) :
    Calls Tryd.prog 62 #[.string s, .int .i64 pos] w fun e w' => e = .returned (.int .i64 (litN (s.data.toList.drop pos))) ∧ Below w.heap.size w w' := by
  have hsl := size_list s
  have htl : (s.data.toList.drop pos).tail = s.data.toList.drop (pos + 1) := by rw [List.tail_drop]
  have Hnone := Lib.hid (show scan false 1 (s.data.toList.drop (pos + 1)) = none → litN (s.data.toList.drop pos) = 0 from fun h => by
    unfold litN litO
    rw [htl, h])
  have Hsome := Lib.hid (show ∀ k, pos < k → scan false 1 (s.data.toList.drop (pos + 1)) = some (k + 1 - pos) → litN (s.data.toList.drop pos) = if (plainO (s.extract (pos + 1) k).data.toList).isSome then k + 1 - pos else 0 from fun k h1 h => by
    unfold litN litO
    rw [htl, h]
    dsimp only
    rw [lit_cut s pos k h1]
    cases plainO (s.extract (pos + 1) k).data.toList <;> rfl)
  clear htl
  go_enter Tryd.func62, Tryd.ntmps62
  go_wp2
  go_loop [5] (fun v => ∃ k : Nat, v = .int .i64 k ∧ pos + 1 ≤ k ∧ k ≤ s.size ∧ scan false (k - pos) (s.data.toList.drop k) = scan false 1 (s.data.toList.drop (pos + 1))) (fun v => s.size - (intOf v).toNat)
  case atStart => exact ⟨pos + 1, by go_num, Nat.le_refl _, by omega, by rw [show pos + 1 - pos = 1 from by omega]⟩
  case round =>
    obtain ⟨k, rfl, hk1, hk2, hsc⟩ := hrel
    have Hsc := Lib.hid hsc
    clear hsc
    by_cases hks : k < s.size
    · have hd := drop_at s k hks
      rw [hd] at Hsc
      generalize hc : s[k]'hks = c at Hsc
      clear hd
      by_cases c34 : c = 34
      · subst c34
        have q1 : (((s[k]'hks).toNat : Int) != 34) = false := by rw [hc]; rfl
        have q2 : (((s[k]'hks).toNat : Int) != 10) = true := by rw [hc]; rfl
        have Hs := Lib.hid (Hsome.out k (by omega) (by rw [← Hsc.out, scan, if_neg (by decide), if_neg (by simp), if_neg (by decide), if_pos rfl]; congr 1; omega))
        clear hc
        go_wp2_with fail
        refine (rplain_any _ _ (by simp; omega)).mono ?_
        rintro e w1 ⟨rfl, b1⟩
        cases hpl : plainO (s.extract (pos + 1) k).data.toList with
        | none =>
          rw [hpl] at Hs
          simp only [plainRet]
          clear hpl
          go_wp2
          go_ret
          exact ⟨by rw [Hs.out]; rfl, b1⟩
        | some t =>
          rw [hpl] at Hs
          simp only [plainRet]
          clear hpl
          go_wp2
          go_ret
          exact ⟨by rw [Hs.out]; simp; omega, b1⟩
      · have q1 : (((s[k]'hks).toNat : Int) != 34) = true := by rw [hc]; exact byte_bne c 34 (by decide) c34
        by_cases c10 : c = 10
        · subst c10
          have q2 : (((s[k]'hks).toNat : Int) != 10) = false := by rw [hc]; rfl
          have Hn := Lib.hid (Hnone.out (by rw [← Hsc.out, scan, if_pos rfl]))
          clear hc c34
          go_wp2
          go_ret
          exact ⟨by rw [Hn.out]; rfl, Below.refl _ _⟩
        · have q2 : (((s[k]'hks).toNat : Int) != 10) = true := by rw [hc]; exact byte_bne c 10 (by decide) c10
          by_cases c92 : c = 92
          · subst c92
            have q3 : (((s[k]'hks).toNat : Int) == 92) = true := by rw [hc]; rfl
            have Hsc2 := Lib.hid (show scan true (k - pos + 1) (s.data.toList.drop (k + 1)) = scan false 1 (s.data.toList.drop (pos + 1)) by
              rw [← Hsc.out, scan, if_neg (by decide), if_neg (by simp), if_pos rfl])
            clear hc c10 c34 Hsc
            by_cases hk3 : k + 1 < s.size
            · have hd2 := drop_at s (k + 1) hk3
              rw [hd2] at Hsc2
              generalize hc2 : s[k + 1]'hk3 = d at Hsc2
              clear hd2
              by_cases d10 : d = 10
              · subst d10
                have q4 : (((s[k + 1]'hk3).toNat : Int) == 10) = true := by rw [hc2]; rfl
                have Hn := Lib.hid (Hnone.out (by rw [← Hsc2.out, scan, if_pos rfl]))
                clear hc2
                go_wp2
                go_ret
                exact ⟨by rw [Hn.out]; rfl, Below.refl _ _⟩
              · have q4 : (((s[k + 1]'hk3).toNat : Int) == 10) = false := by rw [hc2]; exact byte_ne d 10 (by decide) d10
                have Hsc3 := Lib.hid (show scan false (k + 1 + 1 - pos) (s.data.toList.drop (k + 1 + 1)) = scan false 1 (s.data.toList.drop (pos + 1)) by
                  rw [← Hsc2.out, scan, if_neg d10, if_pos rfl]
                  congr 1
                  omega)
                clear hc2 d10 Hsc2
                go_wp2
                go_round
                case rel => exact ⟨k + 1 + 1, by go_num, by omega, by omega, Hsc3.out⟩
                case measure => simp [intOf]; omega
            · have Hn := Lib.hid (Hnone.out (by
                rw [← Hsc2.out, List.drop_eq_nil_of_le (by omega)]
                rfl))
              clear Hsc2
              go_wp2
              go_ret
              exact ⟨by rw [Hn.out]; rfl, Below.refl _ _⟩
          · have q3 : (((s[k]'hks).toNat : Int) == 92) = false := by rw [hc]; exact byte_ne c 92 (by decide) c92
            have Hsc2 := Lib.hid (show scan false (k + 1 - pos) (s.data.toList.drop (k + 1)) = scan false 1 (s.data.toList.drop (pos + 1)) by
              rw [← Hsc.out, scan, if_neg c10, if_neg (by simp), if_neg c92, if_neg c34]
              congr 1
              omega)
            clear hc c10 c34 c92 Hsc
            go_wp2
            go_round
            case rel => exact ⟨k + 1, by go_num, by omega, by omega, Hsc2.out⟩
            case measure => simp [intOf]; omega
    · have Hn := Lib.hid (Hnone.out (by
        rw [← Hsc.out, List.drop_eq_nil_of_le (by omega)]
        rfl))
      clear Hsc
      go_wp2
      go_ret
      exact ⟨by rw [Hn.out]; rfl, Below.refl _ _⟩
end Go.Proofs.YtohmlhbmjamecaaDoor
