/- changelingref1.one, changelingref1.Words, over this seat's translation. -/
import Derived.Test.YtohmlhbmjamecaaDoorWRefL
import Derived.Test.YtohmlhbmjamecaaDoorWRefS
import Derived.Test.YtohmlhbmjamecaaDoorWRefT
import Derived.Test.YtohmlhbmjamecaaDoorWAll
namespace Go.Proofs.YtohmlhbmjamecaaDoor
open Go.RowKit P

theorem rone_any (s : ByteArray) (pos : Nat) (w : World) (hs : s.size ≤ 1000000000000) (hp : pos < s.size) :
    Calls Tryd.prog 48 #[.string s, .int .i64 pos] w fun e w' => e = .returned (roneV (s.data.toList.drop pos) pos) ∧ Below w.heap.size w w' := by
  cases hb : blankB (s[pos]'hp)
  case true =>
    unfold blankB at hb
    simp at hb
    refine rone_blank s pos w hp ?_
    rcases hb with ((h | h) | h) | h
    · exact .inl h
    · exact .inr (.inl h)
    · exact .inr (.inr (.inl h))
    · exact .inr (.inr (.inr h))
  case false =>
    by_cases hn : noNote s pos
    · cases hd : digitB (s[pos]'hp)
      case true => exact rone_digit s pos w hs hp hd
      case false =>
        cases hl : letterB (s[pos]'hp)
        case true => exact rone_letter s pos w hs hp hd hl
        case false =>
          by_cases hq : s[pos]'hp = 34
          · exact rone_quote s pos w hs hp hq
          · exact rone_sign s pos w hs hp hb hn hd hl hq
    · unfold noNote at hn
      simp only [Classical.not_forall, Classical.not_not] at hn
      obtain ⟨h1, h2, h3, h4⟩ := hn
      exact rone_note s pos w hs hp h3 h2 h4

/-- What Words answers. -/
def RefRes (B : Nat) (l : List UInt8) (w : World) (e : Ending) (w' : World) : Prop :=
  Below B w w' ∧ ∃ v c p, e = .returned (.tuple #[v, .int .i64 c, .int .i64 p]) ∧
    (if 8000 < l.length then v = .slice none 0 0 ∧ c = 5 ∧ p = 0
     else match wordsB l with
      | .ok ws => c = 0 ∧ p = 0 ∧ w'.ownsRow B 64 3 v ws.length (wcells ws) ∧ ws.length ≤ l.length
      | .err q => v = .slice none 0 0 ∧ c = 2 ∧ p = (q : Int))

set_option maxHeartbeats 8000000 in
set_option maxRecDepth 100000 in
theorem rwords_any (s : ByteArray) (w : World) (hs : s.size ≤ 9223372036854775807) :
    Calls Tryd.prog 33 #[.string s] w (RefRes w.heap.size s.data.toList w) := by
  by_cases hbig : 8000 < s.size
  · have Hbig := Lib.hid (show 8000 < s.data.toList.length by rw [size_list]; exact hbig)
    go_enter Tryd.func33, Tryd.ntmps33
    go_wp2
    go_ret3
    exact ⟨Below.refl _ _, _, _, _, rfl, by rw [if_pos Hbig.out]; exact ⟨rfl, rfl, rfl⟩⟩
  have Hsmall := Lib.hid (show ¬ 8000 < s.data.toList.length by rw [size_list]; exact hbig)
  have hs2 : s.size ≤ 1000000000000 := by omega
  obtain ⟨i0, hi, hz0, hz1, hz2⟩ := info_parts (show (Tryd.prog.info? 64).map (fun i => (i.zero, i.size, i.bytes)) = some (some (.agg #[.int .i64 0, .string ⟨#[]⟩, .int .i64 0]), 3, 32) by kernel_rfl)
  have hbl := bad_lt s.data.toList
  rw [size_list] at hbl
  generalize hkb : bad s.data.toList = kb at hbl
  have Hkb := Lib.hid hkb
  clear hkb
  go_enter Tryd.func33, Tryd.ntmps33
  go_wp2_with fail
  refine (rbad_any s _ hs2).mono ?_
  rintro e w1 ⟨rfl, b1⟩
  rw [Hkb.out]
  have z1 := b1.size
  go_wp2_with fail
  go_loopw [6, 7] (fun v a wr => ∃ (at_ : Nat) (acc : List W3), a = .int .i64 at_ ∧ wr.ownsRow w.heap.size 64 3 v acc.length (wcells acc) ∧ Below w.heap.size w wr ∧ at_ ≤ s.size ∧ (kb = -1 ∨ (at_ : Int) ≤ kb) ∧ wordsL (s.data.toList.drop at_) at_ acc = wordsL s.data.toList 0 [] ∧ acc.length ≤ at_) (fun _ a _ => s.size - (intOf a).toNat)
  case atStart => exact ⟨0, [], rfl, ⟨by simp [wcells], .inl ⟨rfl, rfl⟩⟩, b1, Nat.zero_le _, by omega, rfl, Nat.le_refl _⟩
  case round =>
    obtain ⟨at_, acc, rfl, hown, hbw, hat, hkat, hgo, hal⟩ := hrel
    have Hgo := Lib.hid hgo
    have hz := hbw.size
    clear hgo b1 z1
    have Hbad := Lib.hid (show ∀ (a2 : Nat) (acc2 : List W3), 0 ≤ kb → kb ≤ (a2 : Int) → wordsL (s.data.toList.drop a2) a2 acc2 = wordsL s.data.toList 0 [] → wordsB s.data.toList = .err kb.toNat from fun a2 acc2 h0 h1 h2 => by
      unfold wordsB
      rw [Hkb.out, ← h2]
      have := finish_bad (s.data.toList.drop a2) a2 acc2 kb.toNat (by omega)
      rw [show ((kb.toNat : Nat) : Int) = kb from by omega] at this
      exact this)
    by_cases hlt : at_ < s.size
    · by_cases hk : (at_ : Int) = kb
      · have qk : ((at_ : Int) == kb) = true := by rw [beq_iff_eq]; exact hk
        have Hres := Lib.hid (Hbad.out at_ acc (by omega) (by omega) Hgo.out)
        have ek : ((kb.toNat : Nat) : Int) = kb := by omega
        clear hk
        go_wp2
        go_ret3
        refine ⟨hbw, _, _, _, rfl, ?_⟩
        rw [if_neg Hsmall.out, Hres.out]
        exact ⟨rfl, rfl, ek.symm⟩
      · have qk : ((at_ : Int) == kb) = false := by rw [beq_eq_false_iff_ne]; exact hk
        have hne : s.data.toList.drop at_ ≠ [] := by
          intro e
          have := congrArg List.length e
          rw [List.length_drop, size_list] at this
          simp at this
          omega
        have Hne := Lib.hid hne
        clear hne
        go_wp2_with fail
        refine (rone_any s at_ _ hs2 hlt).mono ?_
        rintro e w2 ⟨rfl, c2⟩
        have B2 := hbw.trans (c2.mono hz)
        have Z2 := B2.size
        have hown2 := own_below hown c2
        clear c2 hown hbw hz
        by_cases hg : gapN (s.data.toList.drop at_) = 0
        · rcases hw : wordO (s.data.toList.drop at_) with _ | ⟨k, x, n⟩
          · have Hv := Lib.hid (roneV_none (s.data.toList.drop at_) at_ hg hw)
            have Hr := Lib.hid (show wordsL s.data.toList 0 [] = .err at_ by rw [← Hgo.out]; exact wordsL_none _ Hne.out _ _ hg hw)
            have Hres := Lib.hid (show wordsB s.data.toList = .err at_ by
              unfold wordsB finish
              rw [Hkb.out, Hr.out]
              split
              · rfl
              · simp only [Res.err.injEq]
                omega)
            clear hw hg
            rw [Hv.out]
            unfold zeroW
            go_wp2
            go_ret3
            refine ⟨B2.alloc Z2 _, _, _, _, rfl, ?_⟩
            rw [if_neg Hsmall.out, Hres.out]
            exact ⟨rfl, rfl, rfl⟩
          · have hnp := wordO_ge _ Hne.out k x n hw
            have hkp := (wordO_parts _ Hne.out k x n hw).1
            rw [List.length_drop, size_list] at hnp
            have Hv := Lib.hid (roneV_word (s.data.toList.drop at_) at_ hg k x n hw)
            have Hgo2 := Lib.hid (show wordsL (s.data.toList.drop (at_ + n)) (at_ + n) (acc ++ [(k, x, at_)]) = wordsL s.data.toList 0 [] by
              rw [← Hgo.out, wordsL_word _ Hne.out _ _ hg k x n hw, List.drop_drop])
            have qn : ((n : Int) == 0) = false := by rw [beq_eq_false_iff_ne]; omega
            have hnle := hnp.2
            have hnlt := hnp.1
            have qkk : (0 : Int) < (k : Int) := by omega
            clear hw hg hnp
            rw [Hv.out]
            by_cases hover : 0 ≤ kb ∧ kb < (at_ : Int) + (n : Int)
            · have o1 := hover.1
              have o2 := hover.2
              have Hres := Lib.hid (Hbad.out (at_ + n) _ o1 (by omega) Hgo2.out)
              have ek : ((kb.toNat : Nat) : Int) = kb := by omega
              clear hover
              go_wp2
              go_ret3
              refine ⟨B2.alloc Z2 _, _, _, _, rfl, ?_⟩
              rw [if_neg Hsmall.out, Hres.out]
              exact ⟨rfl, rfl, ek.symm⟩
            · have hov : decide (0 ≤ kb) = false ∨ (decide (0 ≤ kb) = true ∧ decide (kb < (at_ : Int) + (n : Int)) = false) := by
                by_cases h0 : 0 ≤ kb
                · exact .inr ⟨decide_eq_true h0, decide_eq_false (by omega)⟩
                · exact .inl (decide_eq_false h0)
              have hk2 : kb = -1 ∨ ((at_ + n : Nat) : Int) ≤ kb := by omega
              have Hk2 := Lib.hid hk2
              clear hover hk2 hkat hbl
              rcases hov with o1 | ⟨o1, o2⟩
              all_goals
                go_wp2_with (at_builtin; refine wpList_append_own _ rfl _ _ 33 rfl w.heap.size 64 i0 (.agg #[.int .i64 0, .string ⟨#[]⟩, .int .i64 0]) 3 32 Tryd.underlying33 hi hz0 hz1 hz2 rfl (by decide) _ _ _ rfl ((hown2.alloc _).alloc _) ⟨w2.heap.size + 1, 0, none⟩ 1 1 [.int .i64 k, .string ⟨x.toArray⟩, .int .i64 at_] rfl rfl ?c1 ?c2 ?c3 ?c4 ?c5 ?_)
                case c1 =>
                  intro j u hj
                  match j, hj with
                  | 0, hj => simp at hj; subst hj; simp [Addr.add]
                  | 1, hj => simp at hj; subst hj; simp [Addr.add]
                  | 2, hj => simp at hj; subst hj; simp [Addr.add]
                case c2 => intro u hu; simp at hu; rcases hu with rfl | rfl | rfl <;> rfl
                case c3 => unfold maxLen; omega
                case c4 => omega
                case c5 => simp; omega
                intro v' w4 hown' hgrow _
                have B4 := ((B2.alloc Z2 _).alloc (B2.alloc Z2 _).size _).grown hgrow ((B2.alloc Z2 _).alloc (B2.alloc Z2 _).size _).size (fun g hg => (hown2.lt g hg).1)
                go_wp2
                go_roundw
                case rel =>
                  refine ⟨at_ + n, acc ++ [(k, x, at_)], by go_num, ?_, B4, by omega, Hk2.out, Hgo2.out, by simp; omega⟩
                  rw [wcells_append, List.length_append]
                  exact hown'
                case measure => simp [intOf]; omega
        · have hgl := gapN_le _ Hne.out
          rw [List.length_drop, size_list] at hgl
          have Hst := Lib.hid (wordsL_gap _ Hne.out at_ acc hg)
          have Hv := Lib.hid (roneV_gap (s.data.toList.drop at_) at_ _ rfl hg)
          generalize gapN (s.data.toList.drop at_) = n at hg hgl Hst Hv
          rw [Hv.out]
          have qn : ((n : Int) == 0) = false := by rw [beq_eq_false_iff_ne]; omega
          have Hgo2 := Lib.hid (show wordsL (s.data.toList.drop (at_ + n)) (at_ + n) acc = wordsL s.data.toList 0 [] by rw [← Hgo.out, Hst.out, List.drop_drop])
          clear Hst Hv hg
          unfold zeroW
          by_cases hover : 0 ≤ kb ∧ kb < (at_ : Int) + (n : Int)
          · have o1 := hover.1
            have o2 := hover.2
            have Hres := Lib.hid (Hbad.out (at_ + n) _ o1 (by omega) Hgo2.out)
            have ek : ((kb.toNat : Nat) : Int) = kb := by omega
            clear hover
            go_wp2
            go_ret3
            refine ⟨B2.alloc Z2 _, _, _, _, rfl, ?_⟩
            rw [if_neg Hsmall.out, Hres.out]
            exact ⟨rfl, rfl, ek.symm⟩
          · have hov : decide (0 ≤ kb) = false ∨ (decide (0 ≤ kb) = true ∧ decide (kb < (at_ : Int) + (n : Int)) = false) := by
              by_cases h0 : 0 ≤ kb
              · exact .inr ⟨decide_eq_true h0, decide_eq_false (by omega)⟩
              · exact .inl (decide_eq_false h0)
            have hk2 : kb = -1 ∨ ((at_ + n : Nat) : Int) ≤ kb := by omega
            have Hk2 := Lib.hid hk2
            have hn0 : ((n : Int) == 0) = false := qn
            have hn1 : 0 < n := by
              rw [beq_eq_false_iff_ne] at qn
              omega
            clear hover hk2 hkat hbl
            rcases hov with o1 | ⟨o1, o2⟩
            all_goals
              go_wp2
              go_roundw
              case rel => exact ⟨at_ + n, acc, by go_num, hown2.alloc _, B2.alloc Z2 _, by omega, Hk2.out, Hgo2.out, by omega⟩
              case measure => simp [intOf]; omega
    · have hae : at_ = s.size := by omega
      have hkm : kb = -1 := by omega
      have Hres := Lib.hid (show wordsB s.data.toList = .ok acc by
        unfold wordsB finish
        rw [Hkb.out, if_pos (by omega), ← Hgo.out, List.drop_eq_nil_of_le (by rw [size_list]; omega)]
        rfl)
      clear hae
      go_wp2
      go_ret3
      refine ⟨hbw, _, _, _, rfl, ?_⟩
      rw [if_neg Hsmall.out, Hres.out]
      exact ⟨rfl, rfl, hown, by rw [size_list]; omega⟩
end Go.Proofs.YtohmlhbmjamecaaDoor
