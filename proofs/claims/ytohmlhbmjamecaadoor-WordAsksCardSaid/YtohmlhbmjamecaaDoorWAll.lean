/- word.All: a text's words, over this seat's translation. -/
import Derived.Test.YtohmlhbmjamecaaDoorWOne
import Derived.WalkLawsBesides
namespace Go.Proofs.YtohmlhbmjamecaaDoor
open Go.RowKit P

theorem not_blank_unblank (a : UInt8) (t : List UInt8) (h : blankB a = false) : unblank (a :: t) = if [47, 47].isPrefixOf (a :: t) then (a :: t).drop ((a :: t).takeWhile noLine).length else a :: t := by
  have e : (a :: t).dropWhile blankB = a :: t := by rw [List.dropWhile_cons, h]; rfl
  unfold unblank
  rw [e]
theorem blank_unblank (a : UInt8) (t : List UInt8) (h : blankB a = true) : unblank (a :: t) = unblank t := by
  unfold unblank
  rw [List.dropWhile_cons, if_pos h]
theorem gap_note (a : UInt8) (t : List UInt8) (h : blankB a = false) (h2 : [47, 47].isPrefixOf (a :: t) = true) : gapN (a :: t) = ((a :: t).takeWhile noLine).length ∧ 0 < gapN (a :: t) := by
  have e : gapN (a :: t) = ((a :: t).takeWhile noLine).length := by
    unfold gapN
    rw [List.headD_cons, h, if_neg (by simp), if_pos h2]
  refine ⟨e, ?_⟩
  rw [e]
  apply takeWhile_pos _ _ (by simp)
  rw [List.isPrefixOf_iff_prefix] at h2
  obtain ⟨u, hu⟩ := h2
  have : a = 47 := by
    simp only [List.cons_append] at hu
    exact (List.cons.inj hu).1.symm
  rw [List.headD_cons, this]
  decide
theorem blank_zero (l : List UInt8) (h0 : l ≠ []) (h : blankN l = 0) : gapN l = 0 := by
  cases l with
  | nil => exact absurd rfl h0
  | cons a t =>
    unfold blankN at h
    have hs := (unblank_suffix (a :: t)).length_le
    cases hb : blankB a with
    | true =>
      rw [blank_unblank a t hb] at h
      have := (unblank_suffix t).length_le
      simp only [List.length_cons] at h
      omega
    | false =>
      cases h2 : [47, 47].isPrefixOf (a :: t) with
      | true =>
        have hg := gap_note a t hb h2
        have hle := takeWhile_len noLine (a :: t)
        rw [not_blank_unblank a t hb, h2, if_pos rfl, List.length_drop] at h
        omega
      | false =>
        unfold gapN
        rw [List.headD_cons, hb, h2]
        rfl
theorem blank_step : ∀ (l : List UInt8) (at_ : Nat) (acc : List W3), wordsL l at_ acc = wordsL (l.drop (blankN l)) (at_ + blankN l) acc
  | [], at_, acc => by simp [blankN, unblank]
  | a :: t, at_, acc => by
    cases hb : blankB a with
    | true =>
      have hg : gapN (a :: t) = 1 := by unfold gapN; rw [List.headD_cons, hb]; rfl
      have hn : blankN (a :: t) = blankN t + 1 := by
        unfold blankN
        rw [blank_unblank a t hb]
        have := (unblank_suffix t).length_le
        simp only [List.length_cons]
        omega
      rw [wordsL_gap _ (by simp) _ _ (by rw [hg]; omega), hg, List.drop_one, List.tail_cons, blank_step t (at_ + 1) acc, hn, List.drop_succ_cons]
      congr 1
      omega
    | false =>
      cases h2 : [47, 47].isPrefixOf (a :: t) with
      | true =>
        have hg := gap_note a t hb h2
        have hn : blankN (a :: t) = gapN (a :: t) := by
          unfold blankN
          rw [not_blank_unblank a t hb, h2, if_pos rfl, List.length_drop, hg.1]
          have := takeWhile_len noLine (a :: t)
          omega
        rw [hn, wordsL_gap _ (by simp) _ _ (by omega)]
      | false =>
        have hn : blankN (a :: t) = 0 := by
          unfold blankN
          rw [not_blank_unblank a t hb, h2]
          simp
        rw [hn]
        simp

/-! ### words in memory -/
def wcells (ws : List W3) : List Value := ws.flatMap fun x => [.int .i64 x.1, .string ⟨x.2.1.toArray⟩, .int .i64 x.2.2]
theorem wcells_append (a b : List W3) : wcells (a ++ b) = wcells a ++ wcells b := by simp [wcells]
theorem wcells_length (ws : List W3) : (wcells ws).length = 3 * ws.length := by
  induction ws with
  | nil => rfl
  | cons x ws ih =>
    have : wcells (x :: ws) = [.int .i64 x.1, .string ⟨x.2.1.toArray⟩, .int .i64 x.2.2] ++ wcells ws := rfl
    rw [this, List.length_append, ih]
    simp only [List.length_cons, List.length_nil]
    omega
theorem own_below {w w1 : World} {base : Nat} {e : TypeId} {size n : Nat} {v : Value} {xs : List Value} (h : w.ownsRow base e size v n xs) (hb : Below w.heap.size w w1) : w1.ownsRow base e size v n xs :=
  h.kept (row := none) ⟨hb.os, hb.tape, hb.output, hb.size, fun i hi _ => hb.block i hi⟩ (by cases v.ownBlock <;> simp)

/-- What All answers. -/
def AllRes (B : Nat) (l : List UInt8) (w : World) (e : Ending) (w' : World) : Prop :=
  Below B w w' ∧ ∃ v c p, e = .returned (.tuple #[v, .int .i64 c, .int .i64 p]) ∧
    (if 8000 < l.length then v = .slice none 0 0 ∧ c = 5 ∧ p = 0
     else match wordsB l with
      | .ok ws => c = 0 ∧ p = 0 ∧ w'.ownsRow B 38 3 v ws.length (wcells ws) ∧ ws.length ≤ l.length
      | .err q => v = .slice none 0 0 ∧ c = 2 ∧ p = (q : Int))

set_option maxHeartbeats 8000000 in
set_option maxRecDepth 100000 in
theorem all_any (s : ByteArray) (w : World) (hs : s.size ≤ 9223372036854775807) (hT : Lib.Utf8Tabs 0 1 w) :
    Calls Tryd.prog 32 #[.string s] w (AllRes w.heap.size s.data.toList w) := by
  by_cases hbig : 8000 < s.size
  · have Hbig := Lib.hid (show 8000 < s.data.toList.length by rw [size_list]; exact hbig)
    go_enter Tryd.func32, Tryd.ntmps32
    go_wp2
    go_ret3
    exact ⟨Below.refl _ _, _, _, _, rfl, by rw [if_pos Hbig.out]; exact ⟨rfl, rfl, rfl⟩⟩
  have Hsmall := Lib.hid (show ¬ 8000 < s.data.toList.length by rw [size_list]; exact hbig)
  have hs2 : s.size ≤ 1000000000000 := by omega
  obtain ⟨i0, hi, hz0, hz1, hz2⟩ := info_parts (show (Tryd.prog.info? 38).map (fun i => (i.zero, i.size, i.bytes)) = some (some (.agg #[.int .i64 0, .string ⟨#[]⟩, .int .i64 0]), 3, 32) by kernel_rfl)
  generalize hkb : bad s.data.toList = kb
  have Hkb := Lib.hid hkb
  have hkb1 : -1 ≤ kb := by
    rw [← hkb]
    rcases badGo_ge (chunks s.data.toList) 0 with h | h
    · have : bad s.data.toList = -1 := h
      omega
    · have : (0 : Int) ≤ bad s.data.toList := h
      omega
  clear hkb
  go_enter Tryd.func32, Tryd.ntmps32
  go_wp2_with fail
  refine (bad_any s _ hT).mono ?_
  rintro e w1 ⟨rfl, b1⟩
  rw [Hkb.out]
  have z1 := b1.size
  go_wp2_with fail
  go_loopw [6, 7] (fun v a wr => ∃ (at_ : Nat) (acc : List W3), a = .int .i64 at_ ∧ wr.ownsRow w.heap.size 38 3 v acc.length (wcells acc) ∧ Below w.heap.size w wr ∧ at_ ≤ s.size ∧ wordsL (s.data.toList.drop at_) at_ acc = wordsL s.data.toList 0 [] ∧ acc.length ≤ at_) (fun _ a _ => s.size - (intOf a).toNat)
  case atStart => exact ⟨0, [], rfl, ⟨by simp [wcells], .inl ⟨rfl, rfl⟩⟩, b1, Nat.zero_le _, rfl, Nat.le_refl _⟩
  case round =>
    obtain ⟨at_, acc, rfl, hown, hbw, hat, hgo, hal⟩ := hrel
    have Hgo := Lib.hid hgo
    have hz := hbw.size
    clear hgo
    have Hx := Lib.hid (Lib.extract_to_end s at_)
    go_wp2_with fail
    refine (blank_any (s.extract at_ s.size) _ (by simp; omega)).mono ?_
    rintro e w2 ⟨rfl, c2⟩
    rw [Hx.out]
    have hown2 := own_below hown c2
    have B2 := hbw.trans (c2.mono hz)
    have Z2 := B2.size
    have hbl := blankN_le (s.data.toList.drop at_)
    rw [List.length_drop, size_list] at hbl
    clear c2 hown hbw hz
    go_wp2_with fail
    go_loopw [7, 8] (fun a n wo => ∃ at2 : Nat, a = .int .i64 at2 ∧ n = .int .i64 (blankN (s.data.toList.drop at2) : Nat) ∧ wo.ownsRow w.heap.size 38 3 u6 acc.length (wcells acc) ∧ Below w.heap.size w wo ∧ at_ ≤ at2 ∧ at2 ≤ s.size ∧ wordsL (s.data.toList.drop at2) at2 acc = wordsL s.data.toList 0 []) (fun a _ _ => s.size - (intOf a).toNat)
    case atStart => exact ⟨at_, rfl, rfl, hown2, B2, Nat.le_refl _, hat, Hgo.out⟩
    case round =>
      clear hown2 B2 Z2 hbl
      obtain ⟨at2, rfl, rfl, hown2, B2, hle2, hat2, hgo2⟩ := hrel
      have Hgo2 := Lib.hid hgo2
      have Z2 := B2.size
      have hbl := blankN_le (s.data.toList.drop at2)
      rw [List.length_drop, size_list] at hbl
      have Hst := Lib.hid (blank_step (s.data.toList.drop at2) at2 acc)
      generalize hn : blankN (s.data.toList.drop at2) = n at hbl Hst
      have Hn := Lib.hid hn
      clear hgo2 Hgo hn
      by_cases hpos : 0 < n
      · have hn0 : (0 : Int) < (n : Int) := by omega
        have Hx2 := Lib.hid (Lib.extract_to_end s (at2 + n))
        go_wp2_with fail
        refine (blank_any (s.extract (at2 + n) s.size) _ (by simp; omega)).mono ?_
        rintro e w3 ⟨rfl, c3⟩
        rw [Hx2.out]
        go_wp2
        go_roundw
        case rel =>
          refine ⟨at2 + n, by go_num, rfl, own_below hown2 c3, B2.trans (c3.mono Z2), by omega, by omega, ?_⟩
          rw [← Hgo2.out, Hst.out, List.drop_drop]
        case measure => simp [intOf]; omega
      · have hn0 : n = 0 := by omega
        subst hn0
        by_cases hend : at2 < s.size
        · have qe : ((at2 : Int) == (s.size : Int)) = false := by rw [beq_eq_false_iff_ne]; omega
          have Hx2 := Lib.hid (Lib.extract_to_end s at2)
          have hne : s.data.toList.drop at2 ≠ [] := by
            intro e
            have := congrArg List.length e
            rw [List.length_drop, size_list] at this
            simp at this
            omega
          have Hgap := Lib.hid (blank_zero _ hne Hn.out)
          have Hne := Lib.hid hne
          clear hne
          go_wp2_with fail
          refine (one_word (s.extract at2 s.size) _ (by simp; omega) (by simp; omega) (Utf8Tabs_below hT B2)).mono ?_
          rintro e w3 ⟨rfl, c3⟩
          rw [Hx2.out]
          have B3 := B2.trans (c3.mono Z2)
          have Z3 := B3.size
          have hown3 := own_below hown2 c3
          clear c3 hown2
          rcases hw : wordO (s.data.toList.drop at2) with _ | ⟨k, x, n⟩
          · have Hr := Lib.hid (show wordsL s.data.toList 0 [] = .err at2 by rw [← Hgo2.out]; exact wordsL_none _ Hne.out _ _ Hgap.out hw)
            clear hw
            simp only [oneRet]
            by_cases hk : 0 ≤ kb
            · have Hres := Lib.hid (show wordsB s.data.toList = .err (min at2 kb.toNat) by
                unfold wordsB finish
                rw [Hkb.out, if_neg (by omega), Hr.out])
              go_wp2
              go_ret3
              refine ⟨B3, _, _, _, rfl, ?_⟩
              rw [if_neg Hsmall.out, Hres.out]
              exact ⟨rfl, rfl, by omega⟩
            · have Hres := Lib.hid (show wordsB s.data.toList = .err at2 by
                unfold wordsB finish
                rw [Hkb.out, if_pos (by omega), Hr.out])
              go_wp2
              go_ret3
              refine ⟨B3, _, _, _, rfl, ?_⟩
              rw [if_neg Hsmall.out, Hres.out]
              exact ⟨rfl, rfl, rfl⟩
          · have hnp := wordO_ge _ Hne.out k x n hw
            rw [List.length_drop, size_list] at hnp
            have Hr := Lib.hid (show wordsL (s.data.toList.drop (at2 + n)) (at2 + n) (acc ++ [(k, x, at2)]) = wordsL s.data.toList 0 [] by
              rw [← Hgo2.out, wordsL_word _ Hne.out _ _ Hgap.out k x n hw, List.drop_drop])
            have qn : ((n : Int) == 0) = false := by rw [beq_eq_false_iff_ne]; omega
            have hnle := hnp.2
            have hnlt := hnp.1
            clear hw hnp
            simp only [oneRet]
            go_wp2_with (at_builtin; refine wpList_append_own _ rfl _ _ 30 rfl w.heap.size 38 i0 (.agg #[.int .i64 0, .string ⟨#[]⟩, .int .i64 0]) 3 32 Tryd.underlying30 hi hz0 hz1 hz2 rfl (by decide) _ _ _ rfl (hown3.alloc _) ⟨w3.heap.size, 0, none⟩ 1 1 [.int .i64 k, .string ⟨x.toArray⟩, .int .i64 at2] rfl rfl ?c1 ?c2 ?c3 ?c4 ?c5 ?_)
            case c1 =>
              intro j u hj
              match j, hj with
              | 0, hj => simp at hj; subst hj; simp [Addr.add]
              | 1, hj => simp at hj; subst hj; simp [Addr.add]
              | 2, hj => simp at hj; subst hj; simp [Addr.add]
            case c2 => intro u hu; simp at hu; rcases hu with rfl | rfl | rfl <;> rfl
            case c3 => unfold maxLen; omega
            case c4 => omega
            case c5 => simp; omega
            intro v' w4 hown' hgrow _
            have B4 := (B3.alloc Z3 (.cells #[.int .i64 k, .string ⟨x.toArray⟩, .int .i64 at2] 38)).grown hgrow (by simp; omega) (fun g hg => (hown3.lt g hg).1)
            go_wp2
            go_roundw
            case rel =>
              refine ⟨at2 + n, acc ++ [(k, x, at2)], by go_num, ?_, B4, by omega, Hr.out, by simp; omega⟩
              rw [wcells_append, List.length_append]
              exact hown'
            case measure => simp [intOf]; omega
        · have qe : ((at2 : Int) == (s.size : Int)) = true := by rw [beq_iff_eq]; omega
          have hae : at2 = s.size := by omega
          have Hr := Lib.hid (show wordsL s.data.toList 0 [] = .ok acc by
            rw [← Hgo2.out]
            have : s.data.toList.drop at2 = [] := List.drop_eq_nil_of_le (by rw [size_list]; omega)
            rw [this]; rfl)
          clear hae
          by_cases hk : 0 ≤ kb
          · have Hres := Lib.hid (show wordsB s.data.toList = .err kb.toNat by
              unfold wordsB finish
              rw [Hkb.out, if_neg (by omega), Hr.out])
            go_wp2
            go_ret3
            refine ⟨B2, _, _, _, rfl, ?_⟩
            rw [if_neg Hsmall.out, Hres.out]
            exact ⟨rfl, rfl, by omega⟩
          · have Hres := Lib.hid (show wordsB s.data.toList = .ok acc by
              unfold wordsB finish
              rw [Hkb.out, if_pos (by omega), Hr.out])
            go_wp2
            go_ret3
            refine ⟨B2, _, _, _, rfl, ?_⟩
            rw [if_neg Hsmall.out, Hres.out]
            exact ⟨rfl, rfl, hown2, by rw [size_list]; omega⟩
end Go.Proofs.YtohmlhbmjamecaaDoor
