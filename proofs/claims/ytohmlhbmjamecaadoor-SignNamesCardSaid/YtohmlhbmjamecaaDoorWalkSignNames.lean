/- changelinglaw1.SignNames answers true, over this seat's translation. -/
import Derived.Test.YtohmlhbmjamecaaDoorTold1
import Derived.Test.YtohmlhbmjamecaaDoorRef
import Derived.WalkSpells
import Derived.Lib.AppendStr
namespace Go.Proofs.YtohmlhbmjamecaaDoor
open Go.RowKit P

/-- What the law reckons rune by rune. -/
def plainN (l : List UInt8) : Bool := decide (1 ≤ l.length) && decide (l.length ≤ 20) && l.all letterB
theorem plainN_step (s : ByteArray) (pos : Nat) (h : pos < s.size) : (s.data.toList.drop pos).all letterB = (letterR ((Utf8.decode s pos).1 : Int) && (s.data.toList.drop (pos + (Utf8.decode s pos).2)).all letterB) := by
  have e := namedGo_false smallR (s.data.toList.drop pos)
  rw [← e, chunks_at s pos h, namedGo, namedGo_false]
  cases letterR ((Utf8.decode s pos).1 : Int) <;> simp
/-- No reserved word begins with a q. -/
theorem kept_q (l : List UInt8) : keptB (113 :: l) = false := by
  unfold keptB
  rw [← Bool.not_eq_true, List.contains_iff_mem]
  unfold keptL
  simp
theorem name_q (l : List UInt8) (h : l.all letterB = true) : nameB (113 :: l) = decide (l.length < 20) := by
  unfold nameB
  rw [kept_q]
  unfold namedB
  have hq : letterB 113 = true := by decide
  have hs : smallR (((113 :: l).headD 0).toNat : Int) = true := by
    show smallR (((113 : UInt8).toNat : Int)) = true
    decide
  rw [List.all_cons, hq, h, hs]
  simp
  omega
theorem names_law (l : List UInt8) (h : plainN l = true) :
    (nameB l = true → smallR ((l.headD 0).toNat : Int) = true) ∧ (classB l = true → bigR ((l.headD 0).toNat : Int) = true) ∧
    ¬ (nameB l = true ∧ classB l = true) ∧ classB l = (bigR ((l.headD 0).toNat : Int) && !(l == stringL)) := by
  have hn : ∀ p : Int → Bool, namedB p l = p ((l.headD 0).toNat : Int) := by
    intro p
    unfold plainN at h
    simp only [Bool.and_eq_true] at h
    unfold namedB
    rw [h.2, h.1.1, h.1.2]
    simp
  unfold nameB classB
  rw [hn, hn]
  refine ⟨fun x => by simp only [Bool.and_eq_true] at x; exact x.1, fun x => by simp only [Bool.and_eq_true] at x; exact x.1, ?_, rfl⟩
  rintro ⟨x, y⟩
  simp only [Bool.and_eq_true] at x y
  have a := (smallR_iff _).1 x.1
  have b := (bigR_iff _).1 y.1
  omega
theorem names_none (l : List UInt8) (h : plainN l = false) : nameB l = false ∧ classB l = false := by
  have hn : ∀ p : Int → Bool, namedB p l = false := by
    intro p
    cases hp : namedB p l with
    | false => rfl
    | true =>
      unfold namedB at hp
      simp only [Bool.and_eq_true] at hp
      unfold plainN at h
      rw [hp.1.1.1, hp.1.1.2, hp.1.2] at h
      cases h
  unfold nameB classB
  rw [hn, hn]
  exact ⟨rfl, rfl⟩

set_option maxHeartbeats 8000000 in
set_option maxRecDepth 100000 in
theorem law_SignNames (s : ByteArray) (hs : s.size ≤ 9223372036854775807) (w : World) (hT : Lib.Utf8Tabs 0 1 w) :
    Calls Tryd.prog 6 #[.string s] w fun e w' => e = .returned (.bool true) ∧ Below w.heap.size w w' := by
  by_cases hbig : 30 < s.size
  · go_enter Tryd.func6, Tryd.ntmps6
    go_wp2_with (go_at_call 14; refine (told1_any _ hT).mono ?_; rintro e w' ⟨rfl, b1⟩)
    go_ret
    exact ⟨rfl, b1⟩
  have Hsl := Lib.hid (size_list s)
  have Hdef := Lib.hid (show plainN s.data.toList = ((decide (1 ≤ (s.size : Int)) && decide ((s.size : Int) ≤ 20)) && s.data.toList.all letterB) by
    unfold plainN
    rw [size_list]
    congr 2
    · rw [decide_eq_decide]; omega
    · rw [decide_eq_decide]; omega)
  go_enter Tryd.func6, Tryd.ntmps6
  go_wp2
  all_goals
    go_loopw [3] (fun v wr => ∃ (pos : Nat) (b : Bool), v = .bool b ∧ wr.heap[w.heap.size]? = some (.stringIter s pos) ∧ Below w.heap.size w wr ∧ pos ≤ s.size ∧ (b && (s.data.toList.drop pos).all letterB) = plainN s.data.toList) (fun _ wr => s.size - wr.iterPos w.heap.size)
    case atStart =>
      refine ⟨0, _, rfl, World.iter_heap w s 0, (Below.refl _ w).alloc (Nat.le_refl _) _, Nat.zero_le _, ?_⟩
      rw [Hdef.out]
      first
        | (rw [show decide (1 ≤ (s.size : Int)) = true by simp; omega]; rfl)
        | (rw [show decide (1 ≤ (s.size : Int)) = false by simp; omega]; rfl)
    case round =>
      obtain ⟨pos, b, rfl, hit, hbw, hps, hpl⟩ := hrel
      have Hpl := Lib.hid hpl
      clear hpl
      have hsz : w.heap.size < wr.heap.size := (Array.getElem?_eq_some_iff.1 hit).1
      by_cases hp : pos < s.size
      · have hnx : ∀ ty, (Instr.next (.pointer (some ⟨w.heap.size, 0, none⟩)) true ty).run Tryd.prog wr = _ := fun ty => Lib.run_next_any_at wr w.heap.size s pos ty hit hp
        have hwd := dec_pos s pos
        have hle := dec_le s pos hp
        have hd1 := decode_le s pos
        have hit2 := Lib.iterAt_heap wr w.heap.size s pos (pos + (Utf8.decode s pos).2) hit
        have hbw2 := Lib.below_iterAt hbw (k := w.heap.size) (Nat.le_refl _) s (pos + (Utf8.decode s pos).2)
        have Hst := Lib.hid (plainN_step s pos hp)
        cases b
        · go_wp2
          go_roundw
          case rel => exact ⟨_, false, rfl, hit2, hbw2, hle, by rw [← Hpl.out]; rfl⟩
          case measure => rw [iterPos_at hit2, iterPos_at hit]; omega
        · cases h1 : smallR ((Utf8.decode s pos).1 : Int)
          all_goals
            cases h2 : bigR ((Utf8.decode s pos).1 : Int)
            all_goals
              cases h3 : digitR ((Utf8.decode s pos).1 : Int)
              all_goals
                have Hl := Lib.hid (show letterR ((Utf8.decode s pos).1 : Int) = (smallR ((Utf8.decode s pos).1 : Int) || bigR ((Utf8.decode s pos).1 : Int) || digitR ((Utf8.decode s pos).1 : Int)) from rfl)
                rw [h1, h2, h3] at Hl
                go_wp2_with (first
                  | (go_at_call 17; refine (small_any _ _).mono ?_; rintro e w' ⟨rfl, rfl⟩)
                  | (go_at_call 19; refine (big_any _ _).mono ?_; rintro e w' ⟨rfl, rfl⟩)
                  | (go_at_call 21; refine (digit_any _ _).mono ?_; rintro e w' ⟨rfl, rfl⟩))
                go_roundw
                case rel => exact ⟨_, _, rfl, hit2, hbw2, hle, by rw [← Hpl.out, Hst.out, Hl.out]; rfl⟩
                case measure => rw [iterPos_at hit2, iterPos_at hit]; omega
      · have hnx : ∀ ty, (Instr.next (.pointer (some ⟨w.heap.size, 0, none⟩)) true ty).run Tryd.prog wr = _ := fun ty => Lib.run_next_end_at wr w.heap.size s pos ty hit hp
        have hz : s.data.toList.drop pos = [] := List.drop_eq_nil_of_le (by rw [Hsl.out]; omega)
        have hT2 := Utf8Tabs_below hT hbw
        have Hb := Lib.hid (show plainN s.data.toList = b by rw [← Hpl.out, hz]; simp)
        clear Hpl hz
        go_wp2_with fail
        refine (name_any s _ hs).mono ?_
        rintro e w2 ⟨rfl, b2⟩
        have b3 := hbw.trans (b2.mono (by omega))
        have z3 : w.heap.size ≤ w2.heap.size := b3.size
        go_wp2_with fail
        refine (class_any s _ hs).mono ?_
        rintro e w3 ⟨rfl, b3'⟩
        have b4 := b3.trans (b3'.mono z3)
        have z4 : w.heap.size ≤ w3.heap.size := b4.size
        have hT4 := Utf8Tabs_below hT b4
        clear b2 b3'
        cases b
        · obtain ⟨e1, e2⟩ := names_none _ Hb.out
          rw [e1, e2]
          clear e1 e2
          go_wp2_with (go_at_call 14; refine (told1_any _ hT4).mono ?_; rintro e w' ⟨rfl, b5⟩)
          go_ret
          exact ⟨rfl, b4.trans (b5.mono z4)⟩
        · obtain ⟨l1, l2, l3, l4⟩ := names_law _ Hb.out
          have hall : s.data.toList.all letterB = true := by
            have := Hb.out
            unfold plainN at this
            simp only [Bool.and_eq_true] at this
            exact this.2
          have hpos : 0 < s.size := by
            have := Hb.out
            unfold plainN at this
            rw [Hsl.out] at this
            simp at this
            omega
          have h256 : (s[0]'hpos).toNat < 256 := (s[0]'hpos).toNat_lt
          have hq : nameB (ByteArray.mk #[113] ++ s).data.toList = decide ((s.size : Int) < 20) := by
            rw [show (ByteArray.mk #[113] ++ s).data.toList = 113 :: s.data.toList by simp, name_q _ hall, Hsl.out, decide_eq_decide]
            omega
          have hqs : (ByteArray.mk #[113] ++ s).size ≤ 9223372036854775807 := by
            rw [← size_list]
            simp
            omega
          rw [← head_at s hpos] at l1 l2 l4
          have hx : ¬ (smallR ((s[0]'hpos).toNat : Int) = true ∧ bigR ((s[0]'hpos).toNat : Int) = true) := by
            rintro ⟨x, y⟩
            rw [smallR_iff] at x
            rw [bigR_iff] at y
            omega
          have hE : (s.data.toList == stringL) = (s.toList == [83, 116, 114, 105, 110, 103]) := by rw [Lib.toList_data]; rfl
          rw [hE] at l4
          clear hE
          generalize nameB s.data.toList = N at l1 l3 ⊢
          generalize classB s.data.toList = C at l2 l3 l4 ⊢
          have Hq := Lib.hid hq
          clear hq
          cases N
          all_goals
            cases C
            all_goals
              cases hS : smallR ((s[0]'hpos).toNat : Int)
              all_goals
                cases hG : bigR ((s[0]'hpos).toNat : Int)
                all_goals
                  cases hE : (s.toList == [83, 116, 114, 105, 110, 103])
                  all_goals first
                    | (exfalso; rw [hS, hG] at hx; rw [hG, hE] at l4; rw [hS] at l1; rw [hG] at l2; revert l1 l2 l3 l4 hx; decide)
                    | (clear l1 l2 l3 l4 hx
                       cases hd : decide ((s.size : Int) < 20)
                       all_goals
                         go_wp2_with (first
                           | (go_at_call 14; refine (told1_any _ hT4).mono ?_; rintro e w5 ⟨rfl, b5⟩; have z5 := b5.size)
                           | (go_at_call 17; refine (small_any _ _).mono ?_; rintro e w' ⟨rfl, rfl⟩)
                           | (go_at_call 19; refine (big_any _ _).mono ?_; rintro e w' ⟨rfl, rfl⟩)
                           | (go_at_call 23; refine (name_any _ _ hqs).mono ?_; rintro e w6 ⟨rfl, b6⟩; rw [Hq.out, hd]))
                         go_ret
                         exact ⟨rfl, (b4.trans (b5.mono z4)).trans (b6.mono (Nat.le_trans z4 z5))⟩)
end Go.Proofs.YtohmlhbmjamecaaDoor
