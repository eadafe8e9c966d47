/- sign.Plain, over this seat's translation. -/
import Derived.Test.YtohmlhbmjamecaaDoorSignQ
namespace Go.Proofs.YtohmlhbmjamecaaDoor
open Go.RowKit P

def plainRet : Option (List UInt8) → Value
  | some t => .tuple #[.string ⟨t.toArray⟩, .bool true]
  | none => .tuple #[.string ⟨#[]⟩, .bool false]

/-- One rune of an unquoting. -/
theorem plainGo_step (s : ByteArray) (pos : Nat) (h : pos < s.size) (b : Bool) (acc : List UInt8) (x : Option (List UInt8))
    (hx : plainGo (chunks (s.data.toList.drop pos)) b acc = x) :
    (if b = true ∧ (Utf8.decode s pos).1 = 110 then plainGo (chunks (s.data.toList.drop (pos + (Utf8.decode s pos).2))) false (acc ++ [10])
    else if (b = true ∧ (Utf8.decode s pos).1 ≠ 34 ∧ (Utf8.decode s pos).1 ≠ 92) ∨ (b = false ∧ ((Utf8.decode s pos).1 = 34 ∨ (Utf8.decode s pos).1 = 10)) then none
    else if b = false ∧ (Utf8.decode s pos).1 = 92 then plainGo (chunks (s.data.toList.drop (pos + (Utf8.decode s pos).2))) true acc
    else plainGo (chunks (s.data.toList.drop (pos + (Utf8.decode s pos).2))) false (acc ++ Lib.encodeRune ((Utf8.decode s pos).1 : Int))) = x := by
  rw [← hx, chunks_at s pos h, plainGo]

set_option maxHeartbeats 8000000 in
set_option maxRecDepth 100000 in
theorem plain_any (s : ByteArray) (w : World) (hs : s.size ≤ 1000000000000) (hT : Lib.Utf8Tabs 0 1 w) : Calls Tryd.prog 15 #[.string s] w fun e w' => e = .returned (plainRet (plainO s.data.toList)) ∧ Below w.heap.size w w' := by
  by_cases hb : 0 ≤ bad s.data.toList
  · have Hres := Lib.hid (show plainO s.data.toList = none by unfold plainO; rw [if_neg (by omega)])
    go_enter Tryd.func15, Tryd.ntmps15
    go_wp2_with fail
    refine (bad_any s w hT).mono ?_
    rintro e w1 ⟨rfl, b1⟩
    go_wp2
    go_ret2
    exact ⟨by rw [Hres.out]; rfl, b1⟩
  have hb1 : bad s.data.toList = -1 := by
    rcases badGo_ge (chunks s.data.toList) 0 with h | h
    · exact h
    · exact absurd h hb
  have hb2 : bad s.data.toList < 0 := by omega
  have Hpl := Lib.hid (show plainO s.data.toList = plainGo (chunks s.data.toList) false [] by unfold plainO; rw [if_pos hb1])
  clear hb hb1
  go_enter Tryd.func15, Tryd.ntmps15
  go_wp2_with fail
  refine (bad_any s w hT).mono ?_
  rintro e w1 ⟨rfl, b1⟩
  have hs1 := b1.size
  go_wp2
  clear hb2
  go_loopw [5] (fun v wr => ∃ (pos : Nat) (acc : List UInt8) (b : Bool), v = .bool b ∧ Lib.IsBuilderF 46 5 w1.heap.size w1.heap.size (Lib.byteCells acc) wr ∧ wr.heap[w1.heap.size + 1]? = some (.stringIter s pos) ∧ Below w.heap.size w wr ∧ pos ≤ s.size ∧ plainGo (chunks (s.data.toList.drop pos)) b acc = plainO s.data.toList ∧ acc.length ≤ 4 * pos) (fun _ wr => s.size - wr.iterPos (w1.heap.size + 1))
  case atStart =>
    refine ⟨0, [], false, rfl, (Lib.IsBuilderF.of (Lib.fresh_isBuilder 46 5 w1)).alloc _, ?_, (b1.alloc (by omega) _).alloc (by simp; omega) _, Nat.zero_le _, Hpl.out.symm, by simp⟩
    have := World.iter_heap (w1.alloc (.cells #[.pointer none, .slice none 0 0] 46)) s 0
    simpa using this
  case round =>
    obtain ⟨pos, acc, b, rfl, hI, hit, hbw, hps, hgo, hal⟩ := hrel
    have Hgo := Lib.hid hgo
    clear hgo Hpl
    have hsz : w1.heap.size + 1 < wr.heap.size := (Array.getElem?_eq_some_iff.1 hit).1
    by_cases hp : pos < s.size
    · have hnx : ∀ ty, (Instr.next (.pointer (some ⟨w1.heap.size + 1, 0, none⟩)) true ty).run Tryd.prog wr = _ := fun ty => Lib.run_next_any_at wr (w1.heap.size + 1) s pos ty hit hp
      have hwd := dec_pos s pos
      have hle := dec_le s pos hp
      have hd1 := decode_le s pos
      have hI2 := hI.iterAt hit (pos + (Utf8.decode s pos).2)
      have hit2 := Lib.iterAt_heap wr (w1.heap.size + 1) s pos (pos + (Utf8.decode s pos).2) hit
      have hbw2 := Lib.below_iterAt hbw (k := w1.heap.size + 1) (by omega) s (pos + (Utf8.decode s pos).2)
      have hsz2 : w1.heap.size ≤ (wr.iterAt (w1.heap.size + 1) s (pos + (Utf8.decode s pos).2)).heap.size := by rw [Lib.iterAt_size]; omega
      have hel := enc_len ((Utf8.decode s pos).1 : Int)
      have Hstep := Lib.hid (plainGo_step s pos hp b acc _ Hgo.out)
      clear Hgo
      cases b
      · by_cases cc : (Utf8.decode s pos).1 = 34 ∨ (Utf8.decode s pos).1 = 10
        · have Hr := Lib.hid (show plainO s.data.toList = none by
            have h := Hstep.out
            rw [if_neg (by simp), if_pos (.inr ⟨rfl, cc⟩)] at h
            exact h.symm)
          by_cases c34 : (Utf8.decode s pos).1 = 34
          · have e34 : (((Utf8.decode s pos).1 : Int) == 34) = true := by rw [beq_iff_eq]; omega
            have f34 : (((Utf8.decode s pos).1 : Int) != 34) = false := by rw [bne, e34]; rfl
            clear c34
            clear cc
            go_wp2
            go_ret2
            exact ⟨by rw [Hr.out]; rfl, hbw2⟩
          · have e34 : (((Utf8.decode s pos).1 : Int) == 34) = false := beq_eq_false_iff_ne.2 (by omega)
            have f34 : (((Utf8.decode s pos).1 : Int) != 34) = true := by rw [bne, e34]; rfl
            have e10 : (((Utf8.decode s pos).1 : Int) == 10) = true := by rw [beq_iff_eq]; omega
            have f10 : (((Utf8.decode s pos).1 : Int) != 10) = false := by rw [bne, e10]; rfl
            clear c34
            clear cc
            go_wp2
            go_ret2
            exact ⟨by rw [Hr.out]; rfl, hbw2⟩
        · have e34 : (((Utf8.decode s pos).1 : Int) == 34) = false := beq_eq_false_iff_ne.2 (by omega)
          have f34 : (((Utf8.decode s pos).1 : Int) != 34) = true := by rw [bne, e34]; rfl
          have e10 : (((Utf8.decode s pos).1 : Int) == 10) = false := beq_eq_false_iff_ne.2 (by omega)
          have f10 : (((Utf8.decode s pos).1 : Int) != 10) = true := by rw [bne, e10]; rfl
          by_cases c92 : (Utf8.decode s pos).1 = 92
          · have Hr := Lib.hid (show plainGo (chunks (s.data.toList.drop (pos + (Utf8.decode s pos).2))) true acc = plainO s.data.toList by
              have h := Hstep.out
              rw [if_neg (by simp), if_neg (by rintro (h | h); exact absurd h.1 (by simp); exact cc h.2), if_pos ⟨rfl, c92⟩] at h
              exact h)
            have e92 : (((Utf8.decode s pos).1 : Int) == 92) = true := by rw [beq_iff_eq]; omega
            have f92 : (((Utf8.decode s pos).1 : Int) != 92) = false := by rw [bne, e92]; rfl
            clear cc c92
            go_wp2
            go_roundw
            case rel => exact ⟨pos + (Utf8.decode s pos).2, acc, true, rfl, hI2, hit2, hbw2, hle, Hr.out, by omega⟩
            case measure => rw [iterPos_at hit2, iterPos_at hit]; omega
          · have Hr := Lib.hid (show plainGo (chunks (s.data.toList.drop (pos + (Utf8.decode s pos).2))) false (acc ++ Lib.encodeRune ((Utf8.decode s pos).1 : Int)) = plainO s.data.toList by
              have h := Hstep.out
              rw [if_neg (by simp), if_neg (by rintro (h | h); exact absurd h.1 (by simp); exact cc h.2), if_neg (fun h => c92 h.2)] at h
              exact h)
            have e92 : (((Utf8.decode s pos).1 : Int) == 92) = false := beq_eq_false_iff_ne.2 (by omega)
            have f92 : (((Utf8.decode s pos).1 : Int) != 92) = true := by rw [bne, e92]; rfl
            clear c92
            clear cc
            go_wp2_with fail
            refine (writeRune_k w1.heap.size w1.heap.size _ _ (by omega) (by omega) _ hI2 (by simp only [Lib.byteCells_length]; omega) hsz2).mono ?_
            rintro e W1 ⟨rfl, g1, d1, g2⟩
            have hit3 := g2.iter hit2 (by omega)
            go_wp2
            go_roundw
            case rel =>
              refine ⟨pos + (Utf8.decode s pos).2, acc ++ Lib.encodeRune ((Utf8.decode s pos).1 : Int), false, rfl, ?_, hit3, hbw2.trans (d1.mono (by omega)), hle, Hr.out, by simp; omega⟩
              rw [← byteCells_enc]; exact Or.inr g1
            case measure => rw [iterPos_at hit3, iterPos_at hit]; omega
      · by_cases cc : (Utf8.decode s pos).1 = 110
        · have Hr := Lib.hid (show plainGo (chunks (s.data.toList.drop (pos + (Utf8.decode s pos).2))) false (acc ++ [10]) = plainO s.data.toList by
            have h := Hstep.out
            rw [if_pos ⟨rfl, cc⟩] at h
            exact h)
          have e110 : (((Utf8.decode s pos).1 : Int) == 110) = true := by rw [beq_iff_eq]; omega
          have f110 : (((Utf8.decode s pos).1 : Int) != 110) = false := by rw [bne, e110]; rfl
          clear cc
          go_wp2_with fail
          refine (writeByte_k w1.heap.size w1.heap.size _ 10 _ hI2 (by simp only [Lib.byteCells_length]; omega) hsz2).mono ?_
          rintro e W1 ⟨rfl, g1, d1, g2⟩
          have hit3 := g2.iter hit2 (by omega)
          go_wp2
          go_roundw
          case rel =>
            refine ⟨pos + (Utf8.decode s pos).2, acc ++ [10], false, rfl, ?_, hit3, hbw2.trans (d1.mono (by omega)), hle, Hr.out, by simp; omega⟩
            rw [Lib.byteCells_append]; exact Or.inr g1
          case measure => rw [iterPos_at hit3, iterPos_at hit]; omega
        · have e110 : (((Utf8.decode s pos).1 : Int) == 110) = false := beq_eq_false_iff_ne.2 (by omega)
          have f110 : (((Utf8.decode s pos).1 : Int) != 110) = true := by rw [bne, e110]; rfl
          by_cases c2 : (Utf8.decode s pos).1 = 34 ∨ (Utf8.decode s pos).1 = 92
          · have Hr := Lib.hid (show plainGo (chunks (s.data.toList.drop (pos + (Utf8.decode s pos).2))) false (acc ++ Lib.encodeRune ((Utf8.decode s pos).1 : Int)) = plainO s.data.toList by
              have h := Hstep.out
              rw [if_neg (fun h => cc h.2), if_neg (by rintro (h | h); exact c2.elim (fun q => h.2.1 q) (fun q => h.2.2 q); exact absurd h.1 (by simp)), if_neg (by simp)] at h
              exact h)
            by_cases c34 : (Utf8.decode s pos).1 = 34
            · have e34 : (((Utf8.decode s pos).1 : Int) == 34) = true := by rw [beq_iff_eq]; omega
              have f34 : (((Utf8.decode s pos).1 : Int) != 34) = false := by rw [bne, e34]; rfl
              clear c34 c2
              clear cc
              go_wp2_with fail
              refine (writeRune_k w1.heap.size w1.heap.size _ _ (by omega) (by omega) _ hI2 (by simp only [Lib.byteCells_length]; omega) hsz2).mono ?_
              rintro e W1 ⟨rfl, g1, d1, g2⟩
              have hit3 := g2.iter hit2 (by omega)
              go_wp2
              go_roundw
              case rel =>
                refine ⟨pos + (Utf8.decode s pos).2, acc ++ Lib.encodeRune ((Utf8.decode s pos).1 : Int), false, rfl, ?_, hit3, hbw2.trans (d1.mono (by omega)), hle, Hr.out, by simp; omega⟩
                rw [← byteCells_enc]; exact Or.inr g1
              case measure => rw [iterPos_at hit3, iterPos_at hit]; omega
            · have e34 : (((Utf8.decode s pos).1 : Int) == 34) = false := beq_eq_false_iff_ne.2 (by omega)
              have f34 : (((Utf8.decode s pos).1 : Int) != 34) = true := by rw [bne, e34]; rfl
              have e92 : (((Utf8.decode s pos).1 : Int) == 92) = true := by rw [beq_iff_eq]; omega
              have f92 : (((Utf8.decode s pos).1 : Int) != 92) = false := by rw [bne, e92]; rfl
              clear c34 c2
              clear cc
              go_wp2_with fail
              refine (writeRune_k w1.heap.size w1.heap.size _ _ (by omega) (by omega) _ hI2 (by simp only [Lib.byteCells_length]; omega) hsz2).mono ?_
              rintro e W1 ⟨rfl, g1, d1, g2⟩
              have hit3 := g2.iter hit2 (by omega)
              go_wp2
              go_roundw
              case rel =>
                refine ⟨pos + (Utf8.decode s pos).2, acc ++ Lib.encodeRune ((Utf8.decode s pos).1 : Int), false, rfl, ?_, hit3, hbw2.trans (d1.mono (by omega)), hle, Hr.out, by simp; omega⟩
                rw [← byteCells_enc]; exact Or.inr g1
              case measure => rw [iterPos_at hit3, iterPos_at hit]; omega
          · have Hr := Lib.hid (show plainO s.data.toList = none by
              have h := Hstep.out
              rw [if_neg (fun h => cc h.2), if_pos (.inl ⟨rfl, fun q => c2 (.inl q), fun q => c2 (.inr q)⟩)] at h
              exact h.symm)
            have e34 : (((Utf8.decode s pos).1 : Int) == 34) = false := beq_eq_false_iff_ne.2 (by omega)
            have f34 : (((Utf8.decode s pos).1 : Int) != 34) = true := by rw [bne, e34]; rfl
            have e92 : (((Utf8.decode s pos).1 : Int) == 92) = false := beq_eq_false_iff_ne.2 (by omega)
            have f92 : (((Utf8.decode s pos).1 : Int) != 92) = true := by rw [bne, e92]; rfl
            clear c2
            clear cc
            go_wp2
            go_ret2
            exact ⟨by rw [Hr.out]; rfl, hbw2⟩
    · have hnx : ∀ ty, (Instr.next (.pointer (some ⟨w1.heap.size + 1, 0, none⟩)) true ty).run Tryd.prog wr = _ := fun ty => Lib.run_next_end_at wr (w1.heap.size + 1) s pos ty hit hp
      have Hres := Lib.hid (show plainO s.data.toList = if b then none else some acc by
        rw [← Hgo.out, chunks_end s pos hp, plainGo])
      clear Hgo
      cases b
      · go_wp2_with fail
        refine (Tryd.Builder_String_any_k w1.heap.size w1.heap.size acc _ hI (by omega)).mono ?_
        rintro e W2 ⟨rfl, _, d2, _⟩
        go_wp2
        go_ret2
        exact ⟨by rw [Hres.out]; rfl, hbw.trans (d2.mono (by omega))⟩
      · go_wp2
        go_ret2
        exact ⟨by rw [Hres.out]; rfl, hbw⟩
end Go.Proofs.YtohmlhbmjamecaaDoor
