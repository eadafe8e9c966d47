/- sign.Quote and sign.Plain, over this seat's translation. -/
import Derived.Test.YtohmlhbmjamecaaDoorSignB
namespace Go.Proofs.YtohmlhbmjamecaaDoor
open Go.RowKit P

theorem byteCells_enc (acc : List UInt8) (r : Nat) : Lib.byteCells acc ++ Lib.runeCells (r : Int) = Lib.byteCells (acc ++ Lib.encodeRune (r : Int)) := by
  rw [Lib.byteCells_append, Lib.byteCells_encodeRune]
theorem enc_len (r : Int) : (Lib.encodeRune r).length ≤ 4 := by
  have := Lib.runeCells_le r
  rw [Lib.runeCells_length] at this
  omega
theorem runes_at (s : ByteArray) (pos : Nat) (h : pos < s.size) : runesOf (s.data.toList.drop pos) = (Utf8.decode s pos).1 :: runesOf (s.data.toList.drop (pos + (Utf8.decode s pos).2)) := by
  unfold runesOf
  rw [chunks_at s pos h]
  rfl
theorem runes_end (s : ByteArray) (pos : Nat) (h : ¬ pos < s.size) : runesOf (s.data.toList.drop pos) = [] := by
  unfold runesOf
  rw [chunks_end s pos h]
  rfl
theorem enc34 : Lib.encodeRune 34 = [34] := by decide
theorem enc92 : Lib.encodeRune 92 = [92] := by decide

set_option maxHeartbeats 4000000 in
set_option maxRecDepth 100000 in
theorem quote_any (s : ByteArray) (w : World) (hs : s.size ≤ 1000000000000) : Calls Tryd.prog 27 #[.string s] w fun e w' => e = .returned (.string ⟨(quote s.data.toList).toArray⟩) ∧ Below w.heap.size w w' := by
  go_enter Tryd.func27, Tryd.ntmps27
  go_wp2_with fail
  refine (writeByte_k w.heap.size w.heap.size [] 34 _ (Lib.IsBuilderF.of (Lib.fresh_isBuilder 46 5 w)) (by simp) (by simp)).mono ?_
  rintro e w1 ⟨rfl, h1, b1, k1⟩
  have b1' : Below w.heap.size w w1 := ((Below.refl _ w).alloc (Nat.le_refl _) _).trans b1
  have hlt1 : w.heap.size < w1.heap.size := h1.lt
  clear k1 b1
  go_wp2
  go_loopw [] (fun wr => ∃ (pos : Nat) (acc : List UInt8), Lib.IsBuilderF 46 5 w.heap.size w.heap.size (Lib.byteCells acc) wr ∧ wr.heap[w1.heap.size]? = some (.stringIter s pos) ∧ Below w.heap.size w wr ∧ pos ≤ s.size ∧ acc ++ encR ((runesOf (s.data.toList.drop pos)).flatMap escR) = 34 :: inner s.data.toList ∧ acc.length ≤ 1 + 5 * pos) (fun wr => s.size - wr.iterPos w1.heap.size)
  case atStart =>
    refine ⟨0, [34], Lib.IsBuilderF.alloc (bs := Lib.byteCells [34]) (Or.inr h1) _, World.iter_heap w1 s 0, b1'.alloc (by omega) _, Nat.zero_le _, ?_, by simp⟩
    rfl
  case round =>
    obtain ⟨pos, acc, hI, hit, hbw, hps, hgo, hal⟩ := hrel
    have Hgo := Lib.hid hgo
    clear hgo
    have hsz : w1.heap.size < wr.heap.size := (Array.getElem?_eq_some_iff.1 hit).1
    by_cases hp : pos < s.size
    · have hnx : ∀ ty, (Instr.next (.pointer (some ⟨w1.heap.size, 0, none⟩)) true ty).run Tryd.prog wr = _ := fun ty => Lib.run_next_any_at wr w1.heap.size s pos ty hit hp
      have hwd := dec_pos s pos
      have hle := dec_le s pos hp
      have hd1 := decode_le s pos
      have hI2 := hI.iterAt hit (pos + (Utf8.decode s pos).2)
      have hit2 := Lib.iterAt_heap wr w1.heap.size s pos (pos + (Utf8.decode s pos).2) hit
      have hbw2 := Lib.below_iterAt hbw (k := w1.heap.size) (by omega) s (pos + (Utf8.decode s pos).2)
      have hsz2 : w.heap.size ≤ (wr.iterAt w1.heap.size s (pos + (Utf8.decode s pos).2)).heap.size := by rw [Lib.iterAt_size]; omega
      have hel := enc_len ((Utf8.decode s pos).1 : Int)
      have Hstep := Lib.hid (show acc ++ (encR (escR (Utf8.decode s pos).1) ++ encR ((runesOf (s.data.toList.drop (pos + (Utf8.decode s pos).2))).flatMap escR)) = 34 :: inner s.data.toList by
        rw [← Hgo.out, runes_at s pos hp, List.flatMap_cons, encR_append])
      clear Hgo
      by_cases c1 : (Utf8.decode s pos).1 = 34 ∨ (Utf8.decode s pos).1 = 92
      · have He := Lib.hid (show encR (escR (Utf8.decode s pos).1) = [92] ++ Lib.encodeRune ((Utf8.decode s pos).1 : Int) by
          rw [show escR (Utf8.decode s pos).1 = [92, (Utf8.decode s pos).1] by unfold escR; rw [if_pos c1]]
          simp only [encR, List.flatMap_cons, List.flatMap_nil, List.append_nil]
          rw [show Lib.encodeRune (((92 : Nat)) : Int) = [92] from enc92])
        have hz : (((Utf8.decode s pos).1 : Int) == 34 || ((Utf8.decode s pos).1 : Int) == 92) = true := by simp; omega
        clear c1
        cases q1 : ((Utf8.decode s pos).1 : Int) == 34
        all_goals
          rw [q1] at hz
          simp only [Bool.false_or, Bool.true_or] at hz
          go_wp2_with fail
          refine (writeByte_k w.heap.size w.heap.size _ 92 _ hI2 (by rw [Lib.byteCells_length]; omega) hsz2).mono ?_
          rintro e W1 ⟨rfl, g1, d1, e1⟩
          have hit3 := e1.iter hit2 (by omega)
          have hsz3 : w.heap.size ≤ W1.heap.size := by have := g1.lt; omega
          go_wp2_with fail
          refine (writeRune_k w.heap.size w.heap.size _ _ (by omega) (by omega) _ (Or.inr g1) (by simp only [List.length_append, Lib.byteCells_length, List.length_cons, List.length_nil]; omega) hsz3).mono ?_
          rintro e W2 ⟨rfl, g2, d2, e2⟩
          have hit4 := e2.iter hit3 (by omega)
          go_wp2
          go_roundw
          case rel =>
            refine ⟨pos + (Utf8.decode s pos).2, acc ++ [92] ++ Lib.encodeRune ((Utf8.decode s pos).1 : Int), ?_, hit4, (hbw2.trans d1).trans d2, hle, ?_, by simp; omega⟩
            · rw [← byteCells_enc, Lib.byteCells_append]; exact Or.inr g2
            · rw [← Hstep.out, He.out]; simp
          case measure => rw [iterPos_at hit4, iterPos_at hit]; omega
      · have n1 : (((Utf8.decode s pos).1 : Int) == 34) = false := by rw [← Bool.not_eq_true]; simp; omega
        have n2 : (((Utf8.decode s pos).1 : Int) == 92) = false := by rw [← Bool.not_eq_true]; simp; omega
        by_cases c2 : (Utf8.decode s pos).1 = 10
        · have He := Lib.hid (show encR (escR (Utf8.decode s pos).1) = [92, 110] by rw [c2]; decide)
          have n3 : (((Utf8.decode s pos).1 : Int) == 10) = true := by simp; omega
          clear c1 c2
          go_wp2_with fail
          refine (writeString_k w.heap.size w.heap.size _ ⟨#[92, 110]⟩ _ hI2 (by rw [Lib.byteCells_length]; show _ + 2 ≤ _; omega) hsz2).mono ?_
          rintro e W1 ⟨rfl, g1, d1, e1⟩
          have hit3 := e1.iter hit2 (by omega)
          go_wp2
          go_roundw
          case rel =>
            refine ⟨pos + (Utf8.decode s pos).2, acc ++ [92, 110], ?_, hit3, hbw2.trans d1, hle, ?_, by simp; omega⟩
            · rw [Lib.byteCells_append]; exact Or.inr g1
            · rw [← Hstep.out, He.out]; simp
          case measure => rw [iterPos_at hit3, iterPos_at hit]; omega
        · have He := Lib.hid (show encR (escR (Utf8.decode s pos).1) = Lib.encodeRune ((Utf8.decode s pos).1 : Int) by
            rw [show escR (Utf8.decode s pos).1 = [(Utf8.decode s pos).1] by unfold escR; rw [if_neg c1, if_neg c2]]
            simp [encR])
          have n3 : (((Utf8.decode s pos).1 : Int) == 10) = false := by rw [← Bool.not_eq_true]; simp; omega
          clear c1 c2
          go_wp2_with fail
          refine (writeRune_k w.heap.size w.heap.size _ _ (by omega) (by omega) _ hI2 (by simp only [Lib.byteCells_length]; omega) hsz2).mono ?_
          rintro e W1 ⟨rfl, g1, d1, e1⟩
          have hit3 := e1.iter hit2 (by omega)
          go_wp2
          go_roundw
          case rel =>
            refine ⟨pos + (Utf8.decode s pos).2, acc ++ Lib.encodeRune ((Utf8.decode s pos).1 : Int), ?_, hit3, hbw2.trans d1, hle, ?_, by simp; omega⟩
            · rw [← byteCells_enc]; exact Or.inr g1
            · rw [← Hstep.out, He.out]; simp
          case measure => rw [iterPos_at hit3, iterPos_at hit]; omega
    · have hnx : ∀ ty, (Instr.next (.pointer (some ⟨w1.heap.size, 0, none⟩)) true ty).run Tryd.prog wr = _ := fun ty => Lib.run_next_end_at wr w1.heap.size s pos ty hit hp
      have Hres := Lib.hid (show quote s.data.toList = acc ++ [34] by
        unfold quote
        have := Hgo.out
        rw [runes_end s pos hp] at this
        simp only [List.flatMap_nil] at this
        rw [show encR [] = [] from rfl, List.append_nil] at this
        rw [this]; rfl)
      clear Hgo
      go_wp2_with fail
      refine (writeByte_k w.heap.size w.heap.size _ 34 _ hI (by simp only [Lib.byteCells_length]; omega) (by omega)).mono ?_
      rintro e W1 ⟨rfl, g1, d1, e1⟩
      have hsz3 : w.heap.size ≤ W1.heap.size := by have := g1.lt; omega
      have g1' : Lib.IsBuilderF 46 5 w.heap.size w.heap.size (Lib.byteCells (acc ++ [34])) W1 := by rw [Lib.byteCells_append]; exact Or.inr g1
      go_wp2_with fail
      refine (Tryd.Builder_String_any_k w.heap.size w.heap.size (acc ++ [34]) _ g1' hsz3).mono ?_
      rintro e W2 ⟨rfl, _, d2, _⟩
      go_wp2
      go_ret
      exact ⟨by rw [Hres.out]; rfl, (hbw.trans d1).trans d2⟩
end Go.Proofs.YtohmlhbmjamecaaDoor
