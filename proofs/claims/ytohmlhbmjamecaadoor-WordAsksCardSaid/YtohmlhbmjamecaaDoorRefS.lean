/- The references' Quote and Bad (changelingref1), over this seat's translation. -/
import Derived.Test.YtohmlhbmjamecaaDoorRefR
import Derived.Lib.AppendStr
namespace Go.Proofs.YtohmlhbmjamecaaDoor
open Go.RowKit P

theorem mk_eq (p : ByteArray) (l : List UInt8) (h : p.data.toList = l) : p = ⟨l.toArray⟩ := size_inj _ _ (by simp [h])
theorem append_mk (a b : List UInt8) : (ByteArray.mk a.toArray) ++ (ByteArray.mk b.toArray) = ⟨(a ++ b).toArray⟩ := size_inj _ _ (by simp)
theorem size_mk (a : List UInt8) : (ByteArray.mk a.toArray).size = a.length := by rw [← size_list]
theorem enc_is (r : Nat) (k : UInt8) (hk : k.toNat < 128) : (Lib.encodeRune (r : Int) == [k]) = decide (r = k.toNat) := by
  rw [Bool.eq_iff_iff]
  simp only [beq_iff_eq, decide_eq_true_eq]
  constructor
  · intro h
    have hb := Lib.encodeRuneZ_byte (r : Int)
    unfold Lib.encodeRune Lib.encodeRuneZ at h
    split at h
    · simp at h
      have := congrArg UInt8.toNat h
      simp at this
      omega
    · split at h
      · simp at h
      · split at h
        · simp at h
        · split at h
          · simp at h
          · simp at h
  · intro h
    subst h
    unfold Lib.encodeRune
    rw [Lib.encodeRuneZ_one (by omega) (by omega)]
    simp

set_option maxHeartbeats 8000000 in
set_option maxRecDepth 100000 in
theorem rquote_any (s : ByteArray) (w : World) (hs : s.size ≤ 1000000000000) :
    Calls Tryd.prog 28 #[.string s] w fun e w' => e = .returned (.string ⟨(quote s.data.toList).toArray⟩) ∧ Below w.heap.size w w' := by
  go_enter Tryd.func28, Tryd.ntmps28
  go_wp2
  go_loopw [3, 4] (fun o c wr => ∃ (pos : Nat) (acc : List UInt8) (ob : ByteArray), o = .string ob ∧ c = .int .i64 pos ∧ ob.data.toList = acc ∧ Below w.heap.size w wr ∧ pos ≤ s.size ∧ acc ++ encR ((runesOf (s.data.toList.drop pos)).flatMap escR) = 34 :: inner s.data.toList ∧ acc.length ≤ 1 + 5 * pos) (fun _ c _ => s.size - (intOf c).toNat)
  case atStart => exact ⟨0, [34], ⟨#[34]⟩, rfl, rfl, rfl, Below.refl _ _, Nat.zero_le _, rfl, by simp⟩
  case round =>
    obtain ⟨pos, acc, ob, rfl, rfl, hob, hbw, hps, hgo, hal⟩ := hrel
    have Hgo := Lib.hid hgo
    have Hob := Lib.hid hob
    have hosz : ob.size = acc.length := by rw [← size_list, hob]
    have Hosz := Lib.hid hosz
    have hosz2 : ob.size ≤ 1 + 5 * pos := by omega
    clear hgo hob hosz
    by_cases hp : pos < s.size
    · have hwd := dec_pos s pos
      have hle := dec_le s pos hp
      have hel := enc_len ((Utf8.decode s pos).1 : Int)
      have Hstep := Lib.hid (show acc ++ (encR (escR (Utf8.decode s pos).1) ++ encR ((runesOf (s.data.toList.drop (pos + (Utf8.decode s pos).2))).flatMap escR)) = 34 :: inner s.data.toList by
        rw [← Hgo.out, runes_at s pos hp, List.flatMap_cons, encR_append])
      clear Hgo
      go_wp2_with fail
      refine (part_any s pos _ hs hp).mono ?_
      rintro e w1 ⟨p, rfl, hpd, b1⟩
      have b2 := hbw.trans (b1.mono hbw.size)
      have Hpd := Lib.hid hpd
      have hpsz : p.size ≤ 4 := by rw [← size_list, hpd]; exact hel
      have q34 : (p.toList == [34]) = decide ((Utf8.decode s pos).1 = 34) := by rw [Lib.toList_data, hpd]; exact enc_is _ 34 (by decide)
      have q92 : (p.toList == [92]) = decide ((Utf8.decode s pos).1 = 92) := by rw [Lib.toList_data, hpd]; exact enc_is _ 92 (by decide)
      have q10 : (p.toList == [10]) = decide ((Utf8.decode s pos).1 = 10) := by rw [Lib.toList_data, hpd]; exact enc_is _ 10 (by decide)
      clear hpd
      by_cases c1 : (Utf8.decode s pos).1 = 34 ∨ (Utf8.decode s pos).1 = 92
      · have He := Lib.hid (show encR (escR (Utf8.decode s pos).1) = [92] ++ Lib.encodeRune ((Utf8.decode s pos).1 : Int) by
          rw [show escR (Utf8.decode s pos).1 = [92, (Utf8.decode s pos).1] by unfold escR; rw [if_pos c1]]
          simp only [encR, List.flatMap_cons, List.flatMap_nil, List.append_nil]
          rw [show Lib.encodeRune (((92 : Nat)) : Int) = [92] from enc92])
        have hz : ((p.toList == [34]) || (p.toList == [92])) = true := by rw [q34, q92]; simpa using c1
        clear c1 q34 q92 q10
        cases q1 : p.toList == [34]
        all_goals
          rw [q1] at hz
          simp only [Bool.false_or, Bool.true_or] at hz
          go_wp2
          go_roundw
          case rel =>
            refine ⟨pos + (Utf8.decode s pos).2, acc ++ ([92] ++ Lib.encodeRune ((Utf8.decode s pos).1 : Int)), _, rfl, by go_num, ?_, b2, hle, ?_, by simp; omega⟩
            · simp [Hob.out, Hpd.out]
            · rw [← Hstep.out, He.out]; simp
          case measure => simp [intOf]; omega
      · have n1 : (p.toList == [34]) = false := by rw [q34]; simp; omega
        have n2 : (p.toList == [92]) = false := by rw [q92]; simp; omega
        clear q34 q92
        by_cases c2 : (Utf8.decode s pos).1 = 10
        · have He := Lib.hid (show encR (escR (Utf8.decode s pos).1) = [92, 110] by rw [c2]; decide)
          have n3 : (p.toList == [10]) = true := by rw [q10]; simpa using c2
          clear q10 c1 c2
          go_wp2
          go_roundw
          case rel =>
            refine ⟨pos + (Utf8.decode s pos).2, acc ++ [92, 110], _, rfl, by go_num, ?_, b2, hle, ?_, by simp; omega⟩
            · simp [Hob.out]
            · rw [← Hstep.out, He.out]; simp
          case measure => simp [intOf]; omega
        · have He := Lib.hid (show encR (escR (Utf8.decode s pos).1) = Lib.encodeRune ((Utf8.decode s pos).1 : Int) by
            rw [show escR (Utf8.decode s pos).1 = [(Utf8.decode s pos).1] by unfold escR; rw [if_neg c1, if_neg c2]]
            simp [encR])
          have n3 : (p.toList == [10]) = false := by rw [q10]; simpa using c2
          clear q10 c1 c2
          go_wp2
          go_roundw
          case rel =>
            refine ⟨pos + (Utf8.decode s pos).2, acc ++ Lib.encodeRune ((Utf8.decode s pos).1 : Int), _, rfl, by go_num, ?_, b2, hle, ?_, by simp; omega⟩
            · simp [Hob.out, Hpd.out]
            · rw [← Hstep.out, He.out]; simp
          case measure => simp [intOf]; omega
    · have Hres := Lib.hid (show ob ++ ⟨#[34]⟩ = ⟨(quote s.data.toList).toArray⟩ by
        apply size_inj
        have := Hgo.out
        rw [runes_end s pos hp] at this
        simp only [List.flatMap_nil] at this
        rw [show encR [] = [] from rfl, List.append_nil] at this
        unfold quote
        simp [Hob.out, this])
      clear Hgo
      go_wp2
      go_ret
      exact ⟨by rw [← Hres.out]; rfl, hbw⟩

set_option maxHeartbeats 8000000 in
set_option maxRecDepth 100000 in
theorem rbad_any (s : ByteArray) (w : World) (hs : s.size ≤ 1000000000000) :
    Calls Tryd.prog 30 #[.string s] w fun e w' => e = .returned (.int .i64 (bad s.data.toList)) ∧ Below w.heap.size w w' := by
  go_enter Tryd.func30, Tryd.ntmps30
  go_wp2
  go_loopw [3] (fun c wr => ∃ pos : Nat, c = .int .i64 pos ∧ Below w.heap.size w wr ∧ pos ≤ s.size ∧ badGo (chunks (s.data.toList.drop pos)) pos = bad s.data.toList) (fun c _ => s.size - (intOf c).toNat)
  case atStart => exact ⟨0, rfl, Below.refl _ _, Nat.zero_le _, rfl⟩
  case round =>
    obtain ⟨pos, rfl, hbw, hps, hgo⟩ := hrel
    have Hgo := Lib.hid hgo
    clear hgo
    have hz := hbw.size
    by_cases hp : pos < s.size
    · have hwd := dec_pos s pos
      have hle := dec_le s pos hp
      have htk : ((s.data.toList.drop pos).take (Utf8.decode s pos).2).length = (Utf8.decode s pos).2 := by
        have hl := size_list s
        rw [List.length_take, List.length_drop]; omega
      have Hstep := Lib.hid (show bad s.data.toList = if badAt s pos then (pos : Int) else badGo (chunks (s.data.toList.drop (pos + (Utf8.decode s pos).2))) (pos + (Utf8.decode s pos).2) by
        rw [← Hgo.out, chunks_at s pos hp, badGo, badAt_chunk s pos hp]
        dsimp only
        rw [htk])
      clear Hgo htk
      cases hb : badAt s pos
      all_goals
        have Hv := Lib.hid (oneV_at s pos _ hb)
        rw [hb] at Hstep
        clear hb
        go_wp2_with fail
        refine (one_any s pos _ hs hp).mono ?_
        rintro e w1 ⟨rfl, b1⟩
        rw [Hv.out]
        have b2 := (hbw.trans (b1.mono hz)).alloc (Nat.le_trans hz b1.size) (.cells #[.int .i32 ((Utf8.decode s pos).1 : Int), .int .i64 ((Utf8.decode s pos).2 : Int), .bool false] 54)
        have b3 := (hbw.trans (b1.mono hz)).alloc (Nat.le_trans hz b1.size) (.cells #[.int .i32 ((Utf8.decode s pos).1 : Int), .int .i64 ((Utf8.decode s pos).2 : Int), .bool true] 54)
        go_wp2
        first
          | (go_ret; exact ⟨by rw [Hstep.out]; rfl, b3⟩)
          | (go_roundw
             case rel => exact ⟨pos + (Utf8.decode s pos).2, by go_num, b2, hle, by rw [Hstep.out]; rfl⟩
             case measure => simp [intOf]; omega)
    · have Hres := Lib.hid (show bad s.data.toList = -1 by rw [← Hgo.out, chunks_end s pos hp]; rfl)
      clear Hgo
      go_wp2
      go_ret
      exact ⟨by rw [Hres.out]; rfl, hbw⟩
end Go.Proofs.YtohmlhbmjamecaaDoor
