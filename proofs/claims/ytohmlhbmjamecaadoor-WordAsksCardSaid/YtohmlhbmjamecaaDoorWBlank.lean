/- word.blank, word.quoted, over this seat's translation. -/
import Derived.Test.YtohmlhbmjamecaaDoorWRun
import Derived.Shelf.Strings.SlTrimAscii
namespace Go.Proofs.YtohmlhbmjamecaaDoor
open Go.RowKit P

/-- What is left behind the blanks and a note in front. -/
def unblank (l : List UInt8) : List UInt8 :=
  if [47, 47].isPrefixOf (l.dropWhile blankB) then (l.dropWhile blankB).drop ((l.dropWhile blankB).takeWhile noLine).length else l.dropWhile blankB
def blankN (l : List UInt8) : Nat := l.length - (unblank l).length
theorem unblank_suffix (l : List UInt8) : unblank l <:+ l := by
  unfold unblank
  split
  · exact (List.drop_suffix _ _).trans (List.dropWhile_suffix blankB)
  · exact List.dropWhile_suffix blankB
theorem drop_suffix {l u : List UInt8} (h : u <:+ l) : l.drop (l.length - u.length) = u := by
  obtain ⟨t, rfl⟩ := h
  rw [List.length_append, Nat.add_sub_cancel, List.drop_left]
theorem unblank_drop (l : List UInt8) : l.drop (blankN l) = unblank l := drop_suffix (unblank_suffix l)
theorem ret_i64 {a b : Int} (h : a = b) : Ending.returned (.int .i64 a) = .returned (.int .i64 b) := by rw [h]
theorem blankN_le (l : List UInt8) : blankN l ≤ l.length := by unfold blankN; omega
theorem trim_eq (l : List UInt8) : Lib.trimLeftS l [32, 9, 10, 13] = l.dropWhile blankB := by
  unfold Lib.trimLeftS
  congr 1
  funext b
  unfold blankB
  simp only [List.contains_cons, List.contains_nil, Bool.or_false]
  rw [Bool.or_assoc, Bool.or_assoc]

set_option maxHeartbeats 4000000 in
set_option maxRecDepth 100000 in
theorem blank_any (s : ByteArray) (w : World) (hs : s.size ≤ 1000000000000) : Calls Tryd.prog 46 #[.string s] w fun e w' => e = .returned (.int .i64 (blankN s.data.toList)) ∧ Below w.heap.size w w' := by
  have hcon : Calls Tryd.prog 54 #[.string s, .string ⟨#[32, 9, 10, 13]⟩] w fun e w' => e = .returned (.string ⟨(Lib.trimLeftS s.data.toList [32, 9, 10, 13]).toArray⟩) ∧ Below w.heap.size w w' :=
    Any.strings_TrimLeft_laid Tryd.lays161 (by kernel_rfl) s ⟨#[32, 9, 10, 13]⟩ w (by decide) (ascii_of_all (by decide))
  rw [trim_eq] at hcon
  obtain ⟨r, hr⟩ : ∃ r : ByteArray, r = ⟨(s.data.toList.dropWhile blankB).toArray⟩ := ⟨_, rfl⟩
  have hrd : r.data.toList = s.data.toList.dropWhile blankB := by rw [hr]
  have hrs : r.size ≤ s.size := by
    rw [← size_list, ← size_list, hrd]
    exact (List.dropWhile_suffix blankB).length_le
  rw [← hr] at hcon
  clear hr
  have Hu := Lib.hid (show blankN s.data.toList = s.size - (if Lib.hasPrefix r.data.toList [47, 47] then r.data.toList.drop (r.data.toList.takeWhile noLine).length else r.data.toList).length by
    unfold blankN unblank Lib.hasPrefix
    rw [hrd, size_list])
  have Hrl := Lib.hid (size_list r)
  have Hcon := Lib.hid hcon
  clear hcon hrd
  cases hp : Lib.hasPrefix r.data.toList [47, 47]
  · have Hr := Lib.hid (show blankN s.data.toList = s.size - r.size by rw [Hu.out, hp, ← Hrl.out]; rfl)
    go_enter Tryd.func46, Tryd.ntmps46
    go_wp2_with fail
    refine Hcon.out.mono ?_
    rintro e w1 ⟨rfl, b1⟩
    go_wp2_with fail
    refine (Tryd.strings_HasPrefix r ⟨#[47, 47]⟩ _).mono ?_
    rintro e w2 ⟨rfl, rfl⟩
    rw [show (ByteArray.mk #[47, 47]).data.toList = [47, 47] from rfl, hp]
    go_wp2
    go_ret
    exact ⟨ret_i64 (by rw [Hr.out]; omega), b1⟩
  · have hkl : (r.data.toList.takeWhile noLine).length ≤ r.size := by rw [← Hrl.out]; exact takeWhile_len _ _
    have Hr := Lib.hid (show blankN s.data.toList = s.size - (r.size - (r.data.toList.takeWhile noLine).length) by
      rw [Hu.out, hp, if_pos rfl, List.length_drop, Hrl.out])
    go_enter Tryd.func46, Tryd.ntmps46
    go_wp2_with fail
    refine Hcon.out.mono ?_
    rintro e w1 ⟨rfl, b1⟩
    go_wp2_with fail
    refine (Tryd.strings_HasPrefix r ⟨#[47, 47]⟩ _).mono ?_
    rintro e w2 ⟨rfl, rfl⟩
    rw [show (ByteArray.mk #[47, 47]).data.toList = [47, 47] from rfl, hp]
    go_wp2_with fail
    refine (runLine_any r _).mono ?_
    rintro e w3 ⟨x, rfl, hx, b3⟩
    have hxs : x.size = (r.data.toList.takeWhile noLine).length := by rw [← size_list, hx]
    have Hxs := Lib.hid hxs
    have hxle : x.size ≤ r.size := by omega
    clear hx hxs hkl
    go_wp2
    go_ret
    exact ⟨ret_i64 (by rw [Hr.out, ← Hxs.out]; omega), b1.trans (b3.mono b1.size)⟩

/-! ### a literal's end -/
theorem scan_high : ∀ (hs t : List UInt8) (k : Nat), (∀ b ∈ hs, ¬ b.toNat < 128) → scan false k (hs ++ t) = scan false (k + hs.length) t
  | [], t, k, _ => by simp
  | h :: hs, t, k, hh => by
    have h0 := hh h (by simp)
    rw [List.cons_append, scan, if_neg (by intro e; subst e; exact h0 (by decide)), if_neg (by simp), if_neg (by intro e; subst e; exact h0 (by decide)), if_neg (by intro e; subst e; exact h0 (by decide)),
      scan_high hs t (k + 1) (fun b hb => hh b (by simp [hb]))]
    congr 1
    simp only [List.length_cons]
    omega
/-- A rune of the scan. -/
theorem scan_rune (s : ByteArray) (pos : Nat) (h : pos < s.size) (b : Bool) :
    scan b pos (s.data.toList.drop pos) =
      if (Utf8.decode s pos).1 = 10 then none
      else if b = true then scan false (pos + (Utf8.decode s pos).2) (s.data.toList.drop (pos + (Utf8.decode s pos).2))
      else if (Utf8.decode s pos).1 = 92 then scan true (pos + (Utf8.decode s pos).2) (s.data.toList.drop (pos + (Utf8.decode s pos).2))
      else if (Utf8.decode s pos).1 = 34 then some (pos + 1)
      else scan false (pos + (Utf8.decode s pos).2) (s.data.toList.drop (pos + (Utf8.decode s pos).2)) := by
  have hl : pos < s.data.toList.length := by rw [size_list]; exact h
  have hcut := List.drop_eq_getElem_cons hl
  have hb : (s[pos]'h) = s.data.toList[pos] := rfl
  by_cases ha : (s[pos]'h).toNat < 128
  · rw [decode_ascii s pos h ha, hcut, scan]
    dsimp only
    have hx : ∀ k : UInt8, (s.data.toList[pos] = k) = ((s[pos]'h).toNat = k.toNat) := by
      intro k
      rw [hb]
      exact propext ⟨fun e => by rw [e], fun e => UInt8.toNat_inj.1 e⟩
    simp only [hx 10, hx 92, hx 34]
    rfl
  · have hr := (decode_high s pos h (by omega)).1
    have hw := dec_pos s pos
    have hle := dec_le s pos h
    rw [if_neg (by omega), if_neg (by omega : ¬ (Utf8.decode s pos).1 = 92), if_neg (by omega : ¬ (Utf8.decode s pos).1 = 34)]
    obtain ⟨a, t, e⟩ : ∃ a t, s.data.toList.drop pos = a :: t := ⟨_, _, hcut⟩
    have hda : a = s.data.toList[pos] := by rw [hcut] at e; exact (List.cons.inj e).1.symm
    have hdl : Lib.decodeL (a :: t) = Utf8.decode s pos := by rw [← e]; exact Lib.decodeL_drop s pos
    have hnot : ¬ a.toNat < 128 := by rw [hda]; exact ha
    have hall := rune_high a t hnot
    rw [hdl] at hall
    have hsplit : s.data.toList.drop pos = (a :: t).take (Utf8.decode s pos).2 ++ s.data.toList.drop (pos + (Utf8.decode s pos).2) := by
      rw [← List.drop_drop, e, List.take_append_drop]
    have hlen : ((a :: t).take (Utf8.decode s pos).2).length = (Utf8.decode s pos).2 := by
      rw [← e, List.length_take, List.length_drop, size_list]; omega
    cases b
    · rw [if_neg (by simp), hsplit, scan_high _ _ _ hall, hlen]
    · rw [if_pos rfl, e, scan, if_neg (by intro e2; subst e2; exact hnot (by decide)), if_pos rfl]
      have h2 : t = ((a :: t).take (Utf8.decode s pos).2).tail ++ s.data.toList.drop (pos + (Utf8.decode s pos).2) := by
        have h3 := hsplit
        rw [e] at h3
        obtain ⟨w', hw'⟩ : ∃ w', (Utf8.decode s pos).2 = w' + 1 := ⟨(Utf8.decode s pos).2 - 1, by omega⟩
        rw [hw', List.take_succ_cons, List.cons_append] at h3
        rw [hw', List.take_succ_cons, List.tail_cons]
        exact (List.cons.inj h3).2
      conv => lhs; rw [h2]
      rw [scan_high _ _ _ (fun b hb => hall b (List.mem_of_mem_tail hb)), List.length_tail, hlen]
      congr 1
      omega
theorem scan_end (s : ByteArray) (pos : Nat) (h : ¬ pos < s.size) (b : Bool) : scan b pos (s.data.toList.drop pos) = none := by
  have : s.data.toList.drop pos = [] := List.drop_eq_nil_of_le (by rw [size_list]; omega)
  rw [this]
  unfold scan
  rfl

def quotedL (l : List UInt8) : List UInt8 := match scan false 1 l.tail with | none => [] | some n => l.take n

set_option maxHeartbeats 4000000 in
set_option maxRecDepth 100000 in
theorem quoted_any (s : ByteArray) (w : World) (hs : s.size ≤ 1000000000000) (h0 : 0 < s.size) (h34 : (s[0]'h0).toNat = 34) : Calls Tryd.prog 59 #[.string s] w fun e w' => ∃ x : ByteArray, e = .returned (.string x) ∧ x.data.toList = quotedL s.data.toList ∧ Below w.heap.size w w' := by
  have Hsc := Lib.hid (show scan false 1 (s.data.toList.drop 1) = scan false 1 s.data.toList.tail by rw [List.drop_one])
  have Hq := Lib.hid (show quotedL s.data.toList = (match scan false 1 s.data.toList.tail with | none => [] | some n => s.data.toList.take n) from rfl)
  have hd0 := decode_ascii s 0 h0 (by omega)
  rw [h34] at hd0
  have Hd0 := Lib.hid hd0
  clear hd0 h34
  go_enter Tryd.func59, Tryd.ntmps59
  go_wp2
  go_loopw [3] (fun v wr => ∃ (pos : Nat) (b : Bool), v = .bool b ∧ wr.heap[w.heap.size]? = some (.stringIter s pos) ∧ Below w.heap.size w wr ∧ pos ≤ s.size ∧ ((pos = 0 ∧ b = false) ∨ (0 < pos ∧ scan b pos (s.data.toList.drop pos) = scan false 1 s.data.toList.tail))) (fun _ wr => s.size - wr.iterPos w.heap.size)
  case atStart =>
    exact ⟨0, false, rfl, World.iter_heap w s 0, (Below.refl _ w).alloc (Nat.le_refl _) _, Nat.zero_le _, .inl ⟨rfl, rfl⟩⟩
  case round =>
    obtain ⟨pos, b, rfl, hit, hbw, hps, hgo⟩ := hrel
    have hsz : w.heap.size < wr.heap.size := (Array.getElem?_eq_some_iff.1 hit).1
    by_cases hp : pos < s.size
    · have hnx : ∀ ty, (Instr.next (.pointer (some ⟨w.heap.size, 0, none⟩)) true ty).run Tryd.prog wr = _ := fun ty => Lib.run_next_any_at wr w.heap.size s pos ty hit hp
      have hwd := dec_pos s pos
      have hle := dec_le s pos hp
      have hd1 := decode_le s pos
      have hit2 := Lib.iterAt_heap wr w.heap.size s pos (pos + (Utf8.decode s pos).2) hit
      have hbw2 := Lib.below_iterAt hbw (k := w.heap.size) (Nat.le_refl _) s (pos + (Utf8.decode s pos).2)
      rcases hgo with ⟨hz, hb⟩ | ⟨hz, hgo⟩
      · subst hz
        subst hb
        have hw1 : (Utf8.decode s 0).2 = 1 := by rw [Hd0.out]
        have Hw1 := Lib.hid hw1
        rw [Nat.zero_add] at hit2 hbw2 hle
        clear hw1
        go_wp2
        go_roundw
        case rel =>
          refine ⟨(Utf8.decode s 0).2, false, rfl, hit2, hbw2, hle, .inr ⟨by omega, ?_⟩⟩
          rw [Hw1.out]
          exact Hsc.out
        case measure => rw [iterPos_at hit2, iterPos_at hit]; omega
      · have hst := scan_rune s pos hp b
        rw [hgo] at hst
        have Hst := Lib.hid hst
        have z0 : ((pos : Int) == 0) = false := by rw [beq_eq_false_iff_ne]; omega
        clear hgo hst
        by_cases c10 : (Utf8.decode s pos).1 = 10
        · have Hr := Lib.hid (show quotedL s.data.toList = [] by rw [Hq.out, Hst.out, if_pos c10])
          have q10 : (((Utf8.decode s pos).1 : Int) == 10) = true := by rw [beq_iff_eq]; omega
          clear c10
          go_wp2
          go_ret
          exact ⟨_, rfl, by rw [Hr.out], hbw2⟩
        · have q10 : (((Utf8.decode s pos).1 : Int) == 10) = false := by rw [beq_eq_false_iff_ne]; omega
          cases b
          · by_cases c92 : (Utf8.decode s pos).1 = 92
            · have Hr := Lib.hid (show scan true (pos + (Utf8.decode s pos).2) (s.data.toList.drop (pos + (Utf8.decode s pos).2)) = scan false 1 s.data.toList.tail by
                rw [Hst.out, if_neg c10, if_neg (by simp), if_pos c92])
              have q92 : (((Utf8.decode s pos).1 : Int) == 92) = true := by rw [beq_iff_eq]; omega
              clear c10 c92
              go_wp2
              go_roundw
              case rel => exact ⟨_, true, rfl, hit2, hbw2, hle, .inr ⟨by omega, Hr.out⟩⟩
              case measure => rw [iterPos_at hit2, iterPos_at hit]; omega
            · have q92 : (((Utf8.decode s pos).1 : Int) == 92) = false := by rw [beq_eq_false_iff_ne]; omega
              by_cases c34 : (Utf8.decode s pos).1 = 34
              · have Hr := Lib.hid (show quotedL s.data.toList = s.data.toList.take (pos + 1) by
                  rw [Hq.out, Hst.out, if_neg c10, if_neg (by simp), if_neg c92, if_pos c34])
                have q34 : (((Utf8.decode s pos).1 : Int) == 34) = true := by rw [beq_iff_eq]; omega
                clear c10 c92 c34
                go_wp2
                go_ret
                refine ⟨_, rfl, ?_, hbw2⟩
                rw [Hr.out, Lib.extract_data]
                simp
              · have Hr := Lib.hid (show scan false (pos + (Utf8.decode s pos).2) (s.data.toList.drop (pos + (Utf8.decode s pos).2)) = scan false 1 s.data.toList.tail by
                  rw [Hst.out, if_neg c10, if_neg (by simp), if_neg c92, if_neg c34])
                have q34 : (((Utf8.decode s pos).1 : Int) == 34) = false := by rw [beq_eq_false_iff_ne]; omega
                clear c10 c92 c34
                go_wp2
                go_roundw
                case rel => exact ⟨_, false, rfl, hit2, hbw2, hle, .inr ⟨by omega, Hr.out⟩⟩
                case measure => rw [iterPos_at hit2, iterPos_at hit]; omega
          · have Hr := Lib.hid (show scan false (pos + (Utf8.decode s pos).2) (s.data.toList.drop (pos + (Utf8.decode s pos).2)) = scan false 1 s.data.toList.tail by
              rw [Hst.out, if_neg c10, if_pos rfl])
            clear c10
            go_wp2
            go_roundw
            case rel => exact ⟨_, false, rfl, hit2, hbw2, hle, .inr ⟨by omega, Hr.out⟩⟩
            case measure => rw [iterPos_at hit2, iterPos_at hit]; omega
    · have hnx : ∀ ty, (Instr.next (.pointer (some ⟨w.heap.size, 0, none⟩)) true ty).run Tryd.prog wr = _ := fun ty => Lib.run_next_end_at wr w.heap.size s pos ty hit hp
      have Hr := Lib.hid (show quotedL s.data.toList = [] by
        rcases hgo with ⟨hz, _⟩ | ⟨_, hgo⟩
        · omega
        · rw [Hq.out, ← hgo, scan_end s pos hp])
      clear hgo
      go_wp2
      go_ret
      exact ⟨_, rfl, by rw [Hr.out], hbw⟩
end Go.Proofs.YtohmlhbmjamecaaDoor
