/- The references' quotes (changelingref1: Part, Quote, Plain, Bad), over this seat's translation. -/
import Derived.Test.YtohmlhbmjamecaaDoorRefQ
import Derived.WalkSpells
namespace Go.Proofs.YtohmlhbmjamecaaDoor
open Go.RowKit P

def badAt (s : ByteArray) (pos : Nat) : Bool := (Utf8.decode s pos).1 == 65533 && (Utf8.decode s pos).2 == 1
theorem oneV_at (s : ByteArray) (pos : Nat) (b : Bool) (h : badAt s pos = b) : oneV (Utf8.decode s pos) = .agg #[.int .i32 ((Utf8.decode s pos).1 : Int), .int .i64 ((Utf8.decode s pos).2 : Int), .bool b] := by
  rw [← h]; rfl
theorem badAt_chunk (s : ByteArray) (pos : Nat) (h : pos < s.size) : isBad ((Utf8.decode s pos).1, (s.data.toList.drop pos).take (Utf8.decode s pos).2) = badAt s pos := by
  rw [isBad_at s pos h]
  unfold badAt
  rw [Bool.eq_iff_iff]
  simp
  omega
theorem good_bytes (s : ByteArray) (pos : Nat) (h : pos < s.size) (hb : badAt s pos = false) : (s.data.toList.drop pos).take (Utf8.decode s pos).2 = Lib.encodeRune ((Utf8.decode s pos).1 : Int) := by
  rw [← badAt_chunk s pos h] at hb
  exact chunk_good (s.data.toList.drop pos) _ (by rw [chunks_at s pos h]; simp) hb
theorem bad_rune (s : ByteArray) (pos : Nat) (hb : badAt s pos = true) : (Utf8.decode s pos).1 = 65533 ∧ (Utf8.decode s pos).2 = 1 := by
  unfold badAt at hb
  simpa using hb
/-- The bytes of the rune at a place. -/
theorem good_cut (s : ByteArray) (pos : Nat) (h : pos < s.size) (hb : badAt s pos = false) : (s.extract pos (pos + (Utf8.decode s pos).2)).data.toList = Lib.encodeRune ((Utf8.decode s pos).1 : Int) := by
  rw [Lib.extract_data, ← good_bytes s pos h hb]
  congr 1
  omega

set_option maxHeartbeats 4000000 in
set_option maxRecDepth 100000 in
theorem part_any (s : ByteArray) (pos : Nat) (w : World) (hs : s.size ≤ 1000000000000) (hp : pos < s.size) :
    Calls Tryd.prog 44 #[.string s, .int .i64 pos] w fun e w' => ∃ p : ByteArray, e = .returned (.tuple #[.string p, .int .i64 ((Utf8.decode s pos).2 : Int)]) ∧ p.data.toList = Lib.encodeRune ((Utf8.decode s pos).1 : Int) ∧ Below w.heap.size w w' := by
  have hwd := dec_pos s pos
  have hle := dec_le s pos hp
  cases hb : badAt s pos
  · have Hv := Lib.hid (oneV_at s pos false hb)
    have Hc := Lib.hid (good_cut s pos hp hb)
    clear hb
    go_enter Tryd.func44, Tryd.ntmps44
    go_wp2_with fail
    refine (one_any s pos _ hs hp).mono ?_
    rintro e w1 ⟨rfl, b1⟩
    rw [Hv.out]
    go_wp2
    go_region
    all_goals
      go_wp2
      go_ret2
      exact ⟨_, rfl, Hc.out, ((b1.alloc b1.size _).drew)⟩
  · have Hv := Lib.hid (oneV_at s pos true hb)
    obtain ⟨e1, e2⟩ := bad_rune s pos hb
    have H1 := Lib.hid e1
    have H2 := Lib.hid e2
    clear hb e1 e2
    go_enter Tryd.func44, Tryd.ntmps44
    go_wp2_with fail
    refine (one_any s pos _ hs hp).mono ?_
    rintro e w1 ⟨rfl, b1⟩
    rw [Hv.out]
    go_wp2
    go_ret2
    exact ⟨_, by rw [H2.out]; rfl, by rw [H1.out]; decide, b1.alloc b1.size _⟩
end Go.Proofs.YtohmlhbmjamecaaDoor
