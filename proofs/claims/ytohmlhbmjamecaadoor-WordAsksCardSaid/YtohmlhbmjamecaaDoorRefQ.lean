/- The references' runes and quotes (changelingref1: One, Part, Quote, Plain, Bad), over this seat's translation. -/
import Derived.Test.YtohmlhbmjamecaaDoorOneA
import Derived.Test.YtohmlhbmjamecaaDoorOneB
import Derived.Test.YtohmlhbmjamecaaDoorOneC
import Derived.Test.YtohmlhbmjamecaaDoorOneD
import Derived.Test.YtohmlhbmjamecaaDoorOneE
import Derived.Test.YtohmlhbmjamecaaDoorOneF
import Derived.Test.YtohmlhbmjamecaaDoorRef
import Derived.Test.YtohmlhbmjamecaaDoorPure2
namespace Go.Proofs.YtohmlhbmjamecaaDoor
open Go.RowKit P

set_option maxHeartbeats 8000000 in
set_option maxRecDepth 100000 in
theorem one_low (s : ByteArray) (pos : Nat) (w : World) (hp : pos < s.size) (h1 : (s[pos]'hp).toNat < 128) :
    Calls Tryd.prog 38 #[.string s, .int .i64 pos] w fun e w' => e = .returned (oneV (Utf8.decode s pos)) ∧ Below w.heap.size w w' := by
  have Hres := Lib.hid (decode_ascii s pos hp h1)
  have Hv := Lib.hid (show oneV ((s[pos]'hp).toNat, 1) = .agg #[.int .i32 ((s[pos]'hp).toNat : Int), .int .i64 1, .bool false] by
    unfold oneV
    have : ((s[pos]'hp).toNat == 65533) = false := by rw [beq_eq_false_iff_ne]; omega
    simp [this])
  go_enter Tryd.func38, Tryd.ntmps38
  go_wp2
  rw [Hres.out, Hv.out]
  exact bodyPost_ret (v := .agg #[.int .i32 ((s[pos]'hp).toNat : Int), .int .i64 1, .bool false]) (by simp [results, Tryd.results38, go_sem]) rfl ⟨rfl, (Below.refl _ _).alloc (Nat.le_refl _) _⟩

set_option maxHeartbeats 8000000 in
set_option maxRecDepth 100000 in
theorem one_none (s : ByteArray) (pos : Nat) (w : World) (hp : pos < s.size) (h1 : 128 ≤ (s[pos]'hp).toNat) (h2 : (s[pos]'hp).toNat ≤ 193 ∨ 245 ≤ (s[pos]'hp).toNat) :
    Calls Tryd.prog 38 #[.string s, .int .i64 pos] w fun e w' => e = .returned (oneV (Utf8.decode s pos)) ∧ Below w.heap.size w w' := by
  have hb0 := bAt_eq s pos hp
  have hl0 := bAt_lt s pos
  have hl1 := bAt_lt s (pos + 1)
  have hl2 := bAt_lt s (pos + 2)
  have hl3 := bAt_lt s (pos + 3)
  have Hres := Lib.hid (show Utf8.decode s pos = (65533, 1) by
    rw [dec_N]
    unfold Lib.decodeN
    repeat' split
    all_goals first | rfl | (exfalso; omega))
  clear hl0 hl1 hl2 hl3 hb0
  rcases h2 with h2 | h2
  all_goals
    go_enter Tryd.func38, Tryd.ntmps38
    go_wp2
    rw [Hres.out, oneV_bad]
    exact bodyPost_ret (v := .agg #[.int .i32 65533, .int .i64 1, .bool true]) (by simp [results, Tryd.results38, go_sem]) rfl ⟨rfl, (Below.refl _ _).alloc (Nat.le_refl _) _⟩

/-- The rune that stands at a place. -/
theorem one_any (s : ByteArray) (pos : Nat) (w : World) (hs : s.size ≤ 1000000000000) (hp : pos < s.size) :
    Calls Tryd.prog 38 #[.string s, .int .i64 pos] w fun e w' => e = .returned (oneV (Utf8.decode s pos)) ∧ Below w.heap.size w w' := by
  have h256 : (s[pos]'hp).toNat < 256 := (s[pos]'hp).toNat_lt
  generalize hb : (s[pos]'hp).toNat = b at h256
  by_cases c1 : b < 128
  · exact one_low s pos w hp (by omega)
  by_cases c2 : b ≤ 193 ∨ 245 ≤ b
  · exact one_none s pos w hp (by omega) (by omega)
  by_cases c3 : b ≤ 223
  · exact one_c2 s pos w hs hp (by omega) (by omega)
  by_cases c4 : b ≤ 224
  · exact one_e0 s pos w hs hp (by omega) (by omega)
  by_cases c5 : b ≤ 236
  · exact one_e1 s pos w hs hp (by omega) (by omega)
  by_cases c6 : b ≤ 237
  · exact one_ed s pos w hs hp (by omega) (by omega)
  by_cases c7 : b ≤ 239
  · exact one_ee s pos w hs hp (by omega) (by omega)
  by_cases c8 : b ≤ 240
  · exact one_f0 s pos w hs hp (by omega) (by omega)
  by_cases c9 : b ≤ 243
  · exact one_f1 s pos w hs hp (by omega) (by omega)
  · exact one_f4 s pos w hs hp (by omega) (by omega)
end Go.Proofs.YtohmlhbmjamecaaDoor
