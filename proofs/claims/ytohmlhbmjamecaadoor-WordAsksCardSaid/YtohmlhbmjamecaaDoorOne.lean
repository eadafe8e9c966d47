/- changelingref1.One: the rune that stands at a place is the model's own, over this seat's translation. -/
import Derived.Test.YtohmlhbmjamecaaDoorSignP
import Derived.Laws.BitsLemmas
namespace Go.Proofs.YtohmlhbmjamecaaDoor
open Go.RowKit P

def bAt (s : ByteArray) (i : Nat) : Nat := (s.data.toList.getD i 0).toNat
theorem bAt_eq (s : ByteArray) (i : Nat) (h : i < s.size) : (s[i]'h).toNat = bAt s i := by
  unfold bAt
  have : i < s.data.toList.length := by rw [size_list]; exact h
  rw [List.getD_eq_getElem?_getD, List.getElem?_eq_getElem this]
  rfl
theorem bAt_lt (s : ByteArray) (i : Nat) : bAt s i < 256 := (s.data.toList.getD i 0).toNat_lt
def racc (m : Nat) (b : Nat → Nat) : Nat → Nat
  | 0 => m
  | k + 1 => racc m b k * 64 + b (k + 1) % 64
theorem dec_N (s : ByteArray) (pos : Nat) : Utf8.decode s pos = Lib.decodeN (s.size - pos) (bAt s pos) (bAt s (pos + 1)) (bAt s (pos + 2)) (bAt s (pos + 3)) := by
  rw [Lib.decode_N, size_list]
  rfl
def oneV (d : Nat × Nat) : Value := .agg #[.int .i32 d.1, .int .i64 d.2, .bool (d.1 == 65533 && d.2 == 1)]
theorem oneV_bad : oneV (65533, 1) = .agg #[.int .i32 65533, .int .i64 1, .bool true] := rfl
theorem mask5 (x : Nat) (h : x < 256) : bits .and .i32 (x : Int) 31 = ((x % 32 : Nat) : Int) := by
  rw [show ((31 : Int)) = 2 ^ 5 - 1 from rfl, bits_mask .i32 31 (by decide) wraps_i32 5 (by decide) (x : Int) (by omega) (by omega)]
  omega
theorem mask4 (x : Nat) (h : x < 256) : bits .and .i32 (x : Int) 15 = ((x % 16 : Nat) : Int) := by
  rw [show ((15 : Int)) = 2 ^ 4 - 1 from rfl, bits_mask .i32 31 (by decide) wraps_i32 4 (by decide) (x : Int) (by omega) (by omega)]
  omega
theorem mask3 (x : Nat) (h : x < 256) : bits .and .i32 (x : Int) 7 = ((x % 8 : Nat) : Int) := by
  rw [show ((7 : Int)) = 2 ^ 3 - 1 from rfl, bits_mask .i32 31 (by decide) wraps_i32 3 (by decide) (x : Int) (by omega) (by omega)]
  omega
theorem wraps_i64 (n : Int) (h₀ : 0 ≤ n) (h₁ : n < 2 ^ 63) : IntKind.i64.wrap n = n := by rw [IntKind.wrap_i64]; omega
theorem mask6 (x : Nat) (h : x < 256) : bits .and .i64 (x : Int) 63 = ((x % 64 : Nat) : Int) := by
  rw [show ((63 : Int)) = 2 ^ 6 - 1 from rfl, bits_mask .i64 63 (by decide) wraps_i64 6 (by decide) (x : Int) (by omega) (by omega)]
  omega
theorem join6 (r x : Nat) (h : r < 1000000) : bits .or .i32 ((r : Int) * 64) ((x % 64 : Nat) : Int) = ((r * 64 + x % 64 : Nat) : Int) := by
  have e := i32_or6 (x := (r : Int) * 64) (y := ((x % 64 : Nat) : Int)) (by omega) (by omega) (by omega) (by omega) (by omega)
  rw [e]
  omega
end Go.Proofs.YtohmlhbmjamecaaDoor
