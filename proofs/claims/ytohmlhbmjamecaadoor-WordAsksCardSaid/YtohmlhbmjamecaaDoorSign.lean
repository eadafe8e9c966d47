/- What the functions of package sign compute, over this seat's translation. -/
import Derived.Test.YtohmlhbmjamecaaDoorPure
import Derived.Test.YtohmlhbmjamecaaDoorBld
import Derived.BigCall
import Derived.Outline
import Derived.Lib.Hide
namespace Go.Proofs.YtohmlhbmjamecaaDoor
open Go.RowKit P

theorem small_any (r : Int) (w : World) : Calls Tryd.prog 17 #[.int .i32 r] w fun e w' => e = .returned (.bool (smallR r)) ∧ w' = w := by
  unfold smallR
  by_cases h1 : 97 ≤ r
  all_goals
    by_cases h2 : r ≤ 122
    all_goals
      go_enter Tryd.func17, Tryd.ntmps17
      go_wp2
      go_ret
      exact ⟨by simp [h1, h2], rfl⟩
theorem big_any (r : Int) (w : World) : Calls Tryd.prog 19 #[.int .i32 r] w fun e w' => e = .returned (.bool (bigR r)) ∧ w' = w := by
  unfold bigR
  by_cases h1 : 65 ≤ r
  all_goals
    by_cases h2 : r ≤ 90
    all_goals
      go_enter Tryd.func19, Tryd.ntmps19
      go_wp2
      go_ret
      exact ⟨by simp [h1, h2], rfl⟩
theorem digit_any (r : Int) (w : World) : Calls Tryd.prog 21 #[.int .i32 r] w fun e w' => e = .returned (.bool (digitR r)) ∧ w' = w := by
  unfold digitR
  by_cases h1 : 48 ≤ r
  all_goals
    by_cases h2 : r ≤ 57
    all_goals
      go_enter Tryd.func21, Tryd.ntmps21
      go_wp2
      go_ret
      exact ⟨by simp [h1, h2], rfl⟩

/-! ### the reserved words -/
def keptS : List ByteArray := keptL.map fun l => ⟨l.toArray⟩

/-- The cells of a literal of texts. -/
theorem lit_cells (w : World) (zs : List ByteArray) (t : TypeId) (j : Nat) (hj : j < zs.length) :
    (w.alloc (.cells (zs.map Value.string).toArray t)).cell? ⟨w.heap.size, 0 + j, none⟩ = some (.string (zs.getD j ByteArray.empty)) := by
  have h : (w.alloc (.cells (zs.map Value.string).toArray t)).heap[w.heap.size]? = some (.cells (zs.map Value.string).toArray t (0, 0)) := heap_alloc_new w _
  rw [Lib.cell_of_heap h]
  simp [List.getElem?_eq_getElem hj, List.getD_eq_getElem?_getD]

theorem size_inj (a b : ByteArray) (h : a.data.toList = b.data.toList) : a = b := by
  cases a; cases b; simp_all

theorem containsS_map (ls : List (List UInt8)) (s : ByteArray) : Lib.containsS (ls.map fun l => ⟨l.toArray⟩) s = ls.contains s.data.toList := by
  rw [Bool.eq_iff_iff, Lib.containsS_iff, List.contains_iff_mem, List.mem_map]
  constructor
  · rintro ⟨l, hl, rfl⟩
    simpa using hl
  · intro h
    exact ⟨_, h, size_inj _ _ (by simp)⟩

set_option maxHeartbeats 1000000 in
set_option maxRecDepth 100000 in
theorem fixed_any (s : ByteArray) (w : World) : Calls Tryd.prog 40 #[.string s] w fun e w' => e = .returned (.bool (keptB s.data.toList)) ∧ Below w.heap.size w w' := by
  have hk : Lib.containsS (keptS.take 24) s = keptB s.data.toList := containsS_map keptL s
  have H := Lib.hid hk
  clear hk
  go_enter Tryd.func40, Tryd.ntmps40
  go_wp2_with fail
  refine (Tryd.slices_Contains_string w.heap.size 0 24 24 keptS s _ (by decide) (by decide) (fun j hj => lit_cells w keptS 9 j hj)).mono ?_
  rintro e w' ⟨rfl, rfl⟩
  rw [H.out]
  go_wp2
  go_ret
  exact ⟨rfl, (Below.refl _ _).alloc (Nat.le_refl _) _⟩

/-! ### a range over a text: what a round needs -/
theorem size_list (s : ByteArray) : s.data.toList.length = s.size := by simp
theorem dec_pos (s : ByteArray) (pos : Nat) : 1 ≤ (Utf8.decode s pos).2 := Lib.width_pos s pos
theorem dec_le (s : ByteArray) (pos : Nat) (h : pos < s.size) : pos + (Utf8.decode s pos).2 ≤ s.size := by
  have hl := size_list s
  have hne : s.data.toList.drop pos ≠ [] := by
    intro e
    have := congrArg List.length e
    rw [List.length_drop] at this
    simp at this
    omega
  have := Lib.decodeL_le _ hne
  rw [Lib.decodeL_drop, List.length_drop] at this
  omega
theorem iterPos_at {w : World} {k : Nat} {s : ByteArray} {pos : Nat} (h : w.heap[k]? = some (.stringIter s pos)) : w.iterPos k = pos := by
  simp only [World.iterPos, h]
end Go.Proofs.YtohmlhbmjamecaaDoor
