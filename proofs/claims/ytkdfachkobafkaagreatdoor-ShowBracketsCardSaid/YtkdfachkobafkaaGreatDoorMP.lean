/- Methods of strings.Builder as the reckoner takes them: copyCheck, String. -/
import Derived.Test.YtkdfachkobafkaaGreatDoorMK
import Derived.Test.YtkdfachkobafkaaGreatDoorProg
import Derived.WalkKit
import Derived.Laws.Externs
import Derived.Laws.IdiomCopy
import Derived.Lib.Builder
import Derived.Shelf.RegionOpenPlain
namespace Go.Proofs.YtkdfachkobafkaaGreatDoor
open Go Go.RowKit

theorem bld_size : (Tryz.prog.info? 70).map (·.size) = some 2 := by kernel_rfl
theorem bld_lies : liesAt Tryz.prog Tryz.prog.depth 70 (2 / Tryz.prog.cellsOf 70) 0 70 1 = true := by kernel_rfl
theorem cells_byte : Tryz.prog.cellsOf 5 = 1 := by kernel_rfl

set_option maxHeartbeats 1000000 in
set_option maxRecDepth 100000 in
theorem check_used (b : Nat) (w : World) (h0 : w.cell? ⟨b, 0, none⟩ = some (.pointer (some ⟨b, 0, none⟩))) :
    Calls Tryz.prog 72 #[.pointer (some ⟨b, 0, none⟩)] w fun e w' => e = .returned (.tuple #[]) ∧ w' = w := by
  obtain ⟨j, hj, _⟩ := Option.map_eq_some_iff.1 bld_size
  go_enter Tryz.func72, Tryz.ntmps72
  go_wp2
  rw [Lib.run_neq_ptr_same w _ Tryz.underlying67 hj]
  go_wp2
  go_end0
  exact ⟨rfl, rfl⟩

set_option maxHeartbeats 1000000 in
set_option maxRecDepth 100000 in
theorem check_fresh (b : Nat) (w : World) (h0 : w.cell? ⟨b, 0, none⟩ = some (.pointer none)) (hsh : w.shape? b = some (70, 2)) (hfz : w.frozen? ⟨b, 0, none⟩ = false) :
    Calls Tryz.prog 72 #[.pointer (some ⟨b, 0, none⟩)] w fun e w' => e = .returned (.tuple #[]) ∧ w' = w.setCell ⟨b, 0, none⟩ (.pointer (some ⟨b, 0, none⟩)) := by
  obtain ⟨j, hj, hjs⟩ := Option.map_eq_some_iff.1 bld_size
  go_enter Tryz.func72, Tryz.ntmps72
  go_wp2
  rw [Lib.run_to_unsafe w ⟨b, 0, none⟩ Tryz.underlying67 Tryz.underlying156 hj (by rw [hjs]; decide) hsh (Nat.zero_lt_succ 1)]
  simp only [Result.andThen]
  rw [Oper.upon_value]
  go_wp2
  rw [run_callFunc_extern Tryz.func118 (by kernel_rfl) (by kernel_rfl) (by kernel_rfl) (e := Extern.AbiNoEscape.same) (by kernel_rfl)]
  rw [Lib.run_noEscape]
  simp only [Result.andThen]
  rw [Oper.upon_value]
  go_wp2
  rw [Lib.run_from_unsafe w ⟨b, 0, none⟩ Tryz.underlying156 Tryz.underlying67 hj hsh bld_lies]
  simp only [Result.andThen]
  rw [Oper.upon_value]
  go_wp2
  go_end0
  exact ⟨rfl, rfl⟩

set_option maxHeartbeats 1000000 in
set_option maxRecDepth 100000 in
theorem string_nil (b : Nat) (x : Value) (w : World) (hbk : w.heap[b]? = some (.cells #[x, .slice none 0 0] 70 (0, 0))) :
    Calls Tryz.prog 34 #[.pointer (some ⟨b, 0, none⟩)] w fun e w' => e = .returned (.string ⟨#[]⟩) ∧ w' = w.drew := by
  have c1 : w.drew.cell? ⟨b, 1, none⟩ = some (.slice none 0 0) := by
    have : w.drew.heap[b]? = some (.cells #[x, .slice none 0 0] 70 (0, 0)) := hbk
    rw [Lib.cell_of_heap this]; rfl
  have hSD : (Builtin.unsafeSliceData_ #[68] 117 #[.slice none 0 0]).run Tryz.prog w.drew = .ok (.pointer none) w.drew := rfl
  have hUS := Lib.run_unsafeString_none (P := Tryz.prog) w.drew 117 3 9 none
  have mixed := Tryz.checked.mixed
  go_enter Tryz.func34, Tryz.ntmps34
  go_wp2
  go_region_o
  all_goals (go_wp2; go_ret; exact ⟨rfl, rfl⟩)

set_option maxHeartbeats 1000000 in
set_option maxRecDepth 100000 in
theorem string_row (b : Nat) (x : Value) (g cap : Nat) (cur : Array Value) (l : List UInt8) (w : World) (hbk : w.heap[b]? = some (.cells #[x, .slice (some ⟨g, 0, none⟩) l.length cap] 70 (0, 0))) (hg : w.heap[g]? = some (.cells cur 5 (0, 0))) (h0 : l ≠ []) (hl : l.length ≤ 1000000) (hc : l.length ≤ cap) (hn : l.length ≤ cur.size) (hget : ∀ (j : Nat) (u : UInt8), l[j]? = some u → cur[j]? = some (Value.int .u8 u.toNat)) :
    Calls Tryz.prog 34 #[.pointer (some ⟨b, 0, none⟩)] w fun e w' => e = .returned (.string ⟨l.toArray⟩) ∧ w' = w.drew.freeze ⟨g, 0, none⟩ l.length := by
  have hl0 : l.length ≠ 0 := by simpa using h0
  have c1 : w.drew.cell? ⟨b, 1, none⟩ = some (.slice (some ⟨g, 0, none⟩) l.length cap) := by
    have : w.drew.heap[b]? = some (.cells #[x, .slice (some ⟨g, 0, none⟩) l.length cap] 70 (0, 0)) := hbk
    rw [Lib.cell_of_heap this]; rfl
  have hSD : (Builtin.unsafeSliceData_ #[68] 117 #[.slice (some ⟨g, 0, none⟩) l.length cap]).run Tryz.prog w.drew = .ok (.pointer (some ⟨g, 0, none⟩)) w.drew :=
    Lib.run_unsafeSliceData_row _ _ _ _ _ _ (by omega)
  have hg' : w.drew.heap[g]? = some (.cells cur 5 (0, 0)) := hg
  have hUS : (Builtin.unsafeString_ #[117, 3] 9 #[.pointer (some ⟨g, 0, none⟩), .int .i64 l.length]).run Tryz.prog w.drew = .ok (.string ⟨l.toArray⟩) (w.drew.freeze ⟨g, 0, none⟩ l.length) := by
    refine Lib.run_unsafeString_row w.drew 117 3 9 5 Tryz.underlying117 cells_byte g cur.size (by simp [World.shape?, hg']) l h0 hn (by omega) ?_
    intro j u hu
    have := hget j u hu
    rw [Addr.add_lit]
    simpa [World.cell?, hg'] using this
  have mixed := Tryz.checked.mixed
  go_enter Tryz.func34, Tryz.ntmps34
  go_wp2
  go_region_o
  all_goals (go_wp2; go_ret; exact ⟨rfl, rfl⟩)
namespace E
noncomputable section
/-- The methods. -/
def Pr : PO := fun f xs H => List.rec none (fun p t _ => List.rec (cond (Nat.beq f 72) (prCheck 70 p H) (cond (Nat.beq f 34) (prString 70 5 p H) none)) (fun _ _ _ => none) t) xs
theorem good_check : Good Tryz.prog 72 := ⟨_, _, Tryz.func72, rfl, by decide +kernel⟩
theorem good_string : Good Tryz.prog 34 := ⟨_, _, Tryz.func34, rfl, by decide +kernel⟩
theorem Pok : POk Tryz.prog Pr := by
  intro f xs H r hr
  match xs, hr with
  | [p], hr =>
    have hr : cond (Nat.beq f 72) (prCheck 70 p H) (cond (Nat.beq f 34) (prString 70 5 p H) none) = some r := hr
    cases h1 : Nat.beq f 72 with
    | true =>
      rw [h1] at hr
      have h1 := Nat.eq_of_beq_eq_true h1
      subst h1
      exact ⟨good_check, fun g w ys hH hv => prCheck_ok (by decide) check_fresh check_used hr hH hv⟩
    | false =>
      rw [h1] at hr
      cases h2 : Nat.beq f 34 with
      | false => rw [h2] at hr; cases hr
      | true =>
        rw [h2] at hr
        have h2 := Nat.eq_of_beq_eq_true h2
        subst h2
        exact ⟨good_string, fun g w ys hH hv => prString_ok (by decide) (by decide) string_nil string_row hr hH hv⟩
end
end E
end Go.Proofs.YtkdfachkobafkaaGreatDoor
