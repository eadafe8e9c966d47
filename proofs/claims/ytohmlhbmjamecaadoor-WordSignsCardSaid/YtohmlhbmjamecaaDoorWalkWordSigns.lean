/- changelinglaw2.WordSigns answers true, over this seat's translation. -/
import Derived.Test.YtohmlhbmjamecaaDoorTold2
import Derived.BigQuiet
import Derived.Deep.QuietTactic
namespace Go.Proofs.YtohmlhbmjamecaaDoor
open Go.RowKit P

def sgL : List UInt8 := [123, 125, 40, 41, 59, 44, 46, 61, 60, 43, 45, 42, 37, 33, 35, 64]
theorem sg_pairs : ∀ i < 16, ∀ j < 16,
    ((sgL.getD i 0 = 60 ∧ sgL.getD j 0 = 61) ∨ (sgL.getD i 0 = 61 ∧ sgL.getD j 0 = 61) ∨ (sgL.getD i 0 = 33 ∧ sgL.getD j 0 = 61)) ∨
    (¬ [sgL.getD i 0, sgL.getD j 0] = [60, 61] ∧ ¬ [sgL.getD i 0, sgL.getD j 0] = [61, 61] ∧ ¬ [sgL.getD i 0, sgL.getD j 0] = [33, 61] ∧
      wordsB [sgL.getD i 0, sgL.getD j 0] = .ok [(4, [sgL.getD i 0], 0), (4, [sgL.getD j 0], 1)]) := by decide +kernel
theorem sg_cell (w : World) (t : TypeId) (i : Nat) (h : i < 16) : (w.alloc (.cells #[.string ⟨#[123]⟩, .string ⟨#[125]⟩, .string ⟨#[40]⟩, .string ⟨#[41]⟩, .string ⟨#[59]⟩, .string ⟨#[44]⟩, .string ⟨#[46]⟩, .string ⟨#[61]⟩, .string ⟨#[60]⟩, .string ⟨#[43]⟩, .string ⟨#[45]⟩, .string ⟨#[42]⟩, .string ⟨#[37]⟩, .string ⟨#[33]⟩, .string ⟨#[35]⟩, .string ⟨#[64]⟩] t)).cell? ⟨w.heap.size, i, none⟩ = some (.string ⟨#[sgL.getD i 0]⟩) := by
  rw [World.cell?_alloc_at _ _ _ _ rfl]
  match i, h with
  | 0, _ | 1, _ | 2, _ | 3, _ | 4, _ | 5, _ | 6, _ | 7, _ | 8, _ | 9, _ | 10, _ | 11, _ | 12, _ | 13, _ | 14, _ | 15, _ => rfl
  | n + 16, h => exact absurd h (by omega)
/-- What a number picks. -/
theorem sg_pick (a : Int) : ∃ ua i : Nat, IntKind.u64.wrap a = (ua : Int) ∧ i < 16 ∧ (ua : Int).tmod 16 = (i : Int) := by
  have h := Int.emod_nonneg a (show (2 ^ 64 : Int) ≠ 0 by decide)
  have e : IntKind.u64.wrap a = a % 2 ^ 64 := by simp [IntKind.wrap, IntKind.signed, IntKind.bits]
  refine ⟨(IntKind.u64.wrap a).toNat, (IntKind.u64.wrap a).toNat % 16, by omega, by omega, ?_⟩
  rw [Int.tmod_eq_emod_of_nonneg (by omega)]
  omega

set_option maxHeartbeats 8000000 in
set_option maxRecDepth 100000 in
theorem law_WordSigns (a : Int) (_ha : -9223372036854775808 ≤ a ∧ a ≤ 9223372036854775807) (b : Int) (_hb : -9223372036854775808 ≤ b ∧ b ≤ 9223372036854775807) (w : World) (hT : Lib.Utf8Tabs 0 1 w) :
    Calls Tryd.prog 11 #[.int .i64 a, .int .i64 b] w fun e w' => e = .returned (.bool true) ∧ Below w.heap.size w w' := by
  obtain ⟨ua, i, h1, h2, h3⟩ := sg_pick a
  obtain ⟨ub, j, k1, k2, k3⟩ := sg_pick b
  have hp := Lib.hid (sg_pairs i h2 j k2)
  go_enter Tryd.func11, Tryd.ntmps11
  go_wp2_with fail
  have h4 := sg_cell w 9 i h2
  have k4 := sg_cell w 9 j k2
  have b1 : Below w.heap.size w (w.alloc (.cells #[.string ⟨#[123]⟩, .string ⟨#[125]⟩, .string ⟨#[40]⟩, .string ⟨#[41]⟩, .string ⟨#[59]⟩, .string ⟨#[44]⟩, .string ⟨#[46]⟩, .string ⟨#[61]⟩, .string ⟨#[60]⟩, .string ⟨#[43]⟩, .string ⟨#[45]⟩, .string ⟨#[42]⟩, .string ⟨#[37]⟩, .string ⟨#[33]⟩, .string ⟨#[35]⟩, .string ⟨#[64]⟩] 9)) := (Below.refl _ _).alloc (Nat.le_refl _) _
  generalize w.alloc _ = w1 at h4 k4 b1 ⊢
  generalize sgL.getD i 0 = x at h4 hp
  generalize sgL.getD j 0 = y at k4 hp
  have k16 : IntKind.u64.wrap 16 = 16 := by decide
  have h5 : IntKind.i64.wrap (i : Int) = (i : Int) := IntWalk.i64_in _ (by omega)
  have k5 : IntKind.i64.wrap (j : Int) = (j : Int) := IntWalk.i64_in _ (by omega)
  have h6 : (i : Int) < 16 := by omega
  have k6 : (j : Int) < 16 := by omega
  go_quiet (fail)
  have b2 : Below w.heap.size w (w1.drewN nq) := b1.trans ⟨rfl, rfl, rfl, Nat.le_refl _, fun _ _ => rfl⟩
  generalize w1.drewN nq = w2 at b2 ⊢
  have hT2 := Utf8Tabs_below hT b2
  have z2 := b2.size
  clear h4 k4 b1
  go_wp2_with fail
  have hxy : (ByteArray.mk #[x] ++ ByteArray.mk #[y]).data.toList = [x, y] := by simp
  have hsz : (ByteArray.mk #[x] ++ ByteArray.mk #[y]).size = 2 := by rw [← size_list, hxy]; rfl
  refine (all_any (ByteArray.mk #[x] ++ ByteArray.mk #[y]) _ (by omega) hT2).mono ?_
  intro e w3 h
  rw [hxy] at h
  rcases hp.out with hp1 | ⟨n1, n2, n3, hw⟩
  case inr =>
    obtain ⟨b3, v, rfl, own1, -⟩ := all_ok h (by simp) hw
    clear h hw hp
    obtain ⟨g, cap, rfl⟩ := own_form own1 (by simp)
    have z3 := b3.size
    have B3 := b2.trans (b3.mono z2)
    have q1 : ((ByteArray.mk #[x] ++ ByteArray.mk #[y]).toList == [60, 61]) = false := by rw [beq_eq_false_iff_ne, Lib.toList_data, hxy]; exact n1
    have q2 : ((ByteArray.mk #[x] ++ ByteArray.mk #[y]).toList == [61, 61]) = false := by rw [beq_eq_false_iff_ne, Lib.toList_data, hxy]; exact n2
    have q3 : ((ByteArray.mk #[x] ++ ByteArray.mk #[y]).toList == [33, 61]) = false := by rw [beq_eq_false_iff_ne, Lib.toList_data, hxy]; exact n3
    clear n1 n2 n3 hxy
    go_wp2_with fail
    refine (told2_any _ (Utf8Tabs_below hT B3)).mono ?_
    rintro e w4 ⟨rfl, b4⟩
    have own4 := own_below own1 b4
    obtain ⟨h1, h2, h3⟩ := word_cells own4 0 (by simp)
    obtain ⟨h4, h5, h6⟩ := word_cells own4 1 (by simp)
    simp only [List.getElem_cons_succ, List.getElem_cons_zero, Nat.reduceMul, Nat.reduceAdd] at h1 h2 h3 h4 h5 h6
    clear own1 own4
    go_wp2
    go_ret
    exact ⟨rfl, B3.trans (b4.mono (by omega))⟩
  have hw : wordsB [x, y] = .ok [(4, [x, y], 0)] := by
    rcases hp1 with ⟨rfl, rfl⟩ | ⟨rfl, rfl⟩ | ⟨rfl, rfl⟩ <;> decide +kernel
  have hm := Lib.hid hp1
  obtain ⟨b3, v, rfl, own1, -⟩ := all_ok h (by simp) hw
  clear h hw hp hp1
  obtain ⟨g, cap, rfl⟩ := own_form own1 (by simp)
  have z3 := b3.size
  have B3 := b2.trans (b3.mono z2)
  have q1 : (((ByteArray.mk #[x] ++ ByteArray.mk #[y]).toList == [60, 61]) || ((ByteArray.mk #[x] ++ ByteArray.mk #[y]).toList == [61, 61]) || ((ByteArray.mk #[x] ++ ByteArray.mk #[y]).toList == [33, 61])) = true := by
    rw [Lib.toList_data, hxy]
    rcases hm.out with ⟨rfl, rfl⟩ | ⟨rfl, rfl⟩ | ⟨rfl, rfl⟩ <;> rfl
  have q4 : ((ByteArray.mk #[x, y]).toList == (ByteArray.mk #[x] ++ ByteArray.mk #[y]).toList) = true := by
    rw [Lib.toList_data, Lib.toList_data, hxy]; simp
  have Hxy := Lib.hid hxy
  clear hxy hsz
  go_wp2_with fail
  all_goals (
    refine (told2_any _ (Utf8Tabs_below hT B3)).mono ?_
    rintro e w4 ⟨rfl, b4⟩
    have own4 := own_below own1 b4
    obtain ⟨h1, h2, h3⟩ := word_cells own4 0 (by simp)
    simp only [List.getElem_cons_zero, Nat.reduceMul, Nat.reduceAdd] at h1 h2 h3
    clear own1 own4
    go_wp2
    go_ret
    refine ⟨?_, B3.trans (b4.mono (by omega))⟩
    first | rfl | (rcases hm.out with ⟨rfl, rfl⟩ | ⟨rfl, rfl⟩ | ⟨rfl, rfl⟩ <;> first | rfl | (simp [Lib.toList_data]; done) | (exfalso; have hh := ‹(_ : ByteArray).toList = _›; rw [Lib.toList_data, Hxy.out] at hh; revert hh; decide) | (exfalso; apply ‹¬ (_ : ByteArray).toList = [60, 61]›; rw [Lib.toList_data]; exact Hxy.out) | (exfalso; apply ‹¬ (_ : ByteArray).toList = [61, 61]›; rw [Lib.toList_data]; exact Hxy.out)))
end Go.Proofs.YtohmlhbmjamecaaDoor
