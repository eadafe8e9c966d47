/- changelingref1.One at some lead bytes, over this seat's translation. -/
import Derived.Test.YtohmlhbmjamecaaDoorOne
namespace Go.Proofs.YtohmlhbmjamecaaDoor
open Go.RowKit P

set_option maxHeartbeats 8000000 in
set_option maxRecDepth 100000 in
theorem one_ed (s : ByteArray) (pos : Nat) (w : World) (hs : s.size ≤ 1000000000000) (hp : pos < s.size) (h1 : 237 ≤ (s[pos]'hp).toNat) (h2 : (s[pos]'hp).toNat ≤ 237) :
    Calls Tryd.prog 38 #[.string s, .int .i64 pos] w fun e w' => e = .returned (oneV (Utf8.decode s pos)) ∧ Below w.heap.size w w' := by
  have hb0 := bAt_eq s pos hp
  have hl0 := bAt_lt s pos
  have q224 : (((s[pos]'hp).toNat : Int) == 224) = false := beq_eq_false_iff_ne.2 (by omega)
  have q237 : (((s[pos]'hp).toNat : Int) == 237) = true := by rw [beq_iff_eq]; omega
  have q240 : (((s[pos]'hp).toNat : Int) == 240) = false := beq_eq_false_iff_ne.2 (by omega)
  have q244 : (((s[pos]'hp).toNat : Int) == 244) = false := beq_eq_false_iff_ne.2 (by omega)
  have d223 : decide (((s[pos]'hp).toNat : Int) ≤ 223) = false := by simp; omega
  have d239 : decide (((s[pos]'hp).toNat : Int) ≤ 239) = true := by simp; omega
  have d244 : decide (((s[pos]'hp).toNat : Int) ≤ 244) = true := by simp; omega
  have d128 : decide (((s[pos]'hp).toNat : Int) < 128) = false := by simp; omega
  have g194 : decide (194 ≤ ((s[pos]'hp).toNat : Int)) = true := by simp; omega
  have g224 : decide (224 ≤ ((s[pos]'hp).toNat : Int)) = true := by simp; omega
  have g240 : decide (240 ≤ ((s[pos]'hp).toNat : Int)) = false := by simp; omega
  by_cases hle : pos + 3 ≤ s.size
  · have hm : bits .and .i32 ((s[pos]'hp).toNat : Int) 15 = ((bAt s pos % 16 : Nat) : Int) := by rw [hb0]; exact mask4 _ hl0
    have Hb0 := Lib.hid hb0
    clear hb0
    go_enter Tryd.func38, Tryd.ntmps38
    go_wp2
    clear hm
    go_loop [9, 10] (fun r c => ∃ (k : Nat) (ki : Int), ki = k ∧ 1 ≤ k ∧ k ≤ 3 ∧ c = .int .i64 ki ∧ r = .int .i32 ((racc (bAt s pos % 16) (fun i => bAt s (pos + i)) (k - 1) : Nat) : Int) ∧ (1 < k → 128 ≤ bAt s (pos + 1) ∧ bAt s (pos + 1) ≤ 159) ∧ (2 < k → 128 ≤ bAt s (pos + 2) ∧ bAt s (pos + 2) ≤ 191)) (fun _ c => 3 - (intOf c).toNat)
    case atStart => exact ⟨1, 1, rfl, by omega, by omega, rfl, rfl, by omega, by omega⟩
    case round =>
      obtain ⟨k, ki, hki, hk1, hkn, rfl, rfl, g1, g2⟩ := hrel
      obtain rfl | rfl | rfl : k = 1 ∨ k = 2 ∨ k = 3 := by omega
      · obtain rfl : ki = 1 := by omega
        clear hki
        have hbk := bAt_eq s (pos + 1) (by omega)
        have hlk := bAt_lt s (pos + 1)
        have hl1 := bAt_lt s (pos + 1)
        have hrb : racc (bAt s pos % 16) (fun i => bAt s (pos + i)) 0 < 300 := by simp only [racc]; omega
        by_cases hc : 128 ≤ bAt s (pos + 1) ∧ bAt s (pos + 1) ≤ 159
        · have hm6 := mask6 _ hlk
          have hj6 : bits .or .i32 (((racc (bAt s pos % 16) (fun i => bAt s (pos + i)) 0 : Nat) : Int) * 64) ((bAt s (pos + 1) % 64 : Nat) : Int) = ((racc (bAt s pos % 16) (fun i => bAt s (pos + i)) 1 : Nat) : Int) := join6 _ _ (by omega)
          go_wp2
          go_round
          case rel =>
            first | refine ⟨2, 2, rfl, by omega, by omega, rfl, ?_⟩ | refine ⟨2, by omega, by omega, rfl, ?_⟩
            repeat' apply And.intro
            all_goals first
              | (intro _; omega)
              | omega
              | (show _ = ((racc (bAt s pos % 16) (fun i => bAt s (pos + i)) 0 * 64 + bAt s (pos + 1) % 64 : Nat) : Int); omega)
              | (refine congrArg (Value.int .i32) ?_; show _ = ((racc (bAt s pos % 16) (fun i => bAt s (pos + i)) 0 * 64 + bAt s (pos + 1) % 64 : Nat) : Int); omega)
          case measure => simp [intOf]
        · have Hres := Lib.hid (show Utf8.decode s pos = (65533, 1) by
            have hb0 := Hb0.out
            have hl2 := bAt_lt s (pos + 2)
            have hl3 := bAt_lt s (pos + 3)
            rw [dec_N]
            unfold Lib.decodeN
            repeat' split
            all_goals first | rfl | (exfalso; omega))
          clear hrb
          go_wp2
          all_goals
            rw [Hres.out, oneV_bad]
            exact bodyPost_ret (v := .agg #[.int .i32 65533, .int .i64 1, .bool true]) (by simp [results, Tryd.results38, go_sem]) rfl ⟨rfl, (Below.refl _ _).alloc (Nat.le_refl _) _⟩
      · obtain rfl : ki = 2 := by omega
        clear hki
        have hbk := bAt_eq s (pos + 2) (by omega)
        have hlk := bAt_lt s (pos + 2)
        have hl1 := bAt_lt s (pos + 1)
        have hrb : racc (bAt s pos % 16) (fun i => bAt s (pos + i)) 1 < 20000 := by simp only [racc]; omega
        by_cases hc : 128 ≤ bAt s (pos + 2) ∧ bAt s (pos + 2) ≤ 191
        · have hm6 := mask6 _ hlk
          have hj6 : bits .or .i32 (((racc (bAt s pos % 16) (fun i => bAt s (pos + i)) 1 : Nat) : Int) * 64) ((bAt s (pos + 2) % 64 : Nat) : Int) = ((racc (bAt s pos % 16) (fun i => bAt s (pos + i)) 2 : Nat) : Int) := join6 _ _ (by omega)
          go_wp2
          go_round
          case rel =>
            first | refine ⟨3, 3, rfl, by omega, by omega, rfl, ?_⟩ | refine ⟨3, by omega, by omega, rfl, ?_⟩
            repeat' apply And.intro
            all_goals first
              | (intro _; omega)
              | omega
              | (show _ = ((racc (bAt s pos % 16) (fun i => bAt s (pos + i)) 1 * 64 + bAt s (pos + 2) % 64 : Nat) : Int); omega)
              | (refine congrArg (Value.int .i32) ?_; show _ = ((racc (bAt s pos % 16) (fun i => bAt s (pos + i)) 1 * 64 + bAt s (pos + 2) % 64 : Nat) : Int); omega)
          case measure => simp [intOf]
        · have Hres := Lib.hid (show Utf8.decode s pos = (65533, 1) by
            have hb0 := Hb0.out
            have hl2 := bAt_lt s (pos + 2)
            have hl3 := bAt_lt s (pos + 3)
            rw [dec_N]
            unfold Lib.decodeN
            repeat' split
            all_goals first | rfl | (exfalso; omega))
          clear hrb
          go_wp2
          all_goals
            rw [Hres.out, oneV_bad]
            exact bodyPost_ret (v := .agg #[.int .i32 65533, .int .i64 1, .bool true]) (by simp [results, Tryd.results38, go_sem]) rfl ⟨rfl, (Below.refl _ _).alloc (Nat.le_refl _) _⟩
      · obtain rfl : ki = 3 := by omega
        clear hki
        have Hres := Lib.hid (show Utf8.decode s pos = (racc (bAt s pos % 16) (fun i => bAt s (pos + i)) 2, 3) by
            have hb0 := Hb0.out
            have hl1 := bAt_lt s (pos + 1)
            have hl2 := bAt_lt s (pos + 2)
            have hl3 := bAt_lt s (pos + 3)
            rw [dec_N]
            show _ = (((bAt s pos % 16) * 64 + bAt s (pos + 1) % 64) * 64 + bAt s (pos + 2) % 64, 3)
            unfold Lib.decodeN
            repeat' split
            all_goals first | (apply Prod.ext <;> dsimp only <;> omega) | (exfalso; omega))
        go_wp2
        rw [Hres.out, show oneV (racc (bAt s pos % 16) (fun i => bAt s (pos + i)) 2, 3) = .agg #[.int .i32 ((racc (bAt s pos % 16) (fun i => bAt s (pos + i)) 2 : Nat) : Int), .int .i64 3, .bool false] by simp [oneV]]
        exact bodyPost_ret (v := .agg #[.int .i32 ((racc (bAt s pos % 16) (fun i => bAt s (pos + i)) 2 : Nat) : Int), .int .i64 3, .bool false]) (by simp [results, Tryd.results38, go_sem]) rfl ⟨rfl, (Below.refl _ _).alloc (Nat.le_refl _) _⟩
  · have Hres := Lib.hid (show Utf8.decode s pos = (65533, 1) by
      rw [dec_N]
      unfold Lib.decodeN
      repeat' split
      all_goals first | rfl | (exfalso; omega))
    clear hl0 hb0
    go_enter Tryd.func38, Tryd.ntmps38
    go_wp2
    rw [Hres.out, oneV_bad]
    exact bodyPost_ret (v := .agg #[.int .i32 65533, .int .i64 1, .bool true]) (by simp [results, Tryd.results38, go_sem]) rfl ⟨rfl, (Below.refl _ _).alloc (Nat.le_refl _) _⟩

set_option maxHeartbeats 8000000 in
set_option maxRecDepth 100000 in
theorem one_ee (s : ByteArray) (pos : Nat) (w : World) (hs : s.size ≤ 1000000000000) (hp : pos < s.size) (h1 : 238 ≤ (s[pos]'hp).toNat) (h2 : (s[pos]'hp).toNat ≤ 239) :
    Calls Tryd.prog 38 #[.string s, .int .i64 pos] w fun e w' => e = .returned (oneV (Utf8.decode s pos)) ∧ Below w.heap.size w w' := by
  have hb0 := bAt_eq s pos hp
  have hl0 := bAt_lt s pos
  have q224 : (((s[pos]'hp).toNat : Int) == 224) = false := beq_eq_false_iff_ne.2 (by omega)
  have q237 : (((s[pos]'hp).toNat : Int) == 237) = false := beq_eq_false_iff_ne.2 (by omega)
  have q240 : (((s[pos]'hp).toNat : Int) == 240) = false := beq_eq_false_iff_ne.2 (by omega)
  have q244 : (((s[pos]'hp).toNat : Int) == 244) = false := beq_eq_false_iff_ne.2 (by omega)
  have d223 : decide (((s[pos]'hp).toNat : Int) ≤ 223) = false := by simp; omega
  have d239 : decide (((s[pos]'hp).toNat : Int) ≤ 239) = true := by simp; omega
  have d244 : decide (((s[pos]'hp).toNat : Int) ≤ 244) = true := by simp; omega
  have d128 : decide (((s[pos]'hp).toNat : Int) < 128) = false := by simp; omega
  have g194 : decide (194 ≤ ((s[pos]'hp).toNat : Int)) = true := by simp; omega
  have g224 : decide (224 ≤ ((s[pos]'hp).toNat : Int)) = true := by simp; omega
  have g240 : decide (240 ≤ ((s[pos]'hp).toNat : Int)) = false := by simp; omega
  by_cases hle : pos + 3 ≤ s.size
  · have hm : bits .and .i32 ((s[pos]'hp).toNat : Int) 15 = ((bAt s pos % 16 : Nat) : Int) := by rw [hb0]; exact mask4 _ hl0
    have Hb0 := Lib.hid hb0
    clear hb0
    go_enter Tryd.func38, Tryd.ntmps38
    go_wp2
    clear hm
    go_loop [9, 10] (fun r c => ∃ (k : Nat) (ki : Int), ki = k ∧ 1 ≤ k ∧ k ≤ 3 ∧ c = .int .i64 ki ∧ r = .int .i32 ((racc (bAt s pos % 16) (fun i => bAt s (pos + i)) (k - 1) : Nat) : Int) ∧ (1 < k → 128 ≤ bAt s (pos + 1) ∧ bAt s (pos + 1) ≤ 191) ∧ (2 < k → 128 ≤ bAt s (pos + 2) ∧ bAt s (pos + 2) ≤ 191)) (fun _ c => 3 - (intOf c).toNat)
    case atStart => exact ⟨1, 1, rfl, by omega, by omega, rfl, rfl, by omega, by omega⟩
    case round =>
      obtain ⟨k, ki, hki, hk1, hkn, rfl, rfl, g1, g2⟩ := hrel
      obtain rfl | rfl | rfl : k = 1 ∨ k = 2 ∨ k = 3 := by omega
      · obtain rfl : ki = 1 := by omega
        clear hki
        have hbk := bAt_eq s (pos + 1) (by omega)
        have hlk := bAt_lt s (pos + 1)
        have hl1 := bAt_lt s (pos + 1)
        have hrb : racc (bAt s pos % 16) (fun i => bAt s (pos + i)) 0 < 300 := by simp only [racc]; omega
        by_cases hc : 128 ≤ bAt s (pos + 1) ∧ bAt s (pos + 1) ≤ 191
        · have hm6 := mask6 _ hlk
          have hj6 : bits .or .i32 (((racc (bAt s pos % 16) (fun i => bAt s (pos + i)) 0 : Nat) : Int) * 64) ((bAt s (pos + 1) % 64 : Nat) : Int) = ((racc (bAt s pos % 16) (fun i => bAt s (pos + i)) 1 : Nat) : Int) := join6 _ _ (by omega)
          go_wp2
          go_round
          case rel =>
            first | refine ⟨2, 2, rfl, by omega, by omega, rfl, ?_⟩ | refine ⟨2, by omega, by omega, rfl, ?_⟩
            repeat' apply And.intro
            all_goals first
              | (intro _; omega)
              | omega
              | (show _ = ((racc (bAt s pos % 16) (fun i => bAt s (pos + i)) 0 * 64 + bAt s (pos + 1) % 64 : Nat) : Int); omega)
              | (refine congrArg (Value.int .i32) ?_; show _ = ((racc (bAt s pos % 16) (fun i => bAt s (pos + i)) 0 * 64 + bAt s (pos + 1) % 64 : Nat) : Int); omega)
          case measure => simp [intOf]
        · have Hres := Lib.hid (show Utf8.decode s pos = (65533, 1) by
            have hb0 := Hb0.out
            have hl2 := bAt_lt s (pos + 2)
            have hl3 := bAt_lt s (pos + 3)
            rw [dec_N]
            unfold Lib.decodeN
            repeat' split
            all_goals first | rfl | (exfalso; omega))
          clear hrb
          go_wp2
          all_goals
            rw [Hres.out, oneV_bad]
            exact bodyPost_ret (v := .agg #[.int .i32 65533, .int .i64 1, .bool true]) (by simp [results, Tryd.results38, go_sem]) rfl ⟨rfl, (Below.refl _ _).alloc (Nat.le_refl _) _⟩
      · obtain rfl : ki = 2 := by omega
        clear hki
        have hbk := bAt_eq s (pos + 2) (by omega)
        have hlk := bAt_lt s (pos + 2)
        have hl1 := bAt_lt s (pos + 1)
        have hrb : racc (bAt s pos % 16) (fun i => bAt s (pos + i)) 1 < 20000 := by simp only [racc]; omega
        by_cases hc : 128 ≤ bAt s (pos + 2) ∧ bAt s (pos + 2) ≤ 191
        · have hm6 := mask6 _ hlk
          have hj6 : bits .or .i32 (((racc (bAt s pos % 16) (fun i => bAt s (pos + i)) 1 : Nat) : Int) * 64) ((bAt s (pos + 2) % 64 : Nat) : Int) = ((racc (bAt s pos % 16) (fun i => bAt s (pos + i)) 2 : Nat) : Int) := join6 _ _ (by omega)
          go_wp2
          go_round
          case rel =>
            first | refine ⟨3, 3, rfl, by omega, by omega, rfl, ?_⟩ | refine ⟨3, by omega, by omega, rfl, ?_⟩
            repeat' apply And.intro
            all_goals first
              | (intro _; omega)
              | omega
              | (show _ = ((racc (bAt s pos % 16) (fun i => bAt s (pos + i)) 1 * 64 + bAt s (pos + 2) % 64 : Nat) : Int); omega)
              | (refine congrArg (Value.int .i32) ?_; show _ = ((racc (bAt s pos % 16) (fun i => bAt s (pos + i)) 1 * 64 + bAt s (pos + 2) % 64 : Nat) : Int); omega)
          case measure => simp [intOf]
        · have Hres := Lib.hid (show Utf8.decode s pos = (65533, 1) by
            have hb0 := Hb0.out
            have hl2 := bAt_lt s (pos + 2)
            have hl3 := bAt_lt s (pos + 3)
            rw [dec_N]
            unfold Lib.decodeN
            repeat' split
            all_goals first | rfl | (exfalso; omega))
          clear hrb
          go_wp2
          all_goals
            rw [Hres.out, oneV_bad]
            exact bodyPost_ret (v := .agg #[.int .i32 65533, .int .i64 1, .bool true]) (by simp [results, Tryd.results38, go_sem]) rfl ⟨rfl, (Below.refl _ _).alloc (Nat.le_refl _) _⟩
      · obtain rfl : ki = 3 := by omega
        clear hki
        have Hres := Lib.hid (show Utf8.decode s pos = (racc (bAt s pos % 16) (fun i => bAt s (pos + i)) 2, 3) by
            have hb0 := Hb0.out
            have hl1 := bAt_lt s (pos + 1)
            have hl2 := bAt_lt s (pos + 2)
            have hl3 := bAt_lt s (pos + 3)
            rw [dec_N]
            show _ = (((bAt s pos % 16) * 64 + bAt s (pos + 1) % 64) * 64 + bAt s (pos + 2) % 64, 3)
            unfold Lib.decodeN
            repeat' split
            all_goals first | (apply Prod.ext <;> dsimp only <;> omega) | (exfalso; omega))
        go_wp2
        rw [Hres.out, show oneV (racc (bAt s pos % 16) (fun i => bAt s (pos + i)) 2, 3) = .agg #[.int .i32 ((racc (bAt s pos % 16) (fun i => bAt s (pos + i)) 2 : Nat) : Int), .int .i64 3, .bool false] by simp [oneV]]
        exact bodyPost_ret (v := .agg #[.int .i32 ((racc (bAt s pos % 16) (fun i => bAt s (pos + i)) 2 : Nat) : Int), .int .i64 3, .bool false]) (by simp [results, Tryd.results38, go_sem]) rfl ⟨rfl, (Below.refl _ _).alloc (Nat.le_refl _) _⟩
  · have Hres := Lib.hid (show Utf8.decode s pos = (65533, 1) by
      rw [dec_N]
      unfold Lib.decodeN
      repeat' split
      all_goals first | rfl | (exfalso; omega))
    clear hl0 hb0
    go_enter Tryd.func38, Tryd.ntmps38
    go_wp2
    rw [Hres.out, oneV_bad]
    exact bodyPost_ret (v := .agg #[.int .i32 65533, .int .i64 1, .bool true]) (by simp [results, Tryd.results38, go_sem]) rfl ⟨rfl, (Below.refl _ _).alloc (Nat.le_refl _) _⟩
end Go.Proofs.YtohmlhbmjamecaaDoor
