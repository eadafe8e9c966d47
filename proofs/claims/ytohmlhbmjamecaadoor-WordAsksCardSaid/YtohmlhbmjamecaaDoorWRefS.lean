/- changelingref1.one at a quote and at a sign, over this seat's translation. -/
import Derived.Test.YtohmlhbmjamecaaDoorWRefO
import Derived.Test.YtohmlhbmjamecaaDoorPureB
namespace Go.Proofs.YtohmlhbmjamecaaDoor
open Go.RowKit P

theorem sign_find (m : Nat) (l : List UInt8) (hl : m ≤ l.length) : ∀ ws : List (List UInt8), (∀ w ∈ ws, w.length = m) → ws.find? (fun w => w.isPrefixOf l) = if ws.contains (l.take m) then some (l.take m) else none
  | [], _ => rfl
  | w :: ws, h => by
    have hw := h w List.mem_cons_self
    have ih := sign_find m l hl ws (fun x hx => h x (List.mem_cons_of_mem _ hx))
    rw [List.find?_cons]
    by_cases e : w.isPrefixOf l = true
    · have e2 := prefix_take (List.isPrefixOf_iff_prefix.1 e)
      rw [hw] at e2
      rw [e, e2]
      simp
    · have e2 : ¬ l.take m = w := fun q => e (List.isPrefixOf_iff_prefix.2 (by rw [← q]; exact List.take_prefix _ _))
      have e3 : w.isPrefixOf l = false := Bool.eq_false_iff.2 e
      rw [e3, ih]
      simp only [List.contains_cons]
      have e4 : (l.take m == w) = false := by simpa using e2
      rw [e4, Bool.false_or]
theorem sign_find0 (m : Nat) (l : List UInt8) (hl : l.length < m) : ∀ ws : List (List UInt8), (∀ w ∈ ws, w.length = m) → ws.find? (fun w => w.isPrefixOf l) = none
  | [], _ => rfl
  | w :: ws, h => by
    have hw := h w List.mem_cons_self
    rw [List.find?_cons]
    have e3 : w.isPrefixOf l = false := by
      by_cases e : w.isPrefixOf l = true
      · have := (List.isPrefixOf_iff_prefix.1 e).length_le
        omega
      · exact Bool.eq_false_iff.2 e
    rw [e3]
    exact sign_find0 m l hl ws (fun x hx => h x (List.mem_cons_of_mem _ hx))
def ones2 : List (List UInt8) := [[123], [125], [40], [41], [59], [44], [46], [61], [60], [43], [45], [42], [47], [37], [33], [35], [64]]
theorem ones_same (x : List UInt8) : ones.contains x = ones2.contains x := by
  rw [Bool.eq_iff_iff, List.contains_iff_mem, List.contains_iff_mem]
  have h1 : ∀ x ∈ ones, x ∈ ones2 := by decide
  have h2 : ∀ x ∈ ones2, x ∈ ones := by decide
  exact ⟨h1 x, h2 x⟩
theorem signO_two (l : List UInt8) (h : 2 ≤ l.length) (ht : twos.contains (l.take 2) = true) : signO l = some (l.take 2) := by
  unfold signO
  rw [List.find?_append, sign_find 2 l h twos (by decide), if_pos ht]
  rfl
theorem signO_one (l : List UInt8) (h0 : 1 ≤ l.length) (h : l.length < 2 ∨ twos.contains (l.take 2) = false) (ho : ones2.contains (l.take 1) = true) : signO l = some (l.take 1) := by
  unfold signO
  have e : twos.find? (fun w => w.isPrefixOf l) = none := by
    rcases h with h | h
    · exact sign_find0 2 l h twos (by decide)
    · by_cases h2 : 2 ≤ l.length
      · rw [sign_find 2 l h2 twos (by decide), h]; rfl
      · exact sign_find0 2 l (by omega) twos (by decide)
  rw [List.find?_append, e, sign_find 1 l h0 ones (by decide), ones_same, if_pos ho]
  rfl
theorem signO_none (l : List UInt8) (h0 : 1 ≤ l.length) (h : l.length < 2 ∨ twos.contains (l.take 2) = false) (ho : ones2.contains (l.take 1) = false) : signO l = none := by
  unfold signO
  have e : twos.find? (fun w => w.isPrefixOf l) = none := by
    rcases h with h | h
    · exact sign_find0 2 l h twos (by decide)
    · by_cases h2 : 2 ≤ l.length
      · rw [sign_find 2 l h2 twos (by decide), h]; rfl
      · exact sign_find0 2 l (by omega) twos (by decide)
  rw [List.find?_append, e, sign_find 1 l h0 ones (by decide), ones_same, ho]
  rfl
theorem below_a2 (w : World) (o1 o2 : Obj) : Below w.heap.size w ((w.alloc o1).alloc o2) :=
  have b1 := (Below.refl w.heap.size w).alloc (Nat.le_refl _) o1
  b1.alloc b1.size o2
theorem below_a3 (w : World) (o1 o2 o3 : Obj) : Below w.heap.size w (((w.alloc o1).alloc o2).alloc o3) :=
  have b2 := below_a2 w o1 o2
  b2.alloc b2.size o3
def twosS : List ByteArray := twos.map fun l => ⟨l.toArray⟩
def onesS : List ByteArray := ones2.map fun l => ⟨l.toArray⟩

set_option maxHeartbeats 8000000 in
set_option maxRecDepth 100000 in
theorem rone_sign (s : ByteArray) (pos : Nat) (w : World) (hs : s.size ≤ 1000000000000) (hp : pos < s.size) (hb : blankB (s[pos]'hp) = false) (hn : noNote s pos) (hd0 : digitB (s[pos]'hp) = false) (hl0 : letterB (s[pos]'hp) = false) (hq : s[pos]'hp ≠ 34) :
    Calls Tryd.prog 48 #[.string s, .int .i64 pos] w fun e w' => e = .returned (roneV (s.data.toList.drop pos) pos) ∧ Below w.heap.size w w' := by
  have hd := drop_at s pos hp
  have hpre := noNote_prefix s pos hp hn
  have hgap : gapN (s.data.toList.drop pos) = 0 := by
    rw [hd] at hpre ⊢
    exact gap_tail _ _ hb hpre
  have hlen : (s.data.toList.drop pos).length = s.size - pos := by rw [List.length_drop, size_list]
  have hwo : wordO (s.data.toList.drop pos) = (signO (s.data.toList.drop pos)).map fun w => (4, w, w.length) := by
    unfold wordO
    rw [hd, List.headD_cons, hd0, hl0, if_neg (by simp), if_neg (by simp), if_neg hq]
  have ht2 : (s.extract pos (pos + 2)).data.toList = (s.data.toList.drop pos).take 2 := by rw [Lib.extract_data, show pos + 2 - pos = 2 from by omega]
  have ht1 : (s.extract pos (pos + 1)).data.toList = (s.data.toList.drop pos).take 1 := by rw [Lib.extract_data, show pos + 1 - pos = 1 from by omega]
  have h2S : inS twosS (s.extract pos (pos + 2)) = twos.contains ((s.data.toList.drop pos).take 2) := by rw [← ht2]; exact inS_map twos _
  have h1S : inS onesS (s.extract pos (pos + 1)) = ones2.contains ((s.data.toList.drop pos).take 1) := by rw [← ht1]; exact inS_map ones2 _
  have Htwo := Lib.hid (show 2 ≤ s.size - pos → twos.contains ((s.data.toList.drop pos).take 2) = true → roneV (s.data.toList.drop pos) pos = .tuple #[.agg #[.int .i64 4, .string (s.extract pos (pos + 2)), .int .i64 pos], .int .i64 2] from fun h1 h2 => by
    rw [roneV_word _ pos hgap 4 ((s.data.toList.drop pos).take 2) 2 (by
      rw [hwo, signO_two _ (by omega) h2, Option.map_some, List.length_take, hlen, show min 2 (s.size - pos) = 2 from by omega]), ← ht2]
    rfl)
  have Hone := Lib.hid (show s.size - pos < 2 ∨ twos.contains ((s.data.toList.drop pos).take 2) = false → ones2.contains ((s.data.toList.drop pos).take 1) = true → roneV (s.data.toList.drop pos) pos = .tuple #[.agg #[.int .i64 4, .string (s.extract pos (pos + 1)), .int .i64 pos], .int .i64 1] from fun h1 h2 => by
    rw [roneV_word _ pos hgap 4 ((s.data.toList.drop pos).take 1) 1 (by
      rw [hwo, signO_one _ (by omega) (by rw [hlen]; exact h1) h2, Option.map_some, List.length_take, hlen, show min 1 (s.size - pos) = 1 from by omega]), ← ht1]
    rfl)
  have Hnone := Lib.hid (show s.size - pos < 2 ∨ twos.contains ((s.data.toList.drop pos).take 2) = false → ones2.contains ((s.data.toList.drop pos).take 1) = false → roneV (s.data.toList.drop pos) pos = .tuple #[zeroW, .int .i64 0] from fun h1 h2 => by
    exact roneV_none _ pos hgap (by rw [hwo, signO_none _ (by omega) (by rw [hlen]; exact h1) h2]; rfl))
  generalize twos.contains ((s.data.toList.drop pos).take 2) = b2 at h2S Htwo Hone Hnone
  generalize ones2.contains ((s.data.toList.drop pos).take 1) = b1 at h1S Hone Hnone
  have H2S := Lib.hid h2S
  have H1S := Lib.hid h1S
  clear hd hpre hgap hlen hwo ht1 ht2 h2S h1S
  obtain ⟨r1, r2, r3, r4⟩ := not_blankB _ hb
  have q1 : (((s[pos]'hp).toNat : Int) == 32) = false := byte_ne _ 32 (by decide) r1
  have q2 : (((s[pos]'hp).toNat : Int) == 9) = false := byte_ne _ 9 (by decide) r2
  have q3 : (((s[pos]'hp).toNat : Int) == 10) = false := byte_ne _ 10 (by decide) r3
  have q4 : (((s[pos]'hp).toNat : Int) == 13) = false := byte_ne _ 13 (by decide) r4
  have q6 : (((s[pos]'hp).toNat : Int) == 34) = false := byte_ne _ 34 (by decide) hq
  have h256 : (s[pos]'hp).toNat < 256 := (s[pos]'hp).toNat_lt
  unfold digitB at hd0
  clear r1 r2 r3 r4 hb hq
  have key : ∀ (K : Prop), (((((s[pos]'hp).toNat : Int) == 47) = false → K) ∧ (((((s[pos]'hp).toNat : Int) == 47) = true) → pos + 1 ≥ s.size → K) ∧ ((((s[pos]'hp).toNat : Int) == 47) = true → ∀ hp2 : pos + 1 < s.size, (((s[pos + 1]'hp2).toNat : Int) == 47) = false → K)) → K := by
    intro K ⟨k1, k2, k3⟩
    by_cases c : s[pos]'hp = 47
    · have q : (((s[pos]'hp).toNat : Int) == 47) = true := by rw [c]; rfl
      by_cases hp2 : pos + 1 < s.size
      · exact k3 q hp2 (byte_ne _ 47 (by decide) (fun e => hn hp hp2 ⟨c, e⟩))
      · exact k2 q (by omega)
    · exact k1 (byte_ne _ 47 (by decide) c)
  clear hn
  have hA2 : ∀ j, j < 6 → ((w.alloc (.cells #[.int .i64 0, .string ⟨#[]⟩, .int .i64 0] 64)).alloc (.cells #[.string ⟨#[58, 58]⟩, .string ⟨#[60, 61]⟩, .string ⟨#[61, 61]⟩, .string ⟨#[33, 61]⟩, .string ⟨#[38, 38]⟩, .string ⟨#[124, 124]⟩] 9)).cell? ⟨w.heap.size + 1, 0 + j, none⟩ = some (.string (twosS.getD j ByteArray.empty)) := by
    intro j hj
    have h := lit_cells (w.alloc (.cells #[.int .i64 0, .string ⟨#[]⟩, .int .i64 0] 64)) twosS 9 j hj
    rw [show (w.alloc (.cells #[.int .i64 0, .string ⟨#[]⟩, .int .i64 0] 64)).heap.size = w.heap.size + 1 from Array.size_push _] at h
    exact h
  have HA2 := Lib.hid hA2
  have hA3 : ∀ j, j < 17 → (((w.alloc (.cells #[.int .i64 0, .string ⟨#[]⟩, .int .i64 0] 64)).alloc (.cells #[.string ⟨#[58, 58]⟩, .string ⟨#[60, 61]⟩, .string ⟨#[61, 61]⟩, .string ⟨#[33, 61]⟩, .string ⟨#[38, 38]⟩, .string ⟨#[124, 124]⟩] 9)).alloc (.cells #[.string ⟨#[123]⟩, .string ⟨#[125]⟩, .string ⟨#[40]⟩, .string ⟨#[41]⟩, .string ⟨#[59]⟩, .string ⟨#[44]⟩, .string ⟨#[46]⟩, .string ⟨#[61]⟩, .string ⟨#[60]⟩, .string ⟨#[43]⟩, .string ⟨#[45]⟩, .string ⟨#[42]⟩, .string ⟨#[47]⟩, .string ⟨#[37]⟩, .string ⟨#[33]⟩, .string ⟨#[35]⟩, .string ⟨#[64]⟩] 9)).cell? ⟨w.heap.size + 1 + 1, 0 + j, none⟩ = some (.string (onesS.getD j ByteArray.empty)) := by
    intro j hj
    have h := lit_cells ((w.alloc (.cells #[.int .i64 0, .string ⟨#[]⟩, .int .i64 0] 64)).alloc (.cells #[.string ⟨#[58, 58]⟩, .string ⟨#[60, 61]⟩, .string ⟨#[61, 61]⟩, .string ⟨#[33, 61]⟩, .string ⟨#[38, 38]⟩, .string ⟨#[124, 124]⟩] 9)) onesS 9 j hj
    rw [show ((w.alloc (.cells #[.int .i64 0, .string ⟨#[]⟩, .int .i64 0] 64)).alloc (.cells #[.string ⟨#[58, 58]⟩, .string ⟨#[60, 61]⟩, .string ⟨#[61, 61]⟩, .string ⟨#[33, 61]⟩, .string ⟨#[38, 38]⟩, .string ⟨#[124, 124]⟩] 9)).heap.size = w.heap.size + 1 + 1 from (Array.size_push _).trans (by rw [show (w.alloc (.cells #[.int .i64 0, .string ⟨#[]⟩, .int .i64 0] 64)).heap.size = w.heap.size + 1 from Array.size_push _])] at h
    exact h
  have HA3 := Lib.hid hA3
  have hA4 : ∀ j, j < 17 → ((w.alloc (.cells #[.int .i64 0, .string ⟨#[]⟩, .int .i64 0] 64)).alloc (.cells #[.string ⟨#[123]⟩, .string ⟨#[125]⟩, .string ⟨#[40]⟩, .string ⟨#[41]⟩, .string ⟨#[59]⟩, .string ⟨#[44]⟩, .string ⟨#[46]⟩, .string ⟨#[61]⟩, .string ⟨#[60]⟩, .string ⟨#[43]⟩, .string ⟨#[45]⟩, .string ⟨#[42]⟩, .string ⟨#[47]⟩, .string ⟨#[37]⟩, .string ⟨#[33]⟩, .string ⟨#[35]⟩, .string ⟨#[64]⟩] 9)).cell? ⟨w.heap.size + 1, 0 + j, none⟩ = some (.string (onesS.getD j ByteArray.empty)) := by
    intro j hj
    have h := lit_cells (w.alloc (.cells #[.int .i64 0, .string ⟨#[]⟩, .int .i64 0] 64)) onesS 9 j hj
    rw [show (w.alloc (.cells #[.int .i64 0, .string ⟨#[]⟩, .int .i64 0] 64)).heap.size = w.heap.size + 1 from Array.size_push _] at h
    exact h
  have HA4 := Lib.hid hA4
  clear hA2 hA3 hA4
  by_cases h2 : pos + 2 ≤ s.size
  · cases b2
    · refine key _ ⟨fun q5 => ?_, fun q5 hx => ?_, fun q5 hp2 q7 => ?_⟩
      rotate_left
      · exfalso; omega
      all_goals
        clear key
        go_enter Tryd.func48, Tryd.ntmps48
        go_wp2_with (first | (go_at_call 22; refine (rdigit_any _ _).mono ?_; rintro e w' ⟨rfl, rfl⟩) | (go_at_call 61; refine (rletter_any _ _).mono ?_; rintro e w' ⟨rfl, rfl⟩))
        refine (in_any (w.heap.size + 1) 6 6 twosS _ _ (by decide) (by decide) HA2.out).mono ?_
        rintro e w' ⟨rfl, rfl⟩
        rw [H2S.out]
        go_wp2_with fail
        refine (in_any (w.heap.size + 1 + 1) 17 17 onesS _ _ (by decide) (by decide) HA3.out).mono ?_
        rintro e w' ⟨rfl, rfl⟩
        rw [H1S.out]
        cases b1
        · have Hv := Lib.hid (Hnone.out (.inr trivial) rfl)
          clear Htwo Hone Hnone
          go_wp2
          rw [Hv.out]
          exact bodyPost_ret (v := .tuple #[zeroW, .int .i64 0]) (by simp [results, Tryd.results48, go_sem, zeroW]) rfl ⟨rfl, by first | exact below_a3 _ _ _ _ | exact below_a2 _ _ _⟩
        · have Hv := Lib.hid (Hone.out (.inr trivial) rfl)
          clear Htwo Hone Hnone
          go_wp2
          rw [Hv.out]
          exact bodyPost_ret (v := .tuple #[.agg #[.int .i64 4, .string (s.extract pos (pos + 1)), .int .i64 pos], .int .i64 1]) (by simp [results, Tryd.results48, go_sem]) rfl ⟨rfl, by first | exact below_a3 _ _ _ _ | exact below_a2 _ _ _⟩
    · refine key _ ⟨fun q5 => ?_, fun q5 hx => ?_, fun q5 hp2 q7 => ?_⟩
      rotate_left
      · exfalso; omega
      all_goals
        clear key
        go_enter Tryd.func48, Tryd.ntmps48
        go_wp2_with (first | (go_at_call 22; refine (rdigit_any _ _).mono ?_; rintro e w' ⟨rfl, rfl⟩) | (go_at_call 61; refine (rletter_any _ _).mono ?_; rintro e w' ⟨rfl, rfl⟩))
        refine (in_any (w.heap.size + 1) 6 6 twosS _ _ (by decide) (by decide) HA2.out).mono ?_
        rintro e w' ⟨rfl, rfl⟩
        rw [H2S.out]
        have Hv := Lib.hid (Htwo.out (by omega) trivial)
        clear Htwo Hone Hnone
        go_wp2
        rw [Hv.out]
        exact bodyPost_ret (v := .tuple #[.agg #[.int .i64 4, .string (s.extract pos (pos + 2)), .int .i64 pos], .int .i64 2]) (by simp [results, Tryd.results48, go_sem]) rfl ⟨rfl, by first | exact below_a3 _ _ _ _ | exact below_a2 _ _ _⟩
  · refine key _ ⟨fun q5 => ?_, fun q5 hx => ?_, fun q5 hp2 q7 => ?_⟩
    rotate_right
    · exfalso; omega
    all_goals
      clear key
      have d2 : decide ((pos : Int) + 2 ≤ (s.size : Int)) = false := decide_eq_false (by omega)
      have d1 : decide ((pos : Int) + 1 < (s.size : Int)) = false := decide_eq_false (by omega)
      have Hor := Lib.hid (show s.size - pos < 2 by omega)
      have hp1 : pos + 1 ≤ s.size := by omega
      clear h2
      try clear hx
      go_enter Tryd.func48, Tryd.ntmps48
      go_wp2_with (first | (go_at_call 22; refine (rdigit_any _ _).mono ?_; rintro e w' ⟨rfl, rfl⟩) | (go_at_call 61; refine (rletter_any _ _).mono ?_; rintro e w' ⟨rfl, rfl⟩))
      refine (in_any (w.heap.size + 1) 17 17 onesS _ _ (by decide) (by decide) HA4.out).mono ?_
      rintro e w' ⟨rfl, rfl⟩
      rw [H1S.out]
      cases b1
      · have Hv := Lib.hid (Hnone.out (.inl Hor.out) rfl)
        clear Htwo Hone Hnone
        go_wp2
        rw [Hv.out]
        exact bodyPost_ret (v := .tuple #[zeroW, .int .i64 0]) (by simp [results, Tryd.results48, go_sem, zeroW]) rfl ⟨rfl, by first | exact below_a3 _ _ _ _ | exact below_a2 _ _ _⟩
      · have Hv := Lib.hid (Hone.out (.inl Hor.out) rfl)
        clear Htwo Hone Hnone
        go_wp2
        rw [Hv.out]
        exact bodyPost_ret (v := .tuple #[.agg #[.int .i64 4, .string (s.extract pos (pos + 1)), .int .i64 pos], .int .i64 1]) (by simp [results, Tryd.results48, go_sem]) rfl ⟨rfl, by first | exact below_a3 _ _ _ _ | exact below_a2 _ _ _⟩
end Go.Proofs.YtohmlhbmjamecaaDoor
