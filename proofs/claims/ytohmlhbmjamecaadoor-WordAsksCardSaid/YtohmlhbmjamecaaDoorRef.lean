/- The references' names and signs (changelingref1: Small, Big, Digit, In, Kept, letters, Name, Class), over this seat's translation. -/
import Derived.Test.YtohmlhbmjamecaaDoorSignP
namespace Go.Proofs.YtohmlhbmjamecaaDoor
open Go.RowKit P

theorem rsmall_any (r : Int) (w : World) : Calls Tryd.prog 18 #[.int .i32 r] w fun e w' => e = .returned (.bool (smallR r)) ∧ w' = w := by
  unfold smallR
  by_cases h1 : 97 ≤ r
  all_goals
    by_cases h2 : r ≤ 122
    all_goals
      go_enter Tryd.func18, Tryd.ntmps18
      go_wp2
      go_ret
      exact ⟨by simp [h1, h2], rfl⟩
theorem rbig_any (r : Int) (w : World) : Calls Tryd.prog 20 #[.int .i32 r] w fun e w' => e = .returned (.bool (bigR r)) ∧ w' = w := by
  unfold bigR
  by_cases h1 : 65 ≤ r
  all_goals
    by_cases h2 : r ≤ 90
    all_goals
      go_enter Tryd.func20, Tryd.ntmps20
      go_wp2
      go_ret
      exact ⟨by simp [h1, h2], rfl⟩
theorem rdigit_any (r : Int) (w : World) : Calls Tryd.prog 22 #[.int .i32 r] w fun e w' => e = .returned (.bool (digitR r)) ∧ w' = w := by
  unfold digitR
  by_cases h1 : 48 ≤ r
  all_goals
    by_cases h2 : r ≤ 57
    all_goals
      go_enter Tryd.func22, Tryd.ntmps22
      go_wp2
      go_ret
      exact ⟨by simp [h1, h2], rfl⟩

/-- In, at a row of texts: is the text one of them? -/
def inS (zs : List ByteArray) (x : ByteArray) : Bool := zs.any fun z => z.toList == x.toList
theorem inS_cut (zs : List ByteArray) (x : ByteArray) (k : Nat) (hk : k < zs.length) : inS (zs.drop k) x = (((zs.getD k ByteArray.empty).toList == x.toList) || inS (zs.drop (k + 1)) x) := by
  unfold inS
  rw [List.drop_eq_getElem_cons hk, List.any_cons, List.getD_eq_getElem?_getD, List.getElem?_eq_getElem hk]
  rfl

set_option maxHeartbeats 1000000 in
set_option maxRecDepth 100000 in
theorem in_any (g c n : Nat) (zs : List ByteArray) (x : ByteArray) (w : World) (hn : n = zs.length) (hbig : n ≤ 9223372036854775807) (hcell : ∀ j, j < n → w.cell? ⟨g, 0 + j, none⟩ = some (.string (zs.getD j ByteArray.empty))) :
    Calls Tryd.prog 52 #[.slice (some ⟨g, 0, none⟩) n c, .string x] w fun e w' => e = .returned (.bool (inS zs x)) ∧ w' = w := by
  have Hn := Lib.hid hn
  clear hn
  have Hcell := Lib.hid hcell
  clear hcell
  go_enter Tryd.func52, Tryd.ntmps52
  go_wp2
  go_loop [5] (fun v => ∃ k : Nat, k ≤ n ∧ v = .int .i64 k ∧ inS (zs.drop k) x = inS zs x) (fun v => n - (intOf v).toNat)
  case atStart => exact ⟨0, Nat.zero_le _, rfl, rfl⟩
  case round =>
    obtain ⟨k, hk, rfl, hin⟩ := hrel
    have Hin := Lib.hid hin
    clear hin
    by_cases hlt : k < n
    · have hc1 := Hcell.out k hlt
      rw [Nat.zero_add] at hc1
      have hstep := Lib.hid (inS_cut zs x k (by rw [← Hn.out]; exact hlt))
      generalize zs.getD k ByteArray.empty = z at hc1 hstep
      cases ht : (z.toList == x.toList)
      all_goals
        go_wp2
        first
          | (go_ret
             exact ⟨by rw [← Hin.out, hstep.out, ht]; rfl, rfl⟩)
          | (go_round
             case rel => exact ⟨k + 1, by omega, by go_num, by rw [← Hin.out, hstep.out, ht]; rfl⟩
             case measure => simp [intOf]; omega)
    · have hz : zs.drop k = [] := List.drop_eq_nil_of_le (by rw [← Hn.out]; omega)
      rw [hz] at Hin
      go_wp2
      go_ret
      exact ⟨by rw [← Hin.out]; rfl, rfl⟩

theorem inS_map (ls : List (List UInt8)) (x : ByteArray) : inS (ls.map fun l => ⟨l.toArray⟩) x = ls.contains x.data.toList := by
  unfold inS
  rw [List.any_map, List.contains_eq_any_beq, Lib.toList_data]
  congr 1
  funext l
  simp only [Function.comp, Lib.toList_data]
  exact Bool.beq_comm

set_option maxHeartbeats 1000000 in
set_option maxRecDepth 100000 in
theorem kept_any (s : ByteArray) (w : World) : Calls Tryd.prog 42 #[.string s] w fun e w' => e = .returned (.bool (keptB s.data.toList)) ∧ Below w.heap.size w w' := by
  have hk : inS keptS s = keptB s.data.toList := inS_map keptL s
  have H := Lib.hid hk
  clear hk
  go_enter Tryd.func42, Tryd.ntmps42
  go_wp2_with fail
  refine (in_any w.heap.size 24 24 keptS s _ (by decide) (by decide) (fun j hj => lit_cells w keptS 9 j hj)).mono ?_
  rintro e w' ⟨rfl, rfl⟩
  rw [H.out]
  go_wp2
  go_ret
  exact ⟨rfl, (Below.refl _ _).alloc (Nat.le_refl _) _⟩

def lettersB (l : List UInt8) (m : Int) : Bool := l.all letterB && decide (1 ≤ l.length) && decide ((l.length : Int) ≤ m)
theorem all_cut (l : List UInt8) (k : Nat) (hk : k < l.length) : (l.drop k).all letterB = (letterR ((l.getD k 0).toNat : Int) && (l.drop (k + 1)).all letterB) := by
  rw [List.drop_eq_getElem_cons hk, List.all_cons, List.getD_eq_getElem?_getD, List.getElem?_eq_getElem hk]
  rfl
theorem byte_at (s : ByteArray) (i : Nat) (h : i < s.size) : (s[i]'h).toNat = (s.data.toList.getD i 0).toNat := by
  have : i < s.data.toList.length := by rw [size_list]; exact h
  rw [List.getD_eq_getElem?_getD, List.getElem?_eq_getElem this]
  rfl

set_option maxHeartbeats 4000000 in
set_option maxRecDepth 100000 in
theorem letters_any (s : ByteArray) (m : Int) (w : World) (hs : s.size ≤ 9223372036854775807) : Calls Tryd.prog 41 #[.string s, .int .i64 m] w fun e w' => e = .returned (.bool (lettersB s.data.toList m)) ∧ w' = w := by
  have hdef : lettersB s.data.toList m = (s.data.toList.all letterB && (decide (1 ≤ (s.size : Int)) && decide ((s.size : Int) ≤ m))) := by
    unfold lettersB
    rw [size_list, Bool.and_assoc]
    congr 2
    rw [decide_eq_decide]
    omega
  have Hdef := Lib.hid hdef
  have Hsl := Lib.hid (size_list s)
  clear hdef
  go_enter Tryd.func41, Tryd.ntmps41
  go_wp2
  go_loop [5] (fun v => ∃ k : Nat, k ≤ s.size ∧ v = .int .i64 k ∧ (s.data.toList.drop k).all letterB = s.data.toList.all letterB) (fun v => s.size - (intOf v).toNat)
  case atStart => exact ⟨0, Nat.zero_le _, rfl, rfl⟩
  case round =>
    obtain ⟨k, hk, rfl, hin⟩ := hrel
    have Hin := Lib.hid hin
    clear hin
    by_cases hlt : k < s.size
    · have hstep := Lib.hid (all_cut s.data.toList k (by rw [Hsl.out]; exact hlt))
      rw [← byte_at s k hlt] at hstep
      have h256 : (s[k]'hlt).toNat < 256 := (s[k]'hlt).toNat_lt
      generalize hby : ((s[k]'hlt).toNat : Int) = r at hstep
      have Hby := Lib.hid hby
      clear hby
      cases h1 : smallR r
      all_goals
        cases h2 : bigR r
        all_goals
          cases h3 : digitR r
          all_goals
            have hl := Lib.hid (show letterR r = (smallR r || bigR r || digitR r) from rfl)
            rw [h1, h2, h3] at hl
            rw [← Hby.out] at h1 h2 h3
            go_wp2_with (first
              | (go_at_call 18; refine (rsmall_any _ _).mono ?_; rintro e w' ⟨rfl, rfl⟩)
              | (go_at_call 20; refine (rbig_any _ _).mono ?_; rintro e w' ⟨rfl, rfl⟩)
              | (go_at_call 22; refine (rdigit_any _ _).mono ?_; rintro e w' ⟨rfl, rfl⟩))
            first
              | (go_ret
                 exact ⟨by rw [Hdef.out, ← Hin.out, hstep.out, hl.out]; rfl, rfl⟩)
              | (go_round
                 case rel => exact ⟨k + 1, by omega, by go_num, by rw [← Hin.out, hstep.out, hl.out]; rfl⟩
                 case measure => simp [intOf]; omega)
    · have hz : s.data.toList.drop k = [] := List.drop_eq_nil_of_le (by rw [Hsl.out]; omega)
      rw [hz] at Hin
      have Hd2 := Lib.hid (show lettersB s.data.toList m = (decide (1 ≤ (s.size : Int)) && decide ((s.size : Int) ≤ m)) by
        rw [Hdef.out, ← Hin.out]; rfl)
      by_cases h1 : 1 ≤ (s.size : Int)
      all_goals
        go_wp2
        go_ret
        exact ⟨by rw [Hd2.out]; first | (simp [h1]; done) | (simp; omega), rfl⟩

theorem head_at (s : ByteArray) (h : 0 < s.size) : (s[0]'h).toNat = (s.data.toList.headD 0).toNat := by
  rw [byte_at s 0 h]
  cases s.data.toList <;> rfl
theorem letters_named (p : Int → Bool) (l : List UInt8) : namedB p l = (lettersB l 20 && p ((l.headD 0).toNat : Int)) := by
  unfold namedB lettersB
  congr 2
  rw [decide_eq_decide]
  omega

set_option maxHeartbeats 1000000 in
set_option maxRecDepth 100000 in
theorem rname_any (s : ByteArray) (w : World) (hs : s.size ≤ 9223372036854775807) : Calls Tryd.prog 24 #[.string s] w fun e w' => e = .returned (.bool (nameB s.data.toList)) ∧ Below w.heap.size w w' := by
  have Hn := Lib.hid (letters_named smallR s.data.toList)
  have Hd := Lib.hid (show nameB s.data.toList = (namedB smallR s.data.toList && !keptB s.data.toList) from rfl)
  cases h1 : lettersB s.data.toList 20
  · rw [h1] at Hn
    go_enter Tryd.func24, Tryd.ntmps24
    go_wp2_with (go_at_call 41; refine (letters_any s 20 _ hs).mono ?_; rintro e w' ⟨rfl, rfl⟩)
    go_ret
    exact ⟨by rw [Hd.out, Hn.out]; rfl, Below.refl _ _⟩
  · have hpos : 0 < s.size := by
      unfold lettersB at h1
      rw [size_list] at h1
      simp at h1
      omega
    have h256 : (s[0]'hpos).toNat < 256 := (s[0]'hpos).toNat_lt
    rw [h1, ← head_at s hpos] at Hn
    cases h2 : smallR ((s[0]'hpos).toNat : Int)
    all_goals
      cases h3 : keptB s.data.toList
      all_goals
        have H2 := Lib.hid h2
        have H3 := Lib.hid h3
        go_enter Tryd.func24, Tryd.ntmps24
        go_wp2_with (first
          | (go_at_call 41; refine (letters_any s 20 _ hs).mono ?_; rintro e w' ⟨rfl, rfl⟩)
          | (go_at_call 18; refine (rsmall_any _ _).mono ?_; rintro e w' ⟨rfl, rfl⟩)
          | (go_at_call 42; refine (kept_any s _).mono ?_; rintro e w' ⟨rfl, hb⟩))
        go_ret
        exact ⟨by rw [Hd.out, Hn.out, H2.out, H3.out]; rfl, by first | exact Below.refl _ _ | assumption⟩

set_option maxHeartbeats 1000000 in
set_option maxRecDepth 100000 in
theorem rclass_any (s : ByteArray) (w : World) (hs : s.size ≤ 9223372036854775807) : Calls Tryd.prog 26 #[.string s] w fun e w' => e = .returned (.bool (classB s.data.toList)) ∧ w' = w := by
  have Hn := Lib.hid (letters_named bigR s.data.toList)
  have Hd := Lib.hid (show classB s.data.toList = (namedB bigR s.data.toList && !(s.toList == stringL)) by rw [Lib.toList_data]; rfl)
  cases h1 : lettersB s.data.toList 20
  · rw [h1] at Hn
    go_enter Tryd.func26, Tryd.ntmps26
    go_wp2_with (go_at_call 41; refine (letters_any s 20 _ hs).mono ?_; rintro e w' ⟨rfl, rfl⟩)
    go_ret
    exact ⟨by rw [Hd.out, Hn.out]; rfl, rfl⟩
  · have hpos : 0 < s.size := by
      unfold lettersB at h1
      rw [size_list] at h1
      simp at h1
      omega
    have h256 : (s[0]'hpos).toNat < 256 := (s[0]'hpos).toNat_lt
    rw [h1, ← head_at s hpos] at Hn
    cases h2 : bigR ((s[0]'hpos).toNat : Int)
    all_goals
      have H2 := Lib.hid h2
      go_enter Tryd.func26, Tryd.ntmps26
      go_wp2_with (first
        | (go_at_call 41; refine (letters_any s 20 _ hs).mono ?_; rintro e w' ⟨rfl, rfl⟩)
        | (go_at_call 20; refine (rbig_any _ _).mono ?_; rintro e w' ⟨rfl, rfl⟩))
      go_ret
      exact ⟨by rw [Hd.out, Hn.out, H2.out]; first | rfl | (simp [stringL]; done), rfl⟩
end Go.Proofs.YtohmlhbmjamecaaDoor
