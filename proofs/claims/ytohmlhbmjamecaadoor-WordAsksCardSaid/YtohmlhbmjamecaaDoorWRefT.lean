/- changelingref1.one at a quote, over this seat's translation. -/
import Derived.Test.YtohmlhbmjamecaaDoorWRefO
namespace Go.Proofs.YtohmlhbmjamecaaDoor
open Go.RowKit P

theorem litN_some (l : List UInt8) (t : List UInt8) (n : Nat) (h : litO l = some (t, n)) : litN l = n := by unfold litN; rw [h]
theorem litN_none (l : List UInt8) (h : litO l = none) : litN l = 0 := by unfold litN; rw [h]
theorem lit_plain (s : ByteArray) (pos : Nat) (t : List UInt8) (n : Nat) (h : litO (s.data.toList.drop pos) = some (t, n)) (hn : 1 < n) : plainO (s.extract (pos + 1) (pos + n - 1)).data.toList = some t := by
  have hc := lit_cut s pos (pos + n - 1) (by omega)
  rw [← hc, show pos + n - 1 + 1 - pos - 1 = n - 1 from by omega]
  unfold litO at h
  cases hs : scan false 1 (s.data.toList.drop pos).tail with
  | none => rw [hs] at h; cases h
  | some m =>
    rw [hs] at h
    dsimp only at h
    cases hp : plainO (((s.data.toList.drop pos).take (m - 1)).drop 1) with
    | none => rw [hp] at h; cases h
    | some x =>
      rw [hp] at h
      simp only [Option.some.injEq, Prod.mk.injEq] at h
      obtain ⟨rfl, rfl⟩ := h
      exact hp
theorem kept3 {w W : World} {v0 v1 v2 : Value} {t : TypeId} (c : Below (w.alloc (.cells #[v0, v1, v2] t)).heap.size (w.alloc (.cells #[v0, v1, v2] t)) W) :
    W.cell? ⟨w.heap.size, 0, none⟩ = some v0 ∧ W.cell? ⟨w.heap.size, 1, none⟩ = some v1 ∧ W.cell? ⟨w.heap.size, 2, none⟩ = some v2 ∧
    W.frozen? ⟨w.heap.size, 0, none⟩ = false ∧ W.frozen? ⟨w.heap.size, 1, none⟩ = false ∧ W.frozen? ⟨w.heap.size, 2, none⟩ = false ∧ w.heap.size < W.heap.size := by
  have hsz : (w.alloc (.cells #[v0, v1, v2] t)).heap.size = w.heap.size + 1 := Array.size_push _
  have hlt : w.heap.size < (w.alloc (.cells #[v0, v1, v2] t)).heap.size := by omega
  have hs := c.size
  refine ⟨?_, ?_, ?_, ?_, ?_, ?_, by omega⟩
  · rw [c.cell (p := ⟨w.heap.size, 0, none⟩) hlt, World.cell?_alloc_at _ _ _ _ rfl]; rfl
  · rw [c.cell (p := ⟨w.heap.size, 1, none⟩) hlt, World.cell?_alloc_at _ _ _ _ rfl]; rfl
  · rw [c.cell (p := ⟨w.heap.size, 2, none⟩) hlt, World.cell?_alloc_at _ _ _ _ rfl]; rfl
  · rw [c.frozen (p := ⟨w.heap.size, 0, none⟩) hlt]; exact World.frozen?_alloc_at _ _ _ _ rfl
  · rw [c.frozen (p := ⟨w.heap.size, 1, none⟩) hlt]; exact World.frozen?_alloc_at _ _ _ _ rfl
  · rw [c.frozen (p := ⟨w.heap.size, 2, none⟩) hlt]; exact World.frozen?_alloc_at _ _ _ _ rfl

set_option maxHeartbeats 8000000 in
set_option maxRecDepth 100000 in
theorem rone_quote (s : ByteArray) (pos : Nat) (w : World) (hs : s.size ≤ 1000000000000) (hp : pos < s.size) (hc : s[pos]'hp = 34) :
    Calls Tryd.prog 48 #[.string s, .int .i64 pos] w fun e w' => e = .returned (roneV (s.data.toList.drop pos) pos) ∧ Below w.heap.size w w' := by
  have hd := drop_at s pos hp
  have hgap : gapN (s.data.toList.drop pos) = 0 := by rw [hd, hc]; rfl
  have hwo : wordO (s.data.toList.drop pos) = (litO (s.data.toList.drop pos)).map fun x => (3, x.1, x.2) := by
    rw [hd, hc]
    have h1 : digitB ((34 :: s.data.toList.drop (pos + 1) : List UInt8).headD 0) = false := rfl
    have h2 : letterB ((34 :: s.data.toList.drop (pos + 1) : List UInt8).headD 0) = false := rfl
    unfold wordO
    rw [h1, h2, if_neg (by simp), if_neg (by simp), List.headD_cons, if_pos rfl]
  have hne : s.data.toList.drop pos ≠ [] := by rw [hd]; simp
  have e1 : ((s[pos]'hp).toNat : Int) = 34 := by rw [hc]; rfl
  have dg : digitR 34 = false := by decide
  have lt : letterB (s[pos]'hp) = false := by rw [hc]; decide
  cases hl : litO (s.data.toList.drop pos) with
  | none =>
    have Hv := Lib.hid (roneV_none (s.data.toList.drop pos) pos hgap (by rw [hwo, hl]; rfl))
    have Hn := Lib.hid (litN_none _ hl)
    clear hd hgap hwo hne hl hc
    go_enter Tryd.func48, Tryd.ntmps48
    go_wp2_with (first | (go_at_call 22; refine (rdigit_any _ _).mono ?_; rintro e w' ⟨rfl, rfl⟩) | (go_at_call 61; rw [← e1]; refine (rletter_any _ _).mono ?_; rintro e w' ⟨rfl, rfl⟩))
    refine (rtext_any s pos _ hs hp).mono ?_
    rintro e w1 ⟨rfl, c1⟩
    rw [Hn.out]
    obtain ⟨k0, k1, k2, k3, k4, k5, k6⟩ := kept3 c1
    have B1 := (((Below.refl w.heap.size w).alloc (Nat.le_refl _) _).trans (c1.mono ((Below.refl w.heap.size w).alloc (Nat.le_refl _) _).size))
    go_wp2
    rw [Hv.out]
    exact bodyPost_ret (v := .tuple #[zeroW, .int .i64 0]) (by simp [results, Tryd.results48, go_sem, zeroW, *]) rfl ⟨rfl, ((B1.setCell (Nat.le_refl _) _).setCell (Nat.le_refl _) _).setCell (Nat.le_refl _) _⟩
  | some x =>
    obtain ⟨t, n⟩ := x
    have hge := litO_ge _ hne t n hl
    rw [List.length_drop, size_list] at hge
    have Hv := Lib.hid (roneV_word (s.data.toList.drop pos) pos hgap 3 t n (by rw [hwo, hl]; rfl))
    have Hn := Lib.hid (litN_some _ t n hl)
    have Hp := Lib.hid (lit_plain s pos t n hl hge.1)
    have qn : ((n : Int) == 0) = false := by rw [beq_eq_false_iff_ne]; omega
    have g1 := hge.1
    have g2 := hge.2
    have e5 : ((pos : Int) + (n : Int) - 1).toNat = pos + n - 1 := by omega
    clear hd hgap hwo hne hl hc hge
    go_enter Tryd.func48, Tryd.ntmps48
    go_wp2_with (first | (go_at_call 22; refine (rdigit_any _ _).mono ?_; rintro e w' ⟨rfl, rfl⟩) | (go_at_call 61; rw [← e1]; refine (rletter_any _ _).mono ?_; rintro e w' ⟨rfl, rfl⟩))
    refine (rtext_any s pos _ hs hp).mono ?_
    rintro e w1 ⟨rfl, c1⟩
    rw [Hn.out]
    go_wp2_with fail
    refine (rplain_any _ _ (by simp; omega)).mono ?_
    rintro e w2 ⟨rfl, c2⟩
    have c3 := c1.trans (c2.mono c1.size)
    obtain ⟨k0, k1, k2, k3, k4, k5, k6⟩ := kept3 c3
    have B1 := (((Below.refl w.heap.size w).alloc (Nat.le_refl _) _).trans (c3.mono ((Below.refl w.heap.size w).alloc (Nat.le_refl _) _).size))
    clear c1 c2 c3
    rw [Hp.out]
    simp only [plainRet]
    go_wp2
    rw [Hv.out]
    exact bodyPost_ret (v := .tuple #[.agg #[.int .i64 3, .string ⟨t.toArray⟩, .int .i64 pos], .int .i64 n]) (by simp [results, Tryd.results48, go_sem, *]) rfl ⟨rfl, ((B1.setCell (Nat.le_refl _) _).setCell (Nat.le_refl _) _).setCell (Nat.le_refl _) _⟩
end Go.Proofs.YtohmlhbmjamecaaDoor
