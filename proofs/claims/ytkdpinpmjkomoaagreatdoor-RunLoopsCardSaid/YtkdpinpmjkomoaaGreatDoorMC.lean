/- A reckoner for closed calls of the program, proved sound: values, the heap, operations, code, calls; no claim of its own. -/
import Derived.Test.YtkdpinpmjkomoaaGreatDoorMB
import Derived.Below
import Derived.Lib.UnsafeStr
/- A reckoner for closed calls (D6): in any order. -/
namespace Go.Proofs.YtkdpinpmjkomoaaGreatDoor.E
open Go

section
variable {P : Program} {c : Cf} {ops : Array Oper} {M : List It} {s0 : Sg} {g0 : G} {w0 : World} {out : SOut}
/-- What is listed, and what is left to do. -/
structure Inv (ops : Array Oper) (M : List It) (l : Array Bool) (rem : RemL) : Prop where
  sz : l.size = ops.size
  down : Down ops l
  mem : ∀ k, k < ops.size → (l.getD k false = false ↔ ∃ p ∈ rem, p.2 = none ∧ p.1.x.i = k)
  gh : ∀ p ∈ rem, p.2 ≠ none → l.getD p.1.x.i false = true
  sub : (fsts rem).Sublist M
theorem Inv.lt (R : Reg P c ops M) {l : Array Bool} {rem : RemL} (I : Inv ops M l rem) {p : It × Option Nat} (hp : p ∈ rem) : p.1 ∈ M ∧ p.1.x.i < ops.size := by
  have hm : p.1 ∈ M := I.sub.subset (List.mem_map_of_mem (f := (·.1)) hp)
  exact ⟨hm, (Array.getElem?_eq_some_iff.1 (R.wg _ hm).wf.hi).1⟩
theorem Inv.edges (R : Reg P c ops M) {l : Array Bool} {rem : RemL} (I : Inv ops M l rem) {p : It × Option Nat} (hp : p ∈ rem) (h2 : p.2 ≠ none) {k : Nat} (hk : has p.1.x.A k = true) : l.getD k false = true := by
  obtain ⟨hm, _⟩ := I.lt R hp
  exact anc_done R I.down p.1.x.i p.1 (Nat.le_refl _) hm (I.down _ _ (R.wg _ hm).wf.hi (I.gh p hp h2)) k hk
theorem Inv.undone (R : Reg P c ops M) {l : Array Bool} {rem : RemL} (I : Inv ops M l rem) {p : It × Option Nat} (hp : p ∈ rem) (h2 : p.2 = none) : l.getD p.1.x.i false = false := (I.mem _ (I.lt R hp).2).2 ⟨p, hp, h2, rfl⟩
theorem getD_setB (l : Array Bool) (i : Nat) (hi : i < l.size) (k : Nat) : (l.setIfInBounds i true).getD k false = if k = i then true else l.getD k false := by
  rw [Array.getD_eq_getD_getElem?, Array.getD_eq_getD_getElem?, Array.getElem?_setIfInBounds]
  by_cases hk : i = k
  · subst hk; simp [hi]
  · simp [hk, Ne.symm hk]
/-- One more is listed. -/
theorem Inv.step (R : Reg P c ops M) {l : Array Bool} {pre post : RemL} {y : It} (I : Inv ops M l (pre ++ (y, none) :: post)) (he : ∀ e ∈ y.x.o.after.toList, Region.binds .any e = true → l.getD e.on false = true) {rem' : RemL} (h1 : ∀ p ∈ rem', p ∈ pre ++ post ∨ (p.1 = y ∧ p.2 ≠ none)) (h2 : ∀ p ∈ pre ++ post, p.2 = none → p ∈ rem') (h3 : (fsts rem').Sublist M) : Inv ops M (l.setIfInBounds y.x.i true) rem' := by
  have hym : (y, (none : Option Nat)) ∈ pre ++ (y, none) :: post := by simp
  obtain ⟨hyM, hlt⟩ := I.lt R hym
  have hlt : y.x.i < ops.size := hlt
  have hyM : y ∈ M := hyM
  have hset := getD_setB l y.x.i (by rw [I.sz]; exact hlt)
  have hin : ∀ p ∈ pre ++ post, p ∈ pre ++ (y, none) :: post := fun p hp => by
    rcases List.mem_append.1 hp with hp | hp
    · exact List.mem_append_left _ hp
    · exact List.mem_append_right _ (List.mem_cons_of_mem _ hp)
  have hne : ∀ p ∈ pre ++ post, p.1.x.i ≠ y.x.i := fun p hp => by
    have hpw : (fsts (pre ++ (y, none) :: post)).Pairwise PairOk := R.pw.sublist I.sub
    rw [fsts, List.map_append, List.map_cons] at hpw
    obtain ⟨_, q2, q3⟩ := List.pairwise_append.1 hpw
    rcases List.mem_append.1 hp with hp | hp
    · exact (q3 p.1 (List.mem_map_of_mem (f := (·.1)) hp) y List.mem_cons_self).ne
    · exact fun e => ((List.pairwise_cons.1 q2).1 p.1 (List.mem_map_of_mem (f := (·.1)) hp)).ne e.symm
  refine ⟨by rw [Array.size_setIfInBounds]; exact I.sz, fun k o hk hd e he1 he2 => ?_, fun k hk => ?_, fun p hp hp2 => ?_, h3⟩
  · rw [hset] at hd ⊢
    by_cases hek : e.on = y.x.i
    · rw [if_pos hek]
    · rw [if_neg hek]
      by_cases hki : k = y.x.i
      · subst hki
        rw [(R.wg y hyM).wf.hi] at hk
        injection hk with hk
        subst hk
        exact he e he1 he2
      · rw [if_neg hki] at hd
        exact I.down k o hk hd e he1 he2
  · rw [hset]
    by_cases hki : k = y.x.i
    · subst hki
      rw [if_pos rfl]
      constructor
      · intro e; cases e
      · rintro ⟨p, p1, p2, p3⟩
        rcases h1 p p1 with hp | ⟨_, hp⟩
        · exact absurd p3 (hne p hp)
        · exact absurd p2 hp
    · rw [if_neg hki, I.mem k hk]
      constructor
      · rintro ⟨p, p1, p2, p3⟩
        refine ⟨p, h2 p ?_ p2, p2, p3⟩
        rcases List.mem_append.1 p1 with p1 | p1
        · exact List.mem_append_left _ p1
        · rcases List.mem_cons.1 p1 with rfl | p1
          · exact absurd p3.symm hki
          · exact List.mem_append_right _ p1
      · rintro ⟨p, p1, p2, p3⟩
        rcases h1 p p1 with hp | ⟨_, hp⟩
        · exact ⟨p, hin p hp, p2, p3⟩
        · exact absurd p2 hp
  · rw [hset]
    rcases h1 p hp with hp | ⟨hp, _⟩
    · rw [if_neg (hne p hp)]
      exact I.gh p (hin p hp) hp2
    · rw [hp, if_pos rfl]
theorem Inv.less {l : Array Bool} {rem rem' : RemL} (I : Inv ops M l rem) (h1 : rem'.Sublist rem) (h2 : ∀ p ∈ rem, p.2 = none → p ∈ rem') : Inv ops M l rem' :=
  ⟨I.sz, I.down, fun k hk => (I.mem k hk).trans ⟨fun ⟨p, p1, p2, p3⟩ => ⟨p, h2 p p1 p2, p2, p3⟩, fun ⟨p, p1, p2, p3⟩ => ⟨p, h1.subset p1, p2, p3⟩⟩, fun p hp => I.gh p (h1.subset hp), (h1.map _).trans I.sub⟩
theorem chkP_hits {y : It} : ∀ (pre post : List It) (s : Sg), ChkP ops (pre ++ y :: post) s → ∃ s' v H D, ans ops y s' = .ok v H D
  | [], _, s, ⟨_, v, H, D, h, _⟩ => ⟨s, v, H, D, h⟩
  | _ :: pre, post, _, ⟨_, _, _, _, _, h⟩ => chkP_hits pre post _ h
theorem run_hits {y : It} (hk : y.x.k ≠ 2) : ∀ (pre post rs : List It) (s : Sg) (out : SOut), (∀ j ∈ pre, has y.x.A j.x.i = false) → Run ops (pre ++ y :: post) rs s out → ∃ s' v H D, ans ops y s' = .ok v H D
  | [], _, _, s, _, _, h => by
    cases h with
    | lo _ h _ => exact ⟨s, _, _, _, h⟩
    | hi _ h _ _ => exact ⟨s, _, _, _, h⟩
    | pan h2 => exact absurd h2 hk
  | j :: pre, post, rs, s, out, hp, h => by
    have hp' : ∀ i ∈ pre, has y.x.A i.x.i = false := fun i hi => hp i (List.mem_cons_of_mem _ hi)
    cases h with
    | lo _ _ t => exact run_hits hk pre post _ _ _ hp' t
    | hi _ _ _ t => exact run_hits hk pre post _ _ _ hp' t
    | pan _ _ hc =>
      have hfy : aft j.x.i y = true := by unfold aft; rw [hp j List.mem_cons_self]; rfl
      have hc : ChkP ops ((pre ++ y :: post).filter (aft j.x.i)) s := hc
      rw [List.filter_append, List.filter_cons_of_pos hfy] at hc
      exact chkP_hits _ _ _ hc
def cnt (rem : RemL) : Nat := (rem.filter (fun p => p.2.isNone)).length
theorem cnt_sub {r r' : RemL} (h : r'.Sublist r) : cnt r' ≤ cnt r := (h.filter _).length_le
theorem any_sound (R : Reg P c ops M) {Q : Exit → Act → World → Prop} (hQ : OutD P c ops M g0 w0 s0 out Q) : ∀ (n : Nat) (l : Array Bool) (rem : RemL) (s : Sg) (g : G) (w : World) (a : Act), Inv ops M l rem → cnt rem ≤ n → Norm rem → Rel P c ops g0 w0 g w rem s a → Run ops (fsts rem) [] s out → Kept M s0 s → wpAny P .any ops Q n l a w := by
  have empty : ∀ (l : Array Bool) (rem : RemL), Inv ops M l rem → Norm rem → Region.ready .any ops l = [] → rem = [] := fun l rem I hN hr => by
    have none' : ∀ n k, k ≤ n → ¬ ∃ p ∈ rem, p.2 = none ∧ p.1.x.i = k := by
      intro n
      induction n with
      | zero =>
        rintro k hk ⟨p, p1, p2, rfl⟩
        obtain ⟨pm, plt⟩ := I.lt R p1
        have : p.1.x.i ∈ Region.ready .any ops l := ready_iff.2 ⟨plt, by
          have := I.undone R p1 p2
          rw [Array.getD_eq_getD_getElem?] at this ⊢
          rw [Array.getElem?_eq_getElem (by rw [I.sz]; exact plt)] at this ⊢
          exact this, fun e he hb => by
            have ho : opI ops p.1.x.i = p.1.x.o := by have h1 := opI_get plt; rw [(R.wg _ pm).wf.hi] at h1; injection h1 with h1; exact h1.symm
            rw [ho] at he
            have := R.lt _ pm e he hb
            omega⟩
        rw [hr] at this
        cases this
      | succ n ih =>
        rintro k hk ⟨p, p1, p2, rfl⟩
        obtain ⟨pm, plt⟩ := I.lt R p1
        have : p.1.x.i ∈ Region.ready .any ops l := ready_iff.2 ⟨plt, by
          have := I.undone R p1 p2
          rw [Array.getD_eq_getD_getElem?] at this ⊢
          rw [Array.getElem?_eq_getElem (by rw [I.sz]; exact plt)] at this ⊢
          exact this, fun e he hb => by
            have ho : opI ops p.1.x.i = p.1.x.o := by have h1 := opI_get plt; rw [(R.wg _ pm).wf.hi] at h1; injection h1 with h1; exact h1.symm
            rw [ho] at he
            have hlt := R.lt _ pm e he hb
            cases hq : l.getD e.on false with
            | true => rfl
            | false => exact absurd ((I.mem e.on (by omega)).1 hq) (ih e.on (by omega))⟩
        rw [hr] at this
        cases this
    cases rem with
    | nil => rfl
    | cons p rem =>
      exfalso
      cases hp : p.2 with
      | none => exact none' _ _ (Nat.le_refl _) ⟨p, List.mem_cons_self, hp, rfl⟩
      | some b =>
        obtain ⟨q, hq, _⟩ := hN [] p.1 b rem (by rw [← hp]; rfl)
        cases hq
  have fin : ∀ (l : Array Bool) (rem : RemL) (s : Sg) (g : G) (w : World) (a : Act), Inv ops M l rem → Norm rem → Rel P c ops g0 w0 g w rem s a → Run ops (fsts rem) [] s out → Kept M s0 s → Region.ready .any ops l = [] → Q .normal a w := by
    intro l rem s g w a I hN hr hrun hk hready
    have := empty l rem I hN hready
    subst this
    cases hrun
    exact hQ g w a hr hk
  intro n
  induction n with
  | zero =>
    intro l rem s g w a I hn hN hr hrun hk
    have hnone : ∀ p ∈ rem, p.2 ≠ none := fun p hp h2 => by
      have : p ∈ rem.filter (fun p => p.2.isNone) := List.mem_filter.2 ⟨hp, by rw [h2]; rfl⟩
      unfold cnt at hn
      rw [List.length_eq_zero_iff.1 (Nat.le_zero.1 hn)] at this
      cases this
    have hready : Region.ready .any ops l = [] := by
      rw [List.eq_nil_iff_forall_not_mem]
      intro i hi
      obtain ⟨h1, h2, _⟩ := ready_iff.1 hi
      obtain ⟨p, p1, p2, _⟩ := (I.mem i h1).1 (by
        rw [Array.getD_eq_getD_getElem?] at h2 ⊢
        rw [Array.getElem?_eq_getElem (by rw [I.sz]; exact h1)] at h2 ⊢
        exact h2)
      exact hnone p p1 p2
    exact ⟨hready, fin l rem s g w a I hN hr hrun hk hready⟩
  | succ n ih =>
    intro l rem s g w a I hn hN hr hrun hk
    refine ⟨fin l rem s g w a I hN hr hrun hk, fun i hi => ?_⟩
    obtain ⟨h1, h2, h3⟩ := ready_iff.1 hi
    obtain ⟨p, p1, p2, p3⟩ := (I.mem i h1).1 (by
      rw [Array.getD_eq_getD_getElem?] at h2 ⊢
      rw [Array.getElem?_eq_getElem (by rw [I.sz]; exact h1)] at h2 ⊢
      exact h2)
    obtain ⟨y, yb⟩ := p
    dsimp only at p2 p3
    subst p2
    obtain ⟨pre, post, rfl⟩ := List.append_of_mem p1
    obtain ⟨yM, _⟩ := I.lt R p1
    have yM : y ∈ M := yM
    have hw := R.wg y yM
    have hyi : ops[i]? = some y.x.o := by rw [← p3]; exact hw.wf.hi
    have hedge : ∀ e ∈ y.x.o.after.toList, Region.binds .any e = true → l.getD e.on false = true := by
      have ho : opI ops i = y.x.o := by have h4 := opI_get h1; rw [hyi] at h4; injection h4 with h4; exact h4.symm
      rw [← ho]
      exact h3
    have hyl : l.getD y.x.i false = false := I.undone R p1 rfl
    have hanc : ∀ k, has y.x.A k = true → l.getD k false = true := anc_done R I.down y.x.i y (Nat.le_refl _) yM hedge
    have hpw : (fsts (pre ++ (y, none) :: post)).Pairwise PairOk := R.pw.sublist I.sub
    have hpw' := hpw
    rw [fsts, List.map_append, List.map_cons] at hpw'
    obtain ⟨pw1, pw2, pw3⟩ := List.pairwise_append.1 hpw'
    have hprem : ∀ q ∈ pre, q ∈ pre ++ (y, none) :: post := fun q hq => List.mem_append_left _ hq
    have hposm : ∀ q ∈ post, q ∈ pre ++ (y, none) :: post := fun q hq => List.mem_append_right _ (List.mem_cons_of_mem _ hq)
    -- nothing ahead must come before
    have hno : ∀ q ∈ pre, has y.x.A q.1.x.i = false := fun q hq => by
      cases hb : has y.x.A q.1.x.i with
      | false => rfl
      | true =>
        exfalso
        cases hq2 : q.2 with
        | none =>
          have := I.undone R (hprem q hq) hq2
          rw [hanc _ hb] at this
          cases this
        | some b =>
          obtain ⟨pre1, pre2, rfl⟩ := List.append_of_mem hq
          obtain ⟨x, hx, hx2, hx3⟩ := hN pre1 q.1 b (pre2 ++ (y, none) :: post) (by rw [← hq2]; simp)
          have hxm : x ∈ (pre1 ++ q :: pre2) ++ (y, none) :: post := hprem x (List.mem_append_left _ hx)
          have hxu := I.undone R hxm hx3
          have hsub : [x.1, q.1, y].Sublist M := by
            refine List.Sublist.trans ?_ I.sub
            rw [fsts, List.map_append, List.map_append, List.map_cons, List.map_cons]
            have s1 : [x.1].Sublist (pre1.map (·.1)) := List.singleton_sublist.2 (List.mem_map_of_mem (f := (·.1)) hx)
            have s2 : [q.1].Sublist (q.1 :: pre2.map (·.1)) := List.singleton_sublist.2 List.mem_cons_self
            have s3 : [y].Sublist (y :: post.map (·.1)) := List.singleton_sublist.2 List.mem_cons_self
            exact (s1.append s2).append s3
          rcases R.tri x.1 q.1 y hsub hx2 (hr.gh q (hprem q hq) b hq2).1 with h | h
          · have := I.edges R (hprem q hq) (by rw [hq2]; simp) h
            rw [hxu] at this
            cases this
          · have := hanc _ (h hb)
            rw [hxu] at this
            cases this
    have hfree : ∀ q ∈ pre, Wf ops q.1 ∧ Free q.1 y := fun q hq => ⟨(R.wg _ (I.lt R (hprem q hq)).1).wf, (pw3 q.1 (List.mem_map_of_mem (f := (·.1)) hq) y List.mem_cons_self).free (hno q hq)⟩
    have hghost : ∀ q ∈ pre ++ post, q.2 ≠ none → ∀ d, q.1.x.o.dst = some d → has y.x.R d = true ∨ has y.x.W d = true → False := fun q hq hq2 d hd hrw => by
      rcases List.mem_append.1 hq with hq | hq
      · obtain ⟨q1, q2⟩ := hfree q hq
        rcases hrw with h | h
        · exact apart_spec (apart_or q2.w1).1 (q1.wr d hd) h
        · exact apart_spec (apart_or q2.w1).2 (q1.wr d hd) h
      · have hqM := (I.lt R (hposm q hq)).1
        have hnq : has q.1.x.A y.x.i = false := by
          cases hb : has q.1.x.A y.x.i with
          | false => rfl
          | true =>
            have := I.edges R (hposm q hq) hq2 hb
            rw [hyl] at this
            cases this
        have q2 := ((List.pairwise_cons.1 pw2).1 q.1 (List.mem_map_of_mem (f := (·.1)) hq)).free hnq
        rcases hrw with h | h
        · exact apart_spec (apart_or q2.w2).1 ((R.wg _ hqM).wf.wr d hd) h
        · exact apart_spec (apart_or q2.w2).2 ((R.wg _ hqM).wf.wr d hd) h
    have hgd : ∀ q ∈ pre ++ post, q.2 ≠ none → ∀ d, y.x.o.dst = some d → q.1.x.o.dst ≠ some d := fun q hq hq2 d hd e => hghost q hq hq2 d e (.inr (hw.wf.wr d hd))
    have hT : ∀ d, has y.x.R d = true → VR g w (s.T d) (a.tmps.getD d undef) := fun d hd => hr.T d fun q hq hq2 e => by
      rcases List.mem_append.1 hq with hq | hq
      · exact hghost q (List.mem_append_left _ hq) hq2 d e (.inl hd)
      · rcases List.mem_cons.1 hq with rfl | hq
        · exact hq2 rfl
        · exact hghost q (List.mem_append_right _ hq) hq2 d e (.inl hd)
    have hss : (pre ++ post).Sublist (pre ++ (y, none) :: post) := List.Sublist.append_left (List.sublist_cons_self _ _) _
    have hcnt : cnt (pre ++ post) ≤ n := by
      unfold cnt at hn ⊢
      rw [List.filter_append, List.filter_cons_of_pos (by rfl), List.length_append, List.length_cons] at hn
      rw [List.filter_append, List.length_append]
      omega
    have I1 : Inv ops M (l.setIfInBounds i true) (pre ++ post) := by rw [← p3]; exact I.step R hedge (fun q hq => .inl hq) (fun q hq _ => hq) ((hss.map _).trans I.sub)
    -- behind a step
    have next : ∀ (v : FV) (H : MH) (D : List FV), Run ops (fsts pre ++ fsts post) [] ⟨wrT s.T y.x.o.dst v, H, D⟩ out → ∀ g' w' x ds, HR g' w' H → VR g' w' v x → DRs g' w' D ds → Evo g w g' w' → wpAny P .any ops Q n (l.setIfInBounds i true) ({ a with defers := ds }.put y.x.o.dst x) w' := by
      intro v H D hrun1 g' w' x ds hH hv hD ev
      have r1 := step_rel hw hr hgd hH hv hD ev
      obtain ⟨rem', s', g2, k1, k2, k3, k4, k5, k6⟩ := normalize R (pre ++ post).length (pre ++ post) _ g' (Nat.le_refl _) I1.sub (fun p hp q hq hp2 hq2 => by
        cases hb : has p.1.x.A q.1.x.i with
        | false => rfl
        | true =>
          have e1 := I1.edges R hp hp2 hb
          rw [I1.undone R hq hq2] at e1
          cases e1) r1 (by rw [fsts, List.map_append]; exact hrun1)
      exact ih _ rem' s' g2 w' _ (I1.less k1 k2) (Nat.le_trans (cnt_sub k1) hcnt) k3 k4 k5 ((hk.trans (Kept.wr yM)).trans k6)
    have hpre' : ∀ j ∈ fsts pre, Wf ops j ∧ Free j y := fun j hj => by
      obtain ⟨q, hq, rfl⟩ := List.mem_map.1 hj
      exact hfree q hq
    have hrun' : Run ops (fsts pre ++ y :: fsts post) [] s out := by
      have := hrun
      rw [fsts, List.map_append, List.map_cons] at this
      exact this
    have hex := fun K => exec_ok (K := K) (Q := Q) hw hT hr.hr hr.dr
    by_cases hk1 : y.x.k ≤ 1
    · obtain ⟨v, e1, e2⟩ := front_lo hw.wf hk1 (fsts pre) (fsts post) [] s out hpre' (by simp) hrun'
      exact wpG_op hyi ((hex _).1 v s.H s.D e1 (next v s.H s.D e2))
    · have hi2 : (∀ q ∈ pre, q.1.x.k ≤ 1) → wpOp P ops Q i (wpAny P .any ops Q n (l.setIfInBounds i true)) a w := fun hlow => by
        rcases front_hi hw.wf (by omega) (fsts pre) (fsts post) [] s out (fun j hj => by
          obtain ⟨q, hq, rfl⟩ := List.mem_map.1 hj
          exact ⟨(hfree q hq).1, (hfree q hq).2, hlow q hq⟩) (pw1.imp fun h => h.r1) (by simp) hrun' with ⟨v, H, D, e1, _, e3⟩ | ⟨ch, H, _, e2, e3⟩
        · exact wpG_op hyi ((hex _).1 v H D e1 (next v H D e3))
        · subst e3
          refine wpG_op hyi ((hex _).2 ch H e2 fun g' w' pc hH hch ev => ?_)
          refine hQ g' w' pc a hr.sz (fun d hd => ?_) hH (hr.dr.le ev.le) hch (hr.ev.trans ev)
          rw [← hk d hd]
          refine VR.le ev.le _ _ (hr.T d fun q hq _ => hd q.1 (I.lt R hq).1)
      by_cases hlow : ∀ q ∈ pre, q.1.x.k ≤ 1
      · exact hi2 hlow
      · have hq : ∃ q ∈ pre, 2 ≤ q.1.x.k := by
          apply Classical.byContradiction
          intro h
          apply hlow
          intro q hq
          apply Classical.byContradiction
          intro h4
          exact h ⟨q, hq, by omega⟩
        obtain ⟨q, hq, hqk⟩ := hq
        have hk3 : y.x.k = 3 := by
          have hy3 := hw.k3
          have hq3 := (R.wg _ (I.lt R (hprem q hq)).1).k3
          have f := (hfree q hq).2
          have f2 := f.k2
          have f3 := f.k3
          omega
        rcases hw.al hk3 with hfail | ⟨loc, lz, cur, e, d, hal⟩
        · exfalso
          obtain ⟨s', v, H, D, e'⟩ := run_hits (by omega) (fsts pre) (fsts post) [] s out (fun j hj => (hpre' j hj).2.a) hrun'
          rw [hfail] at e'
          cases e'
        have hwit : ∃ x ∈ pre, 2 ≤ x.1.x.k ∧ x.2 = none := by
          cases hq2 : q.2 with
          | none => exact ⟨q, hq, hqk, hq2⟩
          | some b =>
            obtain ⟨pre1, pre2, rfl⟩ := List.append_of_mem hq
            obtain ⟨x, hx, hx2⟩ := hN pre1 q.1 b (pre2 ++ (y, none) :: post) (by rw [← hq2]; simp)
            exact ⟨x, List.mem_append_left _ hx, hx2⟩
        have hwd : Region.wanted y.x.o (yielded ops a.tmps) = true := by simp [Region.wanted, hal.grd]
        refine wpG_op hyi ?_
        unfold wpG
        rw [if_pos hwd]
        unfold Oper.wp
        rw [hal.run w a, Oper.upon_value]
        have r1 := early_rel hw hal hk3 hr fun q hq hq2 e => hgd q hq hq2 d hal.dst e
        have hfs : fsts (pre ++ (y, some w.heap.size) :: post) = fsts (pre ++ (y, none) :: post) := by simp [fsts]
        have I2 : Inv ops M (l.setIfInBounds i true) (pre ++ (y, some w.heap.size) :: post) := by
          rw [← p3]
          refine I.step R hedge (fun q hq => ?_) (fun q hq _ => ?_) (by rw [hfs]; exact I.sub)
          · rcases List.mem_append.1 hq with hq | hq
            · exact .inl (List.mem_append_left _ hq)
            · rcases List.mem_cons.1 hq with rfl | hq
              · exact .inr ⟨rfl, by simp⟩
              · exact .inl (List.mem_append_right _ hq)
          · rcases List.mem_append.1 hq with hq | hq
            · exact List.mem_append_left _ hq
            · exact List.mem_append_right _ (List.mem_cons_of_mem _ hq)
        refine ih _ _ s _ _ _ I2 ?_ ?_ r1 (by rw [hfs]; exact hrun) hk
        · unfold cnt at hcnt ⊢
          rw [List.filter_append] at hcnt ⊢
          rw [List.filter_cons_of_neg (by simp)]
          exact hcnt
        · intro pre' z b post' e'
          rcases List.append_eq_append_iff.1 e' with ⟨m, m1, m2⟩ | ⟨m, m1, m2⟩
          · obtain ⟨x, hx, hx2⟩ := hwit
            exact ⟨x, by rw [m1]; exact List.mem_append_left _ hx, hx2⟩
          · cases m with
            | nil =>
              rw [List.append_nil] at m1
              obtain ⟨x, hx, hx2⟩ := hwit
              exact ⟨x, by rw [← m1]; exact hx, hx2⟩
            | cons t m =>
              rw [List.cons_append] at m2
              injection m2 with m2 m3
              subst m2
              exact hN pre' z b (m ++ (y, none) :: post) (by rw [m1]; simp)
end
end Go.Proofs.YtkdpinpmjkomoaaGreatDoor.E
/- A reckoner for closed calls (D7): the order that is reckoned. -/
namespace Go.Proofs.YtkdpinpmjkomoaaGreatDoor.E
open Go

section
variable {ops : Array Oper}
structure DIOk (ops : Array Oper) (x : DI) : Prop where
  hi : ops[x.i]? = some x.o
  R : x.R = Nat.lor (maskOf (opsOf x.o)) (guardR ops x.o)
  W : x.W = dstW x.o
  k : x.k = kindD x.o
theorem has_or (a b d : Nat) : has (Nat.lor a b) d = (has a d || has b d) := by
  rw [has_bit, has_bit, has_bit]
  exact Nat.testBit_or a b d
theorem has_pow (a d : Nat) : has (bit a) d = decide (a = d) := by
  rw [has_bit]
  exact Nat.testBit_two_pow
theorem has_zero (d : Nat) : has 0 d = false := by rw [has_bit, Nat.zero_testBit]
theorem mask_has {d : Nat} : ∀ {os : List Operand}, .tmp d ∈ os → has (maskOf os) d = true
  | o :: os, h => by
    unfold maskOf
    rw [has_or]
    rcases List.mem_cons.1 h with rfl | h
    · show (has (bit d) d || _) = true
      rw [has_pow]
      simp
    · rw [mask_has h, Bool.or_true]
theorem getI_spec {n : Nat} {x : DI} : ∀ {l : List DI}, getI l n = some x → x ∈ l ∧ x.i = n
  | y :: l, h => by
    unfold getI at h
    cases hb : Nat.beq y.i n with
    | true => rw [hb] at h; injection h with h; subst h; exact ⟨List.mem_cons_self, Nat.eq_of_beq_eq_true hb⟩
    | false => rw [hb] at h; obtain ⟨h1, h2⟩ := getI_spec (l := l) h; exact ⟨List.mem_cons_of_mem _ h1, h2⟩
theorem ancI_spec {l : List DI} : ∀ {es : List Edge} {A : Nat}, ancI l es = some A → (∀ e ∈ es, Region.binds .any e = true → ∃ z ∈ l, z.i = e.on) ∧ ∀ k, has A k = true → ∃ e ∈ es, Region.binds .any e = true ∧ (e.on = k ∨ ∃ z ∈ l, z.i = e.on ∧ has z.A k = true)
  | [], A, h => by
    injection h with h
    subst h
    exact ⟨by simp, fun k hk => by rw [has_zero] at hk; cases hk⟩
  | e :: es, A, h => by
    unfold ancI at h
    cases h1 : ancI l es with
    | none => rw [h1] at h; cases h
    | some m =>
      rw [h1] at h
      dsimp only at h
      obtain ⟨i1, i2⟩ := ancI_spec h1
      cases hb : Region.binds .any e with
      | false =>
        rw [hb] at h
        injection h with h
        subst h
        refine ⟨fun e' he hb' => ?_, fun k hk => ?_⟩
        · rcases List.mem_cons.1 he with rfl | he
          · rw [hb] at hb'; cases hb'
          · exact i1 e' he hb'
        · obtain ⟨e', a, b⟩ := i2 k hk
          exact ⟨e', List.mem_cons_of_mem _ a, b⟩
      | true =>
        rw [hb] at h
        dsimp only [cond] at h
        cases hg : getI l e.on with
        | none => rw [hg] at h; cases h
        | some x =>
          rw [hg] at h
          injection h with h
          subst h
          obtain ⟨g1, g2⟩ := getI_spec hg
          refine ⟨fun e' he hb' => ?_, fun k hk => ?_⟩
          · rcases List.mem_cons.1 he with rfl | he
            · exact ⟨x, g1, g2⟩
            · exact i1 e' he hb'
          · rw [has_or, has_or, has_pow, Bool.or_eq_true, Bool.or_eq_true, decide_eq_true_iff] at hk
            rcases hk with hk | hk | hk
            · obtain ⟨e', a, b⟩ := i2 k hk
              exact ⟨e', List.mem_cons_of_mem _ a, b⟩
            · exact ⟨e, List.mem_cons_self, hb, .inl hk⟩
            · exact ⟨e, List.mem_cons_self, hb, .inr ⟨x, g1, g2, hk⟩⟩
/-- What is known of all of them. -/
structure InfoOk (ops : Array Oper) (m : List DI) (x : DI) : Prop where
  ok : DIOk ops x
  lt : ∀ e ∈ x.o.after.toList, Region.binds .any e = true → e.on < x.i
  anc : ∀ k, has x.A k = true → ∃ e ∈ x.o.after.toList, Region.binds .any e = true ∧ (e.on = k ∨ ∃ z ∈ m, z.i = e.on ∧ has z.A k = true)
theorem InfoOk.more {m m' : List DI} {x : DI} (h : InfoOk ops m x) (hs : ∀ z ∈ m, z ∈ m') : InfoOk ops m' x :=
  ⟨h.ok, h.lt, fun k hk => let ⟨e, h1, h2, h3⟩ := h.anc k hk; ⟨e, h1, h2, h3.imp (fun h => h) fun ⟨z, z1, z2⟩ => ⟨z, hs z z1, z2⟩⟩⟩
theorem infoI_spec : ∀ (os : List Oper) (i : Nat) (l m : List DI), os = ops.toList.drop i → (∀ x ∈ l, x.i < i ∧ InfoOk ops l x) → (∀ x ∈ l, ∀ z ∈ l, x.i = z.i → x = z) → infoI ops os i l = some m → (∀ x ∈ m, InfoOk ops m x) ∧ ∀ x ∈ m, ∀ z ∈ m, x.i = z.i → x = z
  | [], i, l, m, _, hl, hu, h => by
    injection h with h
    subst h
    exact ⟨fun x hx => (hl x hx).2, hu⟩
  | o :: os, i, l, m, ho, hl, hu, h => by
    unfold infoI at h
    cases hA : ancI l o.after.toList with
    | none => rw [hA] at h; cases h
    | some A =>
      rw [hA] at h
      have hd : ops[i]? = some o := by
        have : (ops.toList.drop i)[0]? = some o := by rw [← ho]; rfl
        simpa using this
      have ho' : os = ops.toList.drop (i + 1) := by
        have := congrArg (List.drop 1) ho
        simpa using this
      obtain ⟨a1, a2⟩ := ancI_spec hA
      refine infoI_spec os (i + 1) _ m ho' (fun x hx => ?_) (fun x hx z hz e => ?_) h
      case refine_2 =>
        rcases List.mem_cons.1 hx with hx | hx
        · rcases List.mem_cons.1 hz with hz | hz
          · rw [hx, hz]
          · have := (hl z hz).1
            rw [hx] at e
            have e : i = z.i := e
            omega
        · rcases List.mem_cons.1 hz with hz | hz
          · have := (hl x hx).1
            rw [hz] at e
            have e : x.i = i := e
            omega
          · exact hu x hx z hz e
      rcases List.mem_cons.1 hx with rfl | hx
      · refine ⟨Nat.lt_succ_self _, ⟨hd, rfl, rfl, rfl⟩, fun e he hb => ?_, fun k hk => ?_⟩
        · obtain ⟨z, z1, z2⟩ := a1 e he hb
          have := (hl z z1).1
          show e.on < i
          omega
        · obtain ⟨e, e1, e2, e3⟩ := a2 k hk
          exact ⟨e, e1, e2, e3.imp (fun h => h) fun ⟨z, z1, z2⟩ => ⟨z, List.mem_cons_of_mem _ z1, z2⟩⟩
      · obtain ⟨h1, h2⟩ := hl x hx
        exact ⟨by omega, h2.more fun z hz => List.mem_cons_of_mem _ hz⟩
theorem pick1_mem {p : Nat → Bool} {done : Nat} (l : List DI) : ∀ (x : DI) (m : List DI), pick1 p done l = some (x, m) → x ∈ l ∧ ∀ z ∈ m, z ∈ l := by
  induction l with
  | nil => intro x m h; cases h
  | cons y l ih =>
    intro x m h
    have h : cond (p y.k && sub y.A done) (some (y, l)) (match pick1 p done l with
      | some (z, m) => some (z, y :: m)
      | none => none) = some (x, m) := h
    cases hc : (p y.k && sub y.A done) with
    | true =>
      rw [hc] at h
      injection h with h
      injection h with h1 h2
      subst h1 h2
      exact ⟨List.mem_cons_self, fun z hz => List.mem_cons_of_mem _ hz⟩
    | false =>
      rw [hc] at h
      dsimp only [cond] at h
      cases hp : pick1 p done l with
      | none => rw [hp] at h; cases h
      | some r =>
        obtain ⟨y', m'⟩ := r
        rw [hp] at h
        injection h with h
        injection h with h1 h2
        subst h1 h2
        obtain ⟨k1, k2⟩ := ih _ _ hp
        refine ⟨List.mem_cons_of_mem _ k1, fun z hz => ?_⟩
        rcases List.mem_cons.1 hz with rfl | hz
        · exact List.mem_cons_self
        · exact List.mem_cons_of_mem _ (k2 z hz)
theorem pickI_mem {done : Nat} {l : List DI} {x : DI} {m : List DI} (h : pickI done l = some (x, m)) : x ∈ l ∧ ∀ z ∈ m, z ∈ l := by
  unfold pickI at h
  split at h
  · rename_i r hr; injection h with h; subst h; exact pick1_mem _ _ _ hr
  · split at h
    · rename_i r hr; injection h with h; subst h; exact pick1_mem _ _ _ hr
    · exact pick1_mem _ _ _ h
theorem sched_mem : ∀ (n done : Nat) (l : List DI), ∀ z ∈ sched n done l, z ∈ l
  | 0, _, _, z, hz => by cases hz
  | n + 1, done, l, z, hz => by
    unfold sched at hz
    cases hp : pickI done l with
    | none => rw [hp] at hz; cases hz
    | some r =>
      obtain ⟨x, m⟩ := r
      rw [hp] at hz
      obtain ⟨k1, k2⟩ := pickI_mem hp
      rcases List.mem_cons.1 hz with rfl | hz
      · exact k1
      · exact k2 z (sched_mem n _ m z hz)
theorem okAll_spec : ∀ {l : List DI}, okAll l = true → l.Pairwise (fun x y => okPair x y = true)
  | [], _ => .nil
  | x :: l, h => by
    simp only [okAll, Bool.and_eq_true, List.all_eq_true] at h
    exact List.pairwise_cons.2 ⟨h.1, okAll_spec h.2⟩
theorem okTri_spec : ∀ {l pre : List DI}, okTri pre l = true → ∀ x a y, (x ∈ pre ∧ [a, y].Sublist l) ∨ [x, a, y].Sublist l → 2 ≤ x.k → a.k = 3 → has a.A x.i = true ∨ (has y.A a.i = true → has y.A x.i = true)
  | [], pre, _, x, a, y, hs, _, _ => by
    rcases hs with ⟨_, hs⟩ | hs <;> cases hs
  | b :: l, pre, h, x, a, y, hs, hx, ha => by
    simp only [okTri, Bool.and_eq_true] at h
    have ih := fun hs => okTri_spec h.2 x a y hs hx ha
    have here : x ∈ pre → a = b → y ∈ l → has a.A x.i = true ∨ (has y.A a.i = true → has y.A x.i = true) := fun h1 h2 h3 => by
      subst h2
      have h4 := h.1
      simp only [Bool.or_eq_true, Bool.not_eq_true', List.all_eq_true] at h4
      rcases h4 with h4 | h4
      · rw [ha] at h4; cases h4
      · rcases h4 x h1 with (h5 | h5) | h5
        · rw [Nat.ble_eq_true_of_le hx] at h5; cases h5
        · exact .inl h5
        · right
          intro h6
          rcases h5 y h3 with h7 | h7
          · rw [h6] at h7; cases h7
          · exact h7
    rcases hs with ⟨h1, hs⟩ | hs
    · cases hs with
      | cons _ hs => exact ih (.inl ⟨List.mem_append_left _ h1, hs⟩)
      | cons_cons _ hs => exact here h1 rfl (List.singleton_sublist.1 hs)
    · cases hs with
      | cons _ hs => exact ih (.inr hs)
      | cons_cons _ hs => exact ih (.inl ⟨by simp, hs⟩)
/-- The order that is reckoned, as what it is checked for. -/
structure OrdOk (ops : Array Oper) (m : List DI) : Prop where
  info : ∀ x ∈ m, InfoOk ops m x
  one : ∀ x ∈ m, ok1 x = true
  pw : m.Pairwise (fun x y => okPair x y = true)
  tri : ∀ x a y, [x, a, y].Sublist m → 2 ≤ x.k → a.k = 3 → has a.A x.i = true ∨ (has y.A a.i = true → has y.A x.i = true)
  all : ∀ i, i < ops.size → ∃ x ∈ m, x.i = i
  trz : okTrz m = true
theorem orderD_spec {m : List DI} (h : orderD ops = some m) : OrdOk ops m := by
  unfold orderD at h
  split at h
  · rename_i l hl
    dsimp only at h
    cases hc : ((List.range ops.size).all (fun i => (sched ops.size 0 l.reverse).any fun x => Nat.beq x.i i) && (sched ops.size 0 l.reverse).all ok1 && okAll (sched ops.size 0 l.reverse) && okTri [] (sched ops.size 0 l.reverse) && okTrz (sched ops.size 0 l.reverse)) with
    | false => rw [hc] at h; cases h
    | true =>
      rw [hc] at h
      injection h with h
      subst h
      simp only [Bool.and_eq_true, List.all_eq_true, List.any_eq_true, List.mem_range] at hc
      obtain ⟨⟨⟨⟨c1, c2⟩, c3⟩, c4⟩, c5⟩ := hc
      obtain ⟨i1, i2⟩ := infoI_spec ops.toList 0 [] l (by simp) (by simp) (by simp) hl
      have hmem : ∀ z ∈ sched ops.size 0 l.reverse, z ∈ l := fun z hz => by simpa using sched_mem _ _ _ z hz
      have hall : ∀ i, i < ops.size → ∃ x ∈ sched ops.size 0 l.reverse, x.i = i := fun i hi => by
        obtain ⟨x, x1, x2⟩ := c1 i hi
        exact ⟨x, x1, Nat.eq_of_beq_eq_true x2⟩
      refine ⟨fun x hx => (i1 x (hmem x hx)).more fun z hz => ?_, c2, okAll_spec c3, fun x a y hs hx ha => okTri_spec c4 x a y (.inr hs) hx ha, hall, c5⟩
      have hzi : z.i < ops.size := (Array.getElem?_eq_some_iff.1 (i1 z hz).ok.hi).1
      obtain ⟨x', x1, x2⟩ := hall z.i hzi
      rw [← i2 x' (hmem x' x1) z hz x2]
      exact x1
  · cases h
theorem okPair_spec {x y : DI} (h : okPair x y = true) : has x.A y.i = false ∧ x.i ≠ y.i ∧ (x.k = 1 → apart y.W (Nat.lor x.R x.W) = true) ∧ (x.k = 3 → apart y.W x.W = true) ∧
    (has y.A x.i = true ∨ (apart x.W (Nat.lor y.R y.W) = true ∧ apart y.W (Nat.lor x.R x.W) = true ∧ ¬ (2 ≤ x.k ∧ y.k = 1) ∧ ¬ (x.k = 2 ∧ y.k = 2) ∧ ¬ (x.k = 3 ∧ y.k = 2))) := by
  simp only [okPair, Bool.and_eq_true, Bool.or_eq_true, Bool.not_eq_true'] at h
  obtain ⟨⟨⟨⟨h1, h2⟩, h3⟩, h4⟩, h5⟩ := h
  have hb : ∀ {a b : Nat}, Nat.beq a b = false → a ≠ b := fun h e => by rw [e, beq_t] at h; cases h
  refine ⟨h1, hb h2, fun e => h3.resolve_left (fun h => hb h e), fun e => h4.resolve_left (fun h => hb h e), ?_⟩
  rcases h5 with h5 | ⟨⟨⟨⟨a1, a2⟩, a3⟩, a4⟩, a5⟩
  · exact .inl h5
  · refine .inr ⟨a1, a2, ?_, ?_, ?_⟩
    · rintro ⟨e1, e2⟩
      rw [Nat.ble_eq_true_of_le e1, e2] at a3
      exact absurd a3 (by decide)
    · rintro ⟨e1, e2⟩
      rw [e1, e2] at a4
      exact absurd a4 (by decide)
    · rintro ⟨e1, e2⟩
      rw [e1, e2] at a5
      exact absurd a5 (by decide)
end
end Go.Proofs.YtkdpinpmjkomoaaGreatDoor.E
/- A reckoner for closed calls (D8): compiled operations as steps. -/
namespace Go.Proofs.YtkdpinpmjkomoaaGreatDoor.E
open Go
noncomputable section
def Tof (c : Cf) (seen : List Nat) (env : Env) (st : ST) : Nat → FV := fun d => (srcOf c seen (.tmp d)).g env st
def envq (dst : Option Nat) (v : FV) (env : Env) : Env := match dst with
  | some d => ⟨d, v⟩ :: env
  | none => env
def appD (fl : List (Nat × Pth)) (ch : KG) (y : It) (C : CO) (k : KO) (env : Env) (s : S) : OpRes → Out
  | .ok v H D => k (envq y.x.o.dst v env) ⟨s.st, H, D, s.u⟩
  | .panic c H => Bool.rec .fail (.panic c ⟨puts fl [] s.st, H, s.D, s.u⟩) (isNorm (ch.g C env s))
  | .fail => .fail
structure HOk (P : Program) (c : Cf) (ops : Array Oper) (fl : List (Nat × Pth)) (ch : KG) (seen : List Nat) (C : CO) (y : It) (h : OpF) : Prop where
  wg : Wg P c ops y
  eq : ∀ k env s, h.g C k env s = .fail ∨ h.g C k env s = appD fl ch y C k env s (ans ops y ⟨Tof c seen env s.st, s.H, s.D⟩)
section
variable {P : Program} {c : Cf} {ops : Array Oper} {fl : List (Nat × Pth)} {ch : KG} {seen : List Nat} {C : CO} {x : DI}
theorem gets_tv (env : Env) (st : ST) : ∀ os : List Operand, gets (os.map (srcOf c seen)) env st = os.map (tv (Tof c seen env st))
  | [] => rfl
  | o :: os => by
    show (srcOf c seen o).g env st :: gets (os.map (srcOf c seen)) env st = _
    rw [gets_tv env st os]
    cases o <;> rfl
theorem clsOf_le (o : Oper) : clsOf o ≤ 2 := by
  unfold clsOf
  split <;> first | decide | skip
  split <;> decide
theorem kindD_le (o : Oper) : kindD o ≤ 3 := by
  unfold kindD
  split
  · exact Nat.le_refl _
  · exact Nat.le_trans (clsOf_le o) (by decide)
theorem kindD_lo {o : Oper} (h : kindD o ≠ 3) : kindD o = clsOf o := by
  unfold kindD at h ⊢
  split
  · rename_i t ho; rw [ho] at h; exact absurd rfl h
  · rfl
/-- What each step of the order has. -/
theorem wf_of (hx : DIOk ops x) (h1 : ok1 x = true) {os : List Operand} {F : List FV → MH → List FV → OpRes} (hs : ∀ z ∈ os, z ∈ opsOf x.o) (h0 : clsOf x.o = 0 → PureF F) (hr : clsOf x.o = 1 → ReadF F) (hn : x.k ≠ 2 → ∀ vs H D ch H', F vs H D ≠ .panic ch H') : Wf ops ⟨x, os, F⟩ := by
  have hk := hx.k
  simp only [ok1, Bool.and_eq_true, Bool.or_eq_true, Bool.not_eq_true'] at h1
  refine ⟨hx.hi, fun d hd => ?_, fun j want d hg hd => ?_, fun d hd => ?_, fun e => h0 ?_, fun e => ⟨hr ?_, ?_⟩, hn⟩
  · rw [hx.R, has_or, mask_has (hs _ hd), Bool.true_or]
  · have hg : x.o.guard = some (j, want) := hg
    rw [hx.R, has_or]
    have : guardR ops x.o = bit d := by unfold guardR; rw [hg]; dsimp only; rw [hd]
    rw [this, has_pow]
    simp
  · have hd : x.o.dst = some d := hd
    rw [hx.W]
    unfold dstW
    rw [hd]
    show has (bit d) d = true
    rw [has_pow]
    simp
  · have e : x.k = 0 := e
    rw [← kindD_lo (by omega)]; omega
  · have e : x.k = 1 := e
    rw [← kindD_lo (by omega)]; omega
  · have e : x.k = 1 := e
    rcases h1.2 with h | ⟨h2, h3⟩
    · rw [e] at h; cases h
    · exact ⟨Option.isSome_iff_exists.1 h3, h2⟩
theorem fail_hok (hx : DIOk ops x) (h1 : ok1 x = true) (hd : ∀ d, x.o.dst = some d → d < c.n) : HOk P c ops fl ch seen C ⟨x, [], fun _ _ _ => .fail⟩ ⟨failO⟩ := by
  refine ⟨⟨wf_of hx h1 (by simp) (fun _ => ⟨fun _ => none, fun _ _ _ => rfl⟩) (fun _ => ⟨fun _ _ => none, fun _ _ _ => rfl⟩) (fun _ _ _ _ _ _ h => by cases h), hd, fun _ _ _ _ _ _ _ _ _ => trivial, fun e => .inl fun s => ?_, by show x.k ≤ 3; rw [hx.k]; exact kindD_le _⟩, fun _ _ _ => .inl rfl⟩
  have e : x.k = 3 := e
  simp only [ok1, Bool.and_eq_true, Bool.or_eq_true, Bool.not_eq_true'] at h1
  rcases h1.1 with h | ⟨h2, _⟩
  · rw [e] at h; cases h
  · have hg : x.o.guard = none := by simpa using h2
    unfold ans
    dsimp only
    rw [hg]
    rfl
/-- Behind the slot and the guard. -/
theorem grd_hok {y : It} {q : Q} {h : RF} (hy : Wg P c ops y) (hq : (y.x.o.dst = none ∧ q = ⟨qn⟩) ∨ ∃ d, y.x.o.dst = some d ∧ q = ⟨qe d⟩) (hh : ∀ k env s, h C k env s = .fail ∨ h C k env s = appD fl ch y C k env s (goA y ⟨Tof c seen env s.st, s.H, s.D⟩)) : HOk P c ops fl ch seen C y (guardOf ops y.x.o c seen q h) := by
  refine ⟨hy, fun k env s => ?_⟩
  have hsk : kv q UN k env s = appD fl ch y C k env s (.ok UN s.H s.D) := by
    unfold appD envq
    rcases hq with ⟨hd, rfl⟩ | ⟨d, hd, rfl⟩ <;> rw [hd] <;> rfl
  unfold guardOf ans
  cases hg : y.x.o.guard with
  | none => exact hh k env s
  | some gw =>
    obtain ⟨j, want⟩ := gw
    dsimp only
    cases hd : (ops[j]?).bind (·.dst) with
    | none => exact .inl rfl
    | some d =>
      dsimp only
      show guardV (cond want 1 0) q h C k env s (Tof c seen env s.st d) = .fail ∨ guardV (cond want 1 0) q h C k env s (Tof c seen env s.st d) = appD fl ch y C k env s (grdA (cond want 1 0) y ⟨Tof c seen env s.st, s.H, s.D⟩ (Tof c seen env s.st d))
      generalize Tof c seen env s.st d = v
      unfold guardV grdA
      cases Nat.beq v.k 1 with
      | true =>
        cases Nat.beq v.a (cond want 1 0) with
        | true => exact hh k env s
        | false => exact .inr hsk
      | false =>
        cases an (Nat.beq v.k 16) (Nat.beq (lenL v.l) 0) with
        | true => exact .inr hsk
        | false => exact .inl rfl
theorem qD_hok {Ψ : OpF → Prop} {dst : Option Nat} {k : Q → OpF} (h0 : Ψ ⟨failO⟩) (hk : ∀ q, ((dst = none ∧ q = ⟨qn⟩) ∨ ∃ d, dst = some d ∧ q = ⟨qe d⟩) → Ψ (k q)) : Ψ (qD c dst k) := by
  unfold qD
  split
  · exact hk _ (.inl ⟨rfl, rfl⟩)
  · rename_i d
    exact cond_ok (fun _ => hk _ (.inr ⟨d, rfl, rfl⟩)) h0
theorem kv_appD {y : It} {q : Q} (hq : (y.x.o.dst = none ∧ q = ⟨qn⟩) ∨ ∃ d, y.x.o.dst = some d ∧ q = ⟨qe d⟩) {r : OpRes} (hn : ∀ ch' H', r ≠ .panic ch' H') (k : KO) (env : Env) (s : S) : r.app q k env s = appD fl ch y C k env s r := by
  cases r with
  | ok v H D =>
    unfold appD envq OpRes.app
    rcases hq with ⟨hd, rfl⟩ | ⟨d, hd, rfl⟩ <;> rw [hd] <;> rfl
  | panic c H => exact absurd rfl (hn c H)
  | fail => rfl
end
end
end Go.Proofs.YtkdpinpmjkomoaaGreatDoor.E
/- A reckoner for closed calls (D9): every compiled operation of a region in an open order. -/
namespace Go.Proofs.YtkdpinpmjkomoaaGreatDoor.E
open Go
noncomputable section
section
variable {P : Program} {c : Cf} {ops : Array Oper} {fl : List (Nat × Pth)} {ch : KG} {seen : List Nat} {C : CO} {x : DI}
theorem kind3 {o : Oper} (h : kindD o = 3) : ∃ t, o.op = .alloc t := by
  unfold kindD at h
  split at h
  · rename_i t ho; exact ⟨t, ho⟩
  · have := clsOf_le o; omega
theorem base_alloc {o : Oper} {t : Nat} (ho : o.op = .alloc t) (k : (Q → RF) → OpF) : baseOf P c seen o k = match zeroM P t with
    | some z => cond (okF z) (k (ef0 (newE t (locD c o.dst) (cells z)))) ⟨failO⟩
    | none => ⟨failO⟩ := by
  simp only [baseOf, ho]
  rfl
theorem run_allocA {o : Oper} {t : Nat} {zv : Value} (ho : o.op = .alloc t) (hz : ∀ w : World, (zeroValue t).run P w = .ok zv w) (w : World) (a : Act) : (execOp a.eval o).run P w = .ok (.value (.pointer (some ⟨w.heap.size, 0, none⟩))) (w.alloc (.cells zv.cells t)) := by
  simp [execOp, ho, Instr.alloc, hz w, Go.newVar, Go.newRow, Go.newObj, Sem.run]
theorem snd_callF (hC : SndO P C) {o : Oper} {f : Operand} {args : Array Operand} {ts : Array TypeId} (ho : o.op = .call { callee := .value f, args, argTypes := ts }) {g : G} {w : World} {a : Act} {H : MH} {D : List FV} {vs : List FV} (hH : HR g w H) (hD : DRs g w D a.defers) (hv : VRs g w vs ((f :: args.toList).map a.eval)) : Snd P o g w a (callF C (E.hd vs) (tl vs) H D) := by
  unfold callF
  cases hb : Nat.beq (E.hd vs).k 11 with
  | false => trivial
  | true =>
    obtain ⟨v1, v2⟩ := vrsC hv
    obtain ⟨cs, hx, hcs⟩ := v1.vk.func (beqK hb)
    rw [appF_eq]
    exact snd_call hC ho hx hH hD v2 hcs
theorem opD_hok (hC : SndO P C) (hx : DIOk ops x) (h1 : ok1 x = true) (hd : ∀ d, x.o.dst = some d → d < c.n) : ∃ y : It, y.x = x ∧ HOk P c ops fl ch seen C y (opD P c ops fl ch seen x.o) := by
  have h0 : ∃ y : It, y.x = x ∧ HOk P c ops fl ch seen C y ⟨failO⟩ := ⟨_, rfl, fail_hok hx h1 hd⟩
  have hk3 : x.k ≤ 3 := by rw [hx.k]; exact kindD_le _
  unfold opD baseD
  split
  · rename_i f args ts ho
    refine qD_hok (Ψ := fun h => ∃ y : It, y.x = x ∧ HOk P c ops fl ch seen C y h) h0 fun q hq => ?_
    have hk2 : x.k = 2 := by rw [hx.k]; simp [kindD, clsOf, ho]
    have hw : Wf ops ⟨x, f :: args.toList, fun vs H D => callF C (E.hd vs) (tl vs) H D⟩ := wf_of hx h1 (by intro z hz; simpa [opsOf, ho] using hz) (fun e => by simp [clsOf, ho] at e) (fun e => by simp [clsOf, ho] at e) (fun e => absurd hk2 e)
    refine ⟨⟨x, f :: args.toList, fun vs H D => callF C (E.hd vs) (tl vs) H D⟩, rfl, grd_hok (y := ⟨x, f :: args.toList, fun vs H D => callF C (E.hd vs) (tl vs) H D⟩) ⟨hw, hd, fun g w a H D vs hH hD hv => snd_callF hC ho hH hD hv, fun e => ?_, hk3⟩ hq fun k env s => .inr ?_⟩
    · have e : x.k = 3 := e
      omega
    · show callDV fl ch (args.toList.map (srcOf c seen)) q C k env s ((srcOf c seen f).g env s.st) = appD fl ch _ C k env s (callF C (E.hd ((f :: args.toList).map (tv (Tof c seen env s.st)))) (tl ((f :: args.toList).map (tv (Tof c seen env s.st)))) s.H s.D)
      rw [← gets_tv]
      show callDV fl ch (args.toList.map (srcOf c seen)) q C k env s ((srcOf c seen f).g env s.st) = appD fl ch _ C k env s (callF C ((srcOf c seen f).g env s.st) (gets (args.toList.map (srcOf c seen)) env s.st) s.H s.D)
      generalize (srcOf c seen f).g env s.st = v
      unfold callDV callF
      cases Nat.beq v.k 11 with
      | false => rfl
      | true =>
        dsimp only [cond]
        cases C v.a (appF (gets (args.toList.map (srcOf c seen)) env s.st) v.l) s.H FF with
        | fail => rfl
        | panic c' H' u => rfl
        | ret v' H' u =>
          show putH q k env s v' H' = k (envq x.o.dst v' env) ⟨s.st, H', s.D, s.u⟩
          rw [putH_eq]
          show kv q v' k env ⟨s.st, H', s.D, s.u⟩ = k (envq x.o.dst v' env) ⟨s.st, H', s.D, s.u⟩
          unfold envq
          have hq : (x.o.dst = none ∧ q = ⟨qn⟩) ∨ ∃ d, x.o.dst = some d ∧ q = ⟨qe d⟩ := hq
          rcases hq with ⟨hd, rfl⟩ | ⟨d, hd, rfl⟩ <;> rw [hd] <;> rfl
  · rename_i hnc
    cases hthr : isThr x.o with
    | true => exact h0
    | false =>
      show ∃ y : It, y.x = x ∧ HOk P c ops fl ch seen C y (baseOf P c seen x.o fun g => qD c x.o.dst fun q => guardOf ops x.o c seen q (g q))
      by_cases hal : ∃ t, x.o.op = .alloc t
      · obtain ⟨t, ho⟩ := hal
        have hk : x.k = 3 := by rw [hx.k]; simp [kindD, ho]
        rw [base_alloc ho]
        split
        · rename_i z hz
          refine cond_ok (Ψ := fun h => ∃ y : It, y.x = x ∧ HOk P c ops fl ch seen C y h) (fun hok => ?_) h0
          refine qD_hok (Ψ := fun h => ∃ y : It, y.x = x ∧ HOk P c ops fl ch seen C y h) h0 fun q hq => ?_
          obtain ⟨zv, hz1, hz2⟩ := zeroM_spec hz
          simp only [ok1, Bool.and_eq_true, Bool.or_eq_true, Bool.not_eq_true'] at h1
          have h1' := h1.1.resolve_left (fun h => by rw [hk] at h; cases h)
          obtain ⟨dd, hdd⟩ := Option.isSome_iff_exists.1 h1'.2
          have hAl : AlI P ⟨x, [], fun _ H D => resH (newE t (locD c x.o.dst) (cells z) H) D⟩ (locD c x.o.dst) (cells z) zv.cells t dd :=
            ⟨fun _ _ _ => rfl, fun g w => ok_cells (hz2 ▸ constF_spec zv) hok, fun w a => run_allocA ho hz1 w a, by simpa using h1'.1, hdd⟩
          have hw : Wf ops ⟨x, [], fun _ H D => resH (newE t (locD c x.o.dst) (cells z) H) D⟩ := wf_of hx (by simp only [ok1, Bool.and_eq_true, Bool.or_eq_true, Bool.not_eq_true']; exact h1) (by simp) (fun e => by simp [clsOf, ho] at e) (fun e => by simp [clsOf, ho] at e) (fun _ _ _ D => resH_np _ D)
          refine ⟨⟨x, [], fun _ H D => resH (newE t (locD c x.o.dst) (cells z) H) D⟩, rfl, grd_hok (y := ⟨x, [], fun _ H D => resH (newE t (locD c x.o.dst) (cells z) H) D⟩) ⟨hw, hd, fun g w a H D vs hH hD hv => ?_, fun _ => .inr ⟨_, _, _, _, _, hAl⟩, hk3⟩ hq fun k env s => .inr ?_⟩
          · show Snd P x.o g w a (resH (newE t (locD c x.o.dst) (cells z) H) D)
            unfold resH
            refine snd_cond fun hb => snd_eff (H := H) hD ?_ hb
            exact eff_new (cs := zv.cells) (e := t) (.inr rfl) hH (run_allocA ho hz1 w a) (ok_cells (hz2 ▸ constF_spec zv) hok)
          · refine (finH_app q k env s _).trans ?_
            exact kv_appD (y := ⟨x, [], fun _ H D => resH (newE t (locD c x.o.dst) (cells z) H) D⟩) hq (fun _ _ => resH_np _ _ _ _) k env s
        · exact h0
      · refine baseOf_ok (Ψ := fun h => ∃ y : It, y.x = x ∧ HOk P c ops fl ch seen C y h) hC h0 fun f hf => ?_
        obtain ⟨os, F, fr⟩ := hf
        refine qD_hok (Ψ := fun h => ∃ y : It, y.x = x ∧ HOk P c ops fl ch seen C y h) h0 fun q hq => ?_
        have hw : Wf ops ⟨x, os, F⟩ := wf_of hx h1 fr.sub fr.pur fr.rd (fun _ => fr.np hthr)
        refine ⟨⟨x, os, F⟩, rfl, grd_hok (y := ⟨x, os, F⟩) ⟨hw, hd, fr.snd, fun e => ?_, hk3⟩ hq fun k env s => .inr ?_⟩
        · exact absurd (kind3 (by rw [← hx.k]; exact e)) hal
        · rw [fr.eq, gets_tv]
          exact kv_appD (y := ⟨x, os, F⟩) hq (fr.np hthr _ _ _) k env s
end
end
end Go.Proofs.YtkdpinpmjkomoaaGreatDoor.E
/- A reckoner for closed calls (DA): slots in a region in an open order; loads done again; the end of a region. -/
namespace Go.Proofs.YtkdpinpmjkomoaaGreatDoor.E
open Go
noncomputable section
def eqVs (l : List FV) : List FV → Bool :=
  FV.rec_1 (motive_1 := fun _ => FV → Bool) (motive_2 := fun _ => List FV → Bool) (fun k a b _ ih y => an (Nat.beq k y.k) (an (Nat.beq a y.a) (an (Nat.beq b y.b) (ih y.l))))
    (fun l => List.rec true (fun _ _ _ => false) l) (fun _ _ ihx iht l => List.rec false (fun y t _ => an (ihx y) (iht t)) l) l
mutual
theorem eqV_spec : ∀ v w : FV, eqV v w = true → v = w
  | ⟨k, a, b, l⟩, ⟨k', a', b', l'⟩, h => by
    have h : an (Nat.beq k k') (an (Nat.beq a a') (an (Nat.beq b b') (eqVs l l'))) = true := h
    obtain ⟨h1, h⟩ := an_iff.1 h
    obtain ⟨h2, h⟩ := an_iff.1 h
    obtain ⟨h3, h4⟩ := an_iff.1 h
    rw [beqK h1, beqK h2, beqK h3, eqVs_spec l l' h4]
theorem eqVs_spec : ∀ l m : List FV, eqVs l m = true → l = m
  | [], [], _ => rfl
  | [], _ :: _, h => by cases h
  | _ :: _, [], h => by cases h
  | x :: l, y :: m, h => by
    have h : an (eqV x y) (eqVs l m) = true := h
    obtain ⟨h1, h2⟩ := an_iff.1 h
    rw [eqV_spec x y h1, eqVs_spec l m h2]
end
section
variable {P : Program} {c : Cf} {ops : Array Oper} {fl : List (Nat × Pth)} {ch : KG} {seen : List Nat} {C : CO} {y : It}
theorem lnil_cons (d : Nat) (l : List Nat) (e : Nat) : lnil (d :: l) e = if e = d then true else lnil l e := by
  show cond (Nat.beq d e) true (lnil l e) = _
  by_cases h : e = d
  · rw [if_pos h, h, beq_t]; rfl
  · rw [if_neg h, beq_f (Ne.symm h)]; rfl
theorem Tof_eq (env : Env) (st : ST) (d : Nat) : Tof c seen env st d = if lnil seen d = true then lk env d else Tof c [] [] st d := by
  show (cond (lnil seen d) (getE d) (match c.pa d with | some p => getS p d | none => getC FF)).g env st = _
  cases lnil seen d with
  | true => rfl
  | false =>
    rw [if_neg (by simp)]
    show (match c.pa d with | some p => getS p d | none => getC FF : Get).g env st = (cond (lnil [] d) (getE d) (match c.pa d with | some p => getS p d | none => getC FF)).g [] st
    cases c.pa d <;> rfl
theorem Tof_ne {env env' : Env} {st : ST} {d e : Nat} (h : e ≠ d) (hl : lk env' e = lk env e) : Tof c (d :: seen) env' st e = Tof c seen env st e := by
  have h1 := Tof_eq (c := c) (seen := d :: seen) env' st e
  have h2 := Tof_eq (c := c) (seen := seen) env st e
  rw [h1, h2, lnil_cons, if_neg h, hl]
/-- A slot is written, in a region in an open order. -/
theorem Tof_put (o : Oper) (v : FV) (env : Env) (st : ST) : Tof c (seenOf o seen) (envq o.dst v env) st = wrT (Tof c seen env st) o.dst v := by
  funext e
  unfold seenOf envq wrT
  cases o.dst with
  | none => rfl
  | some d =>
    dsimp only
    by_cases h : e = d
    · subst h
      rw [Tof_eq, lnil_cons, if_pos rfl, if_pos rfl, if_pos rfl, lk_t rfl]
    · rw [if_neg h]
      exact Tof_ne h (lk_f (Ne.symm h))
/-- A load that is done again. -/
structure RdOk (c : Cf) (ops : Array Oper) (C : CO) (seen : List Nat) (r : RdI) (y : It) : Prop where
  hx : y.x = r.x
  wf : Wf ops y
  chk : ∀ env s, r.r.g C env s = true → Chk ops y ⟨Tof c seen env s.st, s.H, s.D⟩
theorem RdOk.more {r : RdI} (h : RdOk c ops C seen r y) {o : Oper} (ho : ∀ d, o.dst = some d → has y.x.R d = false ∧ has y.x.W d = false) : RdOk c ops C (seenOf o seen) r y := by
  refine ⟨h.hx, h.wf, fun env s hg => ?_⟩
  refine (h.chk env s hg).frame h.wf (fun d hd => ?_) rfl rfl
  show Tof c (seenOf o seen) env s.st d = Tof c seen env s.st d
  unfold seenOf
  cases hq : o.dst with
  | none => rfl
  | some e =>
    obtain ⟨h1, h2⟩ := ho e hq
    have hne : d ≠ e := by
      rintro rfl
      rcases hd with hd | hd
      · rw [h1] at hd; cases hd
      · rw [h2] at hd; cases hd
    exact Tof_ne hne rfl
theorem RdOk.mk' {h : OpF} (hh : HOk P c ops fl ch seen C y h) (hk : y.x.k = 1) {d : Nat} (hd : y.x.o.dst = some d) : RdOk c ops C (seenOf y.x.o seen) ⟨y.x, ⟨rcOf h.g d⟩⟩ y := by
  obtain ⟨_, _, hap⟩ := hh.wg.wf.k1 hk
  refine ⟨rfl, hh.wg.wf, fun env s hg => ?_⟩
  have hg : isNorm (h.g C (eqK d (lk env d)) env s) = true := hg
  have hT : Tof c (seenOf y.x.o seen) env s.st d = lk env d := by
    unfold seenOf
    rw [hd]
    dsimp only
    rw [Tof_eq, lnil_cons, if_pos rfl, if_pos rfl]
  have hfr : ans ops y ⟨Tof c (seenOf y.x.o seen) env s.st, s.H, s.D⟩ = ans ops y ⟨Tof c seen env s.st, s.H, s.D⟩ := by
    refine ans_frame hh.wg.wf (fun e he => ?_) rfl rfl
    show Tof c (seenOf y.x.o seen) env s.st e = Tof c seen env s.st e
    have hne : e ≠ d := by
      rintro rfl
      exact apart_spec hap (hh.wg.wf.wr e hd) he
    unfold seenOf
    rw [hd]
    exact Tof_ne hne rfl
  refine ⟨d, hd, ?_⟩
  show ans ops y ⟨Tof c (seenOf y.x.o seen) env s.st, s.H, s.D⟩ = .ok (Tof c (seenOf y.x.o seen) env s.st d) s.H s.D
  rw [hfr, hT]
  rcases hh.eq (eqK d (lk env d)) env s with e | e
  · rw [e] at hg; cases hg
  · rw [e] at hg
    cases ha : ans ops y ⟨Tof c seen env s.st, s.H, s.D⟩ with
    | fail => rw [ha] at hg; cases hg
    | panic c' H' => exact absurd ha (ans_np hh.wg.wf (by omega))
    | ok v H D =>
      rw [ha] at hg
      obtain ⟨e1, e2, _⟩ := ans_lo_ok hh.wg.wf (by omega) ha
      have e1 : H = s.H := e1
      have e2 : D = s.D := e2
      subst e1 e2
      have hg : isNorm (eqK d (lk env d) (envq y.x.o.dst v env) ⟨s.st, s.H, s.D, s.u⟩) = true := hg
      unfold envq eqK at hg
      rw [hd] at hg
      dsimp only at hg
      rw [lk_t rfl] at hg
      cases hv : eqV v (lk env d) with
      | false => rw [hv] at hg; cases hg
      | true => rw [eqV_spec _ _ hv]
end
end
end Go.Proofs.YtkdpinpmjkomoaaGreatDoor.E
/- A reckoner for closed calls (DB): the compiled region is a run of its steps. -/
namespace Go.Proofs.YtkdpinpmjkomoaaGreatDoor.E
open Go
section
variable {P : Program} {c : Cf} {ops : Array Oper} {fl : List (Nat × Pth)} {C : CO}
/-- Compiled operations, and their steps. -/
inductive Cmp (P : Program) (c : Cf) (ops : Array Oper) (fl : List (Nat × Pth)) (C : CO) : List Nat → List CI → List It → Prop
  | nil {seen} : Cmp P c ops fl C seen [] []
  | cons {seen ch y ci cis L} (h : HOk P c ops fl ch seen C y ci.h) (hx : y.x = ci.x) (hc : ch = chkG (cis.filter fun z => !has z.x.A ci.x.i)) (t : Cmp P c ops fl C (seenOf y.x.o seen) cis L) : Cmp P c ops fl C seen (ci :: cis) (y :: L)
theorem comp_L (hC : SndO P C) : ∀ (l : List DI) (seen : List Nat), (∀ x ∈ l, DIOk ops x ∧ ok1 x = true ∧ ∀ d, x.o.dst = some d → d < c.n) → ∃ L, Cmp P c ops fl C seen (compL P c ops fl seen l) L ∧ L.map (·.x) = l
  | [], _, _ => ⟨[], .nil, rfl⟩
  | x :: l, seen, h => by
    obtain ⟨L, h1, h2⟩ := comp_L hC l (seenOf x.o seen) fun z hz => h z (List.mem_cons_of_mem _ hz)
    obtain ⟨a1, a2, a3⟩ := h x List.mem_cons_self
    obtain ⟨y, rfl, hy⟩ := opD_hok (fl := fl) (ch := chkG ((compL P c ops fl (seenOf x.o seen) l).filter fun z => !has z.x.A x.i)) (seen := seen) hC a1 a2 a3
    exact ⟨y :: L, .cons hy rfl rfl h1, by rw [List.map_cons, h2]⟩
theorem Cmp.wg : ∀ {seen : List Nat} {cis : List CI} {L : List It}, Cmp P c ops fl C seen cis L → ∀ y ∈ L, Wg P c ops y := by
  intro seen cis L h
  induction h with
  | nil => simp
  | cons h _ _ _ ih =>
    intro z hz
    rcases List.mem_cons.1 hz with rfl | hz
    · exact h.wg
    · exact ih z hz
theorem Tof_agree {seen seen' : List Nat} {env : Env} {st : ST} {d : Nat} (h : lnil seen' d = lnil seen d) : Tof c seen' env st d = Tof c seen env st d := by
  have h1 := Tof_eq (c := c) (seen := seen') env st d
  have h2 := Tof_eq (c := c) (seen := seen) env st d
  rw [h1, h2, h]
theorem lnil_seen {o : Oper} {seen : List Nat} {d : Nat} : lnil (seenOf o seen) d = if o.dst = some d then true else lnil seen d := by
  unfold seenOf
  cases o.dst with
  | none => simp
  | some e =>
    dsimp only
    rw [lnil_cons]
    by_cases h : d = e
    · rw [if_pos h, if_pos (by rw [h])]
    · rw [if_neg h, if_neg (fun h' => h (by injection h' with h'; exact h'.symm))]
/-- What is left when a call panics. -/
theorem chk_ok {x : DI} : ∀ {seen : List Nat} {cis : List CI} {L : List It}, Cmp P c ops fl C seen cis L → ∀ (seen' : List Nat), (∀ y ∈ L, has y.x.A x.i = false → ∀ d, has y.x.R d = true → lnil seen' d = lnil seen d) → okZ x (L.map (·.x)) = true → ∀ env s, isNorm ((chkG (cis.filter fun z => !has z.x.A x.i)).g C env s) = true → ChkP ops (L.filter (aft x.i)) ⟨Tof c seen' env s.st, s.H, s.D⟩ := by
  intro seen cis L h
  induction h with
  | nil => intro _ _ _ _ _ _; trivial
  | cons h hx hcg t ih =>
    rename_i seen ch y ci cis L
    intro seen' hag hz env s hn
    have hz : ((!has y.x.A x.i || (L.map (·.x)).all fun z => has z.A x.i || apart y.x.W z.R) && okZ x (L.map (·.x))) = true := hz
    simp only [Bool.and_eq_true, Bool.or_eq_true, Bool.not_eq_true', List.all_eq_true] at hz
    cases ha : has y.x.A x.i with
    | true =>
      have hf : aft x.i y = false := by unfold aft; rw [ha]; rfl
      rw [List.filter_cons_of_neg (by rw [hf]; simp)]
      rw [List.filter_cons_of_neg (by rw [← hx, ha]; simp)] at hn
      refine ih seen' (fun z hzm hza d hd => ?_) hz.2 env s hn
      rw [hag z (List.mem_cons_of_mem _ hzm) hza d hd, lnil_seen, if_neg]
      intro e
      rcases hz.1 with h' | h'
      · rw [ha] at h'; cases h'
      · rcases h' z.x (List.mem_map_of_mem (f := (·.x)) hzm) with h2 | h2
        · rw [hza] at h2; cases h2
        · exact apart_spec h2 (h.wg.wf.wr d e) hd
    | false =>
      have hf : aft x.i y = true := by unfold aft; rw [ha]; rfl
      rw [List.filter_cons_of_pos hf]
      rw [List.filter_cons_of_pos (by rw [← hx, ha]; rfl)] at hn
      have hn : isNorm ((cond (Nat.beq ci.x.k 2) ⟨failO⟩ ci.h : OpF).g C ((chkG (cis.filter fun z => !has z.x.A x.i)).g C) env s) = true := hn
      cases hk : Nat.beq ci.x.k 2 with
      | true => rw [hk] at hn; cases hn
      | false =>
        rw [hk] at hn
        have hn : isNorm (ci.h.g C ((chkG (cis.filter fun z => !has z.x.A x.i)).g C) env s) = true := hn
        have hk2 : y.x.k ≠ 2 := by rw [hx]; intro e; rw [e] at hk; cases hk
        have hfr : ans ops y ⟨Tof c seen' env s.st, s.H, s.D⟩ = ans ops y ⟨Tof c seen env s.st, s.H, s.D⟩ := ans_frame h.wg.wf (fun d hd => Tof_agree (hag y List.mem_cons_self ha d hd)) rfl rfl
        rcases h.eq ((chkG (cis.filter fun z => !has z.x.A x.i)).g C) env s with e | e
        · rw [e] at hn; cases hn
        · rw [e] at hn
          cases hans : ans ops y ⟨Tof c seen env s.st, s.H, s.D⟩ with
          | fail => rw [hans] at hn; cases hn
          | panic c' H' => exact absurd hans (ans_np h.wg.wf hk2)
          | ok v H D =>
            rw [hans] at hn
            have hn : isNorm ((chkG (cis.filter fun z => !has z.x.A x.i)).g C (envq y.x.o.dst v env) ⟨s.st, H, D, s.u⟩) = true := hn
            refine ⟨hk2, v, H, D, hfr.trans hans, ?_⟩
            have := ih (seenOf y.x.o seen') (fun z hzm hza d hd => by
              rw [lnil_seen, lnil_seen, hag z (List.mem_cons_of_mem _ hzm) hza d hd]) hz.2 _ _ hn
            rw [Tof_put] at this
            exact this
end
end Go.Proofs.YtkdpinpmjkomoaaGreatDoor.E
/- A reckoner for closed calls (DC): the compiled region is a run of its steps, whole. -/
namespace Go.Proofs.YtkdpinpmjkomoaaGreatDoor.E
open Go
section
variable {P : Program} {c : Cf} {ops : Array Oper} {fl : List (Nat × Pth)} {C : CO}
inductive RlOk (c : Cf) (ops : Array Oper) (C : CO) (seen : List Nat) : List RdI → List It → Prop
  | nil : RlOk c ops C seen [] []
  | cons {r y rs ys} (h : RdOk c ops C seen r y) (t : RlOk c ops C seen rs ys) : RlOk c ops C seen (r :: rs) (y :: ys)
theorem RlOk.more {seen : List Nat} {rs : List RdI} {ys : List It} (h : RlOk c ops C seen rs ys) {o : Oper} (ho : ∀ y ∈ ys, ∀ d, o.dst = some d → has y.x.R d = false ∧ has y.x.W d = false) : RlOk c ops C (seenOf o seen) rs ys := by
  induction h with
  | nil => exact .nil
  | cons h _ ih => exact .cons (h.more (ho _ List.mem_cons_self)) (ih fun y hy => ho y (List.mem_cons_of_mem _ hy))
theorem rcs_ok {x : DI} {seen : List Nat} {rs : List RdI} {ys : List It} (h : RlOk c ops C seen rs ys) {env : Env} {s : S} : allRc (rcs x rs) C env s = true → ∀ y ∈ ys, has x.A y.x.i = true ∨ Chk ops y ⟨Tof c seen env s.st, s.H, s.D⟩ := by
  induction h with
  | nil => intro _ y hy; cases hy
  | cons h _ ih =>
    rename_i r y rs ys _
    intro ha z hz
    have ha : allRc (cond (has x.A r.x.i) (rcs x rs) (r.r :: rcs x rs)) C env s = true := ha
    cases hb : has x.A r.x.i with
    | true =>
      rw [hb] at ha
      rcases List.mem_cons.1 hz with rfl | hz
      · exact .inl (by rw [h.hx]; exact hb)
      · exact ih ha z hz
    | false =>
      rw [hb] at ha
      have ha : an (r.r.g C env s) (allRc (rcs x rs) C env s) = true := ha
      obtain ⟨a1, a2⟩ := an_iff.1 ha
      rcases List.mem_cons.1 hz with rfl | hz
      · exact .inr (h.chk env s a1)
      · exact ih a2 z hz
/-- What the compiled region gives, of what its steps give. -/
def Rout (c : Cf) (fl : List (Nat × Pth)) (seen : List Nat) (L : List It) (s : S) (so : SOut) (out : Out) : Prop := match so with
  | .norm t => ∃ env' seen', out = .norm ⟨puts fl env' s.st, t.H, t.D, s.u⟩ ∧ t.T = Tof c seen' env' s.st ∧ ∀ d, lnil seen' d = true ↔ lnil seen d = true ∨ ∃ y ∈ L, y.x.o.dst = some d
  | .pan ch H D => out = .panic ch ⟨puts fl [] s.st, H, D, s.u⟩
theorem not_has {a b d : Nat} (h : apart a b = true) (ha : has a d = true) : has b d = false := by
  cases hb : has b d with
  | false => rfl
  | true => exact (apart_spec h ha hb).elim
theorem Rout.cons {seen : List Nat} {L : List It} {y : It} {s : S} {_v : FV} {H : MH} {D : List FV} {so : SOut} {out : Out} (h : Rout c fl (seenOf y.x.o seen) L ⟨s.st, H, D, s.u⟩ so out) : Rout c fl seen (y :: L) s so out := by
  cases so with
  | pan ch H D => exact h
  | norm t =>
    obtain ⟨env', seen', h1, h2, h3⟩ := h
    refine ⟨env', seen', h1, h2, fun d => (h3 d).trans ?_⟩
    rw [lnil_seen]
    by_cases hd : y.x.o.dst = some d
    · rw [if_pos hd]
      exact ⟨fun _ => .inr ⟨y, List.mem_cons_self, hd⟩, fun _ => .inl rfl⟩
    · rw [if_neg hd]
      constructor
      · rintro (h | ⟨z, z1, z2⟩)
        · exact .inl h
        · exact .inr ⟨z, List.mem_cons_of_mem _ z1, z2⟩
      · rintro (h | ⟨z, z1, z2⟩)
        · exact .inl h
        · rcases List.mem_cons.1 z1 with rfl | z1
          · exact absurd z2 hd
          · exact .inr ⟨z, z1, z2⟩
theorem run_ok : ∀ {seen : List Nat} {cis : List CI} {L : List It}, Cmp P c ops fl C seen cis L → L.Pairwise (fun x y => okPair x.x y.x = true) → okTrz (L.map (·.x)) = true → ∀ (rs : List RdI) (rI : List It), RlOk c ops C seen rs rI → (∀ r ∈ rI, ∀ y ∈ L, apart y.x.W (Nat.lor r.x.R r.x.W) = true) → ∀ env s, (runG fl rs cis).g C env s ≠ .fail →
    ∃ so, Run ops L rI ⟨Tof c seen env s.st, s.H, s.D⟩ so ∧ Rout c fl seen L s so ((runG fl rs cis).g C env s) := by
  intro seen cis L h
  induction h with
  | nil => exact fun _ _ _ _ _ _ env s _ => ⟨_, .nil, env, _, rfl, rfl, fun d => ⟨.inl, fun h => h.resolve_right (by simp)⟩⟩
  | cons h hx hcg t ih =>
    rename_i seen ch y ci cis L
    intro hpw htz rs rI hrs hap env s hne
    obtain ⟨pw1, pw2⟩ := List.pairwise_cons.1 hpw
    have htz : ((!Nat.beq y.x.k 2 || okZ y.x (L.map (·.x))) && okTrz (L.map (·.x))) = true := htz
    simp only [Bool.and_eq_true, Bool.or_eq_true, Bool.not_eq_true'] at htz
    have hout : (runG fl rs (ci :: cis)).g C env s = (cond (Nat.ble 2 ci.x.k) ⟨rcG (rcs ci.x rs) ci.h.g⟩ ci.h : OpF).g C ((runG fl (addR ci.x ci.h rs) cis).g C) env s := rfl
    rw [hout] at hne ⊢
    have hmore : RlOk c ops C (seenOf y.x.o seen) rs rI := hrs.more fun r hr d hd => by
      have := apart_or (hap r hr y List.mem_cons_self)
      have hw := h.wg.wf.wr d hd
      exact ⟨not_has this.1 hw, not_has this.2 hw⟩
    have hap' : ∀ r ∈ rI, ∀ z ∈ L, apart z.x.W (Nat.lor r.x.R r.x.W) = true := fun r hr z hz => hap r hr z (List.mem_cons_of_mem _ hz)
    cases hk : Nat.ble 2 ci.x.k with
    | true =>
      have hk2 : 2 ≤ y.x.k := by rw [hx]; exact Nat.le_of_ble_eq_true hk
      have hadd : addR ci.x ci.h rs = rs := by unfold addR; rw [beq_f (by rw [← hx]; omega)]; rfl
      rw [hk, hadd] at hne
      rw [hadd]
      have hne : ci.h.g C (rcK (rcs ci.x rs) C ((runG fl rs cis).g C)) env s ≠ .fail := hne
      show ∃ so, _ ∧ Rout c fl seen (y :: L) s so (ci.h.g C (rcK (rcs ci.x rs) C ((runG fl rs cis).g C)) env s)
      rcases h.eq (rcK (rcs ci.x rs) C ((runG fl rs cis).g C)) env s with e | e
      · exact absurd e hne
      · rw [e] at hne ⊢
        cases hans : ans ops y ⟨Tof c seen env s.st, s.H, s.D⟩ with
        | fail => rw [hans] at hne; exact absurd rfl hne
        | panic c' H' =>
          rw [hans] at hne
          have hk2' : y.x.k = 2 := Classical.byContradiction fun h' => ans_np h.wg.wf h' hans
          have hne : (Bool.rec .fail (.panic c' ⟨puts fl [] s.st, H', s.D, s.u⟩) (isNorm (ch.g C env s)) : Out) ≠ .fail := hne
          cases hn : isNorm (ch.g C env s) with
          | false => rw [hn] at hne; exact absurd rfl hne
          | true =>
            rw [hcg, ← hx] at hn
            have hck := chk_ok (x := y.x) t seen (fun z hz hza d hd => by
              rw [lnil_seen, if_neg]
              intro e2
              have hfr := (okPair_spec (pw1 z hz)).2.2.2.2
              rcases hfr with e3 | ⟨e3, _⟩
              · rw [hza] at e3; cases e3
              · exact apart_spec (apart_or e3).1 (h.wg.wf.wr d e2) hd) (htz.1.resolve_left (by rw [hk2']; decide)) env s hn
            refine ⟨.pan c' H' s.D, .pan hk2' hans hck, ?_⟩
            show (Bool.rec .fail (.panic c' ⟨puts fl [] s.st, H', s.D, s.u⟩) (isNorm (ch.g C env s)) : Out) = _
            rw [hcg, ← hx, hn]
        | ok v H D =>
          rw [hans] at hne
          have hne : (Bool.rec .fail ((runG fl rs cis).g C (envq y.x.o.dst v env) ⟨s.st, H, D, s.u⟩) (allRc (rcs ci.x rs) C (envq y.x.o.dst v env) ⟨s.st, H, D, s.u⟩) : Out) ≠ .fail := hne
          cases hrc : allRc (rcs ci.x rs) C (envq y.x.o.dst v env) ⟨s.st, H, D, s.u⟩ with
          | false => rw [hrc] at hne; exact absurd rfl hne
          | true =>
            rw [hrc] at hne
            obtain ⟨so, r1, r2⟩ := ih pw2 htz.2 rs rI hmore hap' _ _ hne
            have hchk := rcs_ok hmore hrc
            rw [Tof_put] at r1 hchk
            refine ⟨so, .hi hk2 hans (fun r hr => by have h5 := hchk r hr; rw [← hx] at h5; exact h5) r1, ?_⟩
            show Rout c fl seen (y :: L) s so (Bool.rec .fail ((runG fl rs cis).g C (envq y.x.o.dst v env) ⟨s.st, H, D, s.u⟩) (allRc (rcs ci.x rs) C (envq y.x.o.dst v env) ⟨s.st, H, D, s.u⟩) : Out)
            rw [hrc]
            exact Rout.cons (_v := v) r2
    | false =>
      have hk1 : y.x.k ≤ 1 := by
        rw [hx]
        apply Classical.byContradiction
        intro h'
        rw [Nat.ble_eq_true_of_le (by omega)] at hk
        cases hk
      rw [hk] at hne
      have hne : ci.h.g C ((runG fl (addR ci.x ci.h rs) cis).g C) env s ≠ .fail := hne
      show ∃ so, _ ∧ Rout c fl seen (y :: L) s so (ci.h.g C ((runG fl (addR ci.x ci.h rs) cis).g C) env s)
      rcases h.eq ((runG fl (addR ci.x ci.h rs) cis).g C) env s with e | e
      · exact absurd e hne
      · rw [e] at hne ⊢
        cases hans : ans ops y ⟨Tof c seen env s.st, s.H, s.D⟩ with
        | fail => rw [hans] at hne; exact absurd rfl hne
        | panic c' H' => exact absurd hans (ans_np h.wg.wf (by omega))
        | ok v H D =>
          rw [hans] at hne
          obtain ⟨e1, e2, _⟩ := ans_lo_ok h.wg.wf hk1 hans
          have e1 : H = s.H := e1
          have e2 : D = s.D := e2
          subst e1 e2
          have hrs' : RlOk c ops C (seenOf y.x.o seen) (addR ci.x ci.h rs) (if y.x.k = 1 then y :: rI else rI) := by
            by_cases h1 : y.x.k = 1
            · obtain ⟨_, ⟨d, hd⟩, _⟩ := h.wg.wf.k1 h1
              rw [if_pos h1]
              have : addR ci.x ci.h rs = ⟨ci.x, ⟨rcOf ci.h.g d⟩⟩ :: rs := by unfold addR; rw [← hx, h1, hd]; rfl
              rw [this, ← hx]
              exact .cons (RdOk.mk' h h1 hd) hmore
            · rw [if_neg h1]
              have : addR ci.x ci.h rs = rs := by unfold addR; rw [beq_f (by rw [← hx]; exact h1)]; rfl
              rw [this]
              exact hmore
          obtain ⟨so, r1, r2⟩ := ih pw2 htz.2 _ _ hrs' (fun r hr z hz => by
            split at hr
            · rename_i h1
              rcases List.mem_cons.1 hr with rfl | hr
              · exact (okPair_spec (pw1 z hz)).2.2.1 h1
              · exact hap' r hr z hz
            · exact hap' r hr z hz) _ _ hne
          rw [Tof_put] at r1
          exact ⟨so, .lo hk1 hans r1, Rout.cons (_v := v) r2⟩
end
end Go.Proofs.YtkdpinpmjkomoaaGreatDoor.E
/- A reckoner for closed calls (DD): regions in an open order are sound. -/
namespace Go.Proofs.YtkdpinpmjkomoaaGreatDoor.E
open Go
section
variable {P : Program} {c : Cf} {ops : Array Oper} {C : CO}
/-- The end of a region: slots that outlive it. -/
theorem puts_ok {g : G} {w : World} {env : Env} {t : Array Value} : ∀ (fl : List (Nat × Pth)) (st : ST), (∀ x ∈ fl, c.pa x.1 = some x.2 ∧ VR g w (lk env x.1) (t.getD x.1 undef)) → (∀ d p, c.pa d = some p → (∃ x ∈ fl, x.1 = d) ∨ VR g w (ST.get p d st) (t.getD d undef)) → ∀ d p, c.pa d = some p → VR g w (ST.get p d (puts fl env st)) (t.getD d undef)
  | [], st, _, h, d, p, hp => (h d p hp).resolve_left (by simp)
  | (e, q) :: fl, st, hf, h, d, p, hp => by
    obtain ⟨h1, h2⟩ := hf (e, q) List.mem_cons_self
    have h1 : c.pa e = some q := h1
    have h2 : VR g w (lk env e) (t.getD e undef) := h2
    show VR g w (ST.get p d (puts fl env (ST.put q e (lk env e) st))) (t.getD d undef)
    refine puts_ok fl _ (fun x hx => hf x (List.mem_cons_of_mem _ hx)) (fun d' p' hp' => ?_) d p hp
    by_cases hde : d' = e
    · subst hde
      rw [h1] at hp'
      injection hp' with hp'
      subst hp'
      right
      rw [ST.get_put]
      exact h2
    · rcases h d' p' hp' with ⟨x, x1, x2⟩ | hv
      · rcases List.mem_cons.1 x1 with rfl | x1
        · exact absurd x2.symm hde
        · exact .inl ⟨x, x1, x2⟩
      · right
        rcases ST.get_put_ne hde (lk env e) q p' st with e' | e'
        · rw [e']; exact hv
        · rw [e']; exact VR.ff _
theorem flOf_spec : ∀ (l : List DI), (∀ x ∈ flOf c l, c.pa x.1 = some x.2 ∧ ∃ z ∈ l, z.o.dst = some x.1) ∧ ∀ z ∈ l, ∀ d p, z.o.dst = some d → c.pa d = some p → ∃ x ∈ flOf c l, x.1 = d
  | [] => ⟨by simp [flOf], by simp⟩
  | z :: l => by
    obtain ⟨i1, i2⟩ := flOf_spec l
    have up : ∀ x : Nat × Pth, (c.pa x.1 = some x.2 ∧ ∃ z ∈ l, z.o.dst = some x.1) → c.pa x.1 = some x.2 ∧ ∃ z' ∈ z :: l, z'.o.dst = some x.1 := fun x ⟨h1, z', h2, h3⟩ => ⟨h1, z', List.mem_cons_of_mem _ h2, h3⟩
    unfold flOf
    cases hd : z.o.dst with
    | none =>
      refine ⟨fun x hx => up x (i1 x hx), fun z' hz d p h1 h2 => ?_⟩
      rcases List.mem_cons.1 hz with rfl | hz
      · rw [hd] at h1; cases h1
      · exact i2 z' hz d p h1 h2
    | some e =>
      dsimp only
      cases hp : c.pa e with
      | none =>
        refine ⟨fun x hx => up x (i1 x hx), fun z' hz d p h1 h2 => ?_⟩
        rcases List.mem_cons.1 hz with rfl | hz
        · rw [hd] at h1; injection h1 with h1; subst h1; rw [hp] at h2; cases h2
        · exact i2 z' hz d p h1 h2
      | some q =>
        refine ⟨fun x hx => ?_, fun z' hz d p h1 h2 => ?_⟩
        · rcases List.mem_cons.1 hx with rfl | hx
          · exact ⟨hp, z, List.mem_cons_self, hd⟩
          · exact up x (i1 x hx)
        · rcases List.mem_cons.1 hz with rfl | hz
          · rw [hd] at h1; injection h1 with h1
            exact ⟨(e, q), List.mem_cons_self, h1⟩
          · obtain ⟨x, x1, x2⟩ := i2 z' hz d p h1 h2
            exact ⟨x, List.mem_cons_of_mem _ x1, x2⟩
theorem reg_of {m : List DI} (ho : OrdOk ops m) {L : List It} (hL : L.map (·.x) = m) (hw : ∀ y ∈ L, Wg P c ops y) : Reg P c ops L := by
  have hmem : ∀ y ∈ L, y.x ∈ m := fun y hy => hL ▸ List.mem_map_of_mem (f := (·.x)) hy
  have hback : ∀ x ∈ m, ∃ y ∈ L, y.x = x := fun x hx => by rw [← hL] at hx; exact List.mem_map.1 hx
  refine ⟨hw, ?_, fun x a y hs hx ha => ho.tri x.x a.x y.x (by rw [← hL]; exact hs.map (·.x)) hx ha, fun y hy k hk => ?_, fun y hy => (ho.info _ (hmem y hy)).lt, fun i hi => ?_⟩
  · have := ho.pw
    rw [← hL] at this
    refine (List.pairwise_map.1 this).imp fun {x y} h => ?_
    obtain ⟨h1, h2, h3, h4, h5⟩ := okPair_spec h
    exact ⟨h1, h2, h3, h4, h5⟩
  · obtain ⟨e, e1, e2, e3⟩ := (ho.info _ (hmem y hy)).anc k hk
    refine ⟨e, e1, e2, e3.imp (fun h => h) fun ⟨z, z1, z2, z3⟩ => ?_⟩
    obtain ⟨y', y1, rfl⟩ := hback z z1
    exact ⟨y', y1, z2, z3⟩
  · obtain ⟨x, x1, x2⟩ := ho.all i hi
    obtain ⟨y, y1, rfl⟩ := hback x x1
    exact ⟨y, y1, x2⟩
end
end Go.Proofs.YtkdpinpmjkomoaaGreatDoor.E
/- A reckoner for closed calls (DE): regions in an open order are sound, whole. -/
namespace Go.Proofs.YtkdpinpmjkomoaaGreatDoor.E
open Go
section
variable {P : Program} {c : Cf} {C : CO}
theorem fsts_none : ∀ l : List It, fsts (l.map fun y => (y, (none : Option Nat))) = l
  | [] => rfl
  | y :: l => by
    show y :: fsts (l.map fun y => (y, (none : Option Nat))) = _
    rw [fsts_none l]
theorem drOf_ok (hm : P.follows .mixedOrders = true) (hC : SndO P C) : SndA P c C := by
  intro ops id s g w a Q h hQ
  refine wp_region_any hm ?_
  unfold drOf at hQ
  cases ho : orderD ops with
  | none => rw [ho] at hQ; exact hQ.elim
  | some m =>
    rw [ho] at hQ
    dsimp only at hQ
    cases hc : (Nat.ble m.length ops.size && m.all (dstOk c.n)) with
    | false => rw [hc] at hQ; exact hQ.elim
    | true =>
      rw [hc] at hQ
      have hQ : OutQ c g w ((runG (flOf c m) [] (compL P c ops (flOf c m) [] m)).g C [] s) Q := hQ
      simp only [Bool.and_eq_true, List.all_eq_true] at hc
      have ord := orderD_spec ho
      obtain ⟨L, hcmp, hL⟩ := comp_L (fl := flOf c m) hC m [] (fun x hx => ⟨(ord.info x hx).ok, ord.one x hx, fun d hd => by
        have := hc.2 x hx
        unfold dstOk at this
        rw [hd] at this
        exact blt_iff.1 this⟩)
      have R := reg_of ord hL hcmp.wg
      have hne : (runG (flOf c m) [] (compL P c ops (flOf c m) [] m)).g C [] s ≠ .fail := fun e => by rw [e] at hQ; exact hQ
      have hpw : L.Pairwise (fun x y => okPair x.x y.x = true) := List.pairwise_map.1 (by rw [hL]; exact ord.pw)
      obtain ⟨so, r1, r2⟩ := run_ok hcmp hpw (by rw [hL]; exact ord.trz) [] [] .nil (by simp) [] s hne
      have hfs : fsts (L.map fun y => (y, (none : Option Nat))) = L := fsts_none L
      obtain ⟨f1, f2⟩ := flOf_spec (c := c) m
      have hdstL : ∀ d, (∃ z ∈ m, z.o.dst = some d) ↔ ∃ y ∈ L, y.x.o.dst = some d := fun d => by
        rw [← hL]
        constructor
        · rintro ⟨z, z1, z2⟩
          obtain ⟨y, y1, rfl⟩ := List.mem_map.1 z1
          exact ⟨y, y1, z2⟩
        · rintro ⟨y, y1, y2⟩
          exact ⟨y.x, List.mem_map_of_mem (f := (·.x)) y1, y2⟩
      have hbase : ∀ d p, c.pa d = some p → Tof c [] [] s.st d = ST.get p d s.st := fun d p hp => by
        show (match c.pa d with | some p => getS p d | none => getC FF : Get).g [] s.st = _
        rw [hp]
        rfl
      refine any_sound R (g0 := g) (w0 := w.drew) (s0 := ⟨Tof c [] [] s.st, s.H, s.D⟩) (out := so) ?_ ops.size _ (L.map fun y => (y, none)) ⟨Tof c [] [] s.st, s.H, s.D⟩ g w.drew a ⟨by simp, ?_, ?_, ?_, by rw [hfs]; exact List.Sublist.refl _⟩ ?_ ?_ ⟨h.sr.sz, ?_, h.hr.drew, h.dr.le (Le.drew g w), ?_, ?_, Evo.refl _ _⟩ (by rw [hfs]; exact r1) (fun _ _ => rfl)
      · cases so with
        | norm t =>
          obtain ⟨env', seen', e1, e2, e3⟩ := r2
          rw [e1] at hQ
          intro g' w' a' hr' hk
          refine hQ g' w' a' ⟨⟨hr'.sz, (fun _ hd => by cases hd), ?_⟩, hr'.hr, hr'.dr⟩ ((Evo.drew g w).trans hr'.ev)
          have hT : ∀ d, VR g' w' (t.T d) (a'.tmps.getD d undef) := fun d => hr'.T d (by simp)
          refine puts_ok (flOf c m) s.st (fun x hx => ⟨(f1 x hx).1, ?_⟩) fun d p hp => ?_
          · have hd := hT x.1
            have hs : lnil seen' x.1 = true := (e3 x.1).2 (.inr ((hdstL x.1).1 (f1 x hx).2))
            rw [e2, Tof_eq, if_pos hs] at hd
            exact hd
          · by_cases hx : ∃ y ∈ L, y.x.o.dst = some d
            · obtain ⟨z, z1, z2⟩ := (hdstL d).2 hx
              exact .inl (f2 z z1 d p z2 hp)
            · right
              have hd := hT d
              rw [hk d (fun y hy e => hx ⟨y, hy, e⟩)] at hd
              have hd : VR g' w' (Tof c [] [] s.st d) (a'.tmps.getD d undef) := hd
              rw [hbase d p hp] at hd
              exact hd
        | pan ch H D =>
          have r2 : (runG (flOf c m) [] (compL P c ops (flOf c m) [] m)).g C [] s = .panic ch ⟨puts (flOf c m) [] s.st, H, D, s.u⟩ := r2
          rw [r2] at hQ
          intro g' w' pc a' hsz hT hH hD hch ev
          refine hQ g' w' pc a' ⟨⟨hsz, (fun _ hd => by cases hd), ?_⟩, hH, hD⟩ hch ((Evo.drew g w).trans ev)
          refine puts_ok (flOf c m) s.st (fun x hx => ⟨(f1 x hx).1, VR.ff _⟩) fun d p hp => ?_
          by_cases hx : ∃ y ∈ L, y.x.o.dst = some d
          · obtain ⟨z, z1, z2⟩ := (hdstL d).2 hx
            exact .inl (f2 z z1 d p z2 hp)
          · right
            have hd := hT d (fun y hy e => hx ⟨y, hy, e⟩)
            have hd : VR g' w' (Tof c [] [] s.st d) (a'.tmps.getD d undef) := hd
            rw [hbase d p hp] at hd
            exact hd
      · intro k o _ hk
        exfalso
        rw [Array.getD_eq_getD_getElem?] at hk
        by_cases hlt : k < ops.size
        · simp [hlt] at hk
        · simp [hlt] at hk
      · intro k hk
        constructor
        · intro _
          obtain ⟨y, y1, y2⟩ := R.all k hk
          exact ⟨(y, none), List.mem_map.2 ⟨y, y1, rfl⟩, rfl, y2⟩
        · intro _
          rw [Array.getD_eq_getD_getElem?]
          simp [hk]
      · intro p hp hp2
        obtain ⟨y, _, rfl⟩ := List.mem_map.1 hp
        exact absurd rfl hp2
      · have h1 := Nat.le_of_ble_eq_true hc.1
        have h2 : L.length = m.length := by rw [← hL, List.length_map]
        refine Nat.le_trans (List.length_filter_le _ _) ?_
        rw [List.length_map]
        omega
      · intro pre y b post e
        have : (y, some b) ∈ L.map fun y => (y, (none : Option Nat)) := by rw [e]; simp
        obtain ⟨z, _, hz⟩ := List.mem_map.1 this
        cases hz
      · intro d _
        exact VR.le (Le.drew g w) _ _ (src_val c [] (.tmp d) g w [] s.st a h.sr)
      · intro p hp b hb
        obtain ⟨y, _, rfl⟩ := List.mem_map.1 hp
        cases hb
      · refine List.pairwise_map.2 (hpw.imp fun _ b hb => ?_)
        cases hb
/-- All that is reckoned is so. -/
theorem eng_ok (hm : P.follows .mixedOrders = true) (K : Nat → Cf) (n : Nat) : SndE P K (eng P K n) := eng_sound (fun _ _ hC => drOf_ok hm hC) n
end
end Go.Proofs.YtkdpinpmjkomoaaGreatDoor.E
/- A reckoner for closed calls (DF): a closed call. -/
namespace Go.Proofs.YtkdpinpmjkomoaaGreatDoor.E
open Go
noncomputable section
def g00 : G := ⟨fun _ => none, fun _ => 0, fun _ => none, fun _ => .none⟩
def H00 : MH := ⟨[], [], 0, 2⟩
theorem start_HR (w : World) : HR g00 w H00 :=
  ⟨trivial, trivial, rfl, Nat.le_refl _, (fun _ _ h => by cases h), rfl, (fun _ _ h => by cases h), (fun id h => by
    have e : H00.get id = FF := by unfold MH.get H00; cases ev id <;> rfl
    rw [e] at h
    exact absurd rfl h), (fun t h => by
    rw [isLive_bit] at h
    have : (H00.live).testBit t = false := Nat.zero_testBit t
    rw [this] at h
    cases h), (fun _ _ h => by cases h), fun _ _ => ⟨rfl, rfl⟩⟩
/-- A call of constants, reckoned, in any world. -/
theorem closed_call {P : Program} (hm : P.follows .mixedOrders = true) (K : Nat → Cf) (n f : Nat) (xs : List Value) (args : List FV) (ha : args = xs.map constF) {r : Res} (hr : (eng P K n).call f args H00 FF = r) (hne : r ≠ .fail) (w : World) : Calls P f (List.toArray xs) w (ResR g00 w r) := by
  have hs := (eng_ok hm K n).call f args H00 (by rw [hr]; exact hne)
  have hv : ∀ xs : List Value, VRs g00 w (xs.map constF) xs := fun xs => by
    induction xs with
    | nil => exact VRs.nil'
    | cons x xs ih => exact VRs.cons' (constF_spec x) ih
  have := hs.2 g00 w xs (start_HR w) (ha ▸ hv xs)
  rwa [hr] at this
end
end Go.Proofs.YtkdpinpmjkomoaaGreatDoor.E
/- A reckoner for closed calls (DG): answers that are known ahead. -/
namespace Go.Proofs.YtkdpinpmjkomoaaGreatDoor.E
open Go
noncomputable section
/-- A value that no object, row, map, token stands behind. -/
def pureV (v : FV) : Bool :=
  FV.rec (motive_1 := fun _ => Bool) (motive_2 := fun _ => Bool) (fun k a _ _ ih => an (no (Nat.beq k 4)) (an (no (Nat.beq k 8)) (an (no (Nat.beq k 10)) (an (no (an (Nat.beq k 7) (Nat.ble 2 a))) ih)))) true (fun _ _ ihx iht => an ihx iht) v
def pureVs (l : List FV) : Bool :=
  FV.rec_1 (motive_1 := fun _ => Bool) (motive_2 := fun _ => Bool) (fun k a _ _ ih => an (no (Nat.beq k 4)) (an (no (Nat.beq k 8)) (an (no (Nat.beq k 10)) (an (no (an (Nat.beq k 7) (Nat.ble 2 a))) ih)))) true (fun _ _ ihx iht => an ihx iht) l
/-- The ghosts behind a call that is known ahead. -/
def G.join (g g' : G) (n : Nat) : G := { g with ι := fun b => if b < n then g.ι b else g'.ι b }
theorem HR.join {g g' : G} {w w' : World} {H : MH} (h : HR g w H) (ev : Evo g00 w g' w') (h' : ∀ b, w'.heap.size ≤ b → g'.ι b = 0) : HR (g.join g' w.heap.size) w' H ∧ Evo g w (g.join g' w.heap.size) w' := by
  have old : ∀ b, b < w.heap.size → w'.heap[b]? = w.heap[b]? := fun b hb => (ev.still b hb rfl).1
  have le : Le g w (g.join g' w.heap.size) w' := by
    refine ⟨fun _ _ e => e, fun _ _ e => e, fun b => ?_, fun b i hi => ?_, fun b n e => ?_⟩
    · show g.ι b ≤ if b < w.heap.size then g.ι b else g'.ι b
      split
      · exact Nat.le_refl _
      · rw [(h.new b (by omega)).2]; exact Nat.zero_le _
    · have hb : b < w.heap.size := by
        rcases Nat.lt_or_ge b w.heap.size with hb | hb
        · exact hb
        · rw [(h.new b hb).2] at hi; omega
      simp only [World.cell?, old b hb]
    · have hb := has_lt e
      obtain ⟨cur, e', fz, e1, e2⟩ := e
      exact ⟨cur, e', fz, (old b hb).trans e1, e2⟩
  have hlt : ∀ b, g.ρ b ≠ .none → b < w.heap.size := fun b hb => by
    rcases Nat.lt_or_ge b w.heap.size with h2 | h2
    · exact h2
    · exact absurd (h.new b h2).1 hb
  refine ⟨h.move le rfl rfl (fun b hb => ⟨rfl, if_pos (hlt b hb), old b (hlt b hb)⟩) (fun b id hb e => by rw [show (g.join g' w.heap.size).ρ b = g.ρ b from rfl, hb] at e; cases e) (fun b hb => ?_), le, ev.size, ev.os, ev.tape, ev.output, fun b hb hr => ⟨old b hb, hr, if_pos hb⟩⟩
  have hb2 : ¬ b < w.heap.size := by have := ev.size; omega
  refine ⟨(h.new b (by omega)).1, ?_⟩
  show (if b < w.heap.size then g.ι b else g'.ι b) = 0
  rw [if_neg hb2]
  exact h' b hb
end
end Go.Proofs.YtkdpinpmjkomoaaGreatDoor.E
/- A reckoner for closed calls (DH): values that no object stands behind. -/
namespace Go.Proofs.YtkdpinpmjkomoaaGreatDoor.E
open Go
section
variable {g g' : G} {w : World}
theorem pure_parts {k a b : Nat} {l : List FV} (h : pureV ⟨k, a, b, l⟩ = true) : k ≠ 4 ∧ k ≠ 8 ∧ k ≠ 10 ∧ ¬ (k = 7 ∧ 2 ≤ a) ∧ pureVs l = true := by
  have h : an (no (Nat.beq k 4)) (an (no (Nat.beq k 8)) (an (no (Nat.beq k 10)) (an (no (an (Nat.beq k 7) (Nat.ble 2 a))) (pureVs l)))) = true := h
  obtain ⟨h1, h⟩ := an_iff.1 h
  obtain ⟨h2, h⟩ := an_iff.1 h
  obtain ⟨h3, h⟩ := an_iff.1 h
  obtain ⟨h4, h5⟩ := an_iff.1 h
  refine ⟨?_, ?_, ?_, ?_, h5⟩
  · rintro rfl; cases h1
  · rintro rfl; cases h2
  · rintro rfl; cases h3
  · rintro ⟨rfl, ha⟩
    rw [Nat.ble_eq_true_of_le ha] at h4
    cases h4
mutual
theorem VR.pure (hι : ∀ b, g.ι b ≤ g'.ι b) : ∀ (v : FV) (x : Value), pureV v = true → VR g w v x → VR g' w v x
  | ⟨k, a, b, l⟩, x, hp, hv => by
    obtain ⟨p1, p2, p3, p4, p5⟩ := pure_parts hp
    rw [VR] at hv ⊢
    refine ⟨hv.zero, hv.bool, hv.str, hv.nilp, fun e => absurd e p1, fun e => ?_, hv.nils, fun e => ?_, fun e => absurd e p2, hv.nilm, fun e => absurd e p3, fun e => ?_, hv.nilf, fun e => ?_, hv.nilif, fun e => ?_, fun e => ?_, hv.int, hv.res, hv.resU⟩
    · obtain ⟨blk, off, cs, h1, h2, h3, h4⟩ := hv.cptr e
      exact ⟨blk, off, cs, h1, Nat.le_trans h2 (hι _), h3, VRs.pure hι l cs p5 h4⟩
    · obtain ⟨blk, off, cap, cs, h1, h2, h3, h4, h5, h6, h7⟩ := hv.sl e
      exact ⟨blk, off, cap, cs, h1, h2, Nat.le_trans h3 (hι _), h4, VRe.pure hι l cs p5 h5, h6, fun ha => absurd ⟨e, ha⟩ p4⟩
    · obtain ⟨cs, h1, h2⟩ := hv.func e
      exact ⟨cs, h1, VRs.pure hι l cs p5 h2⟩
    · obtain ⟨y, h1, h2⟩ := hv.iface e
      exact ⟨y, h1, VRs.pure hι l _ p5 h2⟩
    · obtain ⟨cs, h1, h2⟩ := hv.agg e
      exact ⟨cs, h1, VRs.pure hι l cs p5 h2⟩
    · obtain ⟨cs, h1, h2⟩ := hv.tuple e
      exact ⟨cs, h1, VRs.pure hι l cs p5 h2⟩
theorem VRs.pure (hι : ∀ b, g.ι b ≤ g'.ι b) : ∀ (l : List FV) (cs : List Value), pureVs l = true → VRs g w l cs → VRs g' w l cs
  | [], _, _, hs => by rw [VRs] at hs ⊢; exact hs
  | v :: vs, _, hp, hs => by
    have hp : an (pureV v) (pureVs vs) = true := hp
    obtain ⟨p1, p2⟩ := an_iff.1 hp
    rw [VRs] at hs ⊢
    obtain ⟨x, xs, hl, hv, hs⟩ := hs
    exact ⟨x, xs, hl, VR.pure hι v x p1 hv, VRs.pure hι vs xs p2 hs⟩
theorem VRe.pure (hι : ∀ b, g.ι b ≤ g'.ι b) {sz : Nat} : ∀ (l : List FV) (cs : List Value), pureVs l = true → VRe g w sz l cs → VRe g' w sz l cs
  | [], _, _, hs => by rw [VRe] at hs ⊢; exact hs
  | v :: vs, _, hp, hs => by
    have hp : an (pureV v) (pureVs vs) = true := hp
    obtain ⟨p1, p2⟩ := an_iff.1 hp
    rw [VRe] at hs ⊢
    obtain ⟨x, xs, hl, hz, hv, hs⟩ := hs
    exact ⟨x, xs, hl, hz, VR.pure hι v x p1 hv, VRe.pure hι vs xs p2 hs⟩
end
end
end Go.Proofs.YtkdpinpmjkomoaaGreatDoor.E
/- A reckoner for closed calls (DI): calls known ahead. -/
namespace Go.Proofs.YtkdpinpmjkomoaaGreatDoor.E
open Go
noncomputable section
/-- A value of no block at all. -/
def flatV (v : FV) : Bool := an (no (Nat.beq v.k 7)) (an (no (Nat.beq v.k 5)) (an (no (Nat.beq v.k 4)) (an (no (Nat.beq v.k 8)) (an (no (Nat.beq v.k 10)) (Nat.beq (lenL v.l) 0)))))
theorem VR.flat {g g' : G} {w w' : World} {v : FV} {x : Value} (hp : flatV v = true) (hv : VR g w v x) : VR g' w' v x := by
  unfold flatV at hp
  obtain ⟨h1, hp⟩ := an_iff.1 hp
  obtain ⟨h2, hp⟩ := an_iff.1 hp
  obtain ⟨h3, hp⟩ := an_iff.1 hp
  obtain ⟨h4, hp⟩ := an_iff.1 hp
  obtain ⟨h5, h6⟩ := an_iff.1 hp
  have hl : v.l = [] := by have := beqK h6; rw [lenL_eq] at this; exact List.eq_nil_of_length_eq_zero this
  have ne : ∀ {k n : Nat}, no (Nat.beq k n) = true → k ≠ n := fun h e => by rw [e, beq_t] at h; cases h
  have hs : ∀ cs, VRs g w v.l cs → VRs g' w' v.l cs := fun cs h => by rw [hl] at h ⊢; rw [h.nil_iff]; exact VRs.nil'
  have k := hv.vk
  refine VR.mk ⟨k.zero, k.bool, k.str, k.nilp, fun e => absurd e (ne h3), fun e => absurd e (ne h2), k.nils, fun e => absurd e (ne h1), fun e => absurd e (ne h4), k.nilm, fun e => absurd e (ne h5), fun e => ?_, k.nilf, fun e => ?_, k.nilif, fun e => ?_, fun e => ?_, k.int, k.res, k.resU⟩
  · obtain ⟨cs, a, b⟩ := k.func e; exact ⟨cs, a, hs cs b⟩
  · obtain ⟨y, a, b⟩ := k.iface e; exact ⟨y, a, hs _ b⟩
  · obtain ⟨cs, a, b⟩ := k.agg e; exact ⟨cs, a, hs cs b⟩
  · obtain ⟨cs, a, b⟩ := k.tuple e; exact ⟨cs, a, hs cs b⟩
end
end Go.Proofs.YtkdpinpmjkomoaaGreatDoor.E
/- A reckoner for closed calls (DJ): a call known ahead, from any heap. -/
namespace Go.Proofs.YtkdpinpmjkomoaaGreatDoor.E
open Go
theorem VRs.flat {g g' : G} {w w' : World} : ∀ {l : List FV} {xs : List Value}, allF flatV l = true → VRs g w l xs → VRs g' w' l xs
  | [], _, _, h => by rw [h.nil_iff]; exact VRs.nil'
  | v :: l, _, ha, h => by
    have ha : an (flatV v) (allF flatV l) = true := ha
    obtain ⟨a1, a2⟩ := an_iff.1 ha
    obtain ⟨x, xs, rfl, hv, hs⟩ := h.cons_iff
    exact VRs.cons' (hv.flat a1) (VRs.flat a2 hs)
/-- What was reckoned from nothing holds in any heap. -/
theorem known_call {P : Program} (hm : P.follows .mixedOrders = true) (K : Nat → Cf) (n f : Nat) {args : List FV} (ha : allF flatV args = true) {v : FV} {H' : MH} {u : FV} (hr : (eng P K n).call f args H00 FF = .ret v H' u) (hp : pureV v = true) :
    Good P f ∧ ∀ g w H xs, HR g w H → VRs g w args xs → Calls P f (List.toArray xs) w (ResR g w (.ret v H FF)) := by
  have hs := (eng_ok hm K n).call f args H00 (by rw [hr]; intro h; cases h)
  refine ⟨hs.1, fun g w H xs hH hv => ?_⟩
  have hc := hs.2 g00 w xs (start_HR w) (VRs.flat ha hv)
  rw [hr] at hc
  refine hc.mono fun e w' he => ?_
  obtain ⟨g', ev, hh, x, hx, hvx⟩ := he
  obtain ⟨j1, j2⟩ := hH.join ev fun b hb => (hh.new b hb).2
  refine ⟨_, j2, j1, x, hx, VR.pure (fun b => ?_) v x hp hvx⟩
  show g'.ι b ≤ if b < w.heap.size then g.ι b else g'.ι b
  split
  · rename_i hb
    rw [(ev.still b hb rfl).2.2]
    exact Nat.zero_le _
  · exact Nat.le_refl _
end Go.Proofs.YtkdpinpmjkomoaaGreatDoor.E
/- A reckoner for closed calls (DK): the reckoner with calls that are known ahead. -/
namespace Go.Proofs.YtkdpinpmjkomoaaGreatDoor.E
open Go
noncomputable section
abbrev BO := Nat → List FV → Option FV
/-- Functions that are shown otherwise, with the heap. -/
abbrev PO := Nat → List FV → MH → Option VH
def noPr : PO := fun _ _ _ => none
def primR (r : VH) : Res := VH.rec (fun v H => .ret v H FF) r
def callB (P : Program) (K : Nat → Cf) (B : BO) (Pr : PO) (e : En) (f : Nat) (args : List FV) (H : MH) (u : FV) : Res :=
  Bool.rec (callE P K e f args H u) (Option.rec (Option.rec (callE P K e f args H u) primR (Pr f args H)) (fun v => .ret v H FF) (B f args)) (Nat.beq u.k 99)
def engB (P : Program) (K : Nat → Cf) (B : BO) (Pr : PO) (n : Nat) : En := Nat.rec ⟨fun _ _ _ _ => .fail, fun _ _ _ => .fail⟩ (fun _ e => ⟨callB P K B Pr e, loopE P K e⟩) n
/-- A call that is known ahead. -/
structure ME where
  f : Nat
  xs : List FV
  v : FV
def EntOk (P : Program) (f : Nat) (xs : List FV) (v : FV) : Prop := Good P f ∧ ∀ g w H ys, HR g w H → VRs g w xs ys → Calls P f (List.toArray ys) w (ResR g w (.ret v H FF))
def MOk (P : Program) (x : ME) : Prop := EntOk P x.f x.xs x.v
def BOk (P : Program) (B : BO) : Prop := ∀ f xs v, B f xs = some v → EntOk P f xs v
def eqL (l : List FV) : List FV → Bool := List.rec (fun m => List.rec true (fun _ _ _ => false) m) (fun x _ ih m => List.rec false (fun y t _ => an (eqV x y) (ih t)) m) l
def POk (P : Program) (Pr : PO) : Prop := ∀ f xs H r, Pr f xs H = some r → Good P f ∧ ∀ g w ys, HR g w H → VRs g w xs ys → Calls P f (List.toArray ys) w (ResR g w (.ret r.v r.H FF))
theorem noPr_ok {P : Program} : POk P noPr := fun _ _ _ _ h => by cases h
def memoB (l : List ME) (f : Nat) (xs : List FV) : Option FV := List.rec none (fun x _ ih => Bool.rec ih (some x.v) (an (Nat.beq x.f f) (eqL x.xs xs))) l
theorem eqL_spec : ∀ l m : List FV, eqL l m = true → l = m
  | [], [], _ => rfl
  | [], _ :: _, h => by cases h
  | _ :: _, [], h => by cases h
  | x :: l, y :: m, h => by
    have h : an (eqV x y) (eqL l m) = true := h
    obtain ⟨h1, h2⟩ := an_iff.1 h
    rw [eqV_spec _ _ h1, eqL_spec _ _ h2]
theorem memoB_ok {P : Program} : ∀ {l : List ME}, (∀ x ∈ l, MOk P x) → BOk P (memoB l)
  | [], _, _, _, _, h => by cases h
  | x :: l, hl, f, xs, v, h => by
    have h : (Bool.rec (memoB l f xs) (some x.v) (an (Nat.beq x.f f) (eqL x.xs xs)) : Option FV) = some v := h
    cases hb : an (Nat.beq x.f f) (eqL x.xs xs) with
    | false => rw [hb] at h; exact memoB_ok (fun y hy => hl y (List.mem_cons_of_mem _ hy)) f xs v h
    | true =>
      rw [hb] at h
      obtain ⟨h1, h2⟩ := an_iff.1 hb
      have h1 := Nat.eq_of_beq_eq_true h1
      have h2 := eqL_spec _ _ h2
      have h := Option.some.inj h
      have := hl x List.mem_cons_self
      unfold MOk at this
      rwa [h1, h2, h] at this
theorem callB_step {P : Program} {K : Nat → Cf} {B : BO} {Pr : PO} {e : En} (hB : BOk P B) (hP : POk P Pr) (h : SndE P K e) (hA : ∀ f, SndA P (K f) e.call) : SndO P (callB P K B Pr e) ∧ SndU P (callB P K B Pr e) := by
  obtain ⟨s1, s2⟩ := call_step h hA
  constructor
  · intro f args H hne
    have e1 : callB P K B Pr e f args H FF = Option.rec (Option.rec (callE P K e f args H FF) primR (Pr f args H)) (fun v => .ret v H FF) (B f args) := rfl
    rw [e1] at hne ⊢
    cases hb : B f args with
    | none =>
      rw [hb] at hne
      dsimp only at hne ⊢
      cases hp : Pr f args H with
      | none => rw [hp] at hne; exact s1 f args H hne
      | some r =>
        obtain ⟨v, H'⟩ := r
        obtain ⟨h1, h2⟩ := hP f args H _ hp
        exact ⟨h1, fun g w xs hH hv => h2 g w xs hH hv⟩
    | some v =>
      obtain ⟨h1, h2⟩ := hB f args v hb
      exact ⟨h1, fun g w xs hH hv => h2 g w H xs hH hv⟩
  · intro f args H u hu99 hne
    have e1 : callB P K B Pr e f args H u = callE P K e f args H u := by
      unfold callB
      rw [beq_f hu99]
    rw [e1] at hne ⊢
    exact s2 f args H u hu99 hne
theorem engB_ok {P : Program} (hm : P.follows .mixedOrders = true) (K : Nat → Cf) {B : BO} {Pr : PO} (hB : BOk P B) (hP : POk P Pr) : ∀ n, SndE P K (engB P K B Pr n)
  | 0 => ⟨fun _ _ _ h => absurd rfl h, fun _ _ _ _ _ h => absurd rfl h, fun _ _ _ _ _ _ _ _ hQ => hQ.elim⟩
  | n + 1 => by
    have ih := engB_ok hm K hB hP n
    obtain ⟨h1, h2⟩ := callB_step hB hP ih fun f => drOf_ok hm ih.call
    exact ⟨h1, h2, fun f => loop_step ih.call (ih.loop f) (drOf_ok hm ih.call) _⟩
/-! ### what tokens there are is forgotten -/
def clr (v : FV) : FV := FV.rec (motive_1 := fun _ => FV) (motive_2 := fun _ => List FV) (fun k a b _ ih => ⟨k, Bool.rec a 0 (Nat.beq k 7), b, ih⟩) [] (fun _ _ ihx iht => ihx :: iht) v
def clrs (l : List FV) : List FV := FV.rec_1 (motive_1 := fun _ => FV) (motive_2 := fun _ => List FV) (fun k a b _ ih => ⟨k, Bool.rec a 0 (Nat.beq k 7), b, ih⟩) [] (fun _ _ ihx iht => ihx :: iht) l
theorem clrs_length : ∀ l : List FV, (clrs l).length = l.length
  | [] => rfl
  | _ :: l => congrArg Nat.succ (clrs_length l)
section
variable {g : G} {w : World}
mutual
theorem VR.clr : ∀ (v : FV) (x : Value), VR g w v x → VR g w (clr v) x
  | ⟨k, a, b, l⟩, x, hv => by
    have e : E.clr ⟨k, a, b, l⟩ = ⟨k, Bool.rec a 0 (Nat.beq k 7), b, clrs l⟩ := rfl
    rw [e]
    by_cases hk : k = 7
    · subst hk
      rw [VR] at hv ⊢
      obtain ⟨blk, off, cap, cs, h1, h2, h3, h4, h5, h6, h7⟩ := hv.sl rfl
      have hl := clrs_length l
      have := VR.of_sl (g := g) (w := w) (a := 0) (b := b) (l := clrs l) (cap := cap) (blk := blk) (off := off) (cs := cs) (by rw [hl]; exact h2) h3 h4 (VRe.clrs l cs h5) (fun e => by cases e) (fun e => by omega)
      rw [hl, ← h1] at this
      rw [VR] at this
      exact this
    · rw [show (Bool.rec a 0 (Nat.beq k 7) : Nat) = a by rw [beq_f hk]]
      rw [VR] at hv ⊢
      have hs := fun cs h => VRs.clrs l cs h
      have hh : k = 8 → (hd (clrs l)).a = (hd l).a ∨ (hd l).k = 7 := fun _ => by
        cases l with
        | nil => exact .inl rfl
        | cons y m =>
          by_cases hy : y.k = 7
          · exact .inr hy
          · left
            obtain ⟨yk, ya, yb, yl⟩ := y
            show (Bool.rec ya 0 (Nat.beq yk 7) : Nat) = ya
            rw [beq_f hy]
      refine ⟨hv.zero, hv.bool, hv.str, hv.nilp, hv.ptr, fun e => ?_, hv.nils, fun e => absurd e hk, fun e => ?_, hv.nilm, hv.map, fun e => ?_, hv.nilf, fun e => ?_, hv.nilif, fun e => ?_, fun e => ?_, hv.int, hv.res, hv.resU⟩
      · obtain ⟨blk, off, cs, h1, h2, h3, h4⟩ := hv.cptr e
        exact ⟨blk, off, cs, h1, h2, h3, hs cs h4⟩
      · obtain ⟨blk, cap, h1, h2, h3, h4⟩ := hv.row e
        refine ⟨blk, cap, h1, h2, h3, ?_⟩
        obtain ⟨cur, e', fz, h5, h6⟩ := h4
        refine ⟨cur, e', fz, h5, ?_⟩
        rcases hh e with h | h
        · rw [h]; exact h6
        · have : (hd (clrs l)).a = 0 := by
            cases l with
            | nil => rfl
            | cons y m =>
              obtain ⟨yk, ya, yb, yl⟩ := y
              have h : yk = 7 := h
              subst h
              rfl
          rw [this]; omega
      · obtain ⟨cs, h1, h2⟩ := hv.func e
        exact ⟨cs, h1, hs cs h2⟩
      · obtain ⟨y, h1, h2⟩ := hv.iface e
        exact ⟨y, h1, hs _ h2⟩
      · obtain ⟨cs, h1, h2⟩ := hv.agg e
        exact ⟨cs, h1, hs cs h2⟩
      · obtain ⟨cs, h1, h2⟩ := hv.tuple e
        exact ⟨cs, h1, hs cs h2⟩
theorem VRs.clrs : ∀ (l : List FV) (cs : List Value), VRs g w l cs → VRs g w (clrs l) cs
  | [], _, hs => hs
  | v :: vs, _, hs => by
    obtain ⟨x, xs, rfl, hv, hs⟩ := hs.cons_iff
    exact VRs.cons' (VR.clr v x hv) (VRs.clrs vs xs hs)
theorem VRe.clrs {sz : Nat} : ∀ (l : List FV) (cs : List Value), VRe g w sz l cs → VRe g w sz (clrs l) cs
  | [], _, hs => hs
  | v :: vs, _, hs => by
    obtain ⟨x, xs, rfl, hz, hv, hs⟩ := hs.cons_iff
    exact VRe.cons' hz (VR.clr v x hv) (VRe.clrs vs xs hs)
end
end
/-! ### a call from nothing, known in any heap -/
def G.bare (g : G) : G := ⟨fun _ => none, g.ι, fun _ => none, fun _ => .none⟩
theorem HR.bare {g : G} {w : World} {H : MH} (h : HR g w H) : HR g.bare w H00 :=
  ⟨trivial, trivial, rfl, Nat.le_refl _, (fun _ _ h => by cases h), rfl, (fun _ _ h => by cases h), (fun id h => by
    have e : H00.get id = FF := by unfold MH.get H00; cases ev id <;> rfl
    rw [e] at h
    exact absurd rfl h), (fun t h => by
    rw [isLive_bit] at h
    have : (H00.live).testBit t = false := Nat.zero_testBit t
    rw [this] at h
    cases h), (fun _ _ h => by cases h), fun b hb => ⟨rfl, (h.new b hb).2⟩⟩
theorem HR.join' {g g' : G} {w w' : World} {H : MH} (h : HR g w H) (ev : Evo g.bare w g' w') (h' : ∀ b, w'.heap.size ≤ b → g'.ι b = 0) : HR (g.join g' w.heap.size) w' H ∧ Evo g w (g.join g' w.heap.size) w' := by
  have old : ∀ b, b < w.heap.size → w'.heap[b]? = w.heap[b]? := fun b hb => (ev.still b hb rfl).1
  have le : Le g w (g.join g' w.heap.size) w' := by
    refine ⟨fun _ _ e => e, fun _ _ e => e, fun b => ?_, fun b i hi => ?_, fun b n e => ?_⟩
    · show g.ι b ≤ if b < w.heap.size then g.ι b else g'.ι b
      split
      · exact Nat.le_refl _
      · rw [(h.new b (by omega)).2]; exact Nat.zero_le _
    · have hb : b < w.heap.size := by
        rcases Nat.lt_or_ge b w.heap.size with hb | hb
        · exact hb
        · rw [(h.new b hb).2] at hi; omega
      simp only [World.cell?, old b hb]
    · have hb := has_lt e
      obtain ⟨cur, e', fz, e1, e2⟩ := e
      exact ⟨cur, e', fz, (old b hb).trans e1, e2⟩
  have hlt : ∀ b, g.ρ b ≠ .none → b < w.heap.size := fun b hb => by
    rcases Nat.lt_or_ge b w.heap.size with h2 | h2
    · exact h2
    · exact absurd (h.new b h2).1 hb
  refine ⟨h.move le rfl rfl (fun b hb => ⟨rfl, if_pos (hlt b hb), old b (hlt b hb)⟩) (fun b id hb e => by rw [show (g.join g' w.heap.size).ρ b = g.ρ b from rfl, hb] at e; cases e) (fun b hb => ?_), le, ev.size, ev.os, ev.tape, ev.output, fun b hb hr => ⟨old b hb, hr, if_pos hb⟩⟩
  have hb2 : ¬ b < w.heap.size := by have := ev.size; omega
  refine ⟨(h.new b (by omega)).1, ?_⟩
  show (if b < w.heap.size then g.ι b else g'.ι b) = 0
  rw [if_neg hb2]
  exact h' b hb
/-- What was reckoned from nothing holds in any heap. -/
theorem ent_ok {P : Program} {e : En} (hs : SndO P e.call) {f : Nat} {args : List FV} (ha : pureVs args = true) {v : FV} {H' : MH} {u : FV} (hr : e.call f args H00 FF = .ret v H' u) (hp : pureV (clr v) = true) : EntOk P f args (clr v) := by
  have hs := hs f args H00 (by rw [hr]; intro h; cases h)
  refine ⟨hs.1, fun g w H xs hH hv => ?_⟩
  have hc := hs.2 g.bare w xs hH.bare (VRs.pure (g := g) (g' := g.bare) (fun _ => Nat.le_refl _) args xs ha hv)
  rw [hr] at hc
  refine hc.mono fun e w' he => ?_
  obtain ⟨g', ev, hh, x, hx, hvx⟩ := he
  obtain ⟨j1, j2⟩ := hH.join' ev fun b hb => (hh.new b hb).2
  refine ⟨_, j2, j1, x, hx, VR.pure (fun b => ?_) (clr v) x hp (VR.clr v x hvx)⟩
  show g'.ι b ≤ if b < w.heap.size then g.ι b else g'.ι b
  split
  · rename_i hb
    rw [(ev.still b hb rfl).2.2]
    exact Nat.le_refl _
  · exact Nat.le_refl _
/-- The check of an entry, for the kernel. -/
def entB (v : FV) (r : Res) : Bool := Res.rec (fun v' _ _ => an (eqV v (clr v')) (pureV v)) (fun _ _ _ => false) false r
def chkB (P : Program) (K : Nat → Cf) (B : BO) (Pr : PO) (n : Nat) (x : ME) : Bool := an (pureVs x.xs) (entB x.v ((engB P K B Pr n).call x.f x.xs H00 FF))
theorem chkB_ok {P : Program} (hm : P.follows .mixedOrders = true) (K : Nat → Cf) {Pr : PO} (hP : POk P Pr) {l : List ME} (hl : ∀ x ∈ l, MOk P x) {n : Nat} {x : ME} (h : chkB P K (memoB l) Pr n x = true) : MOk P x := by
  obtain ⟨h1, h2⟩ := an_iff.1 h
  have hs := (engB_ok hm K (memoB_ok hl) hP n).call
  generalize hr : (engB P K (memoB l) Pr n).call x.f x.xs H00 FF = r at h2
  cases r with
  | ret v' H' u =>
    obtain ⟨h3, h4⟩ := an_iff.1 h2
    have h3 := eqV_spec _ _ h3
    have := ent_ok hs h1 hr (h3 ▸ h4)
    rw [← h3] at this
    exact this
  | panic => cases h2
  | fail => cases h2
theorem mnil {P : Program} : ∀ x ∈ ([] : List ME), MOk P x := fun _ h => by cases h
theorem mcons {P : Program} {x : ME} {l : List ME} (h : MOk P x) (hl : ∀ y ∈ l, MOk P y) : ∀ y ∈ x :: l, MOk P y := fun y hy => by
  rcases List.mem_cons.1 hy with rfl | hy
  · exact h
  · exact hl y hy
abbrev m (k a b : Nat) (l : List FV) : FV := ⟨k, a, b, l⟩
end
end Go.Proofs.YtkdpinpmjkomoaaGreatDoor.E
/- A reckoner for closed calls (DL): laws that answer true. -/
namespace Go.Proofs.YtkdpinpmjkomoaaGreatDoor.E
open Go
/-- What a number leaves. -/
theorem res_of (n : Int) (m : Nat) (hm : 0 < m) : ∃ r, r < m ∧ ∀ (g : G) (w : World), VR g w ⟨48, r, m, []⟩ (.int .i64 n) := by
  have hz : (m : Int) ≠ 0 := by omega
  have h1 := Int.emod_nonneg (IntKind.u64.wrap n) hz
  have h2 := Int.emod_lt_of_pos (IntKind.u64.wrap n) (show (0 : Int) < m by omega)
  exact ⟨(IntKind.u64.wrap n % (m : Int)).toNat, by omega, fun g w => VR.of_res hm (by omega)⟩
/-- A law's call that is known to answer true. -/
theorem law_of {P : Program} {f : Nat} {xs : List FV} (h : MOk P ⟨f, xs, ⟨1, 1, 0, []⟩⟩) (ys : List Value) (hv : ∀ (g : G) (w : World), VRs g w xs ys) (w : World) : Calls P f (List.toArray ys) w fun e w' => e = .returned (.bool true) ∧ Go.RowKit.Below w.heap.size w w' :=
  (h.2 g00 w H00 ys (start_HR w) (hv g00 w)).mono fun e w' he => by
    obtain ⟨g', ev, hh, x, hx, hvx⟩ := he
    obtain ⟨hb, _⟩ := hvx.vk.bool rfl
    exact ⟨by rw [hx, hb]; rfl, ev.os, ev.tape, ev.output, ev.size, fun k hk => (ev.still k hk rfl).1⟩
end Go.Proofs.YtkdpinpmjkomoaaGreatDoor.E
/- A reckoner for closed calls (DM): methods of strings.Builder, shown otherwise. -/
namespace Go.Proofs.YtkdpinpmjkomoaaGreatDoor.E
open Go
noncomputable section

section
variable {g : G} {w w' : World} {H : MH}
/-- A row of an object is frozen: the object is gone. -/
theorem HR.gone (h : HR g w H) {blk id : Nat} (h2 : g.ρ blk = .obj id) (hw : ∀ b, b ≠ blk → w'.heap[b]? = w.heap[b]?) (hs : w'.heap.size = w.heap.size) (hh : ∀ n, Has w blk n → Has w' blk n) : HR g w' (H.del id) := by
  have le := Le.put h h2 hw hh
  have hd := h.del id
  refine ⟨hd.fallO, hd.fallB, hd.even, hd.two, hd.phi, hd.phi2, hd.tau, fun j hj => ?_, fun t ht => ?_, hd.mbl, fun b hb => hd.new b (hs ▸ hb)⟩
  · rcases MH.get_del h id j with e | ⟨e1, e2⟩
    · rw [e] at hj; exact absurd rfl hj
    · rw [e2] at hj ⊢
      obtain ⟨b, q1, q2, q3⟩ := h.obj j hj
      have hb : b ≠ blk := fun e => by rw [e, h2] at q2; injection q2 with q2; exact e1 q2.symm
      exact ⟨b, q1, q2, q3.move le (hw b hb)⟩
  · obtain ⟨b, m, q1, q2, q3, ⟨cur, e, q4⟩⟩ := hd.tok t ht
    have hb : b ≠ blk := fun e => by rw [e, h2] at q2; cases q2
    exact ⟨b, m, q1, q2, q3, ⟨cur, e, (hw b hb).trans q4⟩⟩
end
/-- The builder that a pointer names. -/
def bldK (T : Nat) (p o : FV) : Bool := an (Nat.beq p.k 4) (an (Nat.beq p.b 0) (an (Nat.beq o.k 15) (an (Nat.beq o.a T) (Nat.beq (lenL o.l) 2))))
def chk2 (T : Nat) (p o : FV) (H : MH) : Option VH :=
  cond (Nat.beq (hd o.l).k 3) (some ⟨UN, H.set p.a ⟨15, T, o.b, [⟨4, p.a, 0, []⟩, hd (tl o.l)]⟩⟩)
    (cond (an (Nat.beq (hd o.l).k 4) (an (Nat.beq (hd o.l).a p.a) (Nat.beq (hd o.l).b 0))) (some ⟨UN, H⟩) none)
def prCheck (T : Nat) (p : FV) (H : MH) : Option VH := (fun o => cond (bldK T p o) (chk2 T p o H) none) (H.get p.a)
def byteOk (v : FV) : Bool := an (Nat.beq v.k 40) (Nat.blt v.a 256)
def bytesN (l : List FV) : Nat := List.rec 0 (fun x _ ih => Nat.add x.a (Nat.mul 256 ih)) l
def rowOk (E : Nat) (buf o : FV) : Bool := an (Nat.beq buf.k 8) (an (Nat.beq (hd buf.l).a 1) (an (Nat.beq o.k 8) (an (Nat.beq o.a E) (an (Nat.ble 1 buf.b) (an (Nat.ble buf.b 1000000) (an (geF o.l buf.b) (allF byteOk (takeF buf.b o.l))))))))
def str2 (E : Nat) (buf : FV) (H : MH) : Option VH :=
  cond (Nat.beq buf.k 6) (some ⟨⟨2, 0, 0, []⟩, H⟩) ((fun o => cond (rowOk E buf o) (some ⟨⟨2, buf.b, bytesN (takeF buf.b o.l), []⟩, H.del buf.a⟩) none) (H.get buf.a))
def prString (T E : Nat) (p : FV) (H : MH) : Option VH := (fun o => cond (bldK T p o) (str2 E (hd (tl o.l)) H) none) (H.get p.a)
section
variable {P : Program} {g : G} {w : World} {H : MH} {T E f : Nat}
/-- What is known of a builder. -/
theorem bld_at (hT : T ≠ 0) {p : FV} {y : Value} (hH : HR g w H) (hv : VR g w p y) (h : bldK T p (H.get p.a) = true) : ∃ b x v, y = .pointer (some ⟨b, 0, none⟩) ∧ g.φ p.a = some b ∧ g.ρ b = .obj p.a ∧ w.heap[b]? = some (.cells #[x, v] T (0, 0)) ∧ VR g w (hd (H.get p.a).l) x ∧ VR g w (hd (tl (H.get p.a).l)) v := by
  obtain ⟨c1, c2⟩ := an_iff.1 h
  obtain ⟨c2, c3⟩ := an_iff.1 c2
  obtain ⟨c3, c4⟩ := an_iff.1 c3
  obtain ⟨c4, c5⟩ := an_iff.1 c4
  have c3 := beqK c3
  have c4 := beqK c4
  have c5 := beqK c5
  obtain ⟨b, hb, hy⟩ := hv.vk.ptr (beqK c1)
  rw [beqK c2] at hy
  obtain ⟨b', q1, q2, q3⟩ := hH.obj p.a (by omega)
  rw [hb] at q1
  injection q1 with q1
  subst q1
  cases q3 with
  | cells hk ht hh hvs =>
    rename_i cur e
    have he : e = T := by rcases ht with ht | ht <;> omega
    subst he
    generalize H.get p.a = o at *
    obtain ⟨ok, oa, ob, ol⟩ := o
    match ol, c5, hvs with
    | [u1, u2], _, hvs =>
      obtain ⟨x, xs, e1, v1, hvs⟩ := hvs.cons_iff
      obtain ⟨v, xs, e2, v2, hvs⟩ := hvs.cons_iff
      have e3 := hvs.nil_iff
      subst e3
      subst e2
      have ec : cur = #[x, v] := by apply Array.ext'; rw [e1]
      subst ec
      exact ⟨b, x, v, hy, hb, q2, hh, v1, v2⟩
  | row hk => omega
  | map hk => omega
  | iter hk => omega
theorem one_arg {p : FV} {ys : List Value} (h : VRs g w [p] ys) : ∃ y, ys = [y] ∧ VR g w p y := by
  obtain ⟨y, xs, rfl, hv, hs⟩ := h.cons_iff
  rw [hs.nil_iff]
  exact ⟨y, rfl, hv⟩
theorem prCheck_ok (hT : T ≠ 0)
    (hf : ∀ b w, w.cell? ⟨b, 0, none⟩ = some (.pointer none) → w.shape? b = some (T, 2) → w.frozen? ⟨b, 0, none⟩ = false → Calls P f #[.pointer (some ⟨b, 0, none⟩)] w fun e w' => e = .returned (.tuple #[]) ∧ w' = w.setCell ⟨b, 0, none⟩ (.pointer (some ⟨b, 0, none⟩)))
    (hu : ∀ b w, w.cell? ⟨b, 0, none⟩ = some (.pointer (some ⟨b, 0, none⟩)) → Calls P f #[.pointer (some ⟨b, 0, none⟩)] w fun e w' => e = .returned (.tuple #[]) ∧ w' = w)
    {p : FV} {r : VH} (hr : prCheck T p H = some r) (hH : HR g w H) {ys : List Value} (hv : VRs g w [p] ys) : Calls P f (List.toArray ys) w (ResR g w (.ret r.v r.H FF)) := by
  obtain ⟨y, rfl, hy⟩ := one_arg hv
  have hr : cond (bldK T p (H.get p.a)) (chk2 T p (H.get p.a) H) none = some r := hr
  cases hb : bldK T p (H.get p.a) with
  | false => rw [hb] at hr; cases hr
  | true =>
    rw [hb] at hr
    have hr : chk2 T p (H.get p.a) H = some r := hr
    obtain ⟨b, x, v, rfl, hphi, hrho, hh, v1, v2⟩ := bld_at hT hH hy hb
    have cell0 : w.cell? ⟨b, 0, none⟩ = some x := by simp [World.cell?, hh]
    unfold chk2 at hr
    cases h3 : Nat.beq (hd (H.get p.a).l).k 3 with
    | true =>
      rw [h3] at hr
      injection hr with hr
      subst hr
      have ex := v1.vk.nilp (beqK h3)
      subst ex
      refine (hf b w cell0 (by simp [World.shape?, hh]) (by simp [World.frozen?, hh])).mono fun e w' he => ?_
      obtain ⟨rfl, rfl⟩ := he
      have hheap : (w.setCell ⟨b, 0, none⟩ (.pointer (some ⟨b, 0, none⟩))).heap[b]? = some (.cells #[.pointer (some ⟨b, 0, none⟩), v] T (0, 0)) := by
        have := heap_setCell_same w b 0 #[.pointer none, v] T (.pointer (some ⟨b, 0, none⟩)) hh
        simpa using this
      have hother : ∀ k, k ≠ b → (w.setCell ⟨b, 0, none⟩ (.pointer (some ⟨b, 0, none⟩))).heap[k]? = w.heap[k]? := fun k hk => heap_setCell_other w ⟨b, 0, none⟩ k _ hk
      have hsize : (w.setCell ⟨b, 0, none⟩ (.pointer (some ⟨b, 0, none⟩))).heap.size = w.heap.size := World.size_setCell ..
      have hhas : ∀ n, Has w b n → Has (w.setCell ⟨b, 0, none⟩ (.pointer (some ⟨b, 0, none⟩))) b n := by
        rintro n ⟨cur2, e2, fz, k1, k2⟩
        rw [hh] at k1
        injection k1 with k1
        injection k1 with k1
        subst k1
        exact ⟨_, _, _, hheap, by simpa using k2⟩
      have le := Le.put hH hrho hother hhas
      refine ⟨g, Evo.put hH hrho hother hsize hhas rfl rfl rfl, hH.put hphi hrho hother hsize hhas (.cells rfl (.inr rfl) hheap ?_), _, rfl, VR.of_undef⟩
      exact VRs.cons' (VR.of_ptr [] hphi) (VRs.cons' (VR.le le _ _ v2) VRs.nil')
    | false =>
      rw [h3] at hr
      cases h4 : an (Nat.beq (hd (H.get p.a).l).k 4) (an (Nat.beq (hd (H.get p.a).l).a p.a) (Nat.beq (hd (H.get p.a).l).b 0)) with
      | false => rw [h4] at hr; cases hr
      | true =>
        rw [h4] at hr
        injection hr with hr
        subst hr
        obtain ⟨c1, c2⟩ := an_iff.1 h4
        obtain ⟨c2, c3⟩ := an_iff.1 c2
        obtain ⟨b', hb', ex⟩ := v1.vk.ptr (beqK c1)
        rw [beqK c2, hphi] at hb'
        injection hb' with hb'
        subst hb'
        rw [beqK c3] at ex
        subst ex
        refine (hu b w cell0).mono fun e w' he => ?_
        obtain ⟨rfl, rfl⟩ := he
        exact ⟨g, Evo.refl g _, hH, _, rfl, VR.of_undef⟩
theorem bytesN_spec : ∀ {l : List FV} {cs : List Value}, VRs g w l cs → allF byteOk l = true → bytesN l < 256 ^ l.length ∧ cs = (decL l.length (bytesN l)).map fun c => Value.int .u8 (c.toNat : Int)
  | [], cs, h, _ => ⟨by decide, h.nil_iff⟩
  | v :: l, cs, h, ha => by
    have ha : an (byteOk v) (allF byteOk l) = true := ha
    obtain ⟨a1, a2⟩ := an_iff.1 ha
    obtain ⟨k1, k2⟩ := an_iff.1 a1
    obtain ⟨x, xs, rfl, hv, hs⟩ := h.cons_iff
    obtain ⟨i1, i2⟩ := bytesN_spec hs a2
    have k1 := beqK k1
    have k2 : v.a < 256 := of_decide_eq_true (by simpa using k2)
    obtain ⟨hx, _⟩ := hv.vk.int (by omega) (by omega)
    have e1 : bytesN (v :: l) = v.a + 256 * bytesN l := rfl
    rw [e1]
    refine ⟨?_, ?_⟩
    · rw [List.length_cons, Nat.pow_succ]
      omega
    · rw [List.length_cons]
      show x :: xs = Value.int .u8 ((UInt8.ofNat ((v.a + 256 * bytesN l) % 256)).toNat : Int) :: (decL l.length ((v.a + 256 * bytesN l) / 256)).map _
      rw [show (v.a + 256 * bytesN l) / 256 = bytesN l by omega, show (v.a + 256 * bytesN l) % 256 = v.a by omega, ← i2, hx, k1]
      congr 1
      have : (UInt8.ofNat v.a).toNat = v.a := by simp; omega
      rw [this]
      rfl
theorem prString_ok (hT : T ≠ 0) (hE : E ≠ 0)
    (hn : ∀ b x w, w.heap[b]? = some (.cells #[x, .slice none 0 0] T (0, 0)) → Calls P f #[.pointer (some ⟨b, 0, none⟩)] w fun e w' => e = .returned (.string ⟨#[]⟩) ∧ w' = w.drew)
    (hs : ∀ (b : Nat) (x : Value) (q cap : Nat) (cur : Array Value) (l : List UInt8) (w : World), w.heap[b]? = some (.cells #[x, .slice (some ⟨q, 0, none⟩) l.length cap] T (0, 0)) → w.heap[q]? = some (.cells cur E (0, 0)) → l ≠ [] → l.length ≤ 1000000 → l.length ≤ cap → l.length ≤ cur.size → (∀ (j : Nat) (u : UInt8), l[j]? = some u → cur[j]? = some (Value.int .u8 u.toNat)) → Calls P f #[.pointer (some ⟨b, 0, none⟩)] w fun e w' => e = .returned (.string ⟨l.toArray⟩) ∧ w' = w.drew.freeze ⟨q, 0, none⟩ l.length)
    {p : FV} {r : VH} (hr : prString T E p H = some r) (hH : HR g w H) {ys : List Value} (hv : VRs g w [p] ys) : Calls P f (List.toArray ys) w (ResR g w (.ret r.v r.H FF)) := by
  obtain ⟨y, rfl, hy⟩ := one_arg hv
  have hr : cond (bldK T p (H.get p.a)) (str2 E (hd (tl (H.get p.a).l)) H) none = some r := hr
  cases hb : bldK T p (H.get p.a) with
  | false => rw [hb] at hr; cases hr
  | true =>
    rw [hb] at hr
    have hr : str2 E (hd (tl (H.get p.a).l)) H = some r := hr
    obtain ⟨b, x, v, rfl, hphi, hrho, hh, v1, v2⟩ := bld_at hT hH hy hb
    generalize hd (tl (H.get p.a).l) = buf at *
    unfold str2 at hr
    cases h6 : Nat.beq buf.k 6 with
    | true =>
      rw [h6] at hr
      injection hr with hr
      subst hr
      have ex := v2.vk.nils (beqK h6)
      subst ex
      refine (hn b x w hh).mono fun e w' he => ?_
      obtain ⟨rfl, rfl⟩ := he
      exact ⟨g, Evo.drew g w, hH.drew, _, rfl, VR.of_str (a := 0) (b := 0) [] (by decide)⟩
    | false =>
      rw [h6] at hr
      dsimp only [cond] at hr
      cases hk : rowOk E buf (H.get buf.a) with
      | false => rw [hk] at hr; cases hr
      | true =>
        rw [hk] at hr
        injection hr with hr
        subst hr
        obtain ⟨c1, c2⟩ := an_iff.1 hk
        obtain ⟨c2, c3⟩ := an_iff.1 c2
        obtain ⟨c3, c4⟩ := an_iff.1 c3
        obtain ⟨c4, c5⟩ := an_iff.1 c4
        obtain ⟨c5, c6⟩ := an_iff.1 c5
        obtain ⟨c6, c7⟩ := an_iff.1 c6
        obtain ⟨c7, c8⟩ := an_iff.1 c7
        have c3 := beqK c3
        have c4 := beqK c4
        have c5 := Nat.le_of_ble_eq_true c5
        have c6 := Nat.le_of_ble_eq_true c6
        have c7 : buf.b ≤ (H.get buf.a).l.length := geF_eq c7
        obtain ⟨q, cap, p1, rfl, p3, p4⟩ := v2.vk.row (beqK c1)
        obtain ⟨q', q1, q2, q3⟩ := hH.obj buf.a (by omega)
        rw [p1] at q1
        injection q1 with q1
        subst q1
        cases q3 with
        | cells hk => omega
        | map hk => omega
        | iter hk => omega
        | row hk8 hte hq hcr hvs hone =>
          rename_i cur e cs rest
          have he : e = E := by rcases hte with h | h <;> omega
          subst he
          have hcl := hvs.length
          rw [takeF_eq] at c8 ⊢
          have hvt : VRs g w ((H.get buf.a).l.take buf.b) (cs.take buf.b) := hvs.take
          obtain ⟨n1, n2⟩ := bytesN_spec hvt c8
          have hlen : ((H.get buf.a).l.take buf.b).length = buf.b := by rw [List.length_take]; omega
          rw [hlen] at n1 n2
          generalize hN : bytesN ((H.get buf.a).l.take buf.b) = N at *
          have hdl : (decL buf.b N).length = buf.b := decL_length _ _
          have hcs : cur.size = cs.length + rest.length := by rw [← Array.length_toList, hcr, List.length_append]
          have hget : ∀ (j : Nat) (u : UInt8), (decL buf.b N)[j]? = some u → cur[j]? = some (Value.int .u8 u.toNat) := by
            intro j u hu
            have hj := (List.getElem?_eq_some_iff.1 hu).1
            have h1 : (cs.take buf.b)[j]? = some (Value.int .u8 u.toNat) := by rw [n2, List.getElem?_map, hu]; rfl
            rw [List.getElem?_take_of_lt (by omega)] at h1
            have h2 : cur.toList[j]? = some (Value.int .u8 u.toNat) := by rw [hcr, List.getElem?_append_left (by omega)]; exact h1
            simpa using h2
          have hcall := hs b x q cap cur (decL buf.b N) w (by rw [hdl]; exact hh) hq (fun e => by rw [e] at hdl; simp at hdl; omega) (by rw [hdl]; exact c6) (by rw [hdl]; exact p3) (by rw [hdl]; omega) hget
          rw [hdl] at hcall
          refine hcall.mono fun e w' he => ?_
          obtain ⟨rfl, rfl⟩ := he
          have hother : ∀ k, k ≠ q → (w.drew.freeze ⟨q, 0, none⟩ buf.b).heap[k]? = w.heap[k]? := fun k hk => by
            unfold World.freeze
            split
            · rfl
            · simp only [Array.getElem?_modify]
              rw [if_neg (fun e => hk e.symm)]
              rfl
          have hsize : (w.drew.freeze ⟨q, 0, none⟩ buf.b).heap.size = w.heap.size := by
            unfold World.freeze
            split
            · rfl
            · simp
          have hhas : ∀ n, Has w q n → Has (w.drew.freeze ⟨q, 0, none⟩ buf.b) q n := by
            rintro n ⟨cur2, e2, ⟨lo, hi⟩, k1, k2⟩
            unfold World.freeze
            split
            · exact ⟨cur2, e2, _, k1, k2⟩
            · have k1' : w.drew.heap[q]? = some (.cells cur2 e2 (lo, hi)) := k1
              refine ⟨cur2, e2, (if lo == hi then (0, 0 + buf.b) else (min lo 0, max hi (0 + buf.b))), ?_, k2⟩
              simp only [Array.getElem?_modify, if_true, k1', Option.map_some]
          have e3 : (w.drew.freeze ⟨q, 0, none⟩ buf.b).os = w.os ∧ (w.drew.freeze ⟨q, 0, none⟩ buf.b).tape = w.tape ∧ (w.drew.freeze ⟨q, 0, none⟩ buf.b).output = w.output := by
            unfold World.freeze
            split <;> exact ⟨rfl, rfl, rfl⟩
          refine ⟨g, Evo.put hH q2 hother hsize hhas e3.1 e3.2.1 e3.2.2, hH.gone q2 hother hsize hhas, _, rfl, ?_⟩
          exact VR.of_str (a := buf.b) (b := N) [] n1
end
end
end Go.Proofs.YtkdpinpmjkomoaaGreatDoor.E
