/- A reckoner for closed calls of the program, proved sound: values, the heap, operations, code, calls; no claim of its own. -/
import Derived.Test.YtkdpinpmjkomoaaGreatDoorMA
import Derived.MapKept
import GoSem.Instr.Next
import Derived.Laws.AppendOwn
import Derived.Lib.AppendStr
import Derived.Orders
/- A reckoner for closed calls (O10): structs, arrays made. -/
namespace Go.Proofs.YtkdpinpmjkomoaaGreatDoor.E
open Go

theorem foldl_part (ds : List Value) (off : Nat) (cs : Array Value) (h : off + ds.length ≤ cs.size) : (ds.zipIdx.foldl (fun cs (x : Value × Nat) => cs.setIfInBounds (off + x.2) x.1) cs).toList = cs.toList.take off ++ ds ++ cs.toList.drop (off + ds.length) := by
  obtain ⟨h1, h2⟩ := Great.foldl_set off ds 0 cs
  apply List.ext_getElem?
  intro k
  have e : (List.foldl (fun cs (x : Value × Nat) => cs.setIfInBounds (off + x.2) x.1) cs ds.zipIdx).toList[k]? = (List.foldl (fun cs (x : Value × Nat) => cs.setIfInBounds (off + x.2) x.1) cs ds.zipIdx)[k]? := by simp
  rw [e, h2 k]
  simp only [Nat.add_zero]
  by_cases hk : off ≤ k ∧ k < off + ds.length ∧ k < cs.size
  · rw [if_pos hk, List.append_assoc, List.getElem?_append_right (by simp; omega), List.getElem?_append_left (by simp; omega)]
    congr 1
    simp
    omega
  · rw [if_neg hk]
    by_cases hlt : k < off
    · rw [List.append_assoc, List.getElem?_append_left (by simp; omega), List.getElem?_take, if_pos hlt]
      simp
    · rw [List.getElem?_append_right (by simp; omega), List.getElem?_drop]
      have : off + ds.length + (k - (cs.toList.take off ++ ds).length) = k := by simp; omega
      rw [this]
      simp
section
variable {g : G} {w : World}
theorem VRs.wr {vs l : List FV} {xs cs : List Value} (h : VRs g w l cs) (hv : VRs g w vs xs) {n : Nat} (hle : n + vs.length ≤ l.length) : VRs g w (wrF vs n l) (cs.take n ++ xs ++ cs.drop (n + xs.length)) := by
  rw [wrF_eq vs n l hle, hv.length]
  exact (h.take.append hv).append h.drop
theorem fillF_cons (p : Nat × Nat) (ps : List (Nat × Nat)) (vs l : List FV) : fillF (p :: ps) vs l = iteB (an (okF (E.hd vs)) (an (Nat.beq (lenL (cells (E.hd vs))) p.2) (geF l (Nat.add p.1 p.2)))) (fillF ps (tl vs) (wrF (cells (E.hd vs)) p.1 l)) FF := rfl
theorem fillF_spec {place : Nat → Option (Nat × Nat)} : ∀ (ps : List (Nat × Nat)) (qs : List (Nat × Value)) (us l : List FV) (cs : Array Value), VRs g w us (qs.map (·.2)) → VRs g w l cs.toList → qs.map (fun q => place q.1) = ps.map some → (fillF ps us l).k ≠ 99 → ∃ cs' l', Instr.fill place cs qs = some cs' ∧ fillF ps us l = ⟨15, 0, 0, l'⟩ ∧ VRs g w l' cs'.toList
  | [], qs, us, l, cs, _, hl, hp, _ => by
    have : qs = [] := by simpa using hp
    subst this
    exact ⟨cs, l, rfl, rfl, hl⟩
  | p :: ps, [], us, l, cs, _, _, hp, _ => by simp at hp
  | p :: ps, (i, x) :: qs, us, l, cs, hu, hl, hp, hk => by
    simp only [List.map_cons, List.cons.injEq] at hp
    obtain ⟨hp1, hp2⟩ := hp
    cases us with
    | nil => exact absurd hu.nil_iff (by simp)
    | cons u us =>
      obtain ⟨x', xs', e, hux, hus⟩ := hu.cons_iff
      simp only [List.map_cons, List.cons.injEq] at e
      obtain ⟨rfl, rfl⟩ := e
      rw [fillF_cons] at hk ⊢
      obtain ⟨c1, e1⟩ := hk99 hk
      rw [e1] at hk ⊢
      obtain ⟨c2, c3⟩ := an_iff.1 c1
      obtain ⟨c3, c4⟩ := an_iff.1 c3
      have hc := ok_cells hux c2
      have hsz := beqK c3
      rw [lenL_eq] at hsz
      have hsz : (cells u).length = p.2 := hsz
      have hge : p.1 + p.2 ≤ l.length := geF_eq c4
      have hlen := hc.length
      have hlen2 := hl.length
      have hcs : x.cells.size = p.2 := by simp at hlen; omega
      have hxl : x.cells.toList.length = p.2 := by simp [hcs]
      have hcl : (cells (E.hd (u :: us))).length = p.2 := hsz
      simp only [Array.length_toList] at hlen2
      have hfold := foldl_part x.cells.toList p.1 cs (by omega)
      have hz : x.cells.zipIdx.foldl (fun cs (y : Value × Nat) => cs.setIfInBounds (p.1 + y.2) y.1) cs = x.cells.toList.zipIdx.foldl (fun cs (y : Value × Nat) => cs.setIfInBounds (p.1 + y.2) y.1) cs := by
        rw [← Array.foldl_toList, Array.toList_zipIdx]
      have hw := VRs.wr hl hc (n := p.1) (by have : (cells u).length = p.2 := hsz; omega)
      obtain ⟨cs', l', h1, h2, h3⟩ := fillF_spec ps qs us (wrF (cells (E.hd (u :: us))) p.1 l) (x.cells.zipIdx.foldl (fun cs (y : Value × Nat) => cs.setIfInBounds (p.1 + y.2) y.1) cs) hus (by rw [hz, hfold]; exact hw) hp2 hk
      refine ⟨cs', l', ?_, h2, h3⟩
      unfold Instr.fill
      rw [hp1]
      dsimp only
      have hb : (decide (x.cells.size ≠ p.2) || decide (p.1 + x.cells.size > cs.size)) = false := by
        simp [hcs]
        omega
      simp only [hb, Bool.false_eq_true, if_false]
      exact h1
variable {P : Program} {c : Cf} {seen : List Nat} {o : Oper} {C : CO}
theorem partsOf_spec {pl : List (Nat × Nat)} : ∀ {is : List Nat} {ps : List (Nat × Nat)}, partsOf pl is = some ps → is.map (fun i => pl.toArray[i]?) = ps.map some
  | [], ps, h => by injection h with h; subst h; rfl
  | i :: is, ps, h => by
    simp only [partsOf] at h
    cases h1 : pl[i]? with
    | none => rw [h1] at h; cases h
    | some p =>
      cases h2 : partsOf pl is with
      | none => rw [h1, h2] at h; cases h
      | some l =>
        rw [h1, h2] at h
        injection h with h
        subst h
        rw [List.map_cons, List.map_cons, partsOf_spec h2]
        simp [h1]
theorem arrParts_spec {n sz : Nat} : ∀ {is : List Nat} {ps : List (Nat × Nat)}, arrParts n sz is = some ps → is.map (fun i => some (i * sz, sz)) = ps.map some
  | [], ps, h => by injection h with h; subst h; rfl
  | i :: is, ps, h => by
    simp only [arrParts] at h
    cases h1 : Nat.blt i n with
    | false => rw [h1] at h; cases h
    | true =>
      cases h2 : arrParts n sz is with
      | none => rw [h1, h2] at h; cases h
      | some l =>
        rw [h1, h2] at h
        injection h with h
        subst h
        rw [List.map_cons, List.map_cons, arrParts_spec h2]
/-- A struct, an array is made. -/
theorem ok_fill {t : Nat} {ps : Array (Nat × Operand)} {z : Value} {l : List FV} {pp : List (Nat × Nat)} {place : Nat → Option (Nat × Nat)} {_k a' b' : Nat} (ho : o.op = .build t ps) (hz : constF z = ⟨15, a', b', l⟩) (hp : ps.toList.map (fun p => place p.1) = pp.map some)
    (hb : ∀ (qs : List (Nat × Value)) cs, Instr.fill place z.cells qs = some cs → P.built t qs = some cs) : OpOk P c seen o (puN (buildF l pp) (ps.toList.map fun p => srcOf c seen p.2)) C := by
  have hg : Gts c seen (ps.toList.map fun p => srcOf c seen p.2) (ps.toList.map (·.2)) := by
    show _ = _
    rw [List.map_map]
    rfl
  refine ok_puN (by intro x hx; simpa [opsOf, ho] using hx) hg fun g w a H us hH hus hk => ?_
  have hzl : VRs g w l z.cells.toList := by
    have h1 := constF_spec (g := g) (w := w) z
    rw [hz] at h1
    obtain ⟨cs, e, hs⟩ := h1.vk.agg rfl
    rw [e]
    exact hs
  unfold buildF at hk ⊢
  obtain ⟨c1, e1⟩ := hk99 hk
  rw [e1] at hk ⊢
  have hq2 : (ps.toList.map fun p => (p.1, a.eval p.2)).map (·.2) = (ps.toList.map (·.2)).map a.eval := by simp
  have hq1 : (ps.toList.map fun p => (p.1, a.eval p.2)).map (fun q => place q.1) = pp.map some := by
    rw [List.map_map]
    exact hp
  obtain ⟨cs', l', h1, h2, h3⟩ := fillF_spec pp (ps.toList.map fun p => (p.1, a.eval p.2)) us l z.cells (by rw [hq2]; exact hus) hzl hq1 hk
  have hbt : P.built t (ps.map fun (i, x) => (i, a.eval x)).toList = some cs' := by
    have e : (ps.map fun (i, x) => (i, a.eval x)).toList = ps.toList.map fun p => (p.1, a.eval p.2) := by simp
    rw [e]
    exact hb _ _ h1
  refine ⟨g, w, .agg cs', ?_, hH, ?_, Evo.refl g w⟩
  · simp only [execOp, ho]
    rw [Sem.run_bind, run_build w t _ cs' hbt]
    rfl
  · rw [h2]
    exact VR.of_agg (cs := cs'.toList) h3
theorem zeroM_info {t : Nat} {v : FV} (h : zeroM P t = some v) : ∃ i z, P.info? t = some i ∧ i.zero = some z ∧ v = constF z := by
  unfold zeroM at h
  cases hi : P.info? t with
  | none => rw [hi] at h; cases h
  | some i =>
    rw [hi] at h
    dsimp only at h
    cases hz : i.zero with
    | none => rw [hz] at h; cases h
    | some z =>
      rw [hz] at h
      injection h with h
      exact ⟨i, z, rfl, hz, h.symm⟩
theorem ok_struct {t : Nat} {ps : Array (Nat × Operand)} {fs : Array Field} {l : List FV} {a' b' : Nat} {pl pp : List (Nat × Nat)} (ho : o.op = .build t ps) (hu : P.underlying t = some (.struct fs)) (hz : zeroM P t = some ⟨15, a', b', l⟩) (hpl : placesOf P t = some pl) (hp : partsOf pl (ps.toList.map (·.1)) = some pp) : OpOk P c seen o (puN (buildF l pp) (ps.toList.map fun p => srcOf c seen p.2)) C := by
  obtain ⟨i, z, h1, h2, h3⟩ := zeroM_info hz
  refine ok_fill (_k := 0) ho h3.symm (place := (pl.toArray[·]?)) ?_ fun qs cs h => ?_
  · have := partsOf_spec hp
    rw [List.map_map] at this
    exact this
  · unfold placesOf at hpl
    rw [hu] at hpl
    dsimp only at hpl
    unfold Program.built
    simp only [h1, hu, h2, hpl]
    exact h
theorem ok_array {t n e sz : Nat} {ps : Array (Nat × Operand)} {l : List FV} {a' b' : Nat} {pp : List (Nat × Nat)} (ho : o.op = .build t ps) (hu : P.underlying t = some (.array n e)) (hz : zeroM P t = some ⟨15, a', b', l⟩) (hs : sizeT P e = some sz) (hp : arrParts n sz (ps.toList.map (·.1)) = some pp) : OpOk P c seen o (puN (buildF l pp) (ps.toList.map fun p => srcOf c seen p.2)) C := by
  obtain ⟨i, z, h1, h2, h3⟩ := zeroM_info hz
  refine ok_fill (_k := 0) ho h3.symm (place := fun i => some (i * sz, sz)) ?_ fun qs cs h => ?_
  · have := arrParts_spec hp
    rw [List.map_map] at this
    exact this
  · unfold sizeT at hs
    cases he : P.info? e with
    | none => rw [he] at hs; cases hs
    | some ie =>
      rw [he] at hs
      injection hs with hs
      subst hs
      unfold Program.built
      simp only [h1, hu, h2, he]
      exact h
end
end Go.Proofs.YtkdpinpmjkomoaaGreatDoor.E
/- A reckoner for closed calls (O11): stores. -/
namespace Go.Proofs.YtkdpinpmjkomoaaGreatDoor.E
open Go

section
variable {g : G} {w : World} {H : MH}
/-- A block of an object is written. -/
theorem Le.put (h : HR g w H) {blk id : Nat} {w' : World} (h2 : g.ρ blk = .obj id) (hw : ∀ b, b ≠ blk → w'.heap[b]? = w.heap[b]?) (hh : ∀ n, Has w blk n → Has w' blk n) : Le g w g w' := by
  refine ⟨fun _ _ e => e, fun _ _ e => e, fun _ => Nat.le_refl _, fun b i hi => ?_, fun b n e => ?_⟩
  · have hb : b ≠ blk := fun e => by rw [e, h.mbl blk id h2] at hi; omega
    simp only [World.cell?, hw b hb]
  · by_cases hb : b = blk
    · subst hb; exact hh n e
    · obtain ⟨cur, e', fz, h1, h3⟩ := e
      exact ⟨cur, e', fz, (hw b hb).trans h1, h3⟩
theorem HR.put (h : HR g w H) {blk id : Nat} {w' : World} {ob : FV} (h1 : g.φ id = some blk) (h2 : g.ρ blk = .obj id) (hw : ∀ b, b ≠ blk → w'.heap[b]? = w.heap[b]?) (hs : w'.heap.size = w.heap.size) (hh : ∀ n, Has w blk n → Has w' blk n) (ho : OR g w' ob blk) : HR g w' (H.set id ob) := by
  have le := Le.put h h2 hw hh
  have hn : (H.set id ob).next = H.next ∧ (H.set id ob).live = H.live := by unfold MH.set; cases ev id <;> exact ⟨rfl, rfl⟩
  refine ⟨?_, ?_, hn.1 ▸ h.even, hn.1 ▸ h.two, hn.1 ▸ h.phi, hn.1 ▸ h.phi2, hn.1 ▸ h.tau, fun j hj => ?_, fun t ht => ?_, h.mbl, fun b hb => h.new b (hs ▸ hb)⟩
  · rw [hn.1]; unfold MH.set; cases ev id
    · exact h.fallO
    · exact up_fall h.fallO
  · rw [hn.1]; unfold MH.set; cases ev id
    · exact up_fall h.fallB
    · exact h.fallB
  · rcases MH.get_set H id j ob with e | ⟨rfl, e⟩ | ⟨e1, e2⟩
    · rw [e] at hj; exact absurd rfl hj
    · rw [e] at hj ⊢; exact ⟨blk, h1, h2, ho⟩
    · rw [e2] at hj ⊢
      obtain ⟨b, q1, q2, q3⟩ := h.obj j hj
      have hb : b ≠ blk := fun e => by rw [e, h2] at q2; injection q2 with q2; exact e1 q2.symm
      exact ⟨b, q1, q2, q3.move le (hw b hb)⟩
  · obtain ⟨b, m, q1, q2, q3, ⟨cur, e, q4⟩⟩ := h.tok t (by unfold MH.isLive at ht ⊢; rwa [hn.2] at ht)
    have hb : b ≠ blk := fun e => by rw [e, h2] at q2; cases q2
    exact ⟨b, m, q1, q2, q3, ⟨cur, e, (hw b hb).trans q4⟩⟩
theorem Evo.put (h : HR g w H) {blk id : Nat} {w' : World} (h2 : g.ρ blk = .obj id) (hw : ∀ b, b ≠ blk → w'.heap[b]? = w.heap[b]?) (hs : w'.heap.size = w.heap.size) (hh : ∀ n, Has w blk n → Has w' blk n) (h3 : w'.os = w.os) (h4 : w'.tape = w.tape) (h5 : w'.output = w.output) : Evo g w g w' :=
  ⟨Le.put h h2 hw hh, by rw [hs]; exact Nat.le_refl _, h3, h4, h5, fun b hb hr => ⟨hw b (fun e => by rw [e, h2] at hr; cases hr), hr, rfl⟩⟩
variable {P : Program} {c : Cf} {seen : List Nat} {o : Oper} {C : CO} {a : Act}
theorem run_storeAt {t b off n e : Nat} {v : Value} {cur : Array Value} (hs : sizeT P t = some n) (hv : v.cells.size = n) (hh : w.heap[b]? = some (.cells cur e (0, 0))) (hle : off + v.cells.toList.length ≤ cur.size) (h1 : ∀ x ∈ v.cells.toList, x.oneCell' = true) :
    (Instr.storeAt t (.pointer (some ⟨b, off, none⟩)) v).run P w = .ok () (w.setRow b (List.toArray (cur.toList.take off ++ v.cells.toList ++ cur.toList.drop (off + v.cells.toList.length)))) := by
  have := run_storeCells_at P b off e v.cells.toList 0 cur w hh (by simpa using hle) h1
  simp only [Nat.add_zero] at this
  simp [Instr.storeAt, Instr.sureAddr, storeVar, run_sizeOf hs, hv, this]
theorem exec_store {t : Nat} {x y : Operand} (ho : o.op = .store t x y) {w' : World} (h : (Instr.storeAt t (a.eval x) (a.eval y)).run P w = .ok () w') : (execOp a.eval o).run P w = .ok .skip w' := by
  simp only [execOp, ho]
  rw [Sem.run_bind, h]
  rfl
theorem beq_rec {α : Type} {b : Bool} {x y : α} : (Bool.rec x y b : α) = if b = true then y else x := by cases b <;> rfl
/-- Cells go into an object. -/
theorem eff_put {t n : Nat} {x y : Operand} {v : FV} {new : List FV} {H0 : MH} (ho : o.op = .store t x y) (hs : sizeT P t = some n) (hH : HR g w H) (hv : VR g w v (a.eval x)) (hk4 : v.k = 4) (hn : VRs g w new (a.eval y).cells.toList) (h1 : ∀ z ∈ (a.eval y).cells.toList, z.oneCell' = true) (hnl : new.length = n) : Eff P o g w a H0 (putO v.a v.b new H (H.get v.a)) := by
  intro hk
  rw [putO_eq] at hk ⊢
  cases hc : an (orr (Nat.beq (H.get v.a).k 15) (Nat.beq (H.get v.a).k 8)) (geF (H.get v.a).l (Nat.add v.b (lenL new))) with
  | false => rw [hc] at hk; exact absurd rfl hk
  | true =>
    obtain ⟨c1, c2⟩ := an_iff.1 hc
    have c1 := (orr_iff.1 c1).imp beqK beqK
    have c2 : v.b + new.length ≤ (H.get v.a).l.length := by have := geF_eq c2; rwa [lenL_eq] at this
    obtain ⟨blk, e1, ex⟩ := hv.vk.ptr hk4
    obtain ⟨blk', q1, q2, q3⟩ := hH.obj v.a (by rcases c1 with c1 | c1 <;> omega)
    rw [e1] at q1
    injection q1 with q1
    subst q1
    have hlen := hn.length
    have hlen2 : (a.eval y).cells.size = new.length := by rw [← hlen]; simp
    have key : ∀ (cur : Array Value) (e : Nat), w.heap[blk]? = some (.cells cur e (0, 0)) → v.b + new.length ≤ cur.size →
        (∀ w', w'.heap[blk]? = some (.cells (List.toArray (cur.toList.take v.b ++ (a.eval y).cells.toList ++ cur.toList.drop (v.b + (a.eval y).cells.toList.length))) e (0, 0)) → Le g w g w' → OR g w' ⟨(H.get v.a).k, (H.get v.a).a, (H.get v.a).b, wrF new v.b (H.get v.a).l⟩ blk) →
        ∃ nx g' w' z, (execOp a.eval o).run P w = .ok nx w' ∧ (nx = .value z ∨ nx = .skip ∧ z = undef) ∧ HR g' w' (H.set v.a ⟨(H.get v.a).k, (H.get v.a).a, (H.get v.a).b, wrF new v.b (H.get v.a).l⟩) ∧ VR g' w' UN z ∧ Evo g w g' w' := by
      intro cur e hh hle hor
      have hst := run_storeAt (P := P) (w := w) (t := t) (b := blk) (off := v.b) hs (by omega) hh (by rw [hlen]; exact hle) h1
      rw [← ex] at hst
      generalize hw' : w.setRow blk (List.toArray (cur.toList.take v.b ++ (a.eval y).cells.toList ++ cur.toList.drop (v.b + (a.eval y).cells.toList.length))) = w' at hst
      have hb : w'.heap[blk]? = some (.cells (List.toArray (cur.toList.take v.b ++ (a.eval y).cells.toList ++ cur.toList.drop (v.b + (a.eval y).cells.toList.length))) e (0, 0)) := by rw [← hw']; exact setRow_heap w blk cur _ e (0, 0) hh
      have hother : ∀ b, b ≠ blk → w'.heap[b]? = w.heap[b]? := fun b hb => by rw [← hw']; exact setRow_other w blk b _ hb
      have hsize : w'.heap.size = w.heap.size := by rw [← hw']; simp
      have hhas : ∀ n, Has w blk n → Has w' blk n := by
        rintro n ⟨cur2, e2, fz, k1, k2⟩
        rw [hh] at k1
        injection k1 with k1
        injection k1 with k1
        subst k1
        refine ⟨_, _, _, hb, ?_⟩
        simp only [List.size_toArray, List.length_append, List.length_take, List.length_drop, hlen, Array.length_toList]
        omega
      have le := Le.put hH q2 hother hhas
      exact ⟨.skip, g, w', undef, exec_store ho hst, .inr ⟨rfl, rfl⟩, hH.put e1 q2 hother hsize hhas (hor w' hb le), VR.of_undef, Evo.put hH q2 hother hsize hhas (by rw [← hw']; rfl) (by rw [← hw']; rfl) (by rw [← hw']; rfl)⟩
    cases q3 with
    | cells hk15 ht hh hvs =>
      rename_i cur e
      have hl := hvs.length
      simp only [Array.length_toList] at hl
      refine key cur e hh (by omega) fun w' hb le => .cells hk15 ht hb ?_
      exact VRs.le le _ _ (by simpa using hvs.wr hn c2)
    | row hk8 ht hh hcr hvs hone =>
      rename_i cur e cs rest
      have hl := hvs.length
      have hcl : cur.size = cs.length + rest.length := by rw [← Array.length_toList, hcr, List.length_append]
      refine key cur e hh (by omega) fun w' hb le => .row (cs := cs.take v.b ++ (a.eval y).cells.toList ++ cs.drop (v.b + (a.eval y).cells.toList.length)) (rest := rest) hk8 ht hb ?_ (VRs.le le _ _ (hvs.wr hn c2)) ?_
      · simp only [hcr]
        rw [List.take_append_of_le_length (by omega), List.drop_append_of_le_length (by omega)]
        simp [List.append_assoc]
      · intro z hz
        rcases List.mem_append.1 hz with hz | hz
        · rcases List.mem_append.1 hz with hz | hz
          · exact hone z (List.mem_of_mem_take hz)
          · exact h1 z hz
        · exact hone z (List.mem_of_mem_drop hz)
    | map hk10 => rcases c1 with c1 | c1 <;> omega
    | iter hk17 => rcases c1 with c1 | c1 <;> omega
theorem ok_storeC {t n : Nat} {x y : Operand} (ho : o.op = .store t x y) (hs : sizeT P t = some n) : OpOk P c seen o (ef2 (storeC n) (srcOf c seen x) (srcOf c seen y)) C :=
  ok_ef2 (by simp [clsOf, ho]) (by intro x hx; simpa [opsOf, ho] using hx) (srcOf_ok c seen x) (srcOf_ok c seen y) fun g w a v u H hH hv hu => by
    unfold storeC
    cases hc : an (Nat.beq v.k 4) (an (okF u) (an (Nat.beq (lenL (cells u)) n) (allF oneF (cells u)))) with
    | false => exact fun e => absurd rfl e
    | true =>
      obtain ⟨c1, c2⟩ := an_iff.1 hc
      obtain ⟨c2, c3⟩ := an_iff.1 c2
      obtain ⟨c3, c4⟩ := an_iff.1 c3
      have hcl := ok_cells hu c2
      have c3 := beqK c3
      rw [lenL_eq] at c3
      exact eff_put ho hs hH hv (beqK c1) hcl (ones_spec hcl c4) c3
theorem eff_store1 {t : Nat} {x y : Operand} {v u : FV} {H0 : MH} (ho : o.op = .store t x y) (hs : sizeT P t = some 1) (hH : HR g w H) (hv : VR g w v (a.eval x)) (hu : VR g w u (a.eval y)) : Eff P o g w a H0 (store1 v u H) := by
  unfold store1
  cases hc : an (Nat.beq v.k 4) (oneF u) with
  | false => exact fun e => absurd rfl e
  | true =>
    obtain ⟨c1, c2⟩ := an_iff.1 hc
    obtain ⟨e1, e2⟩ := one_cells hu c2
    have hl : (a.eval y).cells.toList = [a.eval y] := by rw [e1]
    exact eff_put ho hs hH hv (beqK c1) (by rw [hl]; exact VRs.cons' hu VRs.nil') (by rw [hl]; intro z hz; rw [List.mem_singleton.1 hz]; exact e2) rfl
theorem ok_store1 {t : Nat} {x y : Operand} (ho : o.op = .store t x y) (hs : sizeT P t = some 1) : OpOk P c seen o (ef2 store1 (srcOf c seen x) (srcOf c seen y)) C :=
  ok_ef2 (by simp [clsOf, ho]) (by intro x hx; simpa [opsOf, ho] using hx) (srcOf_ok c seen x) (srcOf_ok c seen y) fun _ _ _ _ _ _ hH hv hu => eff_store1 ho hs hH hv hu
/-! ### a row stays -/
theorem chunkF_succ (sz n : Nat) (l : List FV) : chunkF sz (n + 1) l = Bool.rec ⟨15, 0, 0, takeF sz l⟩ (E.hd l) (Nat.beq sz 1) :: chunkF sz n (dropF sz l) := rfl
theorem one_of {x : Value} (h : x.oneCell' = true) : x.cells = #[x] := by cases x <;> first | rfl | (cases h)
theorem chunkF_length (sz : Nat) : ∀ (n : Nat) (l : List FV), (chunkF sz n l).length = n
  | 0, _ => rfl
  | n + 1, l => by rw [chunkF_succ, List.length_cons, chunkF_length sz n]
theorem chunkF_spec {sz : Nat} (h1 : 1 ≤ sz) : ∀ (n : Nat) (l : List FV) (cs : List Value), VRs g w l cs → (∀ y ∈ cs, y.oneCell' = true) → n * sz ≤ l.length → VRe g w sz (chunkF sz n l) (cs.take (n * sz))
  | 0, l, cs, _, _, _ => by rw [Nat.zero_mul, List.take_zero]; exact VRe.nil'
  | n + 1, l, cs, hs, ho, hl => by
    rw [Nat.add_mul, Nat.one_mul] at hl
    have hlen := hs.length
    have ih := chunkF_spec h1 n (l.drop sz) (cs.drop sz) hs.drop (fun y hy => ho y (List.mem_of_mem_drop hy)) (by rw [List.length_drop]; omega)
    rw [chunkF_succ, dropF_eq]
    have e : cs.take ((n + 1) * sz) = cs.take sz ++ (cs.drop sz).take (n * sz) := by
      rw [Nat.add_mul, Nat.one_mul, Nat.add_comm, List.take_add]
    rw [e]
    by_cases hsz : sz = 1
    · subst hsz
      cases l with
      | nil => simp at hl
      | cons v l =>
        obtain ⟨x, xs, rfl, hv, hs'⟩ := hs.cons_iff
        have hx := ho x List.mem_cons_self
        have := VRe.cons' (sz := 1) (x := x) (xs := ((x :: xs).drop 1).take (n * 1)) (by rw [one_of hx]; exact ⟨rfl, fun y hy => by simp at hy; rw [hy]; exact hx⟩) hv ih
        rw [one_of hx] at this
        exact this
    · rw [beq_f hsz, takeF_eq]
      have hsize : (cs.take sz).length = sz := by rw [List.length_take]; omega
      exact VRe.cons' (x := .agg (List.toArray (cs.take sz))) ⟨by show (List.toArray (cs.take sz)).size = sz; simpa using hsize, fun y hy => ho y (List.mem_of_mem_take (show y ∈ cs.take sz from hy))⟩ (VR.of_agg hs.take) ih
def G.stay (g : G) (blk n : Nat) : G := { g with ι := fun b => if b = blk then n else g.ι b, ρ := fun b => if b = blk then .none else g.ρ b }
theorem Evo.stay (h : HR g w H) {blk id : Nat} (n : Nat) (h2 : g.ρ blk = .obj id) : Evo g w (g.stay blk n) w := by
  refine ⟨⟨fun _ _ e => e, fun _ _ e => e, fun b => ?_, fun _ _ _ => rfl, fun _ _ e => e⟩, Nat.le_refl _, rfl, rfl, rfl, fun b _ hr => ?_⟩
  · show g.ι b ≤ if b = blk then n else g.ι b
    split
    · rename_i e; rw [e, h.mbl blk id h2]; exact Nat.zero_le _
    · exact Nat.le_refl _
  · have hb : b ≠ blk := fun e => by rw [e, h2] at hr; cases hr
    exact ⟨rfl, (if_neg hb).trans hr, if_neg hb⟩
theorem HR.stay (h : HR g w H) {blk id : Nat} (n : Nat) (_h1 : g.φ id = some blk) (h2 : g.ρ blk = .obj id) (hlt : blk < w.heap.size) : HR (g.stay blk n) w (H.del id) := by
  have ev := Evo.stay h n h2
  have hd := h.del id
  have hn : (H.del id).next = H.next := by unfold MH.del; cases E.ev id <;> rfl
  have hρ : ∀ b, b ≠ blk → (g.stay blk n).ρ b = g.ρ b ∧ (g.stay blk n).ι b = g.ι b := fun b hb => ⟨if_neg hb, if_neg hb⟩
  refine ⟨hd.fallO, hd.fallB, hd.even, hd.two, hd.phi, hd.phi2, hd.tau, fun j hj => ?_, fun t ht => ?_, fun b j hb => ?_, fun b hb => ?_⟩
  · rcases MH.get_del h id j with e | ⟨e1, e2⟩
    · rw [e] at hj; exact absurd rfl hj
    · rw [e2] at hj ⊢
      obtain ⟨b, q1, q2, q3⟩ := h.obj j hj
      have hb : b ≠ blk := fun e => by rw [e, h2] at q2; injection q2 with q2; exact e1 q2.symm
      exact ⟨b, q1, (hρ b hb).1.trans q2, q3.move ev.le rfl⟩
  · obtain ⟨b, m, q1, q2, q3⟩ := hd.tok t ht
    have hb : b ≠ blk := fun e => by rw [e, h2] at q2; cases q2
    exact ⟨b, m, q1, (hρ b hb).1.trans q2, (hρ b hb).2.trans q3.1, q3.2⟩
  · by_cases hq : b = blk
    · have : (g.stay blk n).ρ b = .none := if_pos hq
      rw [this] at hb
      cases hb
    · rw [(hρ b hq).2]
      exact h.mbl b j ((hρ b hq).1 ▸ hb)
  · have hq : b ≠ blk := by omega
    rw [(hρ b hq).1, (hρ b hq).2]
    exact h.new b hb
theorem frz_spec (hH : HR g w H) {u : FV} {x : Value} (hu : VR g w u x) (h8 : u.k = 8) (hk : (frz u (H.get u.a)).k ≠ 99) : ∃ g', Evo g w g' w ∧ HR g' w (H.del u.a) ∧ VR g' w (frz u (H.get u.a)) x := by
  unfold frz at hk ⊢
  obtain ⟨c1, e1⟩ := hk99 hk
  rw [e1]
  obtain ⟨c2, c3⟩ := an_iff.1 c1
  obtain ⟨c3, c4⟩ := an_iff.1 c3
  have c2 := beqK c2
  have c3 := Nat.le_of_ble_eq_true c3
  have c4 : u.b * (E.hd u.l).a ≤ (H.get u.a).l.length := geF_eq c4
  obtain ⟨blk, cap, h1, h2, h3, h4⟩ := hu.vk.row h8
  obtain ⟨blk', q1, q2, q3⟩ := hH.obj u.a (by omega)
  rw [h1] at q1
  injection q1 with q1
  subst q1
  have ev := Evo.stay hH (u.b * (E.hd u.l).a) q2
  cases q3 with
  | row _ ht hh hcr hvs hone =>
    rename_i cur e cs rest
    have hlt : blk < w.heap.size := (Array.getElem?_eq_some_iff.1 hh).1
    refine ⟨_, ev, hH.stay _ h1 q2 hlt, ?_⟩
    have hl := hvs.length
    have hcl := chunkF_length (E.hd u.l).a u.b (H.get u.a).l
    have hv := VR.of_sl (g := g.stay blk (u.b * (E.hd u.l).a)) (w := w) (a := 0) (b := (E.hd u.l).a) (blk := blk) (off := 0) (cap := cap) (l := chunkF (E.hd u.l).a u.b (H.get u.a).l) (cs := cs.take (u.b * (E.hd u.l).a)) (by omega) (by
      have : (g.stay blk (u.b * (E.hd u.l).a)).ι blk = u.b * (E.hd u.l).a := if_pos rfl
      rw [this, List.length_take]; omega) (fun i z hz => by
        rw [List.getElem?_take] at hz
        split at hz
        · refine Rows.block hh i z ?_
          rw [hcr, List.getElem?_append_left (List.getElem?_eq_some_iff.1 hz).1]
          exact hz
        · cases hz) (VRe.le ev.le _ _ (chunkF_spec c3 u.b _ cs hvs hone c4)) (by omega) (by omega)
    rw [hcl, ← h2] at hv
    exact hv
  | cells hk => omega
  | map hk => omega
  | iter hk => omega
theorem ok_storeZ {t : Nat} {x y : Operand} (ho : o.op = .store t x y) (hs : sizeT P t = some 1) : OpOk P c seen o (ef2 storeZ (srcOf c seen x) (srcOf c seen y)) C :=
  ok_ef2 (by simp [clsOf, ho]) (by intro x hx; simpa [opsOf, ho] using hx) (srcOf_ok c seen x) (srcOf_ok c seen y) fun g w a v u H hH hv hu => by
    unfold storeZ
    cases h8 : Nat.beq u.k 8 with
    | false => exact eff_store1 ho hs hH hv hu
    | true =>
      by_cases hk : (frz u (H.get u.a)).k = 99
      · show Eff P o g w a H (store1 v (frz u (H.get u.a)) (H.del u.a))
        intro h
        unfold store1 at h
        have : oneF (frz u (H.get u.a)) = false := by unfold oneF; rw [hk]; rfl
        rw [this] at h
        have e : an (Nat.beq v.k 4) false = false := by cases Nat.beq v.k 4 <;> rfl
        rw [e] at h
        exact absurd rfl h
      · obtain ⟨g', ev, hH', hu'⟩ := frz_spec hH hu (beqK h8) hk
        intro h
        obtain ⟨nx, g2, w2, z, k1, k2, k3, k4, k5⟩ := eff_store1 (H0 := H) ho hs hH' (VR.le ev.le _ _ hv) hu' h
        exact ⟨nx, g2, w2, z, k1, k2, k3, k4, ev.trans k5⟩
end
end Go.Proofs.YtkdpinpmjkomoaaGreatDoor.E
/- A reckoner for closed calls (O12): maps, texts gone over. -/
namespace Go.Proofs.YtkdpinpmjkomoaaGreatDoor.E
open Go

/-- Sameness of keys, as it is reckoned. -/
structure KeyEq (P : Program) (kt : Nat) (eq : FV → FV → Option Bool) : Prop where
  und : ∃ d, P.underlying kt = some d
  ask : ∀ {g : G} {w : World} {x y : FV} {u v : Value} {r : Bool}, VR g w x u → VR g w y v → eq x y = some r → (Op.equal kt u v).run P w = .ok r w
  now : ∀ {g : G} {w : World} {x y : FV} {u v : Value} {r : Bool}, VR g w x u → VR g w y v → eq x y = some r → ∀ d, P.underlying kt = some d → Instr.sameNow d u v = some r ∨ Instr.sameNow d u v = none
  same : ∀ {g : G} {w : World} {x y : FV} {u v : Value}, VR g w x u → VR g w y v → eq x y = some true → u = v
  chk : ∀ {g : G} {w : World} {x : FV} {u : Value} {r : Bool}, VR g w x u → eq x x = some r → ∀ em, (Instr.checkKey em 10000 kt u).run P w = .ok () w
  bits : ∀ {g : G} {w : World} {x : FV} {u : Value} {r : Bool}, VR g w x u → eq x x = some r → Instr.sameBits 10000 u u = true
section
variable {P : Program} {g : G} {w : World} {H : MH}
theorem findF_cons (eq : FV → FV → Option Bool) (k : FV) (n : Nat) (j : FV) (m : List FV) : findF eq k (n + 1) (j :: m) = match eq k j with | none => none | some true => some (E.hd m) | some false => findF eq k n (tl m) := by
  show (Option.rec none (fun b => Bool.rec (findF eq k n (tl m)) (some (E.hd m)) b) (eq k j) : Option FV) = _
  cases eq k j with
  | none => rfl
  | some b => cases b <;> rfl
theorem setF_cons (eq : FV → FV → Option Bool) (k v : FV) (n : Nat) (j : FV) (m : List FV) : setF eq k v (n + 1) (j :: m) = match eq k j with | none => none | some true => some (j :: v :: tl m) | some false => (setF eq k v n (tl m)).map fun r => j :: E.hd m :: r := by
  show (Option.rec none (fun b => Bool.rec (Option.rec none (fun r => some (j :: E.hd m :: r)) (setF eq k v n (tl m))) (some (j :: v :: tl m)) b) (eq k j) : Option (List FV)) = _
  cases eq k j with
  | none => rfl
  | some b => cases b with
    | true => rfl
    | false => cases setF eq k v n (tl m) <;> rfl
def ents (es : List MapEntry) : List Value := es.flatMap fun e => [e.key, e.val]
theorem ents_cons {l : List FV} {e : MapEntry} {es : List MapEntry} (h : VRs g w l (ents (e :: es))) : ∃ j v m, l = j :: v :: m ∧ VR g w j e.key ∧ VR g w v e.val ∧ VRs g w m (ents es) := by
  have h : VRs g w l (e.key :: e.val :: ents es) := h
  cases l with
  | nil => exact absurd h.nil_iff (by simp)
  | cons j l =>
    obtain ⟨_, _, e1, h1, h⟩ := h.cons_iff
    injection e1 with e1 e2
    subst e1 e2
    cases l with
    | nil => exact absurd h.nil_iff (by simp)
    | cons v l =>
      obtain ⟨_, _, e1, h2, h⟩ := h.cons_iff
      injection e1 with e1 e2
      subst e1 e2
      exact ⟨j, v, l, rfl, h1, h2, h⟩
/-- What a search finds. -/
structure Found (P : Program) (w : World) (kt : Nat) (u : Value) (es : List MapEntry) (i : Nat) (R : Option (Nat × Value)) : Prop where
  ask : (Instr.findAsking kt u es i).run P w = .ok (R.map fun p => (i + p.1, p.2)) w
  now : ∀ d, P.underlying kt = some d → Instr.findNow d u es i = some (R.map fun p => (i + p.1, p.2)) ∨ Instr.findNow d u es i = none
theorem Found.nil {kt : Nat} {u : Value} {i : Nat} : Found P w kt u [] i none := ⟨rfl, fun _ _ => .inl rfl⟩
variable {kt : Nat} {eq : FV → FV → Option Bool}
theorem Found.here (K : KeyEq P kt eq) {k j : FV} {u : Value} {e : MapEntry} {es : List MapEntry} {i : Nat} (hk : VR g w k u) (hj : VR g w j e.key) (he : eq k j = some true) : Found P w kt u (e :: es) i (some (0, e.val)) := by
  refine ⟨?_, fun d hd => ?_⟩
  · unfold Instr.findAsking
    rw [Sem.run_bind, K.ask hk hj he]
    rfl
  · unfold Instr.findNow
    rcases K.now hk hj he d hd with h | h <;> rw [h]
    · exact .inl rfl
    · exact .inr rfl
theorem Found.skip (K : KeyEq P kt eq) {k j : FV} {u : Value} {e : MapEntry} {es : List MapEntry} {i : Nat} {R : Option (Nat × Value)} (hk : VR g w k u) (hj : VR g w j e.key) (he : eq k j = some false) (h : Found P w kt u es (i + 1) R) : Found P w kt u (e :: es) i (R.map fun p => (p.1 + 1, p.2)) := by
  have hR : (R.map fun p => (p.1 + 1, p.2)).map (fun p => (i + p.1, p.2)) = R.map fun p => (i + 1 + p.1, p.2) := by
    cases R with
    | none => rfl
    | some p => simp [Nat.add_assoc, Nat.add_comm 1]
  refine ⟨?_, fun d hd => ?_⟩
  · rw [hR, ← h.ask]
    unfold Instr.findAsking
    rw [Sem.run_bind, K.ask hk hj he]
    show (Instr.findAsking kt u es (i + 1)).run P w = _
    cases es <;> rfl
  · rw [hR]
    unfold Instr.findNow
    rcases K.now hk hj he d hd with h' | h' <;> rw [h']
    · exact h.now d hd
    · exact .inr rfl
theorem Found.key {kt : Nat} {u : Value} {es : List MapEntry} {R : Option (Nat × Value)} (hd : ∃ d, P.underlying kt = some d) (h : Found P w kt u es 0 R) : (Instr.findKey kt u es).run P w = .ok R w := by
  obtain ⟨d, hd⟩ := hd
  have hR : R.map (fun p => (0 + p.1, p.2)) = R := by cases R <;> simp
  have h1 := h.ask
  have h2 := h.now d hd
  rw [hR] at h1 h2
  unfold Instr.findKey
  rw [Sem.run_bind, run_underlying hd]
  show (match Instr.findNow d u es 0 with | some r => pure r | none => Instr.findAsking kt u es : Sem _).run P w = _
  rcases h2 with h2 | h2 <;> rw [h2]
  · rfl
  · exact h1
theorem findF_spec (K : KeyEq P kt eq) {k : FV} {u : Value} (hk : VR g w k u) : ∀ (n : Nat) (l : List FV) (es : List MapEntry) (i : Nat) (r : FV), VRs g w l (ents es) → findF eq k n l = some r → ∃ R, Found P w kt u es i R ∧ (R = none → r = NF) ∧ ∀ p, R = some p → VR g w r p.2
  | 0, _, _, _, _, _, h => by cases h
  | n + 1, l, [], i, r, hl, h => by
    have : l = [] := by cases l with
      | nil => rfl
      | cons => have := hl.length; simp [ents] at this
    subst this
    injection h with h
    exact ⟨none, .nil, fun _ => h.symm, fun p e => by cases e⟩
  | n + 1, l, e :: es, i, r, hl, h => by
    obtain ⟨j, v, m, rfl, hj, hv, hm⟩ := ents_cons hl
    rw [findF_cons] at h
    cases he : eq k j with
    | none => rw [he] at h; cases h
    | some b =>
      rw [he] at h
      cases b with
      | true =>
        injection h with h
        exact ⟨_, .here K hk hj he, fun e => (by cases e), fun p e => (by injection e with e; subst e; rw [← h]; exact hv)⟩
      | false =>
        obtain ⟨R, h1, h2, h3⟩ := findF_spec K hk n m es (i + 1) r hm h
        refine ⟨_, .skip K hk hj he h1, fun e => h2 (by cases R with | none => rfl | some p => cases e), fun p e => ?_⟩
        cases R with
        | none => cases e
        | some q => injection e with e; subst e; exact h3 q rfl
theorem setF_spec (K : KeyEq P kt eq) {k v : FV} {u x : Value} (hk : VR g w k u) (hv : VR g w v x) : ∀ (n : Nat) (l : List FV) (es : List MapEntry) (i : Nat) (l' : List FV), VRs g w l (ents es) → setF eq k v n l = some l' → ∃ R, Found P w kt u es i R ∧ (R = none → VRs g w l' (ents es ++ [u, x])) ∧ ∀ p, R = some p → (∃ e, es[p.1]? = some e ∧ e.key = u) ∧ VRs g w l' (ents (es.modify p.1 fun e => { e with key := u, val := x }))
  | 0, _, _, _, _, _, h => by cases h
  | n + 1, l, [], i, r, hl, h => by
    have : l = [] := by cases l with
      | nil => rfl
      | cons => have := hl.length; simp [ents] at this
    subst this
    injection h with h
    exact ⟨none, .nil, fun _ => by rw [← h]; exact VRs.cons' hk (VRs.cons' hv VRs.nil'), fun p e => by cases e⟩
  | n + 1, l, e :: es, i, r, hl, h => by
    obtain ⟨j, v', m, rfl, hj, hv', hm⟩ := ents_cons hl
    rw [setF_cons] at h
    cases he : eq k j with
    | none => rw [he] at h; cases h
    | some b =>
      rw [he] at h
      cases b with
      | true =>
        injection h with h
        have hs := K.same hk hj he
        refine ⟨_, .here K hk hj he, fun e => (by cases e), fun p q => ?_⟩
        injection q with q
        subst q
        refine ⟨⟨e, rfl, hs.symm⟩, ?_⟩
        rw [← h, hs]
        exact VRs.cons' hj (VRs.cons' hv hm)
      | false =>
        cases hr : setF eq k v n m with
        | none => rw [show tl (v' :: m) = m from rfl, hr] at h; cases h
        | some r' =>
          rw [show tl (v' :: m) = m from rfl, hr] at h
          injection h with h
          obtain ⟨R, h1, h2, h3⟩ := setF_spec K hk hv n m es (i + 1) r' hm hr
          refine ⟨_, .skip K hk hj he h1, fun e => ?_, fun p e => ?_⟩
          · have : R = none := by cases R with | none => rfl | some p => cases e
            rw [← h]
            exact VRs.cons' hj (VRs.cons' hv' (h2 this))
          · cases R with
            | none => cases e
            | some q =>
              injection e with e
              subst e
              obtain ⟨q1, q2⟩ := h3 q rfl
              refine ⟨by simpa using q1, ?_⟩
              rw [← h]
              show VRs g w _ (ents (List.modify (_ :: es) (q.1 + 1) _))
              rw [List.modify_succ_cons]
              exact VRs.cons' hj (VRs.cons' hv' q2)
theorem someB_spec {o : Option Bool} (h : someB o = true) : ∃ r, o = some r := by
  cases o with
  | none => cases h
  | some r => exact ⟨r, rfl⟩
theorem MapObj {m : FV} {x : Value} (hH : HR g w H) (hm : VR g w m x) (k1 : m.k = 10) (k2 : (H.get m.a).k = 10) : ∃ r es clock, x = .map (some r) ∧ g.φ m.a = some r ∧ g.ρ r = .obj m.a ∧ w.heap[r]? = some (.map es clock) ∧ VRs g w (H.get m.a).l (ents es.toList) := by
  obtain ⟨r, e1, ex⟩ := hm.vk.map k1
  obtain ⟨r', q1, q2, q3⟩ := hH.obj m.a (by omega)
  rw [e1] at q1
  injection q1 with q1
  subst q1
  cases q3 with
  | map _ hh hv =>
    rename_i es clock
    exact ⟨r, es, clock, ex, e1, q2, hh, hv⟩
  | cells hk => omega
  | row hk => omega
  | iter hk => omega
variable {c : Cf} {seen : List Nat} {o : Oper} {C : CO} {a : Act}
theorem ok_lookup (K : KeyEq P kt eq) {t e : Nat} {ok : Bool} {z : FV} {x y : Operand} (ho : o.op = .lookup t x y ok) (hu : P.underlying t = some (.map kt e)) (hz : zeroM P e = some z) : OpOk P c seen o (re2 (lookF eq ok z) (srcOf c seen x) (srcOf c seen y)) C :=
  ok_re2 (by simp [clsOf, ho]) (by intro x hx; simpa [opsOf, ho] using hx) (srcOf_ok c seen x) (srcOf_ok c seen y) fun g w a v k H hH hv hk hne => by
    unfold lookF at hne ⊢
    dsimp only at hne ⊢
    obtain ⟨c1, e1⟩ := hk99 hne
    rw [e1] at hne ⊢
    obtain ⟨c2, c3⟩ := an_iff.1 c1
    obtain ⟨c3, c4⟩ := an_iff.1 c3
    obtain ⟨r0, hr0⟩ := someB_spec c4
    obtain ⟨r, es, clock, ex, hphi, hrho, hh, hes⟩ := MapObj hH hv (beqK c2) (beqK c3)
    obtain ⟨zv, hzr, hze⟩ := zeroM_spec hz
    cases hf : findF eq k (Nat.succ (lenL (H.get v.a).l)) (H.get v.a).l with
    | none => rw [hf] at hne; exact absurd rfl hne
    | some q =>
      rw [hf] at hne
      obtain ⟨R, h1, h2, h3⟩ := findF_spec K hk _ _ _ 0 q hes hf
      have hrun : ∀ (val : Value) (b : Bool), (R = none → val = zv ∧ b = false) → (∀ p, R = some p → val = p.2 ∧ b = true) → (execOp a.eval o).run P w = .ok (.value (if ok then .tuple #[val, .bool b] else val)) w := by
        intro val b g1 g2
        simp only [execOp, ho]
        rw [Sem.run_bind]
        have : (Instr.lookup t (a.eval x) (a.eval y) ok).run P w = .ok (if ok then .tuple #[val, .bool b] else val) w := by
          rw [ex]
          unfold Instr.lookup
          simp only [Sem.run_bind, run_underlying hu, Result.andThen_ok, MapKept.run_getObj_map hh, Sem.run_pure, K.chk hk hr0, Found.key K.und h1]
          cases R with
          | none =>
            obtain ⟨rfl, rfl⟩ := g1 rfl
            simp [hzr w]
          | some p =>
            obtain ⟨rfl, rfl⟩ := g2 p rfl
            simp
        rw [this]
        rfl
      show ∃ z', _ ∧ VR g w (iteB (Nat.beq q.k 0) (Bool.rec z ⟨16, 0, 0, [z, bv false]⟩ ok) (Bool.rec q ⟨16, 0, 0, [q, bv true]⟩ ok)) z'
      cases R with
      | none =>
        have := h2 rfl
        subst this
        have hzv : VR g w z zv := hze ▸ constF_spec zv
        refine ⟨_, hrun zv false (fun _ => ⟨rfl, rfl⟩) (fun p e => by cases e), ?_⟩
        cases ok with
        | true => exact VR.of_tuple (cs := [zv, .bool false]) (VRs.cons' hzv (VRs.cons' (VR.bv false) VRs.nil'))
        | false => exact hzv
      | some p =>
        have hq := h3 p rfl
        refine ⟨_, hrun p.2 true (fun e => by cases e) (fun p' e => by injection e with e; subst e; exact ⟨rfl, rfl⟩), ?_⟩
        rw [beq_f hq.vk.zero]
        cases ok with
        | true => exact VR.of_tuple (cs := [p.2, .bool true]) (VRs.cons' hq (VRs.cons' (VR.bv true) VRs.nil'))
        | false => exact hq
theorem ok_mapSet (K : KeyEq P kt eq) {t e : Nat} {x y z : Operand} (ho : o.op = .mapUpdate t x y z ∨ o.op = .insert t x y z) (hu : P.underlying t = some (.map kt e)) : OpOk P c seen o (ef3 (mapSetF eq) (srcOf c seen x) (srcOf c seen y) (srcOf c seen z)) C :=
  ok_ef3 (by rcases ho with ho | ho <;> simp [clsOf, ho]) (by intro x hx; rcases ho with ho | ho <;> simpa [opsOf, ho] using hx) (srcOf_ok c seen x) (srcOf_ok c seen y) (srcOf_ok c seen z) fun g w a v k q H hH hv hk hq => by
    unfold mapSetF
    dsimp only
    cases hc : an (Nat.beq v.k 10) (an (Nat.beq (H.get v.a).k 10) (someB (eq k k))) with
    | false => exact fun e => absurd rfl e
    | true =>
      obtain ⟨c2, c3⟩ := an_iff.1 hc
      obtain ⟨c3, c4⟩ := an_iff.1 c3
      obtain ⟨r0, hr0⟩ := someB_spec c4
      obtain ⟨r, es, clock, ex, hphi, hrho, hh, hes⟩ := MapObj hH hv (beqK c2) (beqK c3)
      cases hf : setF eq k q (Nat.succ (lenL (H.get v.a).l)) (H.get v.a).l with
      | none => exact fun e => absurd rfl e
      | some l' =>
        intro _
        obtain ⟨R, h1, h2, h3⟩ := setF_spec K hk hq _ _ _ 0 l' hes hf
        have key : ∀ ob' : Obj, (Instr.mapUpdate t (a.eval x) (a.eval y) (a.eval z)).run P w = .ok () { w with heap := w.heap.setIfInBounds r ob' } → (∃ es' clock', ob' = .map es' clock' ∧ VRs g w l' (ents es'.toList)) → ∃ nx g' w' z, (execOp a.eval o).run P w = .ok nx w' ∧ (nx = .value z ∨ nx = .skip ∧ z = undef) ∧ HR g' w' (H.set v.a ⟨10, 0, 0, l'⟩) ∧ VR g' w' UN z ∧ Evo g w g' w' := by
          rintro ob' hrun ⟨es', clock', rfl, hv'⟩
          obtain ⟨s1, s2⟩ := MapKept.heap_set (o' := .map es' clock') hh
          have hhas : ∀ n, Has w r n → Has { w with heap := w.heap.setIfInBounds r (.map es' clock') } r n := by
            rintro n ⟨cur, e2, fz, k1, _⟩
            rw [hh] at k1
            cases k1
          have le := Le.put (w' := { w with heap := w.heap.setIfInBounds r (.map es' clock') }) hH hrho s2 hhas
          refine ⟨.skip, g, _, undef, ?_, .inr ⟨rfl, rfl⟩, hH.put hphi hrho s2 (by simp) hhas (.map rfl s1 (VRs.le le _ _ hv')), VR.of_undef, Evo.put hH hrho s2 (by simp) hhas rfl rfl rfl⟩
          rcases ho with ho | ho <;> simp only [execOp, ho] <;> rw [Sem.run_bind, hrun] <;> rfl
        cases R with
        | none =>
          refine key (.map (es.push { key := a.eval y, val := a.eval z, born := clock }) (clock + 1)) ?_ ⟨_, _, rfl, ?_⟩
          · rw [ex]
            unfold Instr.mapUpdate
            simp only [Sem.run_bind, run_underlying hu, Result.andThen_ok, MapKept.run_getObj_map hh, K.chk hk hr0, Found.key K.und h1]
            exact MapKept.run_setObj_map _ hh
          · have := h2 rfl
            simpa [ents] using this
        | some p =>
          obtain ⟨⟨en, q1, q2⟩, q3⟩ := h3 p rfl
          refine key (.map (es.modify p.1 fun e => { e with key := a.eval y, val := a.eval z }) clock) ?_ ⟨_, _, rfl, ?_⟩
          · rw [ex]
            unfold Instr.mapUpdate
            have hen : es[p.1]? = some en := by simpa using q1
            have hst : (Instr.keyThatStays (((es[p.1]?).map (·.key)).getD (a.eval y)) (a.eval y)).run P w = .ok (a.eval y) w := by
              rw [hen]
              show (Instr.keyThatStays en.key (a.eval y)).run P w = _
              rw [q2]
              unfold Instr.keyThatStays
              rw [if_pos (K.bits hk hr0)]
              rfl
            simp only [Sem.run_bind, run_underlying hu, Result.andThen_ok, MapKept.run_getObj_map hh, K.chk hk hr0, Found.key K.und h1, hst]
            exact MapKept.run_setObj_map _ hh
          · rw [Array.toList_modify]
            exact q3
end
end Go.Proofs.YtkdpinpmjkomoaaGreatDoor.E
/- A reckoner for closed calls (O13): keys of plain kinds, of structs; a text's next rune. -/
namespace Go.Proofs.YtkdpinpmjkomoaaGreatDoor.E
open Go

section
variable {P : Program}
theorem eqC_same {t c : Nat} (h : plainC P t = some c) {g : G} {w : World} {x y : FV} {u v : Value} (hx : VR g w x u) (hy : VR g w y v) (he : eqC c x y = some true) : u = v := by
  unfold eqC at he
  rcases plainC_cases h with ⟨_, rfl⟩ | ⟨_, rfl⟩ | ⟨kd, _, rfl⟩
  · have he : cond (an (Nat.beq x.k 1) (Nat.beq y.k 1)) (some (Nat.beq x.a y.a)) none = some true := he
    cases hc : an (Nat.beq x.k 1) (Nat.beq y.k 1) with
    | false => rw [hc] at he; cases he
    | true =>
      rw [hc] at he
      injection he with he
      obtain ⟨k1, k2⟩ := an_iff.1 hc
      rw [(hx.vk.bool (beqK k1)).1, (hy.vk.bool (beqK k2)).1, beqK he]
  · have he : cond (isS x y) (some (eqSB x y)) none = some true := he
    cases hc : isS x y with
    | false => rw [hc] at he; cases he
    | true =>
      rw [hc] at he
      injection he with he
      obtain ⟨k1, k2⟩ := isS_spec hc
      obtain ⟨a1, a2⟩ := an_iff.1 he
      rw [(hx.vk.str k1).2, (hy.vk.str k2).2, beqK a1, beqK a2]
  · have h1 := intK_lo kd
    have he : cond (Nat.beq (intK kd) 1) (cond (an (Nat.beq x.k 1) (Nat.beq y.k 1)) (some (Nat.beq x.a y.a)) none) (cond (Nat.beq (intK kd) 2) (cond (isS x y) (some (eqSB x y)) none) (cond (an (isK (intK kd) x) (isK (intK kd) y)) (some (eqB x y)) none)) = some true := he
    rw [beq_f (n := intK kd) (m := 1) (by omega), beq_f (n := intK kd) (m := 2) (by omega)] at he
    have he : cond (an (isK (intK kd) x) (isK (intK kd) y)) (some (eqB x y)) none = some true := he
    cases hc : an (isK (intK kd) x) (isK (intK kd) y) with
    | false => rw [hc] at he; cases he
    | true =>
      rw [hc] at he
      injection he with he
      obtain ⟨i1, i2⟩ := an_iff.1 hc
      obtain ⟨a1, a2⟩ := an_iff.1 he
      rw [(hx.isK i1).1, (hy.isK i2).1, beqK a1, beqK a2]
/-- What a plain key is. -/
theorem eqC_kind {t c : Nat} (h : plainC P t = some c) {g : G} {w : World} {x y : FV} {u v : Value} {r : Bool} (hx : VR g w x u) (hy : VR g w y v) (he : eqC c x y = some r) : ∃ d, P.underlying t = some d ∧ MapKept.IsKey d u ∧ MapKept.IsKey d v := by
  unfold eqC at he
  rcases plainC_cases h with ⟨hu, rfl⟩ | ⟨hu, rfl⟩ | ⟨kd, hu, rfl⟩
  · have he : cond (an (Nat.beq x.k 1) (Nat.beq y.k 1)) (some (Nat.beq x.a y.a)) none = some r := he
    cases hc : an (Nat.beq x.k 1) (Nat.beq y.k 1) with
    | false => rw [hc] at he; cases he
    | true =>
      obtain ⟨k1, k2⟩ := an_iff.1 hc
      rw [(hx.vk.bool (beqK k1)).1, (hy.vk.bool (beqK k2)).1]
      exact ⟨_, hu, trivial, trivial⟩
  · have he : cond (isS x y) (some (eqSB x y)) none = some r := he
    cases hc : isS x y with
    | false => rw [hc] at he; cases he
    | true =>
      obtain ⟨k1, k2⟩ := isS_spec hc
      rw [(hx.vk.str k1).2, (hy.vk.str k2).2]
      exact ⟨_, hu, trivial, trivial⟩
  · have h1 := intK_lo kd
    have he : cond (Nat.beq (intK kd) 1) (cond (an (Nat.beq x.k 1) (Nat.beq y.k 1)) (some (Nat.beq x.a y.a)) none) (cond (Nat.beq (intK kd) 2) (cond (isS x y) (some (eqSB x y)) none) (cond (an (isK (intK kd) x) (isK (intK kd) y)) (some (eqB x y)) none)) = some r := he
    rw [beq_f (n := intK kd) (m := 1) (by omega), beq_f (n := intK kd) (m := 2) (by omega)] at he
    have he : cond (an (isK (intK kd) x) (isK (intK kd) y)) (some (eqB x y)) none = some r := he
    cases hc : an (isK (intK kd) x) (isK (intK kd) y) with
    | false => rw [hc] at he; cases he
    | true =>
      obtain ⟨i1, i2⟩ := an_iff.1 hc
      rw [(hx.isK i1).1, (hy.isK i2).1]
      exact ⟨_, hu, rfl, rfl⟩
theorem bits_key {d : TypeDesc} {u : Value} (h : MapKept.IsKey d u) (n : Nat) : Instr.sameBits n u u = true := by
  have hb : ∀ s : ByteArray, (s == s) = true := fun s => (MapKept.bytes_beq s s).2 rfl
  cases d <;> cases u <;> first | exact False.elim h | (unfold Instr.sameBits; simp [hb])
theorem keyEq_plain {t c : Nat} (h : plainC P t = some c) : KeyEq P t (eqC c) where
  und := by rcases plainC_cases h with ⟨hu, _⟩ | ⟨hu, _⟩ | ⟨_, hu, _⟩ <;> exact ⟨_, hu⟩
  ask hx hy he := (eqC_spec h hx hy he).1 9999
  now {g w x y u v r} hx hy he d hd := by
    obtain ⟨d', hd', k1, k2⟩ := eqC_kind h hx hy he
    rw [hd] at hd'
    injection hd' with hd'
    subst hd'
    left
    obtain ⟨r', hr, hiff⟩ := MapKept.sameNow_of_keys k1 k2
    rw [hr]
    congr 1
    have hask := (eqC_spec (P := P) (w := w) h hx hy he).1 0
    cases r with
    | true => exact hiff.2 (eqC_same h hx hy he)
    | false =>
      cases r' with
      | false => rfl
      | true =>
        have := hiff.1 rfl
        subst this
        exfalso
        clear hr hiff
        have e : (Op.equalIn (0 + 1) t u u).run P w = .ok true w := by
          cases d <;> cases u <;> first | exact False.elim k1 | (simp [Op.equalIn, underlying, hd]; done) | simp [Op.equalIn, underlying, hd, (MapKept.bytes_beq _ _).2 rfl]
        rw [e] at hask
        injection hask with h1
        cases h1
  same hx hy he := eqC_same h hx hy he
  chk hx he em := by
    obtain ⟨d, hd, k1, _⟩ := eqC_kind h hx hx he
    exact MapKept.run_checkKey hd k1 em 9999
  bits hx he := by
    obtain ⟨d, hd, k1, _⟩ := eqC_kind h hx hx he
    exact bits_key k1 _
/-! ### structs -/
theorem eqCs_cons {c : Nat} {cs : List Nat} {lx ly : List FV} {r : Bool} (h : eqCs (c :: cs) lx ly = some r) : ∃ x xs y ys b, lx = x :: xs ∧ ly = y :: ys ∧ eqC c x y = some b ∧ (b = true → eqCs cs xs ys = some r) ∧ (b = false → r = false) := by
  cases lx with
  | nil => cases h
  | cons x xs =>
    cases ly with
    | nil => cases h
    | cons y ys =>
      unfold eqCs at h
      cases hc : eqC c x y with
      | none => rw [hc] at h; cases h
      | some b =>
        rw [hc] at h
        cases b with
        | true => exact ⟨x, xs, y, ys, true, rfl, rfl, hc, fun _ => h, fun e => by cases e⟩
        | false => injection h with h; exact ⟨x, xs, y, ys, false, rfl, rfl, hc, (fun e => by cases e), fun _ => h.symm⟩
theorem eqCs_nil {lx ly : List FV} {r : Bool} (h : eqCs [] lx ly = some r) : lx = [] ∧ ly = [] := by
  cases lx <;> cases ly <;> first | exact ⟨rfl, rfl⟩ | cases h
theorem plainCs_cons {f : Field} {fs : List Field} {n : Nat} {cs : List Nat} (h : plainCs P n (f :: fs) = some cs) : ∃ c cs', cs = c :: cs' ∧ plainC P f.type = some c ∧ plainCs P (n + 1) fs = some cs' ∧ f.offset = n ∧ f.name ≠ "_" := by
  unfold plainCs at h
  cases h1 : plainC P f.type with
  | none => rw [h1] at h; cases h
  | some c =>
    cases h2 : plainCs P (n + 1) fs with
    | none => rw [h1, h2] at h; cases h
    | some cs' =>
      rw [h1, h2] at h
      dsimp only at h
      cases h3 : (Nat.beq f.offset n && decide (f.name ≠ "_")) with
      | false => rw [h3] at h; cases h
      | true =>
        rw [h3] at h
        injection h with h
        simp only [Bool.and_eq_true, decide_eq_true_eq] at h3
        exact ⟨c, cs', h.symm, rfl, rfl, beqK h3.1, h3.2⟩
theorem eqCs_same {g : G} {w : World} : ∀ {fs : List Field} {n : Nat} {cs : List Nat} {lx ly : List FV} {xs ys : List Value}, plainCs P n fs = some cs → VRs g w lx xs → VRs g w ly ys → eqCs cs lx ly = some true → xs = ys
  | [], n, cs, lx, ly, xs, ys, h, hx, hy, he => by
    injection h with h
    subst h
    obtain ⟨rfl, rfl⟩ := eqCs_nil he
    rw [hx.nil_iff, hy.nil_iff]
  | f :: fs, n, cs, lx, ly, xs, ys, h, hx, hy, he => by
    obtain ⟨c, cs', rfl, h1, h2, _, _⟩ := plainCs_cons h
    obtain ⟨x, lx', y, ly', b, rfl, rfl, hb, hb1, hb2⟩ := eqCs_cons he
    obtain ⟨u, us, rfl, v1, v2⟩ := hx.cons_iff
    obtain ⟨u', us', rfl, v1', v2'⟩ := hy.cons_iff
    cases b with
    | false => exact absurd (hb2 rfl) (by simp)
    | true => rw [eqC_same h1 v1 v1' hb, eqCs_same h2 v2 v2' (hb1 rfl)]
theorem eqC_refl {t c : Nat} (h : plainC P t = some c) {x y : FV} {r : Bool} (he : eqC c x y = some r) : eqC c x x = some true := by
  unfold eqC at he ⊢
  have hA : ∀ {k : Nat} {b : Bool}, an (Nat.beq x.k k) b = true → Nat.beq x.k k = true := fun h => (an_iff.1 h).1
  rcases plainC_cases h with ⟨hu, rfl⟩ | ⟨hu, rfl⟩ | ⟨kd, hu, rfl⟩
  · have he : cond (an (Nat.beq x.k 1) (Nat.beq y.k 1)) (some (Nat.beq x.a y.a)) none = some r := he
    cases hc : an (Nat.beq x.k 1) (Nat.beq y.k 1) with
    | false => rw [hc] at he; cases he
    | true =>
      show cond (an (Nat.beq x.k 1) (Nat.beq x.k 1)) (some (Nat.beq x.a x.a)) none = some true
      rw [hA hc, beq_t]
      rfl
  · have he : cond (isS x y) (some (eqSB x y)) none = some r := he
    cases hc : isS x y with
    | false => rw [hc] at he; cases he
    | true =>
      show cond (an (Nat.beq x.k 2) (Nat.beq x.k 2)) (some (eqSB x x)) none = some true
      rw [hA hc]
      unfold eqSB
      rw [beq_t, beq_t]
      rfl
  · have h1 := intK_lo kd
    have he : cond (Nat.beq (intK kd) 1) (cond (an (Nat.beq x.k 1) (Nat.beq y.k 1)) (some (Nat.beq x.a y.a)) none) (cond (Nat.beq (intK kd) 2) (cond (isS x y) (some (eqSB x y)) none) (cond (an (isK (intK kd) x) (isK (intK kd) y)) (some (eqB x y)) none)) = some r := he
    show cond (Nat.beq (intK kd) 1) (cond (an (Nat.beq x.k 1) (Nat.beq x.k 1)) (some (Nat.beq x.a x.a)) none) (cond (Nat.beq (intK kd) 2) (cond (isS x x) (some (eqSB x x)) none) (cond (an (isK (intK kd) x) (isK (intK kd) x)) (some (eqB x x)) none)) = some true
    rw [beq_f (n := intK kd) (m := 1) (by omega), beq_f (n := intK kd) (m := 2) (by omega)] at he ⊢
    have he : cond (an (isK (intK kd) x) (isK (intK kd) y)) (some (eqB x y)) none = some r := he
    show cond (an (isK (intK kd) x) (isK (intK kd) x)) (some (eqB x x)) none = some true
    cases hc : an (isK (intK kd) x) (isK (intK kd) y) with
    | false => rw [hc] at he; cases he
    | true =>
      rw [(an_iff.1 hc).1]
      unfold eqB
      rw [beq_t, beq_t]
      rfl
/-- Each cell of a key of a struct. -/
theorem keys_of {g : G} {w : World} : ∀ {fs : List Field} {n : Nat} {cs : List Nat} {lx : List FV} {xs : Array Value} {r : Bool}, plainCs P n fs = some cs → VRs g w lx (xs.toList.drop n) → eqCs cs lx lx = some r → ∀ f ∈ fs, f.name ≠ "_" ∧ ∃ d u, P.underlying f.type = some d ∧ MapKept.IsKey d u ∧ (part f.type xs f.offset).run P w = .ok u w
  | [], n, cs, lx, xs, r, h, hx, he, f, hf => by simp at hf
  | f :: fs, n, cs, lx, xs, r, h, hx, he, f', hf => by
    obtain ⟨c, cs', rfl, h1, h2, h3, h4⟩ := plainCs_cons h
    obtain ⟨x, lx', y, ly', b, rfl, e, hb, hb1, hb2⟩ := eqCs_cons he
    injection e with e1 e2
    subst e1 e2
    obtain ⟨u, us, e1, v1, v2⟩ := hx.cons_iff
    have gu : xs[n]? = some u := by
      have : (xs.toList.drop n)[0]? = some u := by rw [e1]; rfl
      simpa using this
    have d1 : xs.toList.drop (n + 1) = us := by
      have := congrArg (List.drop 1) e1
      simpa using this
    have hbt : b = true := by
      have := eqC_refl h1 hb
      rw [hb] at this
      injection this
    rcases List.mem_cons.1 hf with rfl | hf
    · obtain ⟨d, hd, k1, _⟩ := eqC_kind h1 v1 v1 hb
      exact ⟨h4, d, u, hd, k1, by rw [h3]; exact run_part (eqC_spec (P := P) (w := w) h1 v1 v1 hb).2.2 gu⟩
    · exact keys_of h2 (by rw [d1]; exact v2) (hb1 hbt) f' hf
theorem bits_list : ∀ (l : List Value) (n : Nat), (∀ u ∈ l, ∃ d, MapKept.IsKey d u) → ((l.zip l).all fun (x, y) => Instr.sameBits n x y) = true
  | [], _, _ => rfl
  | u :: l, n, h => by
    obtain ⟨d, hd⟩ := h u List.mem_cons_self
    rw [List.zip_cons_cons, List.all_cons]
    simp only [bits_key hd, Bool.true_and]
    exact bits_list l n fun v hv => h v (List.mem_cons_of_mem _ hv)
theorem keys_all {g : G} {w : World} : ∀ {fs : List Field} {n : Nat} {cs : List Nat} {lx : List FV} {xs : List Value} {r : Bool}, plainCs P n fs = some cs → VRs g w lx xs → eqCs cs lx lx = some r → ∀ u ∈ xs, ∃ d, MapKept.IsKey d u
  | [], n, cs, lx, xs, r, h, hx, he, f, hf => by
    injection h with h
    subst h
    obtain ⟨rfl, _⟩ := eqCs_nil he
    rw [hx.nil_iff] at hf
    simp at hf
  | f :: fs, n, cs, lx, xs, r, h, hx, he, f', hf => by
    obtain ⟨c, cs', rfl, h1, h2, h3, h4⟩ := plainCs_cons h
    obtain ⟨x, lx', y, ly', b, rfl, e, hb, hb1, hb2⟩ := eqCs_cons he
    injection e with e1 e2
    subst e1 e2
    obtain ⟨u, us, rfl, v1, v2⟩ := hx.cons_iff
    have hbt : b = true := by
      have := eqC_refl h1 hb
      rw [hb] at this
      injection this
    rcases List.mem_cons.1 hf with rfl | hf
    · obtain ⟨d, hd, k1, _⟩ := eqC_kind h1 v1 v1 hb
      exact ⟨d, k1⟩
    · exact keys_all h2 v2 (hb1 hbt) f' hf
theorem eqAg_spec {cs : List Nat} {g : G} {w : World} {x y : FV} {u v : Value} {r : Bool} (hx : VR g w x u) (hy : VR g w y v) (he : eqAg cs x y = some r) : ∃ xs ys, u = .agg (List.toArray xs) ∧ v = .agg (List.toArray ys) ∧ VRs g w x.l xs ∧ VRs g w y.l ys ∧ eqCs cs x.l y.l = some r := by
  unfold eqAg at he
  cases hc : an (Nat.beq x.k 15) (Nat.beq y.k 15) with
  | false => rw [hc] at he; cases he
  | true =>
    rw [hc] at he
    obtain ⟨k1, k2⟩ := an_iff.1 hc
    obtain ⟨xs, rfl, v1⟩ := hx.vk.agg (beqK k1)
    obtain ⟨ys, rfl, v2⟩ := hy.vk.agg (beqK k2)
    exact ⟨xs, ys, rfl, rfl, v1, v2, he⟩
theorem keyEq_agg {t : Nat} {cs : List Nat} (h : structCs P t = some cs) : KeyEq P t (eqAg cs) where
  und := ⟨_, (structCs_spec h).1⟩
  ask hx hy he := by
    obtain ⟨xs, ys, rfl, rfl, v1, v2, hc⟩ := eqAg_spec hx hy he
    exact run_eqAgg h v1 v2 hc 9998
  now hx hy he d hd := by
    rw [(structCs_spec h).1] at hd
    injection hd with hd
    subst hd
    exact .inr rfl
  same hx hy he := by
    obtain ⟨xs, ys, rfl, rfl, v1, v2, hc⟩ := eqAg_spec hx hy he
    rw [eqCs_same (structCs_spec h).2.2.1 v1 v2 hc]
  chk {g w x u r} hx he em := by
    obtain ⟨xs, ys, rfl, e, v1, _, hc⟩ := eqAg_spec hx hx he
    obtain ⟨hu, _, hp, _⟩ := structCs_spec h
    have each := keys_of (xs := List.toArray xs) hp (by simpa using v1) hc
    unfold Instr.checkKey
    simp only [Sem.run_bind, run_underlying hu, Result.andThen_ok]
    rw [← Array.forIn_toList]
    generalize (P.fieldsOf t).toList = L at each
    clear hp
    induction L with
    | nil => simp
    | cons f L ih =>
      obtain ⟨hn, d, u, hd, hk, hpart⟩ := each f List.mem_cons_self
      have p2 := MapKept.run_checkKey (w := w) hd hk em 9998
      simp only [List.forIn_cons, Sem.run_bind, hn, ne_eq, not_false_eq_true, if_true, Result.andThen_ok, hpart, p2, Sem.run_pure]
      exact ih fun y hy => each y (List.mem_cons_of_mem _ hy)
  bits hx he := by
    obtain ⟨xs, ys, rfl, e, v1, _, hc⟩ := eqAg_spec hx hx he
    have := keys_all (structCs_spec h).2.2.1 v1 hc
    show ((List.toArray xs).size == (List.toArray xs).size && ((List.toArray xs).toList.zip (List.toArray xs).toList).all fun (x, y) => Instr.sameBits 9999 x y) = true
    simp only [beq_self_eq_true, Bool.true_and]
    exact bits_list _ _ this
/-! ### a text's next rune -/
variable {c : Cf} {seen : List Nat} {o : Oper} {C : CO}
theorem ok_next {x : Operand} (ho : o.op = .next x true) : OpOk P c seen o (ef1 nextF (srcOf c seen x)) C :=
  ok_ef1 (by simp [clsOf, ho]) (by intro x hx; simpa [opsOf, ho] using hx) (srcOf_ok c seen x) fun g w a v H hH hv => by
    unfold nextF
    dsimp only
    cases hc : an (Nat.beq v.k 4) (an (Nat.beq v.b 0) (Nat.beq (H.get v.a).k 17)) with
    | false => exact fun e => absurd rfl e
    | true =>
      obtain ⟨c1, c2⟩ := an_iff.1 hc
      obtain ⟨c2, c3⟩ := an_iff.1 c2
      have c3 := beqK c3
      obtain ⟨blk, e1, ex⟩ := hv.vk.ptr (beqK c1)
      rw [beqK c2] at ex
      obtain ⟨blk', q1, q2, q3⟩ := hH.obj v.a (by omega)
      rw [e1] at q1
      injection q1 with q1
      subst q1
      cases q3 with
      | cells hk => omega
      | row hk => omega
      | map hk => omega
      | iter _ hh hb hp =>
        rename_i pos
        subst hp
        have hgo : (getObj blk).run P w = .ok (.stringIter (decS (H.get v.a).a (H.get v.a).b) (E.hd (H.get v.a).l).a) w := by simp [getObj, Sem.run, hh]
        generalize hpos : (E.hd (H.get v.a).l).a = pos at *
        intro hk
        rw [nextO_eq] at hk ⊢
        cases hlt : Nat.blt pos (H.get v.a).a with
        | false =>
          have hlt : ¬ pos < (H.get v.a).a := fun e => by rw [blt_iff.2 e] at hlt; cases hlt
          refine ⟨.value (.tuple #[.bool false]), g, w, .tuple #[.bool false], ?_, .inl rfl, hH, VR.of_tuple (cs := [.bool false]) (VRs.cons' (VR.bv false) VRs.nil'), Evo.refl g w⟩
          simp only [execOp, ho]
          rw [Sem.run_bind, ex]
          unfold Instr.next
          simp only [Sem.run_bind, hgo, Result.andThen_ok, decS_size, if_neg hlt]
          rfl
        | true =>
          rw [hlt] at hk
          have hlt := blt_iff.1 hlt
          cases ha : Nat.blt (Nat.mod (Nat.div (H.get v.a).b (Nat.pow 256 pos)) 256) 128 with
          | false => rw [ha] at hk; exact absurd rfl hk
          | true =>
            have ha : (H.get v.a).b / 256 ^ pos % 256 < 128 := blt_iff.1 ha
            have hdec : Utf8.decode (decS (H.get v.a).a (H.get v.a).b) pos = ((H.get v.a).b / 256 ^ pos % 256, 1) := by
              have hg : ((decS (H.get v.a).a (H.get v.a).b).get! (pos + 0)).toNat = (H.get v.a).b / 256 ^ pos % 256 := by
                have : (decL (H.get v.a).a (H.get v.a).b)[pos]? = some (UInt8.ofNat ((H.get v.a).b / 256 ^ pos % 256)) := decL_get _ _ _ hlt
                have h2 : (decS (H.get v.a).a (H.get v.a).b).get! (pos + 0) = UInt8.ofNat ((H.get v.a).b / 256 ^ pos % 256) := by
                  show (decL (H.get v.a).a (H.get v.a).b).toArray[pos]! = _
                  simp [this]
                rw [h2, UInt8.toNat_ofNat']
                exact Nat.mod_eq_of_lt (by omega)
              unfold Utf8.decode
              simp only [hg]
              rw [if_pos (by omega)]
            generalize hw' : ({ w with heap := w.heap.setIfInBounds blk (.stringIter (decS (H.get v.a).a (H.get v.a).b) (pos + 1)) } : World) = w'
            obtain ⟨s1, s2⟩ := MapKept.heap_set (o' := .stringIter (decS (H.get v.a).a (H.get v.a).b) (pos + 1)) hh
            have s1 : w'.heap[blk]? = some (.stringIter (decS (H.get v.a).a (H.get v.a).b) (pos + 1)) := by rw [← hw']; exact s1
            have s2 : ∀ b, b ≠ blk → w'.heap[b]? = w.heap[b]? := by rw [← hw']; exact s2
            have s3 : w'.heap.size = w.heap.size := by rw [← hw']; simp
            have hhas : ∀ n, Has w blk n → Has w' blk n := by
              rintro n ⟨cur, e2, fz, k1, _⟩
              rw [hh] at k1
              cases k1
            refine ⟨.value (.tuple #[.bool true, goInt pos, .int .i32 ((H.get v.a).b / 256 ^ pos % 256 : Nat)]), g, w', .tuple #[.bool true, goInt pos, .int .i32 ((H.get v.a).b / 256 ^ pos % 256 : Nat)], ?_, .inl rfl, hH.put e1 q2 s2 s3 hhas (.iter rfl s1 hb rfl), VR.of_tuple (cs := [.bool true, goInt pos, .int .i32 ((H.get v.a).b / 256 ^ pos % 256 : Nat)]) (VRs.cons' (VR.bv true) (VRs.cons' (VR.enc0 .i64 pos) (VRs.cons' (VR.enc0 .i32 _) VRs.nil'))), Evo.put hH q2 s2 s3 hhas (by rw [← hw']) (by rw [← hw']) (by rw [← hw'])⟩
            simp only [execOp, ho]
            rw [Sem.run_bind, ex]
            unfold Instr.next
            have hset : (setObj blk (.stringIter (decS (H.get v.a).a (H.get v.a).b) (pos + 1))).run P w = .ok () w' := by
              rw [← hw']
              simp [setObj, Sem.run, hh]
            simp only [Sem.run_bind, hgo, Result.andThen_ok, decS_size, if_pos hlt, hdec, hset]
            rfl
end
end Go.Proofs.YtkdpinpmjkomoaaGreatDoor.E
/- A reckoner for closed calls (O14): what append does with the world. -/
namespace Go.Proofs.YtkdpinpmjkomoaaGreatDoor.E
open Go

section
variable {P : Program} {w : World}
/-- Where what is appended comes from: m elements, whose cells are news. -/
structure SrcR (P : Program) (w : World) (t u ty e sz by' : Nat) (xv : Value) (m : Nat) (news : List Value) : Prop where
  len : news.length = m * sz
  same : m = 0 → ∀ (b : Option Addr) (n cap : Nat), n ≤ cap → (Builtin.append_ #[t, u] ty #[.slice b n cap, xv]).run P w = .ok (.slice b n cap) w
  room : 0 < m → ∀ (b n cap : Nat) (cur : Array Value) (e2 : Nat), w.heap[b]? = some (.cells cur e2 (0, 0)) → n + m ≤ cap → n * sz + news.length ≤ cur.size → (Builtin.append_ #[t, u] ty #[.slice (some ⟨b, 0, none⟩) n cap, xv]).run P w = .ok (.slice (some ⟨b, 0, none⟩) (n + m) cap) (w.setRow b (cur.toList.take (n * sz) ++ news ++ cur.toList.drop (n * sz + news.length)).toArray)
  nil : 0 < m → m ≤ 1000000 → m * by' ≤ 140737488355328 → ∃ cap rest, m ≤ cap ∧ news.length + rest.size = cap * sz ∧ (Builtin.append_ #[t, u] ty #[.slice none 0 0, xv]).run P w = .ok (.slice (some ⟨w.heap.size, 0, none⟩) m cap) (w.drew.alloc (.cells (news.toArray ++ rest) e))
  grow : 0 < m → ∀ (ad : Addr) (n cap : Nat) (olds : List Value), olds.length = n * sz → (∀ j v, olds[j]? = some v → w.cell? (ad.add j) = some v) → cap < n + m → n + m ≤ 1000000 → (n + m) * by' ≤ 140737488355328 → ∃ cap' rest, n + m ≤ cap' ∧ olds.length + news.length + rest.size = cap' * sz ∧ (Builtin.append_ #[t, u] ty #[.slice (some ad) n cap, xv]).run P w = .ok (.slice (some ⟨w.heap.size, 0, none⟩) (n + m) cap') (w.drew.alloc (.cells (olds.toArray ++ news.toArray ++ rest) e))
theorem run_append_room2 (w : World) (t ty e e2 : TypeId) (i : TypeInfo) (ht : P.underlying t = some (.slice e)) (hi : P.info? e = some i)
    (b sLen sCap : Nat) (cur : Array Value) (hg : w.heap[b]? = some (.cells cur e2 (0, 0)))
    (ad : Addr) (m c : Nat) (news : List Value) (hl : news.length = m * i.size) (hnews : ∀ j u, news[j]? = some u → w.cell? (ad.add j) = some u) (h1 : ∀ u ∈ news, u.oneCell' = true)
    (hroom : sLen + m ≤ sCap) (hfit : sLen * i.size + news.length ≤ cur.size) :
    (Builtin.append_ #[t, t] ty #[.slice (some ⟨b, 0, none⟩) sLen sCap, .slice (some ad) m c]).run P w =
      .ok (.slice (some ⟨b, 0, none⟩) (sLen + m) sCap) (w.setRow b (cur.toList.take (sLen * i.size) ++ news ++ cur.toList.drop (sLen * i.size + news.length)).toArray) := by
  have hf := run_firstCells_some (P := P) w i.size m ad m c news hl hnews
  have hst := run_storeCells_at P b (sLen * i.size) e2 news 0 cur w hg (by simpa using hfit) h1
  simp only [Nat.add_zero] at hst
  simp [Builtin.append_, run_underlying ht, sizeOf, typeInfo, hi, Builtin.lenOf, hroom, hf, Addr.add_lit, hst]
theorem run_append_same (w : World) (t ty e : TypeId) (i : TypeInfo) (ht : P.underlying t = some (.slice e)) (hi : P.info? e = some i) (b : Option Addr) (n cap : Nat) (hn : n ≤ cap) (x : Option Addr) (c : Nat) :
    (Builtin.append_ #[t, t] ty #[.slice b n cap, .slice x 0 c]).run P w = .ok (.slice b n cap) w := by
  cases b <;> cases x <;> simp [Builtin.append_, run_underlying ht, sizeOf, typeInfo, hi, Builtin.lenOf, hn, Builtin.firstCells, loadCells, loadCellsFrom, storeCells]
theorem SrcR.slice {t ty e : Nat} {i : TypeInfo} {z : Value} (ht : P.underlying t = some (.slice e)) (hi : P.info? e = some i) (hz : i.zero = some z) (hzs : z.cells.size = i.size) {bd : Option Addr} {m c : Nat} {news : List Value} (hl : news.length = m * i.size)
    (hn : 0 < m → ∃ ad, bd = some ad ∧ ∀ j u, news[j]? = some u → w.cell? (ad.add j) = some u) (h1 : ∀ u ∈ news, u.oneCell' = true) : SrcR P w t t ty e i.size i.bytes (.slice bd m c) m news where
  len := hl
  same h0 b n cap hc := by subst h0; exact run_append_same w t ty e i ht hi b n cap hc bd c
  room hm b n cap cur e2 hh hroom hfit := by
    obtain ⟨ad, rfl, hnews⟩ := hn hm
    exact run_append_room2 w t ty e e2 i ht hi b n cap cur hh ad m c news hl hnews h1 hroom hfit
  nil hm hb1 hb2 := by
    obtain ⟨ad, rfl, hnews⟩ := hn hm
    have h := run_append_nil (P := P) w t ty e i z ht hi hz ad m c news hl hnews hm (by omega) (by omega)
    have hge := grownCap_ge w m 0 e
    refine ⟨grownCap w m 0 e, Builtin.zeroCells z.cells (grownCap w m 0 e - m), hge, ?_, h⟩
    rw [size_zeroCells, hzs, hl, ← Nat.add_mul]
    congr 1
    omega
  grow hm ad n cap olds hol hold hlt hb1 hb2 := by
    obtain ⟨xd, rfl, hnews⟩ := hn hm
    have h := run_append_grow (P := P) w t ty e i z ht hi hz ad n cap olds hol hold xd m c news hl hnews hlt (by omega) (growslice_fits hlt hb2)
    have hge := grownCap_ge w (n + m) cap e
    refine ⟨grownCap w (n + m) cap e, Builtin.zeroCells z.cells (grownCap w (n + m) cap e - (n + m)), hge, ?_, h⟩
    rw [size_zeroCells, hzs, hl, hol, ← Nat.add_mul, ← Nat.add_mul]
    congr 1
    omega
/-! ### noughts -/
theorem zero_cells (z : Array Value) : ∀ n, (Builtin.zeroCells z n).toList = (List.replicate n z.toList).flatten := by
  intro n
  by_cases hz : z.size = 0
  · have : z.toList = [] := by simpa using hz
    rw [this]
    have h1 := size_zeroCells z n
    rw [hz, Nat.mul_zero] at h1
    have : Builtin.zeroCells z n = #[] := Array.eq_empty_of_size_eq_zero h1
    rw [this]
    simp
  · induction n with
    | zero => simp [Builtin.zeroCells]
    | succ n ih =>
      rw [List.replicate_succ', List.flatten_append, ← ih]
      simp only [List.flatten_cons, List.flatten_nil, List.append_nil]
      apply List.ext_getElem?
      intro k
      have hs : ∀ m, (Builtin.zeroCells z m).toList.length = m * z.size := fun m => by rw [Array.length_toList, size_zeroCells]
      have hget : ∀ m k, k < m * z.size → (Builtin.zeroCells z m).toList[k]? = some (z[k % z.size]!) := fun m k hk => by
        simp [Builtin.zeroCells, hk]
      by_cases hk : k < n * z.size
      · rw [List.getElem?_append_left (by rw [hs]; exact hk), hget _ _ hk, hget _ _ (by rw [Nat.add_mul]; omega)]
      · rw [List.getElem?_append_right (by rw [hs]; omega), hs]
        by_cases hk2 : k < (n + 1) * z.size
        · rw [hget _ _ hk2]
          rw [Nat.add_mul, Nat.one_mul] at hk2
          have hm : k % z.size = k - n * z.size := by
            have : k = n * z.size + (k - n * z.size) := by omega
            rw [this, Nat.add_comm (n * z.size), Nat.add_mul_mod_self_right, Nat.mod_eq_of_lt (by omega)]
            omega
          rw [hm, Array.getElem?_toList]
          have hlt : k - n * z.size < z.size := by omega
          simp [hlt]
        · rw [List.getElem?_eq_none (by rw [hs]; omega), List.getElem?_eq_none (by rw [Array.length_toList]; rw [Nat.add_mul, Nat.one_mul] at hk2; omega)]
theorem wrap_small {m : Nat} (h : m ≤ 1000000) : IntKind.i64.wrap (m : Int) = m := wrap_fit .i64 (by show m ≤ 9223372036854775807; omega)
theorem SrcR.zeros {t u ty e : Nat} {i : TypeInfo} {z : Value} {kd xk : IntKind} (ht : P.underlying t = some (.slice e)) (hu : P.underlying u = some (.int kd)) (hi : P.info? e = some i) (hz : i.zero = some z) (hzs : z.cells.size = i.size) (h1 : 1 ≤ i.size) {m : Nat} (hm1 : m ≤ 1000000) (hm2 : m * i.bytes ≤ 140737488355328) (hone : ∀ y ∈ z.cells.toList, y.oneCell' = true) :
    SrcR P w t u ty e i.size i.bytes (.int xk (m : Int)) m (Builtin.zeroCells z.cells m).toList := by
  have hw : IntKind.i64.wrap (m : Int) = m := wrap_small hm1
  have hneg : ¬ ((m : Int) < 0) := by omega
  have hbig : ¬ ((281474976710656 : Int) < (m : Int) * (i.bytes : Int)) := by
    have : ((m : Int) * (i.bytes : Int)) = ((m * i.bytes : Nat) : Int) := by simp
    rw [this]
    omega
  have hlen : (Builtin.zeroCells z.cells m).toList.length = m * i.size := by rw [Array.length_toList, size_zeroCells, hzs]
  have hones : ∀ y ∈ (Builtin.zeroCells z.cells m).toList, y.oneCell' = true := by
    intro y hy
    rw [zero_cells] at hy
    obtain ⟨l, hl, hy⟩ := List.mem_flatten.1 hy
    rw [(List.mem_replicate.1 hl).2] at hy
    exact hone y hy
  refine ⟨hlen, fun h0 b n cap hc => ?_, fun hm b n cap cur e2 hh hroom hfit => ?_, fun hm hb1 hb2 => ?_, fun hm ad n cap olds hol hold hlt hb1 hb2 => ?_⟩
  · subst h0
    have hw0 : IntKind.i64.wrap 0 = 0 := wrap_small (m := 0) (by decide)
    cases b <;> simp [hw0, Builtin.append_, run_underlying ht, run_underlying hu, sizeOf, typeInfo, hi, asInt, asIntOf, hc, storeCells]
  · have hst := run_storeCells_at P b (n * i.size) e2 (Builtin.zeroCells z.cells m).toList 0 cur w hh (by simpa using hfit) hones
    simp only [Nat.add_zero] at hst
    have hms : m * i.size ≠ 0 := by
      have : 0 < m * i.size := Nat.mul_pos hm h1
      omega
    have hm0 : ¬ (m = 0 ∨ i.size = 0) := by omega
    simp [Builtin.append_, run_underlying ht, run_underlying hu, sizeOf, typeInfo, zeroValue, hi, hz, asInt, asIntOf, hw, hneg, hbig, hroom, hms, Addr.add_lit, hst]
  · have hge := grownCap_ge w m 0 e
    refine ⟨grownCap w m 0 e, Builtin.zeroCells z.cells (grownCap w m 0 e - m), hge, ?_, ?_⟩
    · rw [size_zeroCells, hzs, hlen, ← Nat.add_mul]
      congr 1
      omega
    · have hms : m * i.size ≠ 0 := by
        have : 0 < m * i.size := Nat.mul_pos hm h1
        omega
      have hm0 : ¬ (m = 0 ∨ i.size = 0) := by omega
      have hn : m ≠ 0 := by omega
      have h63' : ¬ (9223372036854775807 < (m : Int)) := by omega
      have h48' : ¬ (281474976710656 < Builtin.nextslicecap m 0 * i.bytes) := by rw [nextslicecap_zero hm]; omega
      simp [Builtin.append_, run_underlying ht, run_underlying hu, sizeOf, typeInfo, zeroValue, hi, hz, asInt, asIntOf, hw, hneg, hbig, hn, h63', h48', hms, Question.forced, run_firstCells_none, Go.newRow, grownCap]
  · have hge := grownCap_ge w (n + m) cap e
    refine ⟨grownCap w (n + m) cap e, Builtin.zeroCells z.cells (grownCap w (n + m) cap e - (n + m)), hge, ?_, ?_⟩
    · rw [size_zeroCells, hzs, hlen, hol, ← Nat.add_mul, ← Nat.add_mul]
      congr 1
      omega
    · have hms : m * i.size ≠ 0 := by
        have : 0 < m * i.size := Nat.mul_pos hm h1
        omega
      have hm0 : ¬ (m = 0 ∨ i.size = 0) := by omega
      have hn : ¬ (n + m ≤ cap) := by omega
      have h63' : ¬ (9223372036854775807 < ((n : Int) + (m : Int))) := by omega
      have h48 := growslice_fits hlt hb2
      have h48' : ¬ (281474976710656 < Builtin.nextslicecap (n + m) cap * i.bytes) := by omega
      have hfo := run_firstCells_some (P := P) w.drew i.size n ad n cap olds hol (by simpa using hold)
      simp [Builtin.append_, run_underlying ht, run_underlying hu, sizeOf, typeInfo, zeroValue, hi, hz, asInt, asIntOf, hw, hneg, hbig, hn, h63', h48', hms, Question.forced, hfo, Go.newRow, grownCap]
end
end Go.Proofs.YtkdpinpmjkomoaaGreatDoor.E
/- A reckoner for closed calls (O15): rows, tokens, as append leaves them. -/
namespace Go.Proofs.YtkdpinpmjkomoaaGreatDoor.E
open Go

theorem isLive_bit (H : MH) (t : Nat) : H.isLive t = H.live.testBit t := by
  unfold MH.isLive
  have e1 : Nat.land (Nat.shiftRight H.live t) 1 = (H.live >>> t) % 2 := Nat.and_one_is_mod (H.live >>> t)
  rw [e1, Nat.shiftRight_eq_div_pow, Nat.testBit_eq_decide_div_mod_eq]
  rw [Bool.eq_iff_iff, Nat.beq_eq, decide_eq_true_iff]
theorem isLive_tok {H : MH} {t j : Nat} (hj : (H.tok t).isLive j = true) : j = H.next ∨ (j ≠ t ∧ H.isLive j = true) := by
  rw [isLive_bit] at hj
  have e : (H.tok t).live = (H.live ^^^ (if H.isLive t then 2 ^ t else 0)) ||| 2 ^ H.next := by
    show Nat.lor (Nat.xor H.live (Bool.rec 0 (Nat.pow 2 t) (H.isLive t))) (Nat.pow 2 H.next) = _
    cases H.isLive t <;> rfl
  rw [e, Nat.testBit_or, Nat.testBit_xor, Nat.testBit_two_pow] at hj
  by_cases hn : j = H.next
  · exact .inl hn
  · right
    have : decide (H.next = j) = false := decide_eq_false (Ne.symm hn)
    rw [this, Bool.or_false] at hj
    by_cases ht : j = t
    · subst ht
      cases hl : H.isLive j with
      | true =>
        rw [hl] at hj
        rw [isLive_bit] at hl
        rw [hl] at hj
        simp at hj
      | false =>
        rw [hl] at hj
        rw [isLive_bit] at hl
        rw [hl] at hj
        simp at hj
    · refine ⟨ht, ?_⟩
      rw [isLive_bit]
      cases hl : H.isLive t with
      | true =>
        rw [hl] at hj
        have h2 : decide (t = j) = false := decide_eq_false (Ne.symm ht)
        simpa [Nat.testBit_two_pow, h2] using hj
      | false =>
        rw [hl] at hj
        simpa using hj
section
variable {g : G} {w : World} {H : MH}
theorem Le.drew (g : G) (w : World) : Le g w g w.drew := ⟨fun _ _ e => e, fun _ _ e => e, fun _ => Nat.le_refl _, fun _ _ _ => rfl, fun _ _ e => e⟩
theorem Evo.drew (g : G) (w : World) : Evo g w g w.drew := ⟨Le.drew g w, Nat.le_refl _, rfl, rfl, rfl, fun _ _ h => ⟨rfl, h, rfl⟩⟩
theorem HR.drew (h : HR g w H) : HR g w.drew H := h.move (Le.drew g w) rfl rfl (fun _ _ => ⟨rfl, rfl, rfl⟩) (fun b id hb e => by rw [hb] at e; cases e) h.new
/-- A new row of an object. -/
theorem row_new (h : HR g w H) {te : Nat} {cur : Array Value} {e n sz cap : Nat} (hte : te = 0 ∨ te = e) {l : List FV} {cs rest : List Value} (hX : cur.toList = cs ++ rest) (hv : VRs g w l cs) (h1 : ∀ y ∈ cs, y.oneCell' = true) (hn : n ≤ cap) (hc : cap * sz ≤ cur.size) :
    ∃ g', HR g' (w.drew.alloc (.cells cur e)) (newRow te sz n l H).H ∧ VR g' (w.drew.alloc (.cells cur e)) (newRow te sz n l H).v (.slice (some ⟨w.heap.size, 0, none⟩) n cap) ∧ Evo g w g' (w.drew.alloc (.cells cur e)) := by
  have ev := (Evo.drew g w).trans (Evo.obj h.drew false (.cells cur e))
  have hh := heap_new w.drew (.cells cur e)
  refine ⟨_, HR.obj' h.drew false (.cells cur e) ⟨8, te, 0, l⟩ (.row rfl hte hh hX (VRs.le ev.le _ _ hv) h1), ?_, ev⟩
  exact VR.of_row (if_pos rfl) hn ⟨cur, e, _, hh, hc⟩
theorem tok_next (H : MH) (t : Nat) : (H.tok t).next = H.next + 2 ∧ (H.tok t).objs = H.objs ∧ (H.tok t).bx = H.bx := ⟨rfl, rfl, rfl⟩
theorem tok_get (H : MH) (t j : Nat) : (H.tok t).get j = H.get j := rfl
/-- The heap, when a token dies and another comes, for a block that was no object's. -/
theorem HR.tok' {g' : G} {w' : World} {t blk n : Nat} (h : HR g w H) (le : Le g w g' w') (hphi : g'.φ = g.φ) (htau : g'.τ = fun j => if j = H.next then some (blk, n) else g.τ j) (hρ : g'.ρ = fun b => if b = blk then .tok H.next else g.ρ b) (hι : g'.ι = fun b => if b = blk then n else g.ι b)
    (hb : ∀ id, g.ρ blk ≠ .obj id) (ht : ∀ j, g.ρ blk = .tok j → j = t) (hw : ∀ b, b ≠ blk → b < w.heap.size → w'.heap[b]? = w.heap[b]?) (hs : blk < w'.heap.size ∧ w.heap.size ≤ w'.heap.size) (hf : Fre w' blk) : HR g' w' (H.tok t) := by
  have hev := h.even
  have htwo := h.two
  refine ⟨h.fallO.mono (by rw [(tok_next H t).1]; omega), h.fallB.mono (by rw [(tok_next H t).1]; omega), by rw [(tok_next H t).1]; omega, by rw [(tok_next H t).1]; omega, fun id b hq => ?_, ?_, fun j p hp => ?_, fun id hk => ?_, fun j hj => ?_, fun b id hq => ?_, fun b hq => ?_⟩
  · rw [hphi] at hq
    rw [(tok_next H t).1]
    have := h.phi id b hq
    omega
  · rw [hphi, (tok_next H t).1]
    cases hq : g.φ (H.next + 2) with
    | none => rfl
    | some b => have := h.phi _ b hq; omega
  · rw [htau] at hp
    dsimp only at hp
    rw [(tok_next H t).1]
    split at hp
    · omega
    · have := h.tau j p hp; omega
  · rw [tok_get] at hk ⊢
    obtain ⟨b, q1, q2, q3⟩ := h.obj id hk
    have hne : b ≠ blk := fun e => hb id (e ▸ q2)
    have hlt : b < w.heap.size := by
      rcases Nat.lt_or_ge b w.heap.size with h' | h'
      · exact h'
      · rw [(h.new b h').1] at q2; cases q2
    refine ⟨b, by rw [hphi]; exact q1, by rw [hρ]; exact (if_neg hne).trans q2, q3.move le (hw b hne hlt)⟩
  · rcases isLive_tok hj with e | ⟨e1, e2⟩
    · exact ⟨blk, n, by rw [htau]; exact if_pos e, by rw [hρ, e]; exact if_pos rfl, by rw [hι]; exact if_pos rfl, hf⟩
    · obtain ⟨b, m, q1, q2, q3, ⟨cur, e, q4⟩⟩ := h.tok j e2
      have hne : b ≠ blk := fun e => e1 (ht j (e ▸ q2))
      have hjn : j ≠ H.next := fun e => by have := h.tau j _ q1; omega
      exact ⟨b, m, by rw [htau]; exact (if_neg hjn).trans q1, by rw [hρ]; exact (if_neg hne).trans q2, by rw [hι]; exact (if_neg hne).trans q3, ⟨cur, e, (hw b hne (Array.getElem?_eq_some_iff.1 q4).1).trans q4⟩⟩
  · rw [hρ] at hq
    rw [hι]
    dsimp only at hq ⊢
    split at hq
    · cases hq
    · rename_i hne
      rw [if_neg hne]
      exact h.mbl b id hq
  · have hne : b ≠ blk := by omega
    rw [hρ, hι]
    dsimp only
    rw [if_neg hne, if_neg hne]
    exact h.new b (by omega)
def G.tk (g : G) (H : MH) (blk n : Nat) : G := ⟨g.φ, fun b => if b = blk then n else g.ι b, fun j => if j = H.next then some (blk, n) else g.τ j, fun b => if b = blk then .tok H.next else g.ρ b⟩
/-- A new row by value. -/
theorem tok_new (h : HR g w H) (t : Nat) {cur : Array Value} {e sz cap : Nat} {ys : List FV} {cs rest : List Value} (hX : cur.toList = cs ++ rest) (hv : VRe g w sz ys cs) (hn : ys.length ≤ cap) (hc : cap * sz ≤ cur.size) :
    ∃ g', HR g' (w.drew.alloc (.cells cur e)) (H.tok t) ∧ VR g' (w.drew.alloc (.cells cur e)) ⟨7, H.next, sz, ys⟩ (.slice (some ⟨w.heap.size, 0, none⟩) ys.length cap) ∧ Evo g w g' (w.drew.alloc (.cells cur e)) := by
  have hh := heap_new w.drew (.cells cur e)
  have hold : ∀ b, b ≠ w.heap.size → (w.drew.alloc (.cells cur e)).heap[b]? = w.heap[b]? := fun b hb => heap_old w.drew _ hb
  have hsz : (w.drew.alloc (.cells cur e)).heap.size = w.heap.size + 1 := size_alloc w.drew _
  have htau : ∀ j p, g.τ j = some p → (g.tk H w.heap.size cs.length).τ j = some p := fun j p hp => by
    have : j ≠ H.next := fun e => by have := h.tau j p hp; omega
    exact (if_neg this).trans hp
  have le : Le g w (g.tk H w.heap.size cs.length) (w.drew.alloc (.cells cur e)) := by
    refine ⟨fun _ _ e => e, htau, fun b => ?_, fun b i hi => ?_, fun b n e => e.alloc (w := w.drew) _⟩
    · show g.ι b ≤ if b = w.heap.size then cs.length else g.ι b
      split
      · rename_i hb; rw [(h.new b (by omega)).2]; exact Nat.zero_le _
      · exact Nat.le_refl _
    · have hb : b ≠ w.heap.size := fun e => by rw [(h.new b (by omega)).2] at hi; omega
      simp only [World.cell?, hold b hb]
  have ev : Evo g w (g.tk H w.heap.size cs.length) (w.drew.alloc (.cells cur e)) := by
    refine ⟨le, by rw [hsz]; omega, rfl, rfl, rfl, fun b hb hr => ?_⟩
    have hne : b ≠ w.heap.size := by omega
    exact ⟨hold b hne, (if_neg hne).trans hr, if_neg hne⟩
  have hnew := h.new w.heap.size (Nat.le_refl _)
  refine ⟨_, h.tok' (t := t) le rfl rfl rfl rfl (fun id e => by rw [hnew.1] at e; cases e) (fun j e => by rw [hnew.1] at e; cases e) (fun b hb _ => hold b hb) ⟨by rw [hsz]; omega, by rw [hsz]; omega⟩ ⟨cur, e, hh⟩, ?_, ev⟩
  have htwo := h.two
  refine VR.of_sl (cs := cs) hn ?_ ?_ (VRe.le le _ _ hv) (fun e => by have := h.even; omega) (fun _ => ⟨rfl, if_pos rfl, ⟨cur, e, _, hh, hc⟩⟩)
  · have : (g.tk H w.heap.size cs.length).ι w.heap.size = cs.length := if_pos rfl
    rw [this]; omega
  · intro i u hu
    refine Rows.block hh i u ?_
    rw [hX, List.getElem?_append_left (List.getElem?_eq_some_iff.1 hu).1]
    exact hu
/-- A row by value is made longer where it lies. -/
theorem tok_room (h : HR g w H) {t blk e e2 sz cap : Nat} {cur cur' : Array Value} {ys : List FV} {cs rest : List Value} {m : Nat} (ht : g.τ t = some (blk, m)) (hρ : g.ρ blk = .tok t) (hι : g.ι blk = m) (hh : w.heap[blk]? = some (.cells cur e (0, 0)))
    {w' : World} (hh' : w'.heap[blk]? = some (.cells cur' e2 (0, 0))) (hw : ∀ b, b ≠ blk → w'.heap[b]? = w.heap[b]?) (hsize : w'.heap.size = w.heap.size) (ho : w'.os = w.os ∧ w'.tape = w.tape ∧ w'.output = w.output) (hX : cur'.toList = cs ++ rest) (hm : m ≤ cs.length) (hkeep : ∀ i, i < m → cur'.toList[i]? = cur.toList[i]?) (hv : VRe g w sz ys cs) (hn : ys.length ≤ cap) (hc : cap * sz ≤ cur'.size) (hcs : cur.size ≤ cur'.size) :
    ∃ g', HR g' w' (H.tok t) ∧ VR g' w' ⟨7, H.next, sz, ys⟩ (.slice (some ⟨blk, 0, none⟩) ys.length cap) ∧ Evo g w g' w' := by
  have htau : ∀ j p, g.τ j = some p → (g.tk H blk cs.length).τ j = some p := fun j p hp => by
    have : j ≠ H.next := fun e => by have := h.tau j p hp; omega
    exact (if_neg this).trans hp
  have hlt : blk < w.heap.size := (Array.getElem?_eq_some_iff.1 hh).1
  have le : Le g w (g.tk H blk cs.length) w' := by
    refine ⟨fun _ _ e => e, htau, fun b => ?_, fun b i hi => ?_, fun b n e => ?_⟩
    · show g.ι b ≤ if b = blk then cs.length else g.ι b
      split
      · rename_i hb; rw [hb, hι]; exact hm
      · exact Nat.le_refl _
    · by_cases hb : b = blk
      · subst hb
        have := hkeep i (by omega)
        simpa [World.cell?, hh, hh'] using this
      · simp only [World.cell?, hw b hb]
    · obtain ⟨cur2, e3, fz, k1, k2⟩ := e
      by_cases hb : b = blk
      · subst hb
        rw [hh] at k1
        injection k1 with k1
        injection k1 with k1
        subst k1
        exact ⟨_, _, _, hh', by omega⟩
      · exact ⟨cur2, e3, fz, (hw b hb).trans k1, k2⟩
  have ev : Evo g w (g.tk H blk cs.length) w' := by
    refine ⟨le, by rw [hsize]; exact Nat.le_refl _, ho.1, ho.2.1, ho.2.2, fun b hb hr => ?_⟩
    have hne : b ≠ blk := fun e => by rw [e, hρ] at hr; cases hr
    exact ⟨hw b hne, (if_neg hne).trans hr, if_neg hne⟩
  refine ⟨_, h.tok' (t := t) le rfl rfl rfl rfl (fun id e => by rw [hρ] at e; cases e) (fun j e => by rw [hρ] at e; injection e with e; exact e.symm) (fun b hb _ => hw b hb) ⟨by omega, by omega⟩ ⟨cur', e2, hh'⟩, ?_, ev⟩
  have htwo := h.two
  refine VR.of_sl (cs := cs) hn ?_ ?_ (VRe.le le _ _ hv) (fun e => by have := h.even; omega) (fun _ => ⟨rfl, if_pos rfl, ⟨cur', e2, _, hh', hc⟩⟩)
  · have : (g.tk H blk cs.length).ι blk = cs.length := if_pos rfl
    rw [this]; omega
  · intro i u hu
    refine Rows.block hh' i u ?_
    rw [hX, List.getElem?_append_left (List.getElem?_eq_some_iff.1 hu).1]
    exact hu
def G.re (g : G) (H : MH) (blk : Nat) : G := { g with φ := fun j => if j = H.next then some blk else g.φ j, ρ := fun b => if b = blk then .obj H.next else g.ρ b }
/-- An object's row is made longer where it lies: it is another object then. -/
theorem row_room (h : HR g w H) {te id blk e e2 n sz cap : Nat} {cur cur' : Array Value} {l : List FV} {cs rest : List Value} (hte : te = 0 ∨ te = e2) (hφ : g.φ id = some blk) (hρ : g.ρ blk = .obj id) (hh : w.heap[blk]? = some (.cells cur e (0, 0)))
    {w' : World} (hh' : w'.heap[blk]? = some (.cells cur' e2 (0, 0))) (hw : ∀ b, b ≠ blk → w'.heap[b]? = w.heap[b]?) (hsize : w'.heap.size = w.heap.size) (ho : w'.os = w.os ∧ w'.tape = w.tape ∧ w'.output = w.output) (hX : cur'.toList = cs ++ rest) (hv : VRs g w l cs) (h1 : ∀ y ∈ cs, y.oneCell' = true) (hn : n ≤ cap) (hc : cap * sz ≤ cur'.size) (hcs : cur.size ≤ cur'.size) :
    ∃ g', HR g' w' (newRow te sz n l (H.del id)).H ∧ VR g' w' (newRow te sz n l (H.del id)).v (.slice (some ⟨blk, 0, none⟩) n cap) ∧ Evo g w g' w' := by
  have hd := h.del id
  have hdn : (H.del id).next = H.next ∧ (H.del id).live = H.live := by unfold MH.del; cases ev id <;> exact ⟨rfl, rfl⟩
  have hev := h.even
  have hphi : ∀ j b, g.φ j = some b → (g.re H blk).φ j = some b := fun j b hp => by
    have : j ≠ H.next := fun e => by rw [e, h.phi2] at hp; cases hp
    exact (if_neg this).trans hp
  have le : Le g w (g.re H blk) w' := by
    refine ⟨hphi, fun _ _ e => e, fun b => Nat.le_refl _, fun b i hi => ?_, fun b n e => ?_⟩
    · have hb : b ≠ blk := fun e => by rw [e, h.mbl blk id hρ] at hi; omega
      simp only [World.cell?, hw b hb]
    · obtain ⟨cur2, e3, fz, k1, k2⟩ := e
      by_cases hb : b = blk
      · subst hb
        rw [hh] at k1
        injection k1 with k1
        injection k1 with k1
        subst k1
        exact ⟨_, _, _, hh', by omega⟩
      · exact ⟨cur2, e3, fz, (hw b hb).trans k1, k2⟩
  have ev : Evo g w (g.re H blk) w' := by
    refine ⟨le, by rw [hsize]; exact Nat.le_refl _, ho.1, ho.2.1, ho.2.2, fun b hb hr => ?_⟩
    have hne : b ≠ blk := fun e => by rw [e, hρ] at hr; cases hr
    exact ⟨hw b hne, (if_neg hne).trans hr, rfl⟩
  have hlt : blk < w.heap.size := (Array.getElem?_eq_some_iff.1 hh).1
  have hnid : (H.del id).nid false = H.next := hdn.1
  have hnn : ((H.del id).new false ⟨8, te, 0, l⟩).next = H.next + 2 := by rw [(new_next _ _ _).1, hdn.1]
  refine ⟨g.re H blk, ?_, ?_, ev⟩
  · show HR (g.re H blk) w' ((H.del id).new false ⟨8, te, 0, l⟩)
    refine ⟨?_, ?_, by rw [hnn]; omega, by rw [hnn]; omega, fun j b hb => ?_, ?_, fun t p hp => by rw [hnn]; have := h.tau t p hp; omega, fun j hk => ?_, fun t ht => ?_, fun b j hb => ?_, fun b hb => ?_⟩
    · rw [hnn]
      refine ⟨by show (H.del id).next < H.next + 2; rw [hdn.1]; omega, hd.fallO⟩
    · rw [hnn]
      refine Fall.mono hd.fallB ?_
      rw [hdn.1]; omega
    · rw [hnn]
      have hb : (if j = H.next then some blk else g.φ j) = some b := hb
      split at hb
      · omega
      · have := h.phi j b hb; omega
    · rw [hnn]
      show (if H.next + 2 = H.next then some blk else g.φ (H.next + 2)) = none
      rw [if_neg (by omega)]
      cases hq : g.φ (H.next + 2) with
      | none => rfl
      | some b => have := h.phi _ b hq; omega
    · rcases MH.get_new hd false ⟨8, te, 0, l⟩ j with ⟨e1, e2⟩ | ⟨e1, e2⟩
      · rw [hnid] at e1
        rw [e2]
        exact ⟨blk, if_pos e1, by rw [e1]; exact if_pos rfl, .row rfl hte hh' hX (VRs.le le _ _ hv) h1⟩
      · rw [hnid] at e1
        rw [e2] at hk ⊢
        rcases MH.get_del h id j with e | ⟨e3, e4⟩
        · rw [e] at hk; exact absurd rfl hk
        · rw [e4] at hk ⊢
          obtain ⟨b, q1, q2, q3⟩ := h.obj j hk
          have hb : b ≠ blk := fun e => by rw [e, hρ] at q2; injection q2 with q2; exact e3 q2.symm
          exact ⟨b, hphi j b q1, (if_neg hb).trans q2, q3.move le (hw b hb)⟩
    · have ht : H.isLive t = true := by
        unfold MH.isLive at ht ⊢
        rwa [(new_next _ _ _).2, hdn.2] at ht
      obtain ⟨b, m, q1, q2, q3, ⟨cu, e, q4⟩⟩ := h.tok t ht
      have hb : b ≠ blk := fun e => by rw [e, hρ] at q2; cases q2
      exact ⟨b, m, q1, (if_neg hb).trans q2, q3, ⟨cu, e, (hw b hb).trans q4⟩⟩
    · have hb : (if b = blk then Role.obj H.next else g.ρ b) = .obj j := hb
      show g.ι b = 0
      split at hb
      · rename_i e; rw [e]; exact h.mbl blk id hρ
      · exact h.mbl b j hb
    · have hne : b ≠ blk := by omega
      have := h.new b (by omega)
      exact ⟨(if_neg hne).trans this.1, this.2⟩
  · show VR (g.re H blk) w' ⟨8, (H.del id).next, n, [szF sz]⟩ _
    rw [hdn.1]
    exact VR.of_row (if_pos rfl) hn ⟨cur', e2, _, hh', hc⟩
end
end Go.Proofs.YtkdpinpmjkomoaaGreatDoor.E
/- A reckoner for closed calls (O16): append. -/
namespace Go.Proofs.YtkdpinpmjkomoaaGreatDoor.E
open Go

section
variable {g : G} {w : World} {H : MH} {P : Program}
theorem flat_spec {sz : Nat} : ∀ {ys : List FV} {news : List Value}, VRe g w sz ys news → allF okF ys = true → VRs g w (flatF ys) news
  | [], _, h, _ => by rw [h.nil_iff]; exact VRs.nil'
  | y :: ys, _, h, ha => by
    obtain ⟨x, xs, rfl, _, hv, hs⟩ := h.cons_iff
    have ha : an (okF y) (allF okF ys) = true := ha
    obtain ⟨a1, a2⟩ := an_iff.1 ha
    show VRs g w (appF (cells y) (flatF ys)) _
    rw [appF_eq]
    exact (ok_cells hv a1).append (flat_spec hs a2)
theorem els_spec {sz : Nat} {x : FV} {xv : Value} (hH : HR g w H) (hx : VR g w x xv) (h : elsOk sz x H = true) (h1 : 1 ≤ sz) : ∃ news bd c, xv = .slice bd (elsF sz x H).length c ∧ VRe g w sz (elsF sz x H) news ∧ (0 < (elsF sz x H).length → ∃ ad, bd = some ad ∧ ∀ j u, news[j]? = some u → w.cell? (ad.add j) = some u) ∧ lenV x = (elsF sz x H).length := by
  unfold elsOk at h
  rcases orr_iff.1 h with k | k
  · have k := beqK k
    have e : elsF sz x H = [] := by unfold elsF; rw [k]; rfl
    have e2 : lenV x = 0 := by unfold lenV; rw [k]; rfl
    rw [e, e2]
    exact ⟨[], none, 0, hx.vk.nils k, VRe.nil', fun h => absurd h (by simp), rfl⟩
  · rcases orr_iff.1 k with k | k
    · obtain ⟨k1, k2⟩ := an_iff.1 k
      have k1 := beqK k1
      have e : elsF sz x H = x.l := by unfold elsF; rw [k1]; rfl
      have e2 : lenV x = x.l.length := by unfold lenV; rw [k1]; exact lenL_eq _
      rw [e, e2]
      obtain ⟨b, off, cap, cs, rfl, h2, h3, h4, h5, _⟩ := hx.vk.sl k1
      rw [beqK k2] at h5
      exact ⟨cs, _, _, rfl, h5, fun _ => ⟨_, rfl, fun j u hu => by rw [add_lit]; exact h4 j u hu⟩, rfl⟩
    · obtain ⟨k1, k2⟩ := an_iff.1 k
      obtain ⟨k2, k3⟩ := an_iff.1 k2
      obtain ⟨k3, k4⟩ := an_iff.1 k3
      have k1 := beqK k1
      have k2 := beqK k2
      have k3 := beqK k3
      have k4 : x.b * sz ≤ (H.get x.a).l.length := geF_eq k4
      have e : elsF sz x H = chunkF sz x.b (H.get x.a).l := by unfold elsF; rw [k1]; rfl
      have e2 : lenV x = x.b := by unfold lenV; rw [k1]; rfl
      have e3 := chunkF_length sz x.b (H.get x.a).l
      rw [e, e2, e3]
      obtain ⟨blk, cap, p1, rfl, p3, p4⟩ := hx.vk.row k1
      obtain ⟨blk', q1, q2, q3⟩ := hH.obj x.a (by omega)
      rw [p1] at q1
      injection q1 with q1
      subst q1
      cases q3 with
      | row _ hte hh hcr hvs hone =>
        rename_i cur e4 cs rest
        refine ⟨cs.take (x.b * sz), _, _, rfl, chunkF_spec h1 x.b _ cs hvs hone k4, fun _ => ⟨_, rfl, fun j u hu => ?_⟩, rfl⟩
        rw [add_lit]
        rw [List.getElem?_take] at hu
        split at hu
        · refine Rows.block hh _ u ?_
          rw [hcr, List.getElem?_append_left (List.getElem?_eq_some_iff.1 hu).1]
          exact hu
        · cases hu
      | cells hk => omega
      | map hk => omega
      | iter hk => omega
/-- What a slice is, whatever its kind. -/
theorem sl_any {s : FV} {sv : Value} (hs : VR g w s sv) (h : isSl s = true) : ∃ b n cap, sv = .slice b n cap ∧ n ≤ cap ∧ lenV s = n := by
  unfold isSl at h
  rcases orr_iff.1 h with k | k
  · have k := beqK k
    exact ⟨none, 0, 0, hs.vk.nils k, Nat.le_refl _, by unfold lenV; rw [k]; rfl⟩
  · rcases orr_iff.1 k with k | k
    · have k := beqK k
      obtain ⟨b, off, cap, cs, e, h2, _⟩ := hs.vk.sl k
      exact ⟨_, _, cap, e, h2, by unfold lenV; rw [k]; exact lenL_eq _⟩
    · have k := beqK k
      obtain ⟨b, cap, _, e, h2, _⟩ := hs.vk.row k
      exact ⟨_, _, cap, e, h2, by unfold lenV; rw [k]; rfl⟩
/-- What an append answers. -/
def ApA (P : Program) (g : G) (w : World) (t u ty : Nat) (sv xv : Value) (r : VH) : Prop := r.v.k ≠ 99 → ∃ g' w' z, (Builtin.append_ #[t, u] ty #[sv, xv]).run P w = .ok z w' ∧ HR g' w' r.H ∧ VR g' w' r.v z ∧ Evo g w g' w'
variable {t u ty e sz by' m : Nat} {s : FV} {sv xv : Value} {ys : List FV} {news : List Value}
theorem setRow_os (w : World) (b : Nat) (cs : Array Value) : (w.setRow b cs).os = w.os ∧ (w.setRow b cs).tape = w.tape ∧ (w.setRow b cs).output = w.output := ⟨rfl, rfl, rfl⟩
theorem apR_spec (S : SrcR P w t u ty e sz by' xv m news) (hH : HR g w H) (hy : VRe g w sz ys news) (hl : ys.length = m) (hm : 0 < m) (_h1 : 1 ≤ sz) (hs : VR g w s sv) (hk8 : s.k = 8) (hb1 : s.b + m ≤ 1000000) (hb2 : (s.b + m) * by' ≤ 140737488355328) : ApA P g w t u ty sv xv (apR e sz s ys (H.get s.a) H) := by
  unfold apR
  cases hc : an (allF okF ys) (an (Nat.beq (E.hd s.l).a sz) (an (Nat.beq (H.get s.a).k 8) (geF (H.get s.a).l (Nat.mul s.b sz)))) with
  | false => exact fun e => absurd rfl e
  | true =>
    intro _
    obtain ⟨c1, c2⟩ := an_iff.1 hc
    obtain ⟨c2, c3⟩ := an_iff.1 c2
    obtain ⟨c3, c4⟩ := an_iff.1 c3
    have c3 := beqK c3
    have c4 : s.b * sz ≤ (H.get s.a).l.length := geF_eq c4
    obtain ⟨blk, cap, p1, rfl, p3, p4⟩ := hs.vk.row hk8
    rw [beqK c2] at p4
    obtain ⟨blk', q1, q2, q3⟩ := hH.obj s.a (by omega)
    rw [p1] at q1
    injection q1 with q1
    subst q1
    cases q3 with
    | cells hk => omega
    | map hk => omega
    | iter hk => omega
    | row _ hte hh hcr hvs hone =>
      rename_i cur e2 cs rest
      have hcl := hvs.length
      have hnl := S.len
      have hones : ∀ y ∈ cs.take (s.b * sz) ++ news, y.oneCell' = true := by
        intro y hy'
        rcases List.mem_append.1 hy' with h | h
        · exact hone y (List.mem_of_mem_take h)
        · exact hy.ones y h
      have hflat := flat_spec hy c1
      have hl' : VRs g w (appF (takeF (Nat.mul s.b sz) (H.get s.a).l) (flatF ys)) (cs.take (s.b * sz) ++ news) := by
        rw [appF_eq, takeF_eq]
        exact hvs.take.append hflat
      have hlen : Nat.add s.b (lenL ys) = s.b + m := by show s.b + lenL ys = _; rw [lenL_eq, hl]
      rw [hlen]
      have hte1 : (Bool.rec 0 e (Nat.beq (H.get s.a).a e) : Nat) = 0 ∨ (Bool.rec 0 e (Nat.beq (H.get s.a).a e) : Nat) = e := by cases Nat.beq (H.get s.a).a e; exact .inl rfl; exact .inr rfl
      have hte2 : (Bool.rec 0 e (Nat.beq (H.get s.a).a e) : Nat) = 0 ∨ (Bool.rec 0 e (Nat.beq (H.get s.a).a e) : Nat) = e2 := by
        cases hb : Nat.beq (H.get s.a).a e with
        | false => exact .inl rfl
        | true => have := beqK hb; rw [← this]; exact hte
      have htake : cur.toList.take (s.b * sz) = cs.take (s.b * sz) := by rw [hcr, List.take_append_of_le_length (by omega)]
      obtain ⟨cur0, e0, fz0, hh0, hsz0⟩ := p4
      rw [hh] at hh0
      injection hh0 with hh0
      injection hh0 with hh0
      subst hh0
      by_cases hroom : s.b + m ≤ cap
      · have hle : (s.b + m) * sz ≤ cap * sz := Nat.mul_le_mul_right _ hroom
        have hfit : s.b * sz + news.length ≤ cur.size := by rw [hnl, ← Nat.add_mul]; omega
        have hr := S.room hm blk s.b cap cur e2 hh hroom hfit
        have hsize : (cur.toList.take (s.b * sz) ++ news ++ cur.toList.drop (s.b * sz + news.length)).toArray.size = cur.size := by
          simp only [List.size_toArray, List.length_append, List.length_take, List.length_drop, Array.length_toList]
          omega
        obtain ⟨g', k1, k2, k3⟩ := row_room (cur' := (cur.toList.take (s.b * sz) ++ news ++ cur.toList.drop (s.b * sz + news.length)).toArray) (n := s.b + m) (sz := sz) (cap := cap) hH hte2 p1 q2 hh (setRow_heap w blk cur _ e2 (0, 0) hh) (fun b hb => setRow_other w blk b _ hb) (by simp) (setRow_os _ _ _) (cs := cs.take (s.b * sz) ++ news) (rest := cur.toList.drop (s.b * sz + news.length)) (by rw [← htake]) hl' hones hroom (by rw [hsize]; exact hsz0) (by rw [hsize]; exact Nat.le_refl _)
        exact ⟨g', _, _, hr, k1, k2, k3⟩
      · obtain ⟨cap', rest', r1, r2, r3⟩ := S.grow hm ⟨blk, 0, none⟩ s.b cap (cs.take (s.b * sz)) (by rw [List.length_take]; omega) (fun j v hj => by
          rw [add_lit]
          refine Rows.block hh _ v ?_
          rw [hcr, List.getElem?_append_left]
          · rw [List.getElem?_take] at hj; split at hj
            · exact hj
            · cases hj
          · have := (List.getElem?_eq_some_iff.1 hj).1
            rw [List.length_take] at this
            omega) (by omega) hb1 hb2
        obtain ⟨g', k1, k2, k3⟩ := row_new (hH.del s.a) hte1 (cur := (cs.take (s.b * sz)).toArray ++ news.toArray ++ rest') (e := e) (n := s.b + m) (sz := sz) (cap := cap') (cs := cs.take (s.b * sz) ++ news) (rest := rest'.toList) (by simp) hl' hones r1 (by simp only [Array.size_append, List.size_toArray]; omega)
        exact ⟨g', _, _, r3, k1, k2, k3⟩
/-- A new row, by value or an object's. -/
theorem fresh_spec (hH : HR g w H) (rowy : Bool) (q : Nat) {zs : List FV} {cs : List Value} {cur : Array Value} {rest : List Value} {cap : Nat} (hv : VRe g w sz zs cs) (hX : cur.toList = cs ++ rest) (hn : zs.length ≤ cap) (hc : cap * sz ≤ cur.size) {r : VH}
    (hr : r = (Bool.rec ⟨⟨7, H.next, sz, zs⟩, H.tok q⟩ (rowN e sz zs H) rowy : VH)) (hk : r.v.k ≠ 99) : ∃ g', HR g' (w.drew.alloc (.cells cur e)) r.H ∧ VR g' (w.drew.alloc (.cells cur e)) r.v (.slice (some ⟨w.heap.size, 0, none⟩) zs.length cap) ∧ Evo g w g' (w.drew.alloc (.cells cur e)) := by
  cases rowy with
  | false =>
    subst hr
    exact tok_new hH q hX hv hn hc
  | true =>
    have hr : r = rowN e sz zs H := hr
    subst hr
    unfold rowN at hk ⊢
    cases ha : allF okF zs with
    | false => rw [ha] at hk; exact absurd rfl hk
    | true =>
      show ∃ g', HR g' _ (newRow e sz (lenL zs) (flatF zs) H).H ∧ VR g' _ (newRow e sz (lenL zs) (flatF zs) H).v _ ∧ _
      rw [lenL_eq]
      exact row_new hH (.inr rfl) hX (flat_spec hv ha) hv.ones hn hc
theorem ap_spec (rowy : Bool) (S : SrcR P w t u ty e sz by' xv m news) (hH : HR g w H) (hy : VRe g w sz ys news) (hl : ys.length = m) (h1 : 1 ≤ sz) (hs : VR g w s sv) (hsl : isSl s = true) (hb1 : lenV s + m ≤ 1000000) (hb2 : (lenV s + m) * by' ≤ 140737488355328) : ApA P g w t u ty sv xv (ap rowy e sz s ys H) := by
  unfold ap
  have hnl := S.len
  cases h0 : Nat.beq (lenL ys) 0 with
  | true =>
    intro _
    have h0 := beqK h0
    rw [lenL_eq] at h0
    obtain ⟨b, n, cap, rfl, hle, _⟩ := sl_any hs hsl
    exact ⟨g, w, _, S.same (by omega) b n cap hle, hH, hs, Evo.refl g w⟩
  | false =>
    have hm : 0 < m := by
      rcases Nat.eq_zero_or_pos m with e | e
      · rw [lenL_eq, hl, e] at h0; cases h0
      · exact e
    dsimp only
    cases h8 : Nat.beq s.k 8 with
    | true =>
      have h8 := beqK h8
      have el0 : lenV s = s.b := by unfold lenV; rw [h8]; rfl
      rw [el0] at hb1 hb2
      exact apR_spec S hH hy hl hm h1 hs h8 hb1 hb2
    | false =>
      dsimp only
      cases h6 : Nat.beq s.k 6 with
      | true =>
        have h6 := beqK h6
        have el0 : lenV s = 0 := by unfold lenV; rw [h6]; rfl
        rw [el0, Nat.zero_add] at hb1 hb2
        have ev := hs.vk.nils h6
        subst ev
        intro hk
        obtain ⟨cap, rest, r1, r2, r3⟩ := S.nil hm hb1 hb2
        obtain ⟨g', k1, k2, k3⟩ := fresh_spec (e := e) hH rowy 0 hy (cur := news.toArray ++ rest) (rest := rest.toList) (by simp) (by omega) (cap := cap) (by simp only [Array.size_append, List.size_toArray]; omega) (r := apN rowy e sz ys H) rfl hk
        rw [hl] at k2
        exact ⟨g', _, _, r3, k1, k2, k3⟩
      | false =>
        dsimp only
        unfold apS
        cases h7 : an (Nat.beq s.k 7) (Nat.beq s.b sz) with
        | false => exact fun e => absurd rfl e
        | true =>
          dsimp only
          obtain ⟨c1, c2⟩ := an_iff.1 h7
          have c1 := beqK c1
          have el : lenV s = s.l.length := by unfold lenV; rw [c1]; exact lenL_eq _
          rw [el] at hb1 hb2
          obtain ⟨blk, off, cap, cs, rfl, v2, v3, v4, v5, v6, v7⟩ := hs.vk.sl c1
          rw [beqK c2] at v5 v7
          have hcl := v5.length
          have hcells : ∀ j v, cs[j]? = some v → w.cell? ((⟨blk, off, none⟩ : Addr).add j) = some v := fun j v hj => by rw [add_lit]; exact v4 j v hj
          have hall := v5.append hy
          have hlen : (s.l ++ ys).length = s.l.length + m := by rw [List.length_append, hl]
          cases h1' : Nat.beq s.a 1 with
          | true =>
            intro hk
            have hcap := v6 (beqK h1')
            obtain ⟨cap', rest', r1, r2, r3⟩ := S.grow hm ⟨blk, off, none⟩ s.l.length cap cs hcl hcells (by omega) hb1 hb2
            obtain ⟨g', k1, k2, k3⟩ := fresh_spec (e := e) hH rowy 0 hall (cur := cs.toArray ++ news.toArray ++ rest') (rest := rest'.toList) (by simp) (by omega) (cap := cap') (by simp only [Array.size_append, List.size_toArray]; omega) (r := ap1 rowy e sz s ys H) (by unfold ap1; rw [appF_eq]) hk
            rw [hlen] at k2
            exact ⟨g', _, _, r3, k1, k2, k3⟩
          | false =>
            dsimp only
            unfold apT
            cases ht : an (Nat.ble 2 s.a) (H.isLive s.a) with
            | false => exact fun e => absurd rfl e
            | true =>
              intro _
              obtain ⟨t1, t2⟩ := an_iff.1 ht
              obtain ⟨rfl, u2, u3⟩ := v7 (Nat.le_of_ble_eq_true t1)
              obtain ⟨blk', n', q1, q2, q3, ⟨cur, e2, hh⟩⟩ := hH.tok s.a t2
              rw [u2] at q1
              injection q1 with q1
              injection q1 with q1 q4
              subst q1
              subst q4
              obtain ⟨cur0, e0, fz0, hh0, hsz⟩ := u3
              rw [hh] at hh0
              injection hh0 with hh0
              injection hh0 with hh0
              subst hh0
              have hcur : ∀ i, i < cs.length → cur.toList[i]? = cs[i]? := fun i hi => by
                have h3 := v4 i cs[i] (List.getElem?_eq_getElem hi)
                simp only [World.cell?, hh, Nat.zero_add] at h3
                rw [List.getElem?_eq_getElem hi]
                simpa using h3
              by_cases hroom : s.l.length + m ≤ cap
              · have hle : (s.l.length + m) * sz ≤ cap * sz := Nat.mul_le_mul_right _ hroom
                have hfit : s.l.length * sz + news.length ≤ cur.size := by rw [hnl, ← Nat.add_mul]; omega
                have hr := S.room hm blk s.l.length cap cur e2 hh hroom hfit
                have htake : cur.toList.take (s.l.length * sz) = cs := by
                  apply List.ext_getElem?
                  intro i
                  rw [List.getElem?_take]
                  by_cases hi : i < s.l.length * sz
                  · rw [if_pos hi]; exact hcur i (by omega)
                  · rw [if_neg hi, List.getElem?_eq_none (by omega)]
                have hsize : (cur.toList.take (s.l.length * sz) ++ news ++ cur.toList.drop (s.l.length * sz + news.length)).toArray.size = cur.size := by
                  simp only [List.size_toArray, List.length_append, List.length_take, List.length_drop, Array.length_toList]
                  omega
                obtain ⟨g', k1, k2, k3⟩ := tok_room (cur' := (cur.toList.take (s.l.length * sz) ++ news ++ cur.toList.drop (s.l.length * sz + news.length)).toArray) (sz := sz) (cap := cap) hH u2 q2 q3 hh (setRow_heap w blk cur _ e2 (0, 0) hh) (fun b hb => setRow_other w blk b _ hb) (by simp) (setRow_os _ _ _) (cs := cs ++ news) (rest := cur.toList.drop (s.l.length * sz + news.length)) (by rw [htake]) (by simp) (fun i hi => by
                  rw [htake]
                  show (cs ++ news ++ _)[i]? = _
                  rw [List.append_assoc, List.getElem?_append_left hi, hcur i hi]) hall (by rw [hlen]; exact hroom) (by rw [hsize]; exact hsz) (by rw [hsize]; exact Nat.le_refl _)
                rw [hlen] at k2
                rw [appF_eq]
                exact ⟨g', _, _, hr, k1, k2, k3⟩
              · obtain ⟨cap', rest', r1, r2, r3⟩ := S.grow hm ⟨blk, 0, none⟩ s.l.length cap cs hcl hcells (by omega) hb1 hb2
                obtain ⟨g', k1, k2, k3⟩ := tok_new hH s.a (cur := cs.toArray ++ news.toArray ++ rest') (e := e) (sz := sz) (cap := cap') (rest := rest'.toList) (by simp) hall (by omega) (by simp only [Array.size_append, List.size_toArray]; omega)
                rw [hlen] at k2
                rw [appF_eq]
                exact ⟨g', _, _, r3, k1, k2, k3⟩
variable {c : Cf} {seen : List Nat} {o : Oper} {C : CO} {a : Act}
theorem eff_append {x y : Operand} {H0 : MH} (ho : o.op = .call { callee := .builtin .append, args := #[x, y], argTypes := #[t, u] }) {r : VH} (h : ApA P g w t u o.type (a.eval x) (a.eval y) r) : Eff P o g w a H0 r := by
  intro hk
  obtain ⟨g', w', z, h1, h2, h3, h4⟩ := h hk
  refine ⟨.value z, g', w', z, ?_, .inl rfl, h2, h3, h4⟩
  obtain ⟨cs, e⟩ := exec_builtin (P := P) (w := w) (a := a) ho
  rw [e]
  simp only [builtin]
  have : (#[x, y].map a.eval) = #[a.eval x, a.eval y] := by simp
  rw [this, Sem.run_bind, h1]
  rfl
theorem typeI {e sz by' : Nat} {z : FV} (h1 : sizeT P e = some sz) (h2 : bytesT P e = some by') (h3 : zeroM P e = some z) : ∃ i zv, P.info? e = some i ∧ i.zero = some zv ∧ i.size = sz ∧ i.bytes = by' ∧ z = constF zv := by
  obtain ⟨i, zv, a1, a2, a3⟩ := zeroM_info h3
  unfold sizeT at h1
  unfold bytesT at h2
  rw [a1] at h1 h2
  injection h1 with h1
  injection h2 with h2
  exact ⟨i, zv, a1, a2, h1, h2, a3⟩
theorem lenOk_spec {n : Nat} (h : lenOk by' n = true) : n ≤ 1000000 ∧ n * by' ≤ 140737488355328 := by
  unfold lenOk at h
  obtain ⟨h1, h2⟩ := an_iff.1 h
  exact ⟨Nat.le_of_ble_eq_true h1, Nat.le_of_ble_eq_true h2⟩
theorem zero_size (w : World) {z : FV} {zv : Value} (h : lenL (cells z) = sz) (hz : z = constF zv) (hk : okF z = true) : zv.cells.size = sz := by
  have hc := ok_cells (g := ⟨fun _ => none, fun _ => 0, fun _ => none, fun _ => .none⟩) (w := w) (constF_spec zv) (hz ▸ hk)
  have := hc.length
  rw [← hz, ← lenL_eq, h] at this
  simpa using this
theorem ok_append (rowy : Bool) {z : FV} {x y : Operand} (ho : o.op = .call { callee := .builtin .append, args := #[x, y], argTypes := #[t, t] }) (he : elemT P t = some e) (hs : sizeT P e = some sz) (hb : bytesT P e = some by') (hz : zeroM P e = some z) (h1 : 1 ≤ sz) (hzs : lenL (cells z) = sz) (hzk : okF z = true) : OpOk P c seen o (ef2 (appendF rowy e sz by') (srcOf c seen x) (srcOf c seen y)) C :=
  ok_ef2 (by simp [clsOf, ho]) (by intro x hx; simpa [opsOf, ho] using hx) (srcOf_ok c seen x) (srcOf_ok c seen y) fun g w a v q H hH hv hq => by
    unfold appendF
    cases hc : an (elsOk sz q H) (an (isSl v) (lenOk by' (Nat.add (lenV v) (lenV q)))) with
    | false => exact fun e => absurd rfl e
    | true =>
      obtain ⟨c1, c2⟩ := an_iff.1 hc
      obtain ⟨d2, c3⟩ := an_iff.1 c2
      obtain ⟨l1, l2⟩ := lenOk_spec c3
      obtain ⟨i, zv, i1, i2, i3, i4, i5⟩ := typeI hs hb hz
      obtain ⟨news, bd, cc, ex, e2, e3, e4⟩ := els_spec hH hq c1 h1
      rw [e4] at l1 l2
      have hsz := zero_size w hzs i5 hzk
      subst i3
      subst i4
      have S : SrcR P w t t o.type e i.size i.bytes (a.eval y) (elsF i.size q H).length news := by
        rw [ex]
        exact SrcR.slice (elemT_spec he) i1 i2 hsz e2.length e3 e2.ones
      exact eff_append ho (ap_spec rowy S hH e2 rfl h1 hv d2 l1 l2)
theorem VRe.replicate {z : FV} {zv : Value} (hz : VR g w z zv) (h : zv.cells.size = sz ∧ ∀ y ∈ zv.cells.toList, y.oneCell' = true) : ∀ n, VRe g w sz (List.replicate n z) (List.replicate n zv.cells.toList).flatten
  | 0 => VRe.nil'
  | n + 1 => by
    rw [List.replicate_succ, List.replicate_succ, List.flatten_cons]
    exact VRe.cons' h hz (VRe.replicate hz h n)
theorem ok_appendZ (rowy : Bool) {z : FV} {kd : IntKind} {x y : Operand} (ho : o.op = .call { callee := .builtin .append, args := #[x, y], argTypes := #[t, u] }) (hu : P.underlying u = some (.int kd)) (he : elemT P t = some e) (hs : sizeT P e = some sz) (hb : bytesT P e = some by') (hz : zeroM P e = some z) (h1 : 1 ≤ sz) : OpOk P c seen o (ef2 (appendZ rowy e sz by' z) (srcOf c seen x) (srcOf c seen y)) C :=
  ok_ef2 (by simp [clsOf, ho]) (by intro x hx; simpa [opsOf, ho] using hx) (srcOf_ok c seen x) (srcOf_ok c seen y) fun g w a v q H hH hv hq => by
    unfold appendZ
    cases hc : an (isNat q) (an (isSl v) (an (elOk sz z) (lenOk by' (Nat.add (lenV v) q.a)))) with
    | false => exact fun e => absurd rfl e
    | true =>
      obtain ⟨c1, c2⟩ := an_iff.1 hc
      obtain ⟨d2, d3⟩ := an_iff.1 c2
      obtain ⟨d3, d4⟩ := an_iff.1 d3
      have l := lenOk_spec d4
      have l1 : lenV v + q.a ≤ 1000000 := l.1
      have l2 : (lenV v + q.a) * by' ≤ 140737488355328 := l.2
      obtain ⟨i, zv, i1, i2, i3, i4, i5⟩ := typeI hs hb hz
      obtain ⟨xk, ex⟩ := hq.isNat c1
      have hzv : VR g w z zv := i5 ▸ constF_spec zv
      have hel := elOk_spec hzv d3
      subst i3
      subst i4
      have hqb : q.a * i.bytes ≤ 140737488355328 := Nat.le_trans (Nat.mul_le_mul_right _ (by omega)) l2
      have S : SrcR P w t u o.type e i.size i.bytes (a.eval y) q.a (Builtin.zeroCells zv.cells q.a).toList := by
        rw [ex]
        exact SrcR.zeros (elemT_spec he) hu i1 i2 hel.1 h1 (by omega) hqb hel.2
      refine eff_append ho (ap_spec rowy S hH ?_ (by simp) h1 hv d2 l1 l2)
      rw [zero_cells]
      exact VRe.replicate hzv hel q.a
end
end Go.Proofs.YtkdpinpmjkomoaaGreatDoor.E
/- A reckoner for closed calls (OC): a text's bytes are appended. -/
namespace Go.Proofs.YtkdpinpmjkomoaaGreatDoor.E
open Go

section
variable {P : Program} {w : World}
theorem SrcR.text {t u ty e : Nat} {i : TypeInfo} {z : Value} (ht : P.underlying t = some (.slice e)) (hu : P.underlying u = some .string) (hi : P.info? e = some i) (hz : i.zero = some z) (hzs : z.cells.size = i.size) (h1 : i.size = 1) (s : ByteArray) : SrcR P w t u ty e 1 i.bytes (.string s) s.size (Lib.strCells s) where
  len := by rw [Lib.strCells_length, Nat.mul_one]
  same h0 b n cap hc := by
    have hn : Lib.strCells s = [] := List.eq_nil_of_length_eq_zero (by rw [Lib.strCells_length]; exact h0)
    have hf := Lib.run_firstCells_string (P := P) w 1 s
    rw [h0] at hf
    cases b <;> simp [Builtin.append_, run_underlying ht, run_underlying hu, sizeOf, typeInfo, hi, h1, Builtin.lenOf, h0, hc, hf, hn, storeCells]
  room hm b n cap cur e2 hh hroom hfit := by
    have hf := Lib.run_firstCells_string (P := P) w 1 s
    have hst := run_storeCells_at P b n e2 (Lib.strCells s) 0 cur w hh (by simpa using hfit) (Lib.strCells_oneCell s)
    simp only [Nat.add_zero, Lib.strCells_length] at hst
    rw [Nat.mul_one, Lib.strCells_length]
    simp [Builtin.append_, run_underlying ht, run_underlying hu, sizeOf, typeInfo, hi, h1, Builtin.lenOf, hroom, hf, Addr.add_lit, hst]
  nil hm hb1 hb2 := by
    have hr := run_append_nil_string (P := P) w t u ty e i z ht hu hi hz s hm (by omega) (by omega)
    have hge := grownCap_ge w s.size 0 e
    have e1 : (s.data.map fun b => Value.int .u8 b.toNat) = (Lib.strCells s).toArray := by
      apply Array.ext'
      simp [Lib.strCells]
    rw [e1] at hr
    refine ⟨grownCap w s.size 0 e, Builtin.zeroCells z.cells (grownCap w s.size 0 e - s.size), hge, ?_, hr⟩
    rw [size_zeroCells, hzs, h1, Lib.strCells_length]
    omega
  grow hm ad n cap olds hol hold hlt hb1 hb2 := by
    have h := Lib.run_append_grow_string (P := P) w t u ty e i z ht hu hi hz ad n cap olds (by rw [h1]; exact hol) hold s hlt (by omega) (growslice_fits hlt hb2)
    have hge := grownCap_ge w (n + s.size) cap e
    refine ⟨grownCap w (n + s.size) cap e, Builtin.zeroCells z.cells (grownCap w (n + s.size) cap e - (n + s.size)), hge, ?_, h⟩
    rw [size_zeroCells, hzs, h1, hol, Lib.strCells_length]
    omega
theorem strCells_dec (a b : Nat) : Lib.strCells (decS a b) = (decL a b).map fun c => Value.int .u8 (c.toNat : Int) := by
  simp [Lib.strCells, decS]
variable {c : Cf} {seen : List Nat} {o : Oper} {C : CO} {t u e : Nat}
theorem ok_appendT (rowy : Bool) {by' : Nat} {z : FV} {x y : Operand} (ho : o.op = .call { callee := .builtin .append, args := #[x, y], argTypes := #[t, u] }) (hu : P.underlying u = some .string) (he : elemT P t = some e) (hs : sizeT P e = some 1) (hb : bytesT P e = some by') (hz : zeroM P e = some z) (hzs : lenL (cells z) = 1) (hzk : okF z = true) : OpOk P c seen o (ef2 (appendT rowy e by') (srcOf c seen x) (srcOf c seen y)) C :=
  ok_ef2 (by simp [clsOf, ho]) (by intro x hx; simpa [opsOf, ho] using hx) (srcOf_ok c seen x) (srcOf_ok c seen y) fun g w a v q H hH hv hq => by
    unfold appendT
    cases hc : an (Nat.beq q.k 2) (an (isSl v) (lenOk by' (Nat.add (lenV v) q.a))) with
    | false => exact fun e => absurd rfl e
    | true =>
      obtain ⟨c1, c2⟩ := an_iff.1 hc
      obtain ⟨d2, c3⟩ := an_iff.1 c2
      have l := lenOk_spec c3
      have l1 : lenV v + q.a ≤ 1000000 := l.1
      have l2 : (lenV v + q.a) * by' ≤ 140737488355328 := l.2
      obtain ⟨i, zv, i1, i2, i3, i4, i5⟩ := typeI hs hb hz
      obtain ⟨hb2, ex⟩ := hq.vk.str (beqK c1)
      have hsz := zero_size w hzs i5 hzk
      have hds : (decS q.a q.b).size = q.a := by
        show (decL q.a q.b).toArray.size = _
        simp [decL_length]
      have hzs2 : zv.cells.size = i.size := by rw [hsz, i3]
      subst i4
      have S : SrcR P w t u o.type e 1 i.bytes (a.eval y) q.a (Lib.strCells (decS q.a q.b)) := by
        have := SrcR.text (w := w) (ty := o.type) (elemT_spec he) hu i1 i2 hzs2 i3 (decS q.a q.b)
        rw [hds] at this
        rw [ex]
        exact this
      refine eff_append ho (ap_spec rowy S hH ?_ (bytes_length q.a q.b) (Nat.le_refl 1) hv d2 l1 l2)
      rw [strCells_dec]
      exact bytes_VRe q.a q.b
end
end Go.Proofs.YtkdpinpmjkomoaaGreatDoor.E
/- A reckoner for closed calls (O17): panics, deferred calls, calls; every operation. -/
namespace Go.Proofs.YtkdpinpmjkomoaaGreatDoor.E
open Go
noncomputable section

/-- What a function's answer is in the world. -/
def ResR (g : G) (w : World) (r : Res) (e : Ending) (w' : World) : Prop := match r with
  | .ret v H _ => ∃ g', Evo g w g' w' ∧ HR g' w' H ∧ ∃ x, e = .returned x ∧ VR g' w' v x
  | .panic ch H _ => ∃ g', Evo g w g' w' ∧ HR g' w' H ∧ ∃ pc, e = .panicked pc ∧ ChR g' w' ch pc
  | .fail => False
def Good (P : Program) (f : Nat) : Prop := ∃ fn b, P.funcs[f]? = some fn ∧ fn.body = some b ∧ (fn.name == "runtime.NumGoroutine") = false
/-- Functions answer as it is reckoned. -/
def SndO (P : Program) (C : CO) : Prop := ∀ f args H, C f args H FF ≠ .fail → Good P f ∧ ∀ g w xs, HR g w H → VRs g w args xs → Calls P f (List.toArray xs) w (ResR g w (C f args H FF))
section
variable {P : Program} {c : Cf} {seen : List Nat} {o : Oper} {C : CO} {g : G} {w : World} {a : Act} {H : MH} {D : List FV}
theorem ok_fail : OpOk P c seen o (fun _ => failO) C :=
  ⟨[], fun _ _ _ => .fail, fun _ _ _ _ => rfl, fun _ _ _ _ _ _ _ _ _ => trivial, fun _ => ⟨fun _ => none, fun _ _ _ => rfl⟩, fun _ => ⟨fun _ _ => none, fun _ _ _ => rfl⟩, by simp, fun _ _ _ _ _ _ h => by cases h⟩
/-! ### panics -/
theorem run_panic {t : Nat} {y : Value} : (Instr.panic (.iface t y)).run P w = .halt (.panic (.iface t y)) w := rfl
def throF (v : FV) (H : MH) : OpRes := cond (Nat.beq v.k 13) (.panic [v, bv false] H) .fail
theorem throV_app (q : Q) (k : KO) (env : Env) (s : S) (v : FV) : throV s v = (throF v s.H).app q k env s := by
  unfold throV throF
  cases Nat.beq v.k 13 <;> rfl
theorem ok_thro {x : Operand} (hc : 2 ≤ clsOf o) (hs : ∀ z ∈ [x], z ∈ opsOf o) (ht : isThr o = true) (h : ∀ (w : World) (a : Act) t y, a.eval x = .iface t y → (execOp a.eval o).run P w = .halt (.panic (.iface t y)) w) : OpOk P c seen o (thro (srcOf c seen x)) C := by
  refine ⟨[x], fun vs H _ => throF (E.hd vs) H, fun q k env s => throV_app q k env s _, fun g w a H D vs hH hD hv => ?_, (fun e => by omega), (fun e => by omega), hs, (fun e => by rw [ht] at e; cases e)⟩
  unfold throF
  cases hb : Nat.beq (E.hd vs).k 13 with
  | false => trivial
  | true =>
    intro next Q hn
    have hv := (vrsC hv).1
    obtain ⟨y, hx, _⟩ := hv.vk.iface (beqK hb)
    unfold Oper.wp
    rw [h w a _ _ hx]
    rw [hx] at hv
    exact hn g w _ hH (.cons hv .nil) (Evo.refl g w)
/-! ### deferred calls -/
theorem run_defer {x : Operand} {args : Array Operand} {ts : Array TypeId} {f : Nat} {zs : Array Value} (ho : o.op = .defer { callee := .value x, args, argTypes := ts }) (hx : a.eval x = .func (.func f) #[] zs) :
    (execOp a.eval o).run P w = .ok (.defer { target := .fn (.func f) zs, args := args.map a.eval }) w := by
  simp [execOp, ho, resolve, hx, Deferred.ofValue]
def defF (f : FV) (vs : List FV) (H : MH) (D : List FV) : OpRes := cond (Nat.beq f.k 11) (.ok UN H (⟨11, f.a, 0, appF vs f.l⟩ :: D)) .fail
theorem defV_app (xs : List Get) (q : Q) (k : KO) (env : Env) (s : S) (f : FV) : defV xs q k env s f = (defF f (gets xs env s.st) s.H s.D).app q k env s := by
  unfold defV defF
  cases Nat.beq f.k 11 <;> rfl
theorem ok_defer {x : Operand} {args : Array Operand} {ts : Array TypeId} (ho : o.op = .defer { callee := .value x, args, argTypes := ts }) : OpOk P c seen o (defG (srcOf c seen x) (args.toList.map (srcOf c seen))) C := by
  refine ⟨x :: args.toList, fun vs H D => defF (E.hd vs) (tl vs) H D, fun q k env s => defV_app _ q k env s _, fun g w a H D vs hH hD hv => ?_, (fun e => by simp [clsOf, ho] at e), (fun e => by simp [clsOf, ho] at e), (by intro x hx; simpa [opsOf, ho] using hx), fun _ vs H D ch H' => by unfold defF; cases Nat.beq (E.hd vs).k 11 <;> (intro h; cases h)⟩
  unfold defF
  cases hb : Nat.beq (E.hd vs).k 11 with
  | false => trivial
  | true =>
    intro next Q hn
    obtain ⟨v1, v2⟩ := vrsC hv
    obtain ⟨cs, hx, hcs⟩ := v1.vk.func (beqK hb)
    unfold Oper.wp
    have e : args.map a.eval = List.toArray (args.toList.map a.eval) := by apply Array.ext'; simp
    rw [run_defer ho hx, e, Oper.upon_defer]
    refine hn g w undef _ hH VR.of_undef (.cons ?_ hD) (Evo.refl g w)
    rw [appF_eq]
    exact v2.append hcs
/-! ### calls -/
theorem run_call {x : Operand} {args : Array Operand} {ts : Array TypeId} {f : Nat} {zs : Array Value} (ho : o.op = .call { callee := .value x, args, argTypes := ts }) (hx : a.eval x = .func (.func f) #[] zs) (hg : Good P f) :
    (execOp a.eval o).run P w = .ok (.enter f (args.map a.eval ++ zs)) w := by
  obtain ⟨fn, b, hf, hb, hn⟩ := hg
  have hb' : fn.body.isNone = false := by rw [hb]; rfl
  have hq : ¬ fn.name = "runtime.NumGoroutine" := by simpa using hn
  simp [execOp, ho, resolve, hx, Deferred.ofValue, invoke, callFunc, hf, hb, hq]
def resC (r : Res) (D : List FV) : OpRes := match r with
  | .ret v H _ => .ok v H D
  | .panic ch H _ => .panic ch H
  | .fail => .fail
theorem finR_app (q : Q) (k : KO) (env : Env) (s : S) (r : Res) : finR q k env s r = (resC r s.D).app q k env s := by
  cases r with
  | ret v H u => exact putH_eq q k env s v H
  | panic => rfl
  | fail => rfl
theorem snd_call (hC : SndO P C) {x : Operand} {args : Array Operand} {ts : Array TypeId} (ho : o.op = .call { callee := .value x, args, argTypes := ts }) {f : Nat} {vs cap : List FV} {zs : List Value} (hx : a.eval x = .func (.func f) #[] (List.toArray zs)) (hH : HR g w H) (hD : DRs g w D a.defers) (hv : VRs g w vs (args.toList.map a.eval)) (hz : VRs g w cap zs) : Snd P o g w a (resC (C f (vs ++ cap) H FF) D) := by
  by_cases hf : C f (vs ++ cap) H FF = .fail
  · rw [hf]; trivial
  · obtain ⟨hg, hs⟩ := hC f (vs ++ cap) H hf
    have hcall := hs g w ((args.toList.map a.eval) ++ zs) hH (hv.append hz)
    have hargs : args.map a.eval ++ List.toArray zs = List.toArray ((args.toList.map a.eval) ++ zs) := by
      apply Array.ext'
      simp
    cases hr : C f (vs ++ cap) H FF with
    | fail => exact absurd hr hf
    | ret v H' u =>
      rw [hr] at hcall
      intro next Q hn
      unfold Oper.wp
      rw [run_call ho hx hg, hargs, Oper.upon_enter]
      refine hcall.mono fun e w' he => ?_
      obtain ⟨g', ev, hh, y, rfl, hv⟩ := he
      exact hn g' w' y a.defers hh hv (hD.le ev.le) ev
    | panic ch H' u =>
      rw [hr] at hcall
      intro next Q hn
      unfold Oper.wp
      rw [run_call ho hx hg, hargs, Oper.upon_enter]
      refine hcall.mono fun e w' he => ?_
      obtain ⟨g', ev, hh, pc, rfl, hch⟩ := he
      exact hn g' w' pc hh hch ev
theorem ok_callK (hC : SndO P C) {f : Nat} {args : Array Operand} {ts : Array TypeId} (ho : o.op = .call { callee := .value (.func f), args, argTypes := ts }) : OpOk P c seen o (callK f (args.toList.map (srcOf c seen))) C := by
  refine ⟨args.toList, fun vs H D => resC (C f vs H FF) D, fun q k env s => finR_app q k env s _, fun g w a H D vs hH hD hv => ?_, (fun e => by simp [clsOf, ho] at e), (fun e => by simp [clsOf, ho] at e), (by intro x hx; first | simpa [opsOf, ho] using hx | (rw [show opsOf o = .func f :: args.toList from by simp [opsOf, ho]]; exact List.mem_cons_of_mem _ hx)), (fun e => by simp [isThr, ho] at e)⟩
  have := snd_call (g := g) (w := w) (a := a) (H := H) (D := D) hC ho (f := f) (zs := []) rfl hH hD hv VRs.nil'
  rwa [List.append_nil] at this
def callF (C : CO) (f : FV) (vs : List FV) (H : MH) (D : List FV) : OpRes := cond (Nat.beq f.k 11) (resC (C f.a (appF vs f.l) H FF) D) .fail
theorem callV_app (xs : List Get) (q : Q) (k : KO) (env : Env) (s : S) (f : FV) : callV xs q C k env s f = (callF C f (gets xs env s.st) s.H s.D).app q k env s := by
  unfold callV callF
  cases Nat.beq f.k 11 with
  | false => rfl
  | true => exact finR_app q k env s _
theorem ok_callG (hC : SndO P C) {x : Operand} {args : Array Operand} {ts : Array TypeId} (ho : o.op = .call { callee := .value x, args, argTypes := ts }) : OpOk P c seen o (callG (srcOf c seen x) (args.toList.map (srcOf c seen))) C := by
  refine ⟨x :: args.toList, fun vs H D => callF C (E.hd vs) (tl vs) H D, fun q k env s => callV_app _ q k env s _, fun g w a H D vs hH hD hv => ?_, (fun e => by simp [clsOf, ho] at e), (fun e => by simp [clsOf, ho] at e), (by intro x hx; first | simpa [opsOf, ho] using hx | (rw [show opsOf o = .func f :: args.toList from by simp [opsOf, ho]]; exact List.mem_cons_of_mem _ hx)), (fun e => by simp [isThr, ho] at e)⟩
  unfold callF
  cases hb : Nat.beq (E.hd vs).k 11 with
  | false => trivial
  | true =>
    obtain ⟨v1, v2⟩ := vrsC hv
    obtain ⟨cs, hx, hcs⟩ := v1.vk.func (beqK hb)
    rw [appF_eq]
    exact snd_call hC ho hx hH hD v2 hcs
/-! ### every operation -/
variable {Ψ : OpF → Prop}
theorem binE (op : BinOp) {k : Bool → OpF} (h0 : Ψ ⟨failO⟩) (h : ∀ neg, op = cond neg .neq .eql → Ψ (k neg)) : Ψ (eqOp op k) := by
  unfold eqOp
  split
  · exact h false rfl
  · exact h true rfl
  · exact h0
theorem int2_bits (op : BinOp) (kd : IntKind) (t : Nat) (fi : Int → Int → Int) (h : ∀ m n : Int, binOp op t (.int kd m) (.int kd n) = (pure (.int kd (kd.wrap (fi m n))) : Sem Value)) : Int2 P kd op t fun m n => .int kd (kd.wrap (fi m n)) := fun w m n _ => by rw [h]; rfl
theorem binOf_ok (cst : Bool) (op : BinOp) (t : Nat) {k : (FV → FV → FV) → OpF} (h0 : Ψ ⟨failO⟩) (h : ∀ f, Bin P cst op t f → Ψ (k f)) : Ψ (binOf P cst op t k) := by
  unfold binOf
  split
  · rename_i kd hu
    unfold intOp
    split
    · exact h _ bin_add
    · exact h _ bin_sub
    · exact h _ bin_mul
    · exact h _ bin_quo
    · exact h _ bin_rem
    · exact h _ (bin_and (int2_bits _ _ _ _ fun m n => (by unfold binOp; dsimp only; rw [if_neg (fun h => h rfl)]; rfl)))
    · exact h _ (bin_bits (int2_bits _ _ _ _ fun m n => (by unfold binOp; dsimp only; rw [if_neg (fun h => h rfl)]; rfl)) (by simp))
    · exact h _ (bin_bits (int2_bits _ _ _ _ fun m n => (by unfold binOp; dsimp only; rw [if_neg (fun h => h rfl)]; rfl)) (by simp))
    · exact h _ (bin_bits (int2_bits _ _ _ _ fun m n => (by unfold binOp; dsimp only; rw [if_neg (fun h => h rfl)]; rfl)) (by simp))
    · exact h _ bin_shl
    · exact h _ bin_shr
    · exact h _ bin_eql
    · exact h _ bin_neq
    · exact h _ bin_lss
    · exact h _ bin_leq
    · exact h _ bin_gtr
    · exact h _ bin_geq
  · unfold strOp
    split
    · exact h _ bin_addS
    · exact h _ (bin_cmpS false)
    · exact h _ (bin_cmpS true)
    · exact h0
  · rename_i hu; exact binE op h0 fun neg e => h _ (e ▸ bin_bool hu neg)
  · rename_i hu; exact binE op h0 fun neg e => h _ (e ▸ bin_nilp hu neg)
  · rename_i hu; exact binE op h0 fun neg e => h _ (e ▸ bin_nils hu neg)
  · rename_i hu; exact binE op h0 fun neg e => h _ (e ▸ bin_nilm hu neg)
  · rename_i hu; exact binE op h0 fun neg e => h _ (e ▸ bin_nilf hu neg)
  · rename_i hu; exact binE op h0 fun neg e => h _ (e ▸ bin_nilif hu neg)
  · split
    · rename_i hs; exact binE op h0 fun neg e => h _ (e ▸ bin_agg hs neg)
    · exact h0
  · exact h0
end
end
end Go.Proofs.YtkdpinpmjkomoaaGreatDoor.E
/- A reckoner for closed calls (O18): every operation. -/
namespace Go.Proofs.YtkdpinpmjkomoaaGreatDoor.E
open Go

section
variable {P : Program} {c : Cf} {seen : List Nat} {o : Oper} {C : CO} {Ψ : OpF → Prop}
theorem keyOf_ok {t : Nat} {k : (FV → FV → Option Bool) → OpF} {z : OpF} (h0 : Ψ z) (h : ∀ eq, KeyEq P t eq → Ψ (k eq)) : Ψ (keyOf P t k z) := by
  unfold keyOf
  split
  · rename_i c hc; exact h _ (keyEq_plain hc)
  · split
    · rename_i cs hc; exact h _ (keyEq_agg hc)
    · exact h0
theorem cvOf_ok {s d : Nat} {k : (FV → FV) → OpF} (h0 : Ψ ⟨failO⟩) (h : ∀ f, (∀ (g : G) (w : World) v y, VR g w v y → (f v).k ≠ 99 → ∃ z, (convert s d y).run P w = .ok z w ∧ VR g w (f v) z) → Ψ (k f)) : Ψ (cvOf P s d k) := by
  unfold cvOf
  split
  · rename_i h1 h2; exact h _ (cv_int h1 h2)
  · rename_i h1 h2; exact h _ (cv_rune h1 h2)
  · rename_i h1 h2; exact h _ (cv_str h1 h2)
  · rename_i h1 h2
    split
    · rename_i h3; exact h _ (cv_runes h1 h3 h2)
    · exact h0
  · exact h0
theorem cond_ok {b : Bool} {x y : OpF} (h1 : b = true → Ψ x) (h2 : Ψ y) : Ψ (cond b x y) := by
  cases b with
  | true => exact h1 rfl
  | false => exact h2
theorem arr1 {α : Type} {xs : Array α} {x : α} (h : xs.toList = [x]) : xs = #[x] := by apply Array.ext'; simpa using h
theorem arr2 {α : Type} {xs : Array α} {x y : α} (h : xs.toList = [x, y]) : xs = #[x, y] := by apply Array.ext'; simpa using h
theorem builtin_ok {b : Builtin} {args : Array Operand} {ts : Array TypeId} (ho : o.op = .call { callee := .builtin b, args, argTypes := ts }) {k : (Q → RF) → OpF} (h0 : Ψ ⟨failO⟩) (hk : ∀ f, OpOk P c seen o f C → Ψ (k f)) : Ψ (bltOf P c (srcOf c seen) b args.toList ts.toList k) := by
  unfold bltOf
  split
  · rename_i x y t u h1 h2
    rw [arr2 h1, arr2 h2] at ho
    split
    · rename_i e he
      split
      · rename_i sz by' z hs hb hz
        refine cond_ok (fun hc => ?_) h0
        simp only [Bool.and_eq_true] at hc
        obtain ⟨⟨c1, c2⟩, c3⟩ := hc
        have c1 := Nat.le_of_ble_eq_true c1
        cases htu : Nat.beq t u with
        | true =>
          have htu := beqK htu
          subst htu
          exact hk _ (ok_append _ ho he hs hb hz c1 (beqK c2) c3)
        | false =>
          show Ψ (match P.underlying u with
          | some (.int _) => k (ef2 (appendZ (c.rowy || c.keep e) e sz by' z) (srcOf c seen x) (srcOf c seen y))
          | some .string => cond (Nat.beq sz 1) (k (ef2 (appendT (c.rowy || c.keep e) e by') (srcOf c seen x) (srcOf c seen y))) ⟨failO⟩
          | _ => ⟨failO⟩)
          split
          · rename_i kd hu; exact hk _ (ok_appendZ _ ho hu he hs hb hz c1)
          · rename_i hu
            refine cond_ok (fun hs1 => ?_) h0
            have hs1 := beqK hs1
            subst hs1
            exact hk _ (ok_appendT _ ho hu he hs hb hz (beqK c2) c3)
          · exact h0
      · exact h0
    · exact h0
  · rename_i x t h1 h2
    rw [arr1 h1, arr1 h2] at ho
    split
    · rename_i hu; exact hk _ (ok_lenS ho hu)
    · rename_i hu; exact hk _ (ok_lenV ho hu)
    · exact h0
  · rename_i x t h1 h2
    rw [arr1 h1, arr1 h2] at ho
    split
    · rename_i hu; exact hk _ (ok_cap ho hu)
    · exact h0
  · rename_i x y t u h1 h2
    rw [arr2 h1, arr2 h2] at ho
    split
    · rename_i kd hu; exact hk _ (ok_max true ho)
    · exact h0
  · rename_i x y t u h1 h2
    rw [arr2 h1, arr2 h2] at ho
    split
    · rename_i kd hu; exact hk _ (ok_max false ho)
    · exact h0
  · rename_i x t h1 h2
    rw [arr1 h1, arr1 h2] at ho
    refine hk _ (ok_thro (by simp [clsOf, ho]) (by intro z hz; simpa [opsOf, ho] using hz) (by simp [isThr, ho]) fun w a t y hx => ?_)
    obtain ⟨cs, e⟩ := exec_builtin (P := P) (w := w) (a := a) ho
    rw [e]
    simp [builtin, hx, run_panic]
  · exact h0
/-- Every compiled operation does what the operation does. -/
theorem baseOf_ok (hC : SndO P C) {k : (Q → RF) → OpF} (h0 : Ψ ⟨failO⟩) (hk : ∀ f, OpOk P c seen o f C → Ψ (k f)) : Ψ (baseOf P c seen o k) := by
  unfold baseOf
  dsimp only
  split
  · rename_i x ho; exact hk _ (ok_mv (by intro z hz; simpa [opsOf, ho] using hz) (srcOf_ok c seen x) (.inl ho))
  · rename_i x ho; exact hk _ (ok_mv (by intro x hx; simpa [opsOf, ho] using hx) (srcOf_ok c seen x) (.inr ho))
  · rename_i ho; exact hk _ (ok_pick ho)
  · rename_i t ho
    split
    · rename_i z hz
      exact cond_ok (fun hc => hk _ (ok_alloc ho hz hc)) h0
    · exact h0
  · rename_i ho; exact hk _ (ok_box ho)
  · rename_i t ps ho
    split
    · rename_i fs hu
      unfold bld
      split
      · rename_i a' b' l ps' hz hp
        rw [Option.bind_eq_some_iff] at hp
        obtain ⟨pl, hp1, hp2⟩ := hp
        exact hk _ (ok_struct ho hu hz hp1 hp2)
      · exact h0
    · rename_i n e hu
      unfold bld
      split
      · rename_i a' b' l ps' hz hp
        rw [Option.bind_eq_some_iff] at hp
        obtain ⟨sz, hp1, hp2⟩ := hp
        exact hk _ (ok_array ho hu hz hp1 hp2)
      · exact h0
    · exact h0
  · rename_i t n ps ho
    split
    · rename_i e he
      split
      · rename_i sz z hs hz
        refine cond_ok (fun hc => ?_) h0
        simp only [Bool.and_eq_true] at hc
        obtain ⟨⟨⟨c1, c2⟩, c3⟩, c4⟩ := hc
        exact hk _ (ok_bslice ho he hs hz c1 (beqK c2) (Nat.le_of_ble_eq_true c3) (Nat.le_of_ble_eq_true c4))
      · exact h0
    · exact h0
  · rename_i t x ho
    split
    · rename_i ag n ha hn; exact hk _ (ok_load ho ha hn)
    · exact h0
  · rename_i t x y ho
    split
    · rename_i n ha hn; exact hk _ (ok_storeC ho hn)
    · rename_i ha hn
      exact cond_ok (fun _ => hk _ (ok_store1 ho hn)) (hk _ (ok_storeZ ho hn))
    · exact h0
  · rename_i ho; exact hk _ (ok_nilc ho)
  · rename_i op t x y u ho
    exact binOf_ok _ _ _ h0 fun f hf => hk _ (ok_bin ho hf)
  · rename_i op t x ho
    split
    · exact hk _ (ok_not ho)
    · exact hk _ (ok_neg ho)
    · exact h0
  · rename_i a d x ho
    exact cond_ok (fun hb => hk _ (ok_cvB ho hb)) (cvOf_ok h0 fun f hf => hk _ (ok_cv ho hf))
  · rename_i t x ho
    split
    · exact h0
    · rename_i d hd hu
      exact hk _ (ok_iface ho hu fun ms e => hd ms e)
    · exact h0
  · rename_i f first cap ho
    exact cond_ok (fun hc => hk _ (ok_func ho hc)) h0
  · rename_i ho; exact hk _ (ok_mkMap ho)
  · rename_i t m x v ho
    split
    · rename_i kt e hu
      exact keyOf_ok h0 fun eq K => hk _ (ok_mapSet K (.inr ho) hu)
    · exact h0
  · rename_i t m x v ho
    split
    · rename_i kt e hu
      exact keyOf_ok h0 fun eq K => hk _ (ok_mapSet K (.inl ho) hu)
    · exact h0
  · rename_i t m x ok ho
    split
    · rename_i kt e hu
      split
      · rename_i z hz
        exact keyOf_ok h0 fun eq K => hk _ (ok_lookup K ho hu hz)
      · exact h0
    · exact h0
  · rename_i t x lo hi ho
    split
    · rename_i hu
      split
      · exact hk _ (ok_sliceS hu ho (.inl ⟨rfl, rfl, rfl⟩))
      · exact hk _ (ok_sliceS hu ho (.inr (.inl ⟨_, rfl, rfl, rfl⟩)))
      · exact hk _ (ok_sliceS hu ho (.inr (.inr (.inl ⟨_, rfl, rfl, rfl⟩))))
      · exact hk _ (ok_sliceS hu ho (.inr (.inr (.inr ⟨_, _, rfl, rfl, rfl⟩))))
    · rename_i e hu
      split
      · rename_i sz hs
        split
        · exact hk _ (ok_sliceV hu hs ho (.inr (.inl ⟨_, rfl, rfl, rfl⟩)))
        · exact hk _ (ok_sliceV hu hs ho (.inr (.inr (.inl ⟨_, rfl, rfl, rfl⟩))))
        · exact hk _ (ok_sliceV hu hs ho (.inr (.inr (.inr ⟨_, _, rfl, rfl, rfl⟩))))
        · exact hk _ (ok_sliceV hu hs ho (.inl ⟨rfl, rfl, rfl⟩))
      · exact h0
    · exact h0
  · rename_i t x f ho
    split
    · rename_i fld hf
      split
      · rename_i sz hs
        exact cond_ok (fun hc => hk _ (ok_faddr ho hf hs (Nat.le_of_ble_eq_true hc))) h0
      · exact h0
    · exact h0
  · rename_i t x f ho
    split
    · rename_i fld hf
      split
      · rename_i ag n ha hn; exact hk _ (ok_field ho hf ha hn)
      · exact h0
    · exact h0
  · rename_i t x i ho
    split
    · rename_i e hu
      split
      · rename_i sz hs; exact hk _ (ok_index ho hu hs)
      · exact h0
    · rename_i n e hu
      split
      · rename_i sz hs; exact hk _ (ok_idxArr ho hu hs)
      · exact h0
    · exact h0
  · rename_i t x i ho
    split
    · rename_i hu; exact hk _ (ok_idxS ho hu)
    · exact h0
  · rename_i t x ho
    split
    · rename_i hu; exact hk _ (ok_range ho hu)
    · exact h0
  · rename_i ho; exact hk _ (ok_next ho)
  · rename_i x u t ok ho
    split
    · exact h0
    · rename_i d hd hu
      split
      · rename_i z hz
        exact hk _ (ok_assert ho hu (fun ms e => hd ms e) hz)
      · exact h0
    · exact h0
  · rename_i ho; exact hk _ (ok_extr ho)
  · rename_i x ho
    refine hk _ (ok_thro (by simp [clsOf, ho]) (by intro z hz; simpa [opsOf, ho] using hz) (by simp [isThr, ho]) fun w a t y hx => ?_)
    simp [execOp, ho, hx, run_panic]
  · rename_i b args ts ho
    exact builtin_ok ho h0 hk
  · rename_i f args ts ho
    split
    · exact hk _ (ok_callK hC ho)
    · exact hk _ (ok_callG hC ho)
    · exact h0
  · rename_i f args ts ho
    exact hk _ (ok_defer ho)
  · exact h0
end
end Go.Proofs.YtkdpinpmjkomoaaGreatDoor.E
/- A reckoner for closed calls (O19): slots, guards, regions. -/
namespace Go.Proofs.YtkdpinpmjkomoaaGreatDoor.E
open Go

/-- A frame's state, in a region. -/
structure St (c : Cf) (g : G) (w : World) (seen : List Nat) (env : Env) (s : S) (a : Act) : Prop where
  sr : SR c g w seen env s.st a.tmps
  hr : HR g w s.H
  dr : DRs g w s.D a.defers
/-- What each way out of code asks of what comes behind it. -/
def OutQ (c : Cf) (g : G) (w : World) (out : Out) (Q : Exit → Act → World → Prop) : Prop := match out with
  | .norm s => ∀ g' w' a', St c g' w' [] [] s a' → Evo g w g' w' → Q .normal a' w'
  | .exit id s => ∀ g' w' a', St c g' w' [] [] s a' → Evo g w g' w' → Q (.exit id) a' w'
  | .ret s => ∀ g' w' a', St c g' w' [] [] s a' → Evo g w g' w' → Q .ret a' w'
  | .panic ch s => ∀ g' w' pc a', St c g' w' [] [] s a' → ChR g' w' ch pc → Evo g w g' w' → Q (.panic pc) a' w'
  | .fail => False
/-- What is asked of all that comes behind. -/
structure OmOk (c : Cf) (u : FV) (Om : G → World → Out → Prop) (Q : Exit → Act → World → Prop) : Prop where
  evo : ∀ {g w g' w' out}, Om g w out → Evo g w g' w' → Om g' w' out
  fail : ∀ {g w}, Om g w .fail → False
  panic : ∀ {g w ch s}, Om g w (.panic ch s) → s.u = u → ∀ g' w' pc a', St c g' w' [] [] s a' → ChR g' w' ch pc → Evo g w g' w' → Q (.panic pc) a' w'
section
variable {P : Program} {c : Cf} {seen : List Nat} {o : Oper} {C : CO} {g g' : G} {w w' : World} {env : Env} {s : S} {a : Act}
theorem OutQ.evo {out : Out} {Q : Exit → Act → World → Prop} (h : OutQ c g w out Q) (ev : Evo g w g' w') : OutQ c g' w' out Q := by
  cases out with
  | norm s => exact fun g2 w2 a2 hf he => h g2 w2 a2 hf (ev.trans he)
  | exit id s => exact fun g2 w2 a2 hf he => h g2 w2 a2 hf (ev.trans he)
  | ret s => exact fun g2 w2 a2 hf he => h g2 w2 a2 hf (ev.trans he)
  | panic ch s => exact fun g2 w2 pc a2 hr hc he => h g2 w2 pc a2 hr hc (ev.trans he)
  | fail => exact h
theorem SR.nil {st : ST} {t : Array Value} (h : SR c g w seen env st t) : SR c g w [] [] st t := ⟨h.sz, (fun _ hd => by cases hd), h.st⟩
theorem OutQ.om (u : FV) (Q : Exit → Act → World → Prop) : OmOk c u (fun g w out => OutQ c g w out Q) Q := ⟨fun h ev => h.evo ev, fun h => h, fun h _ => h⟩
theorem getD_set (t : Array Value) (d j : Nat) (x : Value) (hd : d < t.size) : (t.setIfInBounds d x).getD j undef = if j = d then x else t.getD j undef := by
  rw [Array.getD_eq_getD_getElem?, Array.getD_eq_getD_getElem?, Array.getElem?_setIfInBounds]
  by_cases h : d = j
  · subst h; simp [hd]
  · simp [h, Ne.symm h]
/-- A slot is written. -/
theorem SR.put (h : SR c g w seen env s.st a.tmps) {d : Nat} {v : FV} {x : Value} (hv : VR g w v x) (hd : d < c.n) {st' : ST} (hst : (c.pa d = none ∧ st' = s.st) ∨ ∃ p, c.pa d = some p ∧ st' = ST.put p d v s.st) : SR c g w (d :: seen) (⟨d, v⟩ :: env) st' (a.tmps.setIfInBounds d x) := by
  have hd : d < a.tmps.size := by rw [h.sz]; exact hd
  refine ⟨by simpa using h.sz, fun j hj => ?_, fun j p hp => ?_⟩
  · rw [getD_set _ _ _ _ hd]
    by_cases hjd : j = d
    · subst hjd
      rw [if_pos rfl, lk_t rfl]
      exact hv
    · rw [if_neg hjd, lk_f (Ne.symm hjd)]
      have e : lnil (d :: seen) j = lnil seen j := by
        show cond (Nat.beq d j) true (lnil seen j) = _
        rw [beq_f (Ne.symm hjd)]
        rfl
      rw [e] at hj
      exact h.env j hj
  · rw [getD_set _ _ _ _ hd]
    rcases hst with ⟨hn, rfl⟩ | ⟨q, hq, rfl⟩
    · have hjd : j ≠ d := by rintro rfl; rw [hn] at hp; cases hp
      rw [if_neg hjd]
      exact h.st j p hp
    · by_cases hjd : j = d
      · subst hjd
        rw [hq] at hp
        injection hp with hp
        subst hp
        rw [if_pos rfl, ST.get_put]
        exact hv
      · rw [if_neg hjd]
        rcases ST.get_put_ne hjd v q p s.st with e | e
        · rw [e]; exact h.st j p hp
        · rw [e]; exact VR.ff _
/-- Where a value goes is where the operation puts it. -/
def QOk (c : Cf) (dst : Option Nat) (q : Q) : Prop := (dst = none ∧ q = ⟨qn⟩) ∨ ∃ d, dst = some d ∧ d < c.n ∧ ((c.pa d = none ∧ q = ⟨qe d⟩) ∨ ∃ p, c.pa d = some p ∧ q = ⟨qs d p⟩)
theorem QOk.app {q : Q} (hq : QOk c o.dst q) (h : St c g w seen env s a) {v : FV} {x : Value} {H : MH} {D : List FV} {ds : List Deferred} (le : Le g w g' w') (hH : HR g' w' H) (hv : VR g' w' v x) (hD : DRs g' w' D ds) : ∃ env' s', (∀ k : KO, kv q v k env ⟨s.st, H, D, s.u⟩ = k env' s') ∧ s'.u = s.u ∧ St c g' w' (seenOf o seen) env' s' ({ a with defers := ds }.put o.dst x) := by
  have h0 := h.sr.le le
  rcases hq with ⟨hd, rfl⟩ | ⟨d, hd, hlt, ⟨hp, rfl⟩ | ⟨p, hp, rfl⟩⟩
  · refine ⟨env, ⟨s.st, H, D, s.u⟩, fun _ => rfl, rfl, ?_⟩
    unfold seenOf
    rw [hd]
    exact ⟨h0, hH, hD⟩
  · refine ⟨⟨d, v⟩ :: env, ⟨s.st, H, D, s.u⟩, fun _ => rfl, rfl, ?_⟩
    unfold seenOf
    rw [hd]
    exact ⟨h0.put hv hlt (.inl ⟨hp, rfl⟩), hH, hD⟩
  · refine ⟨⟨d, v⟩ :: env, ⟨ST.put p d v s.st, H, D, s.u⟩, fun k => qs_eq d p v k env ⟨s.st, H, D, s.u⟩, rfl, ?_⟩
    unfold seenOf
    rw [hd]
    exact ⟨h0.put hv hlt (.inr ⟨p, hp, rfl⟩), hH, hD⟩
theorem qOf_ok {Ψ : OpF → Prop} {k : Q → OpF} (h0 : Ψ ⟨failO⟩) (hk : ∀ q, QOk c o.dst q → Ψ (k q)) : Ψ (qOf c o.dst k) := by
  unfold qOf
  split
  · rename_i hd; exact hk _ (.inl ⟨hd, rfl⟩)
  · rename_i d hd
    refine cond_ok (fun hc => ?_) h0
    have hc := blt_iff.1 hc
    split
    · rename_i hp; exact hk _ (.inr ⟨d, hd, hc, .inl ⟨hp, rfl⟩⟩)
    · rename_i p hp; exact hk _ (.inr ⟨d, hd, hc, .inr ⟨p, hp, rfl⟩⟩)
/-- What an operation with its slot does. -/
def RfOk (P : Program) (c : Cf) (seen : List Nat) (o : Oper) (h : RF) (C : CO) : Prop :=
  ∀ (s : S) (env : Env) (g : G) (w : World) (a : Act) (k : KO) (K : Act → World → Prop) (Q : Exit → Act → World → Prop) (Om : G → World → Out → Prop), OmOk c s.u Om Q → St c g w seen env s a → (∀ env' s' g' w' a', St c g' w' (seenOf o seen) env' s' a' → s'.u = s.u → Evo g w g' w' → Om g' w' (k env' s') → K a' w') → Om g w (h C k env s) → o.wp P a w K Q
theorem rf_ok {f : Q → RF} {q : Q} (hf : OpOk P c seen o f C) (hq : QOk c o.dst q) : RfOk P c seen o (f q) C := by
  intro s env g w a k K Q Om om h hk hQ
  obtain ⟨os, F, fr⟩ := hf
  rw [fr.eq] at hQ
  have hs := fr.snd g w a s.H s.D _ h.hr h.dr (gets_ok h.sr)
  cases hF : F (gets (os.map (srcOf c seen)) env s.st) s.H s.D with
  | fail => rw [hF] at hQ; exact (om.fail hQ).elim
  | ok v H D =>
    rw [hF] at hQ hs
    refine hs K Q fun g' w' x ds hH hv hD ev => ?_
    obtain ⟨env', s', e1, e2, e3⟩ := hq.app h ev.le hH hv hD
    have hQ : Om g w (kv q v k env ⟨s.st, H, D, s.u⟩) := hQ
    rw [e1] at hQ
    exact hk env' s' g' w' _ e3 e2 ev (om.evo hQ ev)
  | panic ch H =>
    rw [hF] at hQ hs
    exact hs K Q fun g' w' pc hH hch ev => om.panic hQ rfl g' w' pc a ⟨(h.sr.le ev.le).nil, hH, h.dr.le ev.le⟩ hch ev
theorem del_ok {x : Get} {h : RF} (hh : RfOk P c seen o h C) : RfOk P c seen o (delO x h) C := by
  intro s env g w a k K Q Om om hs hk hQ
  have e : delO x h C k env s = (Bool.rec (h C k env s) (h C k env ⟨s.st, s.H.del (x.g env s.st).a, s.D, s.u⟩) (Nat.beq (x.g env s.st).k 4) : Out) := rfl
  rw [e] at hQ
  cases hb : Nat.beq (x.g env s.st).k 4 with
  | false => rw [hb] at hQ; exact hh s env g w a k K Q Om om hs hk hQ
  | true => rw [hb] at hQ; exact hh ⟨s.st, s.H.del (x.g env s.st).a, s.D, s.u⟩ env g w a k K Q Om om ⟨hs.sr, hs.hr.del _, hs.dr⟩ hk hQ
theorem oldOf_ok {Ψ : OpF → Prop} {h : RF} {k : RF → OpF} (hh : RfOk P c seen o h C) (hk : ∀ h, RfOk P c seen o h C → Ψ (k h)) : Ψ (oldOf c seen o h k) := by
  unfold oldOf
  split
  · cases c.loc _ with
    | true => exact hk _ (del_ok hh)
    | false => exact hk _ hh
  · cases c.loc _ with
    | true => exact hk _ (del_ok hh)
    | false => exact hk _ hh
  · exact hk _ hh
/-- An operation with its guard. -/
def wpG (P : Program) (ops : Array Oper) (Q : Exit → Act → World → Prop) (o : Oper) (K : Act → World → Prop) (a : Act) (w : World) : Prop := if Region.wanted o (yielded ops a.tmps) then o.wp P a w K Q else K (a.put o.dst undef) w
theorem wpG_op {ops : Array Oper} {Q : Exit → Act → World → Prop} {i : Nat} {K : Act → World → Prop} (hi : ops[i]? = some o) (h : wpG P ops Q o K a w) : wpOp P ops Q i K a w := by
  unfold wpG at h
  simp only [wpOp, hi]
  split
  · rename_i hw; rw [if_pos hw] at h; exact .inl h
  · rename_i hw; rw [if_neg hw] at h; exact h
/-- What an operation with its guard does. -/
def RgOk (P : Program) (c : Cf) (ops : Array Oper) (seen : List Nat) (o : Oper) (h : RF) (C : CO) : Prop :=
  ∀ (s : S) (env : Env) (g : G) (w : World) (a : Act) (k : KO) (K : Act → World → Prop) (Q : Exit → Act → World → Prop) (Om : G → World → Out → Prop), OmOk c s.u Om Q → St c g w seen env s a → (∀ env' s' g' w' a', St c g' w' (seenOf o seen) env' s' a' → s'.u = s.u → Evo g w g' w' → Om g' w' (k env' s') → K a' w') → Om g w (h C k env s) → wpG P ops Q o K a w
theorem tmps_get {t : Array Value} {d : Nat} {x : Value} (h : t.getD d undef = x) (hx : x ≠ undef) : t[d]? = some x := by
  rw [Array.getD_eq_getD_getElem?] at h
  cases hq : t[d]? with
  | none => rw [hq] at h; exact absurd h.symm hx
  | some y => rw [hq] at h; exact congrArg some h
theorem guard_ok {ops : Array Oper} {h : RF} {q : Q} (hq : QOk c o.dst q) (hh : RfOk P c seen o h C) : RgOk P c ops seen o (guardOf ops o c seen q h).g C := by
  intro s env g w a k K Q Om om hs hk hQ
  have go : Om g w (h C k env s) → o.wp P a w K Q := hh s env g w a k K Q Om om hs hk
  have skip : Om g w (kv q UN k env s) → K (a.put o.dst undef) w := fun hQ => by
    obtain ⟨env', s', e1, e2, e3⟩ := hq.app hs (Le.refl g w) hs.hr (VR.of_undef) hs.dr
    have e1 : kv q UN k env s = k env' s' := e1 k
    rw [e1] at hQ
    exact hk env' s' g w _ e3 e2 (Evo.refl g w) hQ
  unfold wpG
  unfold guardOf at hQ
  cases hg : o.guard with
  | none =>
    rw [hg] at hQ
    have hw : Region.wanted o (yielded ops a.tmps) = true := by simp [Region.wanted, hg]
    rw [if_pos hw]
    exact go hQ
  | some gw =>
    obtain ⟨j, want⟩ := gw
    rw [hg] at hQ
    dsimp only at hQ
    cases hd : (ops[j]?).bind (·.dst) with
    | none => rw [hd] at hQ; exact (om.fail hQ).elim
    | some d =>
      rw [hd] at hQ
      have hQ : Om g w (guardV (cond want 1 0) q h C k env s ((srcOf c seen (.tmp d)).g env s.st)) := hQ
      have hv := src_val c seen (.tmp d) g w env s.st a hs.sr
      have hv : VR g w ((srcOf c seen (.tmp d)).g env s.st) (a.tmps.getD d undef) := hv
      generalize (srcOf c seen (.tmp d)).g env s.st = v at hQ hv
      unfold guardV at hQ
      cases hb : Nat.beq v.k 1 with
      | true =>
        rw [hb] at hQ
        obtain ⟨e1, e2⟩ := hv.vk.bool (beqK hb)
        have hget := tmps_get e1 (by intro e; cases e)
        have hy : yielded ops a.tmps j = some (Nat.beq v.a 1) := by
          unfold yielded
          rw [hd]
          simp [hget]
        have hw : Region.wanted o (yielded ops a.tmps) = Nat.beq v.a (cond want 1 0) := by
          simp only [Region.wanted, hg, hy]
          have : v.a = 0 ∨ v.a = 1 := by omega
          rcases this with e | e <;> rw [e] <;> cases want <;> rfl
        rw [hw]
        cases hwa : Nat.beq v.a (cond want 1 0) with
        | true => rw [hwa] at hQ; exact go hQ
        | false => rw [hwa] at hQ; exact skip hQ
      | false =>
        rw [hb] at hQ
        dsimp only at hQ
        cases hu : an (Nat.beq v.k 16) (Nat.beq (lenL v.l) 0) with
        | false => rw [hu] at hQ; exact (om.fail hQ).elim
        | true =>
          rw [hu] at hQ
          obtain ⟨u1, u2⟩ := an_iff.1 hu
          obtain ⟨cs, e1, e2⟩ := hv.vk.tuple (beqK u1)
          have hl : v.l.length = 0 := by have := beqK u2; rwa [lenL_eq] at this
          have hcs : cs = [] := List.eq_nil_of_length_eq_zero (by rw [e2.length, hl])
          subst hcs
          have hy : yielded ops a.tmps j = none := by
            unfold yielded
            rw [hd]
            rw [Array.getD_eq_getD_getElem?] at e1
            cases hq : a.tmps[d]? with
            | none => simp [hq]
            | some y => rw [hq] at e1; have e1 : y = .tuple #[] := e1; subst e1; simp [hq]
          have hw : ¬ Region.wanted o (yielded ops a.tmps) = true := by simp [Region.wanted, hg, hy]
          rw [if_neg hw]
          exact skip hQ
theorem fail_rg {ops : Array Oper} : RgOk P c ops seen o failO C := fun _ _ _ _ _ _ _ _ _ om _ _ hQ => (om.fail hQ).elim
theorem opOf_ok (hC : SndO P C) (ops : Array Oper) : RgOk P c ops seen o (opOf P c ops seen o).g C :=
  baseOf_ok (Ψ := fun f => RgOk P c ops seen o f.g C) hC fail_rg fun _ hf => qOf_ok (Ψ := fun f => RgOk P c ops seen o f.g C) fail_rg fun _ hq => oldOf_ok (Ψ := fun f => RgOk P c ops seen o f.g C) (rf_ok hf hq) fun _ hh => guard_ok hq hh
/-! ### regions -/
theorem St.nil (h : St c g w seen env s a) : St c g w [] [] s a := ⟨h.sr.nil, h.hr, h.dr⟩
theorem cOps_ok (hC : SndO P C) {ops : Array Oper} {Q : Exit → Act → World → Prop} : ∀ (os : List Oper) (is : List Nat) (seen : List Nat) (env : Env) (s : S) (g : G) (w : World) (a : Act), is.map (fun i => ops[i]?) = os.map some → St c g w seen env s a → OutQ c g w ((cOps P c ops seen os).g C env s) Q → wpOps P ops Q is a w
  | [], [], seen, env, s, g, w, a, _, h, hQ => hQ g w a h.nil (Evo.refl g w)
  | o :: os, i :: is, seen, env, s, g, w, a, hm, h, hQ => by
    simp only [List.map_cons, List.cons.injEq] at hm
    rw [wpOps_cons]
    exact wpG_op hm.1 (opOf_ok hC ops s env g w a ((cOps P c ops (seenOf o seen) os).g C) _ Q _ (OutQ.om s.u Q) h (fun env' s' g' w' a' h' _ _ hQ' => cOps_ok hC os is _ env' s' g' w' a' hm.2 h' hQ') hQ)
  | [], _ :: _, _, _, _, _, _, _, hm, _, _ => by simp at hm
  | _ :: _, [], _, _, _, _, _, _, hm, _, _ => by simp at hm
theorem range_ops (ops : Array Oper) : (List.range ops.size).map (fun i => ops[i]?) = ops.toList.map some := by
  apply List.ext_getElem?
  intro k
  simp only [List.getElem?_map]
  by_cases hk : k < ops.size
  · rw [List.getElem?_range hk]
    simp [hk]
  · rw [List.getElem?_eq_none (by simpa using hk), List.getElem?_eq_none (by simpa using hk)]
    rfl
end
end Go.Proofs.YtkdpinpmjkomoaaGreatDoor.E
/- A reckoner for closed calls (O20): code, loops. -/
namespace Go.Proofs.YtkdpinpmjkomoaaGreatDoor.E
open Go

def SndL (P : Program) (c : Cf) (f : Nat) (e : En) : Prop := ∀ b s g w a Q, St c g w [] [] s a → OutQ c g w (e.loop f b s) Q → (Code.loop b).wp P Q a w
def SndA (P : Program) (c : Cf) (C : CO) : Prop := ∀ ops id s g w a Q, St c g w [] [] s a → OutQ c g w ((drOf P c ops).g C [] s) Q → (Code.region id ops true).wp P Q a w
section
variable {P : Program} {c : Cf} {f : Nat} {e : En}
theorem bind_ok {x : Out} {k : S → Out} {g : G} {w : World} {Q : Exit → Act → World → Prop} {N : Act → World → Prop} (h : OutQ c g w (bindO x k) Q) (hn : ∀ s1 g1 w1 a1, St c g1 w1 [] [] s1 a1 → Evo g w g1 w1 → OutQ c g1 w1 (k s1) Q → N a1 w1) : OutQ c g w x (Exit.then N Q) := by
  cases x with
  | norm s1 => exact fun g1 w1 a1 h1 ev => hn s1 g1 w1 a1 h1 ev (OutQ.evo h ev)
  | exit id s1 => exact h
  | ret s1 => exact h
  | panic ch s1 => exact h
  | fail => exact h
theorem evc_sound (hC : SndO P e.call) (hL : SndL P c f e) (hA : SndA P c e.call) : ∀ (code : Code) (s : S) (g : G) (w : World) (a : Act) (Q : Exit → Act → World → Prop), St c g w [] [] s a → OutQ c g w ((cgOf P c f code).g e s) Q → code.wp P Q a w := by
  intro code
  induction code with
  | skip =>
    intro s g w a Q h hQ
    exact wp_skip (hQ g w a h (Evo.refl g w))
  | region id ops draw =>
    intro s g w a Q h hQ
    cases draw with
    | true => exact hA ops id s g w a Q h hQ
    | false => exact wp_region (cOps_ok hC ops.toList _ [] [] s g w a (range_ops ops) h hQ)
  | seq x y ihx ihy =>
    intro s g w a Q h hQ
    exact wp_seq (ihx s g w a _ h (bind_ok hQ fun s1 g1 w1 a1 h1 _ hQ1 => ihy s1 g1 w1 a1 Q h1 hQ1))
  | cond x y z ihy ihz =>
    intro s g w a Q h hQ
    have hv := src_val c [] x g w [] s.st a h.sr
    have hQ : OutQ c g w (condO ((srcOf c [] x).g [] s.st) ((cgOf P c f y).g e s) ((cgOf P c f z).g e s)) Q := hQ
    generalize (srcOf c [] x).g [] s.st = v at hv hQ
    unfold condO at hQ
    cases hb : Nat.beq v.k 1 with
    | false => rw [hb] at hQ; exact hQ.elim
    | true =>
      rw [hb] at hQ
      refine wp_cond (hv.vk.bool (beqK hb)).1 ?_
      cases ht : Nat.beq v.a 1 with
      | true => rw [ht] at hQ; exact ihy s g w a Q h hQ
      | false => rw [ht] at hQ; exact ihz s g w a Q h hQ
  | block id x ih =>
    intro s g w a Q h hQ
    refine wp_block (ih s g w a _ h ?_)
    have hQ : OutQ c g w (leaveO id ((cgOf P c f x).g e s)) Q := hQ
    cases hx : (cgOf P c f x).g e s with
    | norm s1 => rw [hx] at hQ; exact hQ
    | ret s1 => rw [hx] at hQ; exact hQ
    | panic ch s1 => rw [hx] at hQ; exact hQ
    | fail => rw [hx] at hQ; exact hQ
    | exit id' s1 =>
      rw [hx] at hQ
      intro g1 w1 a1 h1 ev
      show (if id' = id then Q .normal a1 w1 else Q (.exit id') a1 w1)
      have hQ : OutQ c g w (Bool.rec (.exit id' s1) (.norm s1) (Nat.beq id' id)) Q := hQ
      by_cases hid : id' = id
      · subst hid
        rw [if_pos rfl]
        rw [beq_t] at hQ
        exact hQ g1 w1 a1 h1 ev
      · rw [if_neg hid]
        rw [beq_f hid] at hQ
        exact hQ g1 w1 a1 h1 ev
  | loop x ih =>
    intro s g w a Q h hQ
    exact hL x s g w a Q h hQ
  | exit id =>
    intro s g w a Q h hQ
    exact wp_exit (hQ g w a h (Evo.refl g w))
  | ret =>
    intro s g w a Q h hQ
    exact wp_ret (hQ g w a h (Evo.refl g w))
  | _ => intro s g w a Q h hQ; exact hQ.elim
/-- Rounds of a loop. -/
def LoopK (P : Program) (c : Cf) (f : Nat) (e : En) : Prop := ∀ (x : Code) (s : S) (g : G) (w : World) (a : Act) (Q : Exit → Act → World → Prop), St c g w [] [] s a → OutQ c g w (e.loop f x s) Q →
  ∀ (b : Frame) (k : List Item) (cs : List Frame), ∃ e a' w', Q e a' w' ∧ Arrives P (lone (b.at a (.code x :: .inLoop x :: k)) cs w) b k cs e a' w'
theorem LoopK.snd (h : LoopK P c f e) : SndL P c f e := fun x s g w a Q hs hQ b k cs => by
  obtain ⟨e, a', w', hq, harr⟩ := h x s g w a Q hs hQ b k cs
  exact ⟨e, a', w', hq, .of_steps (.one step_loop) harr⟩
theorem loop_step {K : Nat → Cf} (hC : SndO P e.call) (hL : LoopK P (K f) f e) (hA : SndA P (K f) e.call) (call : CO) : LoopK P (K f) f ⟨call, loopE P K e⟩ := by
  intro x s g w a Q h hQ b k cs
  have hQ : OutQ (K f) g w (bindO ((cgOf P (K f) f x).g e s) (e.loop f x)) Q := hQ
  have hwp := evc_sound hC hL.snd hA x s g w a (Exit.then (fun a1 w1 => ∀ (b : Frame) (k : List Item) (cs : List Frame), ∃ e a' w', Q e a' w' ∧ Arrives P (lone (b.at a1 (.code x :: .inLoop x :: k)) cs w1) b k cs e a' w') Q) h
    (bind_ok hQ fun s1 g1 w1 a1 h1 _ hQ1 => hL x s1 g1 w1 a1 Q h1 hQ1)
  obtain ⟨e, a1, w1, hq, harr⟩ := hwp b (.inLoop x :: k) cs
  cases e with
  | normal =>
    obtain ⟨e2, a2, w2, hq2, harr2⟩ := hq b k cs
    exact ⟨e2, a2, w2, hq2, .of_steps (Steps.trans harr (.one step_inLoop)) harr2⟩
  | exit id => exact ⟨_, a1, w1, hq, .pass (x := .inLoop x) rfl (fun _ _ => .inl (by simp)) harr⟩
  | goto l => exact ⟨_, a1, w1, hq, .pass (x := .inLoop x) rfl (fun _ _ => .inl (by simp)) harr⟩
  | ret => exact ⟨_, a1, w1, hq, .pass (x := .inLoop x) rfl (fun _ _ => .inl (by simp)) harr⟩
  | panic ch => exact ⟨_, a1, w1, hq, .pass (x := .inLoop x) rfl (fun _ _ => .inl (by simp)) harr⟩
  | outgrown => exact ⟨_, a1, w1, hq, .pass (x := .inLoop x) rfl (fun _ _ => .inl (by simp)) harr⟩
/-! ### results -/
/-- How a result is read. -/
noncomputable def resRun (tmps : Array Value) (r : ResultVar) : Sem Value := match r with
  | .tmp t => pure (tmps.getD t undef)
  | .cell a t => do loadVar t (← asAddr (tmps.getD a undef))
theorem results_eq (fn : Func) (tmps : Array Value) : results fn tmps = (do let vs ← fn.results.mapM (resRun tmps); pure (if h : vs.size = 1 then vs[0] else .tuple vs)) := rfl
theorem known_ff {v : FV} (h : knownF v = true) : v.k ≠ 99 := fun e => by unfold knownF at h; rw [e] at h; cases h
variable {g : G} {w : World} {s : S} {a : Act}
theorem rgOf_ok (h : St c g w [] [] s a) : ∀ (rs : List ResultVar), allF knownF ((rgOf P c rs).g s.st s.H) = true → ∃ ys, (rs.mapM (resRun a.tmps)).run P w = .ok ys w ∧ VRs g w ((rgOf P c rs).g s.st s.H) ys
  | [], _ => ⟨[], rfl, VRs.nil'⟩
  | .tmp d :: rs, hk => by
    have hk : an (knownF ((srcOf c [] (.tmp d)).g [] s.st)) (allF knownF ((rgOf P c rs).g s.st s.H)) = true := hk
    obtain ⟨_, k2⟩ := an_iff.1 hk
    obtain ⟨ys, e1, e2⟩ := rgOf_ok h rs k2
    refine ⟨a.tmps.getD d undef :: ys, ?_, VRs.cons' (src_val c [] (.tmp d) g w [] s.st a h.sr) e2⟩
    simp [List.mapM_cons, resRun, e1]
  | .cell ad t :: rs, hk => by
    unfold rgOf at hk ⊢
    split
    · rename_i ag n ha hn
      rw [ha, hn] at hk
      have hk : an (knownF (loadF ag n ((srcOf c [] (.tmp ad)).g [] s.st) s.H)) (allF knownF ((rgOf P c rs).g s.st s.H)) = true := hk
      obtain ⟨k1, k2⟩ := an_iff.1 hk
      obtain ⟨ys, e1, e2⟩ := rgOf_ok h rs k2
      obtain ⟨ad', y, l1, l2, l3⟩ := loadF_spec h.hr ha hn (src_val c [] (.tmp ad) g w [] s.st a h.sr) (known_ff k1)
      have l1 : a.tmps.getD ad undef = .pointer (some ad') := l1
      refine ⟨y :: ys, ?_, VRs.cons' l3 e2⟩
      have hr : (resRun a.tmps (.cell ad t)).run P w = .ok y w := by
        show (do loadVar t (← asAddr (a.tmps.getD ad undef)) : Sem Value).run P w = _
        rw [l1, Sem.run_bind]
        have : (asAddr (.pointer (some ad'))).run P w = .ok ad' w := rfl
        rw [this]
        exact l2
      simp [List.mapM_cons, hr, e1]
    · rename_i hne
      exfalso
      split at hk
      · rename_i ag n ha hn; exact hne _ _ ha hn
      · cases hk
theorem results_ok (h : St c g w [] [] s a) {fn : Func} (hk : allF knownF ((rgOf P c fn.results.toList).g s.st s.H) = true) : ∃ x, (results fn a.tmps).run P w = .ok x w ∧ VR g w (pack ((rgOf P c fn.results.toList).g s.st s.H)) x := by
  obtain ⟨ys, e1, e2⟩ := rgOf_ok h fn.results.toList hk
  generalize (rgOf P c fn.results.toList).g s.st s.H = vs at e2
  have hrun : (results fn a.tmps).run P w = .ok (if h : ys.toArray.size = 1 then ys.toArray[0] else .tuple ys.toArray) w := by
    rw [results_eq, Array.mapM_eq_mapM_toList, Sem.run_bind, Sem.run_map, e1]
    rfl
  refine ⟨_, hrun, ?_⟩
  have hl := e2.length
  by_cases hy : ys.toArray.size = 1
  · rw [dif_pos hy]
    obtain ⟨y, rfl⟩ : ∃ y, ys = [y] := List.length_eq_one_iff.1 (by simpa using hy)
    obtain ⟨v, rfl⟩ : ∃ v, vs = [v] := List.length_eq_one_iff.1 (by simpa using hl.symm)
    exact vrs1 e2
  · rw [dif_neg hy]
    have : pack vs = ⟨16, 0, 0, vs⟩ := by
      cases vs with
      | nil => rfl
      | cons v vs =>
        cases vs with
        | nil => simp at hl; simp [hl] at hy
        | cons => rfl
    rw [this]
    exact VR.of_tuple (cs := ys) e2
end
end Go.Proofs.YtkdpinpmjkomoaaGreatDoor.E
/- A reckoner for closed calls (O21): functions, what they defer. -/
namespace Go.Proofs.YtkdpinpmjkomoaaGreatDoor.E
open Go

/-- How a caller stands. -/
def UR (g : G) (w : World) (u : FV) (m : FrameMode) : Prop := (u.k = 21 ∧ m = .returning) ∨ (u.k = 22 ∧ ∃ pc, m = .panicking pc ∧ ChR g w u.l pc)
/-- What a deferred call's answer is in the world. -/
def ResU (g : G) (w : World) (r : Res) (e : Ending) (m' : FrameMode) (w' : World) : Prop := match r with
  | .ret _ H u' => ∃ g', Evo g w g' w' ∧ HR g' w' H ∧ (∃ x, e = .returned x) ∧ UR g' w' u' m'
  | .panic ch H u' => ∃ g', Evo g w g' w' ∧ HR g' w' H ∧ (∃ pc, e = .panicked pc ∧ ChR g' w' ch pc) ∧ UR g' w' u' m'
  | .fail => False
/-- Deferred functions answer as it is reckoned. -/
def SndU (P : Program) (C : CO) : Prop := ∀ f args H u, u.k ≠ 99 → C f args H u ≠ .fail → Good P f ∧ ∀ g w xs m, HR g w H → VRs g w args xs → UR g w u m → CallsD P f (List.toArray xs) m w (ResU g w (C f args H u))
section
variable {P : Program} {c : Cf} {f : Nat} {e : En} {C : CO} {g g' : G} {w w' : World}
theorem UR.le (le : Le g w g' w') {u : FV} {m : FrameMode} (h : UR g w u m) : UR g' w' u m := by
  rcases h with h | ⟨h1, pc, h2, h3⟩
  · exact .inl h
  · exact .inr ⟨h1, pc, h2, h3.le le⟩
theorem CallsD.mono {f : FuncId} {args : Array Value} {u : FrameMode} {R R' : Ending → FrameMode → World → Prop} (h : CallsD P f args u w R) (hR : ∀ e m w', R e m w' → R' e m w') : CallsD P f args u w R' := by
  intro c cs hu
  obtain ⟨e, u', w', fr, h1, h2⟩ := h c cs hu
  exact ⟨e, u', w', fr, hR _ _ _ h1, h2⟩
theorem ChR.first {l : List FV} {pc : List PanicEntry} (h : ChR g w l pc) : (l = [] ∧ pc = []) ∨ ∃ v r ch x ps, l = v :: bv r :: ch ∧ pc = { v := x, recovered := r } :: ps ∧ VR g w v x ∧ ChR g w ch ps := by
  cases h with
  | nil => exact .inl ⟨rfl, rfl⟩
  | cons h t => exact .inr ⟨_, _, _, _, _, rfl, rfl, h, t⟩
theorem ChR.noexit {l : List FV} {pc : List PanicEntry} (h : ChR g w l pc) : pc.dropWhile (!·.goexit) = [] := by
  induction h with
  | nil => rfl
  | cons _ _ ih => exact ih
theorem ChR.append {l m : List FV} {pc qc : List PanicEntry} (h : ChR g w l pc) (k : ChR g w m qc) : ChR g w (l ++ m) (pc ++ qc) := by
  induction h with
  | nil => exact k
  | cons h _ ih => exact .cons h ih
theorem UR.settle {u : FV} {m : FrameMode} (h : UR g w u m) : UR g w (settU u) (settle m) := by
  unfold settU
  rcases h with ⟨h1, rfl⟩ | ⟨h1, pc, rfl, h3⟩
  · have e : an (Nat.beq u.k 22) (Nat.beq (E.hd (tl u.l)).a 1) = false := by rw [h1]; rfl
    rw [e]
    exact .inl ⟨h1, rfl⟩
  · rcases h3.first with ⟨e1, rfl⟩ | ⟨v, r, ch, x, ps, e1, rfl, h4, h5⟩
    · have e : an (Nat.beq u.k 22) (Nat.beq (E.hd (tl u.l)).a 1) = false := by rw [h1, e1]; rfl
      rw [e]
      exact .inr ⟨h1, [], rfl, h3⟩
    · cases r with
      | true =>
        have e : an (Nat.beq u.k 22) (Nat.beq (E.hd (tl u.l)).a 1) = true := by rw [h1, e1]; rfl
        rw [e]
        refine .inl ⟨rfl, ?_⟩
        show (match ps.dropWhile (!·.goexit) with | [] => FrameMode.returning | rest => .panicking rest) = _
        rw [h5.noexit]
      | false =>
        have e : an (Nat.beq u.k 22) (Nat.beq (E.hd (tl u.l)).a 1) = false := by rw [h1, e1]; rfl
        rw [e]
        exact .inr ⟨h1, _, rfl, h3⟩
theorem UR.raise {u : FV} {m : FrameMode} (h : UR g w u m) {ch : List FV} {pc : List PanicEntry} (hc : ChR g w ch pc) : UR g w (raisU u ch) (raised m pc) := by
  unfold raisU
  rcases h with ⟨h1, rfl⟩ | ⟨h1, qc, rfl, h3⟩
  · rw [h1]
    exact .inr ⟨rfl, pc, rfl, hc⟩
  · rw [h1]
    refine .inr ⟨rfl, pc ++ qc, rfl, ?_⟩
    show ChR g w (appF ch u.l) _
    rw [appF_eq]
    exact hc.append h3
theorem run_invoke {f : Nat} {zs ys : Array Value} (hg : Good P f) : (invoke (.fn (.func f) zs) ys).run P w = .ok (.enter f (ys ++ zs)) w := by
  obtain ⟨fn, b, hf, hb, hn⟩ := hg
  have hb' : fn.body.isNone = false := by rw [hb]; rfl
  have hq : ¬ fn.name = "runtime.NumGoroutine" := by simpa using hn
  simp [invoke, callFunc, hf, hb, hq]
/-- A function is left. -/
theorem leaves_ok (hU : SndU P C) {fn : Func} {rs : List ResultVar} (hrs : fn.results.toList = rs) {n : Nat} {st : ST} {u : FV} {tmps : Array Value} {r : Res} (hr : r ≠ .fail) : ∀ (D : List FV) (ds : List Deferred) (m : FV) (md : FrameMode) (g1 : G) (w1 : World) (H : MH),
    SR c g1 w1 [] [] st tmps → HR g1 w1 H → DRs g1 w1 D ds → UR g1 w1 m md → Evo g w g1 w1 → leaves (rgOf P c rs) C n st u D m H = r → Leaves P fn tmps (ResR g w r) ds md w1
  | [], ds, m, md, g1, w1, H, hs, hH, hD, hm, ev, e => by
    cases hD
    have e : leave1 (rgOf P c rs) n st u m H = r := e
    unfold leave1 at e
    rcases hm with ⟨h1, rfl⟩ | ⟨h1, pc, rfl, h3⟩
    · rw [h1] at e
      rw [MH.leaveR_eq] at e
      have e : retR ((rgOf P c rs).g st H) (H.leave n) u = r := e
      unfold retR at e
      cases hk : allF knownF ((rgOf P c rs).g st H) with
      | false => rw [hk] at e; exact absurd e.symm hr
      | true =>
        rw [hk] at e
        have e : Res.ret (pack ((rgOf P c rs).g st H)) (H.leave n) u = r := e
        subst hrs
        obtain ⟨x, x1, x2⟩ := results_ok (P := P) (c := c) (g := g1) (w := w1) (s := ⟨st, H, [], u⟩) (a := { tmps := tmps, defers := [] }) ⟨hs, hH, .nil⟩ hk
        refine ⟨x, x1, ?_⟩
        rw [← e]
        exact ⟨g1, ev, hH.leave n, x, rfl, x2⟩
    · rw [h1] at e
      rw [MH.leaveR_eq] at e
      have e : Res.panic m.l (H.leave n) u = r := e
      show ResR g w r (.panicked pc) w1
      rw [← e]
      exact ⟨g1, ev, hH.leave n, pc, rfl, h3⟩
  | d :: D, ds, m, md, g1, w1, H, hs, hH, hD, hm, ev, e => by
    cases hD with
    | cons hv ht =>
      rename_i fd b args fs ys zs
      have e : (Res.rec (fun _ H m' => leaves (rgOf P c rs) C n st u D (settU m') H) (fun c' H m' => leaves (rgOf P c rs) C n st u D (raisU m' c') H) .fail (C fd args H m) : Res) = r := e
      have hne : C fd args H m ≠ .fail := fun h => by rw [h] at e; exact hr e.symm
      have hm99 : m.k ≠ 99 := by rcases hm with ⟨h1, _⟩ | ⟨h1, _⟩ <;> omega
      obtain ⟨hg, hcall⟩ := hU fd args H m hm99 hne
      have hcall := hcall g1 w1 (ys ++ zs) md hH hv hm
      have hmd : md ≠ .run := by rcases hm with ⟨_, rfl⟩ | ⟨_, pc, rfl, _⟩ <;> (intro h; cases h)
      have hargs : (List.toArray ys ++ List.toArray zs : Array Value) = List.toArray (ys ++ zs) := by simp
      refine leaves_cons hmd (run_invoke hg) ?_
      rw [hargs]
      refine CallsD.mono hcall fun e' md' w' hres => ?_
      cases hc : C fd args H m with
      | fail => exact absurd hc hne
      | ret v H' m' =>
        rw [hc] at hres e
        obtain ⟨g', ev', hH', ⟨x, rfl⟩, hm'⟩ := hres
        exact leaves_ok hU hrs hr D fs (settU m') (settle md') g' w' H' (hs.le ev'.le) hH' (ht.le ev'.le) hm'.settle (ev.trans ev') e
      | panic ch H' m' =>
        rw [hc] at hres e
        obtain ⟨g', ev', hH', ⟨pc, rfl, hch⟩, hm'⟩ := hres
        exact leaves_ok hU hrs hr D fs (raisU m' ch) (raised md' pc) g' w' H' (hs.le ev'.le) hH' (ht.le ev'.le) (hm'.raise hch) (ev.trans ev') e
/-! ### a frame is entered -/
theorem toP_eq (d : Nat) (p : Pth) (y : PG) (vs : List FV) (st : ST) : toP d p y vs st = y.g (tl vs) (ST.put p d (E.hd vs) st) := by unfold toP; cases E.hd vs; rfl
theorem pg_ok {T : Nat → Value} : ∀ (n d : Nat) (args : List FV) (st : ST), (∀ j p, c.pa j = some p → VR g w (ST.get p j st) (T j)) → (∀ i, i < n → VR g w (nth i args) (T (d + i))) → ∀ j p, c.pa j = some p → VR g w (ST.get p j ((pgOf c n d).g args st)) (T j)
  | 0, d, args, st, hs, _ => hs
  | n + 1, d, args, st, hs, ha => by
    have hnext : ∀ i, i < n → VR g w (nth i (tl args)) (T (d + 1 + i)) := fun i hi => by
      have := ha (i + 1) (by omega)
      rw [show d + (i + 1) = d + 1 + i by omega] at this
      exact this
    unfold pgOf
    cases hp : c.pa d with
    | none => exact pg_ok n (d + 1) (tl args) st hs hnext
    | some q =>
      dsimp only
      rw [toP_eq]
      refine pg_ok n (d + 1) (tl args) (ST.put q d (E.hd args) st) (fun j p hj => ?_) hnext
      by_cases hjd : j = d
      · subst hjd
        rw [hp] at hj
        injection hj with hj
        subst hj
        rw [ST.get_put]
        exact ha 0 (by omega)
      · rcases ST.get_put_ne hjd (E.hd args) q p st with e | e
        · rw [e]; exact hs j p hj
        · rw [e]; exact VR.ff _
theorem enter_ok {args : List FV} {xs : List Value} {H : MH} {u : FV} {n : Nat} (hH : HR g w H) (hv : VRs g w args xs) (hn : c.n = n) (hl : args.length ≤ c.np) (hnp : c.np ≤ c.n) : St c g w [] [] ⟨(pgOf c c.np 0).g args .e, H, [], u⟩ { tmps := List.toArray xs ++ Array.replicate (n - (List.toArray xs).size) undef, defers := [] } := by
  have hlen := hv.length
  refine ⟨⟨?_, (fun _ hd => by cases hd), pg_ok c.np 0 args .e (fun j p _ => by rw [ST.get_e]; exact VR.ff _) fun i hi => ?_⟩, hH, .nil⟩
  · simp only [Array.size_append, Array.size_replicate, List.size_toArray]
    omega
  · rw [nth_eq, Nat.zero_add]
    by_cases hlt : i < args.length
    · obtain ⟨x, hx, hvx⟩ := hv.get (List.getElem?_eq_getElem hlt)
      have e : (List.toArray xs ++ Array.replicate (n - (List.toArray xs).size) undef).getD i undef = x := by
        rw [Array.getD_eq_getD_getElem?, Array.getElem?_append_left (by simp; omega)]
        simp [hx]
      rw [e, List.getD_eq_getElem?_getD, List.getElem?_eq_getElem hlt]
      exact hvx
    · rw [List.getD_eq_getElem?_getD, List.getElem?_eq_none (by omega)]
      exact VR.ff _
/-- A function answers as its code and what it defers do. -/
theorem evN_ok (hC : SndO P e.call) (hU : SndU P e.call) (hL : SndL P c f e) (hA : SndA P c e.call) {fn : Func} {b : Code} (hf : P.funcs[f]? = some fn) (hb : fn.body = some b) (hn : fn.ntmps = c.n) (hnp : c.np ≤ c.n) {args : List FV} {H : MH} {u : FV} (hl : args.length ≤ c.np)
    (hr : finish (rgOf P c fn.results.toList) e.call H.next ((cgOf P c f b).g e ⟨(pgOf c c.np 0).g args .e, H, [], u⟩) ≠ .fail) {xs : List Value} (hH : HR g w H) (hv : VRs g w args xs) :
    Calls P f (List.toArray xs) w (ResR g w (finish (rgOf P c fn.results.toList) e.call H.next ((cgOf P c f b).g e ⟨(pgOf c c.np 0).g args .e, H, [], u⟩))) := by
  refine calls_of_wp_defers hf hb ?_
  rw [hn]
  refine evc_sound hC hL hA b _ g w _ _ (enter_ok (u := u) hH hv rfl hl hnp) ?_
  generalize (cgOf P c f b).g e ⟨(pgOf c c.np 0).g args .e, H, [], u⟩ = out at hr
  cases out with
  | norm s => exact fun g1 w1 a1 h1 ev => leaves_ok hU rfl hr s.D a1.defers _ _ g1 w1 s.H h1.sr h1.hr h1.dr (.inl ⟨rfl, rfl⟩) ev rfl
  | ret s => exact fun g1 w1 a1 h1 ev => leaves_ok hU rfl hr s.D a1.defers _ _ g1 w1 s.H h1.sr h1.hr h1.dr (.inl ⟨rfl, rfl⟩) ev rfl
  | panic ch s => exact fun g1 w1 pc a1 h1 hch ev => leaves_ok hU rfl hr s.D a1.defers _ _ g1 w1 s.H h1.sr h1.hr h1.dr (.inr ⟨rfl, pc, rfl, hch⟩) ev rfl
  | exit id s => exact absurd rfl hr
  | fail => exact absurd rfl hr
end
end Go.Proofs.YtkdpinpmjkomoaaGreatDoor.E
/- A reckoner for closed calls (O22): deferred functions, what they recover; all calls, so deep at most. -/
namespace Go.Proofs.YtkdpinpmjkomoaaGreatDoor.E
open Go

/-- What each way out of a deferred function's code asks. -/
def OutS (c : Cf) (c0 : Frame) (cs : List Frame) (g : G) (w : World) (out : Out) (Q : Exit → Act → List Frame → World → Prop) : Prop := match out with
  | .norm s => ∀ g' w' a' m', St c g' w' [] [] s a' → UR g' w' s.u m' → Evo g w g' w' → Q .normal a' ({ c0 with mode := m' } :: cs) w'
  | .exit id s => ∀ g' w' a' m', St c g' w' [] [] s a' → UR g' w' s.u m' → Evo g w g' w' → Q (.exit id) a' ({ c0 with mode := m' } :: cs) w'
  | .ret s => ∀ g' w' a' m', St c g' w' [] [] s a' → UR g' w' s.u m' → Evo g w g' w' → Q .ret a' ({ c0 with mode := m' } :: cs) w'
  | .panic ch s => ∀ g' w' pc a' m', St c g' w' [] [] s a' → UR g' w' s.u m' → ChR g' w' ch pc → Evo g w g' w' → Q (.panic pc) a' ({ c0 with mode := m' } :: cs) w'
  | .fail => False
section
variable {P : Program} {c : Cf} {f : Nat} {e : En} {C : CO} {g g' : G} {w w' : World} {c0 : Frame} {cs : List Frame} {s : S} {a : Act} {m : FrameMode}
theorem OutS.evo {out : Out} {Q : Exit → Act → List Frame → World → Prop} (h : OutS c c0 cs g w out Q) (ev : Evo g w g' w') : OutS c c0 cs g' w' out Q := by
  cases out with
  | norm s => exact fun g2 w2 a2 m2 hf hu he => h g2 w2 a2 m2 hf hu (ev.trans he)
  | exit id s => exact fun g2 w2 a2 m2 hf hu he => h g2 w2 a2 m2 hf hu (ev.trans he)
  | ret s => exact fun g2 w2 a2 m2 hf hu he => h g2 w2 a2 m2 hf hu (ev.trans he)
  | panic ch s => exact fun g2 w2 pc a2 m2 hr hu hc he => h g2 w2 pc a2 m2 hr hu hc (ev.trans he)
  | fail => exact h
/-- Code that recovers nothing. -/
theorem set_ok {u : FV} {out : Out} {Q : Exit → Act → List Frame → World → Prop} (hu : UR g w u m) (h : OutS c c0 cs g w (setU u out) Q) : OutQ c g w out (fun e a' w' => Q e a' ({ c0 with mode := m } :: cs) w') := by
  cases out with
  | norm s => exact fun g1 w1 a1 h1 ev => h g1 w1 a1 m ⟨h1.sr, h1.hr, h1.dr⟩ (hu.le ev.le) ev
  | exit id s => exact fun g1 w1 a1 h1 ev => h g1 w1 a1 m ⟨h1.sr, h1.hr, h1.dr⟩ (hu.le ev.le) ev
  | ret s => exact fun g1 w1 a1 h1 ev => h g1 w1 a1 m ⟨h1.sr, h1.hr, h1.dr⟩ (hu.le ev.le) ev
  | panic ch s => exact fun g1 w1 pc a1 h1 hc ev => h g1 w1 pc a1 m ⟨h1.sr, h1.hr, h1.dr⟩ (hu.le ev.le) hc ev
  | fail => exact h
/-! ### operations -/
variable {o : Oper} {seen : List Nat} {env : Env}
/-- An operation of a deferred function's region. -/
def wpOpS (P : Program) (ops : Array Oper) (Q : Exit → Act → List Frame → World → Prop) (i : Nat) (K : Act → List Frame → World → Prop) (a : Act) (cs : List Frame) (w : World) : Prop :=
  match ops[i]? with
  | none => K a cs w
  | some o =>
    if Region.wanted o (yielded ops a.tmps) then
      match (execOp a.eval o).run P w with
      | .ok .recover w' =>
        match recoverD cs with
        | some (v, cs') => K (a.put o.dst v) cs' w'
        | none => K (a.put o.dst .nilIface) cs w'
      | r => o.upon P a (fun a' w' => K a' cs w') (fun e a' w' => Q e a' cs w') r
    else K (a.put o.dst undef) cs w
theorem wpOpsS_cons {ops : Array Oper} {Q : Exit → Act → List Frame → World → Prop} (i : Nat) (rest : List Nat) (a : Act) (cs : List Frame) (w : World) : wpOpsS P ops Q (i :: rest) a cs w = wpOpS P ops Q i (wpOpsS P ops Q rest) a cs w := by
  cases h : ops[i]? with
  | none => simp only [wpOpsS, wpOpS, h]
  | some o => simp only [wpOpsS, wpOpS, h]; rfl
/-- An operation that recovers nothing. -/
theorem wpOpS_of {ops : Array Oper} {Q : Exit → Act → List Frame → World → Prop} {i : Nat} {K : Act → List Frame → World → Prop} {cs : List Frame} (hi : ops[i]? = some o) (h : wpG P ops (fun e a' w' => Q e a' cs w') o (fun a' w' => K a' cs w') a w) : wpOpS P ops Q i K a cs w := by
  unfold wpG at h
  unfold wpOpS
  rw [hi]
  dsimp only
  split at h
  · rename_i hw
    rw [if_pos hw]
    unfold Oper.wp at h
    split
    · rename_i w' hr
      rw [hr] at h
      exact h.elim
    · exact h
  · rename_i hw
    rw [if_neg hw]
    exact h
/-- What an operation of a deferred function's region does. -/
def RsOk (P : Program) (c : Cf) (ops : Array Oper) (seen : List Nat) (o : Oper) (h : RF) (C : CO) : Prop :=
  ∀ (c0 : Frame) (cs : List Frame) (i : Nat), ops[i]? = some o → ∀ (s : S) (env : Env) (g : G) (w : World) (a : Act) (m : FrameMode) (k : KO) (K : Act → List Frame → World → Prop) (Q : Exit → Act → List Frame → World → Prop), St c g w seen env s a → UR g w s.u m → (∀ env' s' g' w' a' m', St c g' w' (seenOf o seen) env' s' a' → UR g' w' s'.u m' → Evo g w g' w' → OutS c c0 cs g' w' (k env' s') Q → K a' ({ c0 with mode := m' } :: cs) w') → OutS c c0 cs g w (h C k env s) Q → wpOpS P ops Q i K a ({ c0 with mode := m } :: cs) w
theorem rs_of {ops : Array Oper} {h : RF} (hh : RgOk P c ops seen o h C) : RsOk P c ops seen o h C := by
  intro c0 cs i hi s env g w a m k K Q hs hu hk hQ
  refine wpOpS_of hi (hh s env g w a k _ _ (fun g1 w1 out => OutS c c0 cs g1 w1 out Q ∧ Evo g w g1 w1) ⟨fun h ev => ⟨h.1.evo ev, h.2.trans ev⟩, fun h => h.1, fun h e g' w' pc a' h1 hc ev => h.1 g' w' pc a' m h1 (e ▸ hu.le (h.2.trans ev).le) hc ev⟩ hs (fun env' s' g' w' a' h1 e ev h2 => ?_) ⟨hQ, Evo.refl g w⟩)
  exact hk env' s' g' w' a' m h1 (e ▸ hu.le ev.le) ev h2.1
theorem fail_rs {ops : Array Oper} : RsOk P c ops seen o failO C := rs_of fail_rg
/-- What is recovered. -/
theorem rec_ok {ops : Array Oper} {q : Q} (hr : isRec o = true) (hq : QOk c o.dst q) : RsOk P c ops seen o (recO q) C := by
  intro c0 cs i hi s env g w a m k K Q hs hu hk hQ
  have hop : ∃ ts, o.op = .call { callee := .builtin .recover, args := #[], argTypes := ts } ∧ o.guard = none := by
    unfold isRec at hr
    split at hr
    · rename_i args ts ho
      simp only [Bool.and_eq_true] at hr
      have : args = #[] := by simpa using hr.1
      subst this
      exact ⟨ts, ho, by simpa using hr.2⟩
    · cases hr
  obtain ⟨ts, ho, hg⟩ := hop
  have hrun : (execOp a.eval o).run P w = .ok .recover w := by
    simp [execOp, ho, resolve, invoke, builtin]
  have hQ : OutS c c0 cs g w (kv q (recV s.u) k env ⟨s.st, s.H, s.D, recU s.u⟩) Q := hQ
  unfold wpOpS
  rw [hi]
  dsimp only
  have hw : Region.wanted o (yielded ops a.tmps) = true := by simp [Region.wanted, hg]
  rw [if_pos hw, hrun]
  have fin : ∀ (v : Value) (m' : FrameMode), VR g w (recV s.u) v → UR g w (recU s.u) m' → K (a.put o.dst v) ({ c0 with mode := m' } :: cs) w := fun v m' hv hu' => by
    obtain ⟨env', s', e1, e2, e3⟩ := hq.app (s := ⟨s.st, s.H, s.D, recU s.u⟩) (H := s.H) (D := s.D) ⟨hs.sr, hs.hr, hs.dr⟩ (Le.refl g w) hs.hr hv hs.dr
    have e1 : kv q (recV s.u) k env ⟨s.st, s.H, s.D, recU s.u⟩ = k env' s' := e1 k
    rw [e1] at hQ
    exact hk env' s' g w _ m' e3 (e2 ▸ hu') (Evo.refl g w) hQ
  have none' : rcv s.u = false → recoverD ({ c0 with mode := m } :: cs) = none → (match recoverD ({ c0 with mode := m } :: cs) with | some (v, cs') => K (a.put o.dst v) cs' w | none => K (a.put o.dst .nilIface) ({ c0 with mode := m } :: cs) w) := fun h1 h2 => by
    rw [h2]
    refine fin _ m ?_ ?_
    · unfold recV; rw [h1]; exact VR.of_nilif _ _ _
    · unfold recU; rw [h1]; exact hu
  rcases hu with ⟨h1, rfl⟩ | ⟨h1, pc, rfl, h3⟩
  · exact none' (by unfold rcv; rw [h1]; rfl) rfl
  · rcases h3.first with ⟨e1, rfl⟩ | ⟨v, r, ch, x, ps, e1, rfl, h4, h5⟩
    · exact none' (by unfold rcv; rw [h1, e1]; rfl) rfl
    · cases r with
      | true => exact none' (by unfold rcv; rw [h1, e1]; rfl) rfl
      | false =>
        have hrc : rcv s.u = true := by unfold rcv; rw [h1, e1]; rfl
        show K (a.put o.dst x) ({ c0 with mode := .panicking ({ v := x, recovered := true } :: ps) } :: cs) w
        refine fin x _ ?_ ?_
        · unfold recV
          rw [hrc, e1]
          exact h4
        · unfold recU
          rw [hrc, e1]
          exact .inr ⟨rfl, _, rfl, .cons h4 h5⟩
theorem opU_ok (hC : SndO P C) (ops : Array Oper) : RsOk P c ops seen o (opU P c ops seen o).g C := by
  unfold opU
  cases hr : isRec o with
  | true => exact qOf_ok (Ψ := fun f => RsOk P c ops seen o f.g C) (k := fun q => ⟨recO q⟩) fail_rs fun _ hq => rec_ok hr hq
  | false => exact rs_of (opOf_ok hC ops)
theorem cOpsU_ok (hC : SndO P C) {ops : Array Oper} {Q : Exit → Act → List Frame → World → Prop} : ∀ (os : List Oper) (is : List Nat) (seen : List Nat) (env : Env) (s : S) (g : G) (w : World) (a : Act) (m : FrameMode), is.map (fun i => ops[i]?) = os.map some → St c g w seen env s a → UR g w s.u m → OutS c c0 cs g w ((cOpsU P c ops seen os).g C env s) Q → wpOpsS P ops Q is a ({ c0 with mode := m } :: cs) w
  | [], [], seen, env, s, g, w, a, m, _, h, hu, hQ => hQ g w a m h.nil hu (Evo.refl g w)
  | o :: os, i :: is, seen, env, s, g, w, a, m, hm, h, hu, hQ => by
    simp only [List.map_cons, List.cons.injEq] at hm
    rw [wpOpsS_cons]
    exact opU_ok hC ops c0 cs i hm.1 s env g w a m ((cOpsU P c ops (seenOf o seen) os).g C) _ Q h hu (fun env' s' g' w' a' m' h' hu' _ hQ' => cOpsU_ok hC os is _ env' s' g' w' a' m' hm.2 h' hu' hQ') hQ
  | [], _ :: _, _, _, _, _, _, _, _, hm, _, _, _ => by simp at hm
  | _ :: _, [], _, _, _, _, _, _, _, hm, _, _, _ => by simp at hm
/-- Code of a deferred function. -/
theorem bindS_ok {x : Out} {k : S → Out} {Q : Exit → Act → List Frame → World → Prop} {N : Act → List Frame → World → Prop} (h : OutS c c0 cs g w (bindO x k) Q) (hn : ∀ s1 g1 w1 a1 m1, St c g1 w1 [] [] s1 a1 → UR g1 w1 s1.u m1 → Evo g w g1 w1 → OutS c c0 cs g1 w1 (k s1) Q → N a1 ({ c0 with mode := m1 } :: cs) w1) : OutS c c0 cs g w x (Exit.thenS N Q) := by
  cases x with
  | norm s1 => exact fun g1 w1 a1 m1 h1 hu ev => hn s1 g1 w1 a1 m1 h1 hu ev (OutS.evo h ev)
  | exit id s1 => exact h
  | ret s1 => exact h
  | panic ch s1 => exact h
  | fail => exact h
theorem evs_sound (hC : SndO P e.call) (hL : SndL P c f e) (hA : SndA P c e.call) : ∀ (code : Code) (s : S) (g : G) (w : World) (a : Act) (m : FrameMode) (Q : Exit → Act → List Frame → World → Prop), St c g w [] [] s a → UR g w s.u m → OutS c c0 cs g w ((sgOf P c f code).g e s) Q → code.wpS P Q a ({ c0 with mode := m } :: cs) w := by
  intro code
  have plain : ∀ (code : Code) (s : S) (g : G) (w : World) (a : Act) (m : FrameMode) (Q : Exit → Act → List Frame → World → Prop), St c g w [] [] s a → UR g w s.u m → OutS c c0 cs g w (setU s.u ((cgOf P c f code).g e s)) Q → code.wpS P Q a ({ c0 with mode := m } :: cs) w :=
    fun code s g w a m Q h hu hQ => wpS_of_wp (evc_sound hC hL hA code s g w a _ h (set_ok hu hQ))
  induction code with
  | skip =>
    intro s g w a m Q h hu hQ
    exact wpS_of_wp (wp_skip (hQ g w a m h hu (Evo.refl g w)))
  | region id ops draw =>
    intro s g w a m Q h hu hQ
    cases draw with
    | true => exact plain _ s g w a m Q h hu hQ
    | false => exact wpS_region (cOpsU_ok hC ops.toList _ [] [] s g w a m (range_ops ops) h hu hQ)
  | seq x y ihx ihy =>
    intro s g w a m Q h hu hQ
    exact wpS_seq (ihx s g w a m _ h hu (bindS_ok hQ fun s1 g1 w1 a1 m1 h1 hu1 _ hQ1 => ihy s1 g1 w1 a1 m1 Q h1 hu1 hQ1))
  | cond x y z ihy ihz =>
    intro s g w a m Q h hu hQ
    have hv := src_val c [] x g w [] s.st a h.sr
    have hQ : OutS c c0 cs g w (condO ((srcOf c [] x).g [] s.st) ((sgOf P c f y).g e s) ((sgOf P c f z).g e s)) Q := hQ
    generalize (srcOf c [] x).g [] s.st = v at hv hQ
    unfold condO at hQ
    cases hb : Nat.beq v.k 1 with
    | false => rw [hb] at hQ; exact hQ.elim
    | true =>
      rw [hb] at hQ
      refine wpS_cond (hv.vk.bool (beqK hb)).1 ?_
      cases ht : Nat.beq v.a 1 with
      | true => rw [ht] at hQ; exact ihy s g w a m Q h hu hQ
      | false => rw [ht] at hQ; exact ihz s g w a m Q h hu hQ
  | exit id =>
    intro s g w a m Q h hu hQ
    exact wpS_of_wp (wp_exit (hQ g w a m h hu (Evo.refl g w)))
  | ret =>
    intro s g w a m Q h hu hQ
    exact wpS_of_wp (wp_ret (hQ g w a m h hu (Evo.refl g w)))
  | _ => intro s g w a m Q h hu hQ; exact plain _ s g w a m Q h hu hQ
theorem DRs_nil {ds : List Deferred} (h : DRs g w [] ds) : ds = [] := by cases h; rfl
/-- A deferred function answers as its code does. -/
theorem evU_ok (hC : SndO P e.call) (hL : SndL P c f e) (hA : SndA P c e.call) {fn : Func} {b : Code} (hf : P.funcs[f]? = some fn) (hb : fn.body = some b) (hn : fn.ntmps = c.n) (hnp : c.np ≤ c.n) {args : List FV} {H : MH} {u : FV} (hl : args.length ≤ c.np) {r : Res}
    (hr : finishU (rgOf P c fn.results.toList) H.next ((sgOf P c f b).g e ⟨(pgOf c c.np 0).g args .e, H, [], u⟩) = r) (hne : r ≠ .fail) {xs : List Value} {m : FrameMode} (hH : HR g w H) (hv : VRs g w args xs) (hu : UR g w u m) :
    CallsD P f (List.toArray xs) m w (ResU g w r) := by
  refine callsD_of_wpS hf hb fun c0 cs hm => ?_
  rw [hn]
  have e0 : c0 = { c0 with mode := m } := by cases c0; cases hm; rfl
  have key : OutS c c0 cs g w ((sgOf P c f b).g e ⟨(pgOf c c.np 0).g args .e, H, [], u⟩) (bodyPostS P fn c0 cs (ResU g w r)) := by
    generalize (sgOf P c f b).g e ⟨(pgOf c c.np 0).g args .e, H, [], u⟩ = out at hr
    have fin : ∀ s : S, finNU (rgOf P c fn.results.toList) H.next s = r → ∀ g1 w1 a1 m1, St c g1 w1 [] [] s a1 → UR g1 w1 s.u m1 → Evo g w g1 w1 → a1.defers = [] ∧ ∃ u', ({ c0 with mode := m1 } :: cs : List Frame) = { c0 with mode := u' } :: cs ∧ ∃ v, (results fn a1.tmps).run P w1 = .ok v w1 ∧ ResU g w r (.returned v) u' w1 := by
      intro s hs g1 w1 a1 m1 h1 hu1 ev
      unfold finNU at hs
      have hd := h1.dr
      cases hD : s.D with
      | cons d D => rw [hD] at hs; exact absurd hs.symm hne
      | nil =>
        rw [hD] at hs hd
        have hs : retR ((rgOf P c fn.results.toList).g s.st s.H) (s.H.leave H.next) s.u = r := hs
        unfold retR at hs
        cases hk : allF knownF ((rgOf P c fn.results.toList).g s.st s.H) with
        | false => rw [hk] at hs; exact absurd hs.symm hne
        | true =>
          rw [hk] at hs
          obtain ⟨x, x1, x2⟩ := results_ok h1 hk
          refine ⟨DRs_nil hd, m1, rfl, x, x1, ?_⟩
          rw [← hs]
          exact ⟨g1, ev, h1.hr.leave _, ⟨x, rfl⟩, hu1⟩
    cases out with
    | norm s => exact fin s hr
    | ret s => exact fin s hr
    | exit id s => exact absurd hr.symm hne
    | fail => exact absurd hr.symm hne
    | panic ch s =>
      intro g1 w1 pc a1 m1 h1 hu1 hch ev
      have hr : finPU H.next ch s = r := hr
      unfold finPU at hr
      have hd := h1.dr
      cases hD : s.D with
      | cons d D => rw [hD] at hr; exact absurd hr.symm hne
      | nil =>
        rw [hD] at hr hd
        refine ⟨DRs_nil hd, m1, rfl, ?_⟩
        rw [← hr]
        exact ⟨g1, ev, h1.hr.leave _, ⟨pc, rfl, hch⟩, hu1⟩
  have := evs_sound (c0 := c0) (cs := cs) hC hL hA b _ g w _ m _ (enter_ok (u := u) hH hv rfl hl hnp) hu key
  rw [e0]
  exact this
/-! ### all calls, so deep at most -/
theorem fsOf_spec {x : FS} (h : fsOf P c f = some x) : ∃ fn b, P.funcs[f]? = some fn ∧ fn.body = some b ∧ fn.ntmps = c.n ∧ (fn.name == "runtime.NumGoroutine") = false ∧ c.np ≤ c.n ∧ x = ⟨c.np, pgOf c c.np 0, cgOf P c f b, sgOf P c f b, rgOf P c fn.results.toList⟩ := by
  unfold fsOf at h
  cases hf : P.funcs[f]? with
  | none => rw [hf] at h; cases h
  | some fn =>
    rw [hf] at h
    dsimp only at h
    cases hb : fn.body with
    | none => rw [hb] at h; cases h
    | some b =>
      rw [hb] at h
      dsimp only at h
      cases hc : (Nat.beq fn.ntmps c.n && !(fn.name == "runtime.NumGoroutine") && Nat.ble c.np c.n) with
      | false => rw [hc] at h; cases h
      | true =>
        rw [hc] at h
        injection h with h
        simp only [Bool.and_eq_true, Bool.not_eq_true'] at hc
        exact ⟨fn, b, rfl, hb, beqK hc.1.1, hc.1.2, Nat.le_of_ble_eq_true hc.2, h.symm⟩
structure SndE (P : Program) (K : Nat → Cf) (e : En) : Prop where
  call : SndO P e.call
  def' : SndU P e.call
  loop : ∀ f, LoopK P (K f) f e
theorem call_step {K : Nat → Cf} (h : SndE P K e) (hA : ∀ f, SndA P (K f) e.call) : SndO P (callE P K e) ∧ SndU P (callE P K e) := by
  constructor
  · intro f args H hne
    unfold callE at hne ⊢
    cases hx : fsOf P (K f) f with
    | none => rw [hx] at hne; exact absurd rfl hne
    | some x =>
      rw [hx] at hne
      obtain ⟨fn, b, hf, hb, hn, hng, hnp, rfl⟩ := fsOf_spec hx
      refine ⟨⟨fn, b, hf, hb, hng⟩, fun g w xs hH hv => ?_⟩
      have hne : (Bool.rec .fail (evN ⟨(K f).np, pgOf (K f) (K f).np 0, cgOf P (K f) f b, sgOf P (K f) f b, rgOf P (K f) fn.results.toList⟩ e args H FF) (Nat.ble (lenL args) (K f).np) : Res) ≠ .fail := hne
      show Calls P f (List.toArray xs) w (ResR g w (Bool.rec .fail (evN ⟨(K f).np, pgOf (K f) (K f).np 0, cgOf P (K f) f b, sgOf P (K f) f b, rgOf P (K f) fn.results.toList⟩ e args H FF) (Nat.ble (lenL args) (K f).np)))
      cases hl : Nat.ble (lenL args) (K f).np with
      | false => rw [hl] at hne; exact absurd rfl hne
      | true =>
        rw [hl] at hne
        have hl := Nat.le_of_ble_eq_true hl
        rw [lenL_eq] at hl
        exact evN_ok h.call h.def' (h.loop f).snd (hA f) hf hb hn hnp hl hne hH hv
  · intro f args H u hu99 hne
    unfold callE at hne ⊢
    cases hx : fsOf P (K f) f with
    | none => rw [hx] at hne; exact absurd rfl hne
    | some x =>
      rw [hx] at hne
      obtain ⟨fn, b, hf, hb, hn, hng, hnp, rfl⟩ := fsOf_spec hx
      refine ⟨⟨fn, b, hf, hb, hng⟩, fun g w xs m hH hv hm => ?_⟩
      have hne : (Bool.rec .fail (Bool.rec (evU ⟨(K f).np, pgOf (K f) (K f).np 0, cgOf P (K f) f b, sgOf P (K f) f b, rgOf P (K f) fn.results.toList⟩ e args H u) (evN ⟨(K f).np, pgOf (K f) (K f).np 0, cgOf P (K f) f b, sgOf P (K f) f b, rgOf P (K f) fn.results.toList⟩ e args H u) (Nat.beq u.k 99)) (Nat.ble (lenL args) (K f).np) : Res) ≠ .fail := hne
      show CallsD P f (List.toArray xs) m w (ResU g w (Bool.rec .fail (Bool.rec (evU ⟨(K f).np, pgOf (K f) (K f).np 0, cgOf P (K f) f b, sgOf P (K f) f b, rgOf P (K f) fn.results.toList⟩ e args H u) (evN ⟨(K f).np, pgOf (K f) (K f).np 0, cgOf P (K f) f b, sgOf P (K f) f b, rgOf P (K f) fn.results.toList⟩ e args H u) (Nat.beq u.k 99)) (Nat.ble (lenL args) (K f).np)))
      rw [beq_f hu99] at hne ⊢
      cases hl : Nat.ble (lenL args) (K f).np with
      | false => rw [hl] at hne; exact absurd rfl hne
      | true =>
        rw [hl] at hne
        have hl := Nat.le_of_ble_eq_true hl
        rw [lenL_eq] at hl
        exact evU_ok h.call (h.loop f).snd (hA f) hf hb hn hnp hl rfl hne hH hv hm
theorem eng_sound {K : Nat → Cf} (hA : ∀ f C, SndO P C → SndA P (K f) C) : ∀ n, SndE P K (eng P K n)
  | 0 => ⟨fun _ _ _ h => absurd rfl h, fun _ _ _ _ _ h => absurd rfl h, fun _ _ _ _ _ _ _ _ hQ => hQ.elim⟩
  | n + 1 => by
    have ih := eng_sound hA n
    obtain ⟨h1, h2⟩ := call_step ih fun f => hA f _ ih.call
    exact ⟨h1, h2, fun f => loop_step ih.call (ih.loop f) (hA f _ ih.call) _⟩
end
end Go.Proofs.YtkdpinpmjkomoaaGreatDoor.E
/- A reckoner for closed calls (D2): regions in an open order: a ready operation may be the first. -/
namespace Go.Proofs.YtkdpinpmjkomoaaGreatDoor.E
open Go

/-- An operation as a step: its answer hangs on what it reads. -/
structure It where
  x : DI
  os : List Operand
  F : List FV → MH → List FV → OpRes
/-- Slots, the heap, what is deferred. -/
structure Sg where
  T : Nat → FV
  H : MH
  D : List FV
noncomputable section
def tv (T : Nat → FV) : Operand → FV
  | .tmp d => T d
  | .const v => constF v
  | .func f => ⟨11, f, 0, []⟩
  | _ => FF
def wrT (T : Nat → FV) (dst : Option Nat) (v : FV) : Nat → FV := fun j => match dst with
  | some d => if j = d then v else T j
  | none => T j
def goA (y : It) (s : Sg) : OpRes := y.F (y.os.map (tv s.T)) s.H s.D
def grdA (want : Nat) (y : It) (s : Sg) (v : FV) : OpRes := cond (Nat.beq v.k 1) (cond (Nat.beq v.a want) (goA y s) (.ok UN s.H s.D)) (cond (an (Nat.beq v.k 16) (Nat.beq (lenL v.l) 0)) (.ok UN s.H s.D) .fail)
/-- A step's answer, its guard looked at. -/
def ans (ops : Array Oper) (y : It) (s : Sg) : OpRes := match y.x.o.guard with
  | none => goA y s
  | some (j, want) => match (ops[j]?).bind (·.dst) with
    | none => .fail
    | some d => grdA (cond want 1 0) y s (s.T d)
end
/-- What is known of a step. -/
structure Wf (ops : Array Oper) (y : It) : Prop where
  hi : ops[y.x.i]? = some y.x.o
  rd : ∀ d, .tmp d ∈ y.os → has y.x.R d = true
  gr : ∀ j want d, y.x.o.guard = some (j, want) → (ops[j]?).bind (·.dst) = some d → has y.x.R d = true
  wr : ∀ d, y.x.o.dst = some d → has y.x.W d = true
  k0 : y.x.k = 0 → PureF y.F
  k1 : y.x.k = 1 → ReadF y.F ∧ (∃ d, y.x.o.dst = some d) ∧ apart y.x.W y.x.R = true
  np : y.x.k ≠ 2 → ∀ vs H D ch H', y.F vs H D ≠ .panic ch H'
theorem has_bit (m n : Nat) : has m n = m.testBit n := by
  unfold has
  have e1 : Nat.land (Nat.shiftRight m n) 1 = (m >>> n) % 2 := Nat.and_one_is_mod (m >>> n)
  rw [e1, Nat.shiftRight_eq_div_pow, Nat.testBit_eq_decide_div_mod_eq]
  rw [Bool.eq_iff_iff, Nat.beq_eq, decide_eq_true_iff]
theorem apart_spec {a b d : Nat} (h : apart a b = true) (h1 : has a d = true) (h2 : has b d = true) : False := by
  have h := Nat.eq_of_beq_eq_true h
  rw [has_bit] at h1 h2
  have : (a &&& b).testBit d = true := by rw [Nat.testBit_and, h1, h2]; rfl
  have h' : a &&& b = 0 := h
  rw [h', Nat.zero_testBit] at this
  cases this
theorem apart_or {a b c : Nat} (h : apart a (Nat.lor b c) = true) : apart a b = true ∧ apart a c = true := by
  have h : a &&& (b ||| c) = 0 := Nat.eq_of_beq_eq_true h
  have key : ∀ x, (∀ d, x.testBit d = true → (b ||| c).testBit d = true) → apart a x = true := fun x hx => by
    have : a &&& x = 0 := by
      apply Nat.eq_of_testBit_eq
      intro i
      rw [Nat.testBit_and, Nat.zero_testBit]
      cases ha : a.testBit i with
      | false => rfl
      | true =>
        cases hb : x.testBit i with
        | false => rfl
        | true =>
          have h2 : (a &&& (b ||| c)).testBit i = true := by rw [Nat.testBit_and, ha, hx i hb]; rfl
          rw [h, Nat.zero_testBit] at h2
          cases h2
    show Nat.beq (Nat.land a x) 0 = true
    rw [show Nat.land a x = 0 from this]
    rfl
  exact ⟨key b fun d hd => by rw [Nat.testBit_or, hd]; rfl, key c fun d hd => by rw [Nat.testBit_or, hd, Bool.or_true]⟩
section
variable {ops : Array Oper} {y j : It} {s s' : Sg}
theorem wrT_ne {T : Nat → FV} {dst : Option Nat} {v : FV} {d : Nat} (h : dst ≠ some d) : wrT T dst v d = T d := by
  unfold wrT
  cases dst with
  | none => rfl
  | some e => exact if_neg fun h' => h (by rw [h'])
theorem wrT_eq {T : Nat → FV} {d : Nat} {v : FV} : wrT T (some d) v d = v := if_pos rfl
theorem wrT_comm {T : Nat → FV} {a b : Option Nat} {u v : FV} (h : ∀ d, a = some d → b ≠ some d) : wrT (wrT T a u) b v = wrT (wrT T b v) a u := by
  funext k
  by_cases h1 : b = some k
  · have h2 : a ≠ some k := fun e => h k e h1
    rw [wrT_ne h2, h1, wrT_eq, wrT_eq]
  · rw [wrT_ne h1]
    by_cases h2 : a = some k
    · rw [h2, wrT_eq, wrT_eq]
    · rw [wrT_ne h2, wrT_ne h2, wrT_ne h1]
/-- A step answers alike where it reads alike. -/
theorem ans_frame (hw : Wf ops y) (hT : ∀ d, has y.x.R d = true → s'.T d = s.T d) (hH : s'.H = s.H) (hD : s'.D = s.D) : ans ops y s' = ans ops y s := by
  have hgo : goA y s' = goA y s := by
    unfold goA
    rw [hH, hD]
    congr 1
    apply List.map_congr_left
    intro o ho
    cases o with
    | tmp d => exact hT d (hw.rd d ho)
    | _ => rfl
  unfold ans
  cases hg : y.x.o.guard with
  | none => exact hgo
  | some gw =>
    obtain ⟨j, want⟩ := gw
    dsimp only
    cases hd : (ops[j]?).bind (·.dst) with
    | none => rfl
    | some d =>
      dsimp only
      unfold grdA
      rw [hT d (hw.gr j want d hg hd), hgo, hH, hD]
/-- What only computes answers alike in any heap. -/
theorem ans_pure (hw : Wf ops y) (hk : y.x.k = 0) : ∃ v : Option FV, ∀ H D, ans ops y ⟨s.T, H, D⟩ = optR v H D := by
  obtain ⟨f, hf⟩ := hw.k0 hk
  have hgo : ∀ H D, goA y ⟨s.T, H, D⟩ = optR (f (y.os.map (tv s.T))) H D := fun H D => hf _ H D
  unfold ans
  cases hg : y.x.o.guard with
  | none => exact ⟨_, hgo⟩
  | some gw =>
    obtain ⟨j, want⟩ := gw
    dsimp only
    cases hd : (ops[j]?).bind (·.dst) with
    | none => exact ⟨none, fun _ _ => rfl⟩
    | some d =>
      dsimp only
      unfold grdA
      cases Nat.beq (s.T d).k 1 with
      | true =>
        cases Nat.beq (s.T d).a (cond want 1 0) with
        | true => exact ⟨_, hgo⟩
        | false => exact ⟨some UN, fun _ _ => rfl⟩
      | false =>
        cases an (Nat.beq (s.T d).k 16) (Nat.beq (lenL (s.T d).l) 0) with
        | true => exact ⟨some UN, fun _ _ => rfl⟩
        | false => exact ⟨none, fun _ _ => rfl⟩
/-- What reads leaves the heap as it is. -/
theorem ans_read (hw : Wf ops y) (hk : y.x.k = 1) (H : MH) : ∃ v : Option FV, ∀ D, ans ops y ⟨s.T, H, D⟩ = optR v H D := by
  obtain ⟨⟨f, hf⟩, _⟩ := hw.k1 hk
  have hgo : ∀ D, goA y ⟨s.T, H, D⟩ = optR (f (y.os.map (tv s.T)) H) H D := fun D => hf _ H D
  unfold ans
  cases hg : y.x.o.guard with
  | none => exact ⟨_, hgo⟩
  | some gw =>
    obtain ⟨j, want⟩ := gw
    dsimp only
    cases hd : (ops[j]?).bind (·.dst) with
    | none => exact ⟨none, fun _ => rfl⟩
    | some d =>
      dsimp only
      unfold grdA
      cases Nat.beq (s.T d).k 1 with
      | true =>
        cases Nat.beq (s.T d).a (cond want 1 0) with
        | true => exact ⟨_, hgo⟩
        | false => exact ⟨some UN, fun _ => rfl⟩
      | false =>
        cases an (Nat.beq (s.T d).k 16) (Nat.beq (lenL (s.T d).l) 0) with
        | true => exact ⟨some UN, fun _ => rfl⟩
        | false => exact ⟨none, fun _ => rfl⟩
theorem ans_lo (hw : Wf ops y) (hk : y.x.k ≤ 1) : ∃ v : Option FV, ∀ D, ans ops y ⟨s.T, s.H, D⟩ = optR v s.H D := by
  have : y.x.k = 0 ∨ y.x.k = 1 := by omega
  rcases this with e | e
  · obtain ⟨v, hv⟩ := ans_pure (s := s) hw e
    exact ⟨v, fun D => hv s.H D⟩
  · exact ans_read (s := s) hw e s.H
theorem ans_lo_ok (hw : Wf ops y) (hk : y.x.k ≤ 1) {v : FV} {H : MH} {D : List FV} (h : ans ops y s = .ok v H D) : H = s.H ∧ D = s.D ∧ ∀ D', ans ops y ⟨s.T, s.H, D'⟩ = .ok v s.H D' := by
  obtain ⟨u, hu⟩ := ans_lo (s := s) hw hk
  have h0 : ans ops y s = optR u s.H s.D := hu s.D
  rw [h0] at h
  cases u with
  | none => cases h
  | some u =>
    injection h with h1 h2 h3
    subst h1
    exact ⟨h2.symm, h3.symm, hu⟩
theorem ans_np (hw : Wf ops y) (hk : y.x.k ≠ 2) {ch : List FV} {H : MH} : ans ops y s ≠ .panic ch H := by
  intro h
  unfold ans at h
  cases hg : y.x.o.guard with
  | none => rw [hg] at h; exact hw.np hk _ _ _ _ _ h
  | some gw =>
    obtain ⟨j, want⟩ := gw
    rw [hg] at h
    dsimp only at h
    cases hd : (ops[j]?).bind (·.dst) with
    | none => rw [hd] at h; cases h
    | some d =>
      rw [hd] at h
      dsimp only at h
      unfold grdA at h
      cases h1 : Nat.beq (s.T d).k 1 with
      | true =>
        rw [h1] at h
        cases h2 : Nat.beq (s.T d).a (cond want 1 0) with
        | true => rw [h2] at h; exact hw.np hk _ _ _ _ _ h
        | false => rw [h2] at h; cases h
      | false =>
        rw [h1] at h
        cases h2 : an (Nat.beq (s.T d).k 16) (Nat.beq (lenL (s.T d).l) 0) with
        | true => rw [h2] at h; cases h
        | false => rw [h2] at h; cases h
/-- A load, done again, answers the same. -/
def Chk (ops : Array Oper) (r : It) (s : Sg) : Prop := ∃ d, r.x.o.dst = some d ∧ ans ops r s = .ok (s.T d) s.H s.D
theorem Chk.frame {r : It} (hw : Wf ops r) (h : Chk ops r s) (hT : ∀ d, has r.x.R d = true ∨ has r.x.W d = true → s'.T d = s.T d) (hH : s'.H = s.H) (hD : s'.D = s.D) : Chk ops r s' := by
  obtain ⟨d, hd, h⟩ := h
  refine ⟨d, hd, ?_⟩
  rw [ans_frame hw (fun e he => hT e (.inl he)) hH hD, h, hT d (.inr (hw.wr d hd)), hH, hD]
inductive SOut where
  | norm (s : Sg)
  | pan (ch : List FV) (H : MH) (D : List FV)
/-- What is left when a call panics runs. -/
def ChkP (ops : Array Oper) : List It → Sg → Prop
  | [], _ => True
  | y :: l, s => y.x.k ≠ 2 ∧ ∃ v H D, ans ops y s = .ok v H D ∧ ChkP ops l ⟨wrT s.T y.x.o.dst v, H, D⟩
def aft (i : Nat) (y : It) : Bool := !has y.x.A i
inductive Run (ops : Array Oper) : List It → List It → Sg → SOut → Prop
  | nil {rs s} : Run ops [] rs s (.norm s)
  | lo {y l rs s v out} (hk : y.x.k ≤ 1) (h : ans ops y s = .ok v s.H s.D) (t : Run ops l (if y.x.k = 1 then y :: rs else rs) ⟨wrT s.T y.x.o.dst v, s.H, s.D⟩ out) : Run ops (y :: l) rs s out
  | hi {y l rs s v H D out} (hk : 2 ≤ y.x.k) (h : ans ops y s = .ok v H D) (hc : ∀ r ∈ rs, has y.x.A r.x.i = true ∨ Chk ops r ⟨wrT s.T y.x.o.dst v, H, D⟩) (t : Run ops l rs ⟨wrT s.T y.x.o.dst v, H, D⟩ out) : Run ops (y :: l) rs s out
  | pan {y l rs s ch H} (hk : y.x.k = 2) (h : ans ops y s = .panic ch H) (hc : ChkP ops (l.filter (aft y.x.i)) s) : Run ops (y :: l) rs s (.pan ch H s.D)
theorem Run.less {l rs : List It} {out : SOut} (h : Run ops l rs s out) : ∀ {rs' : List It}, (∀ r ∈ rs', r ∈ rs) → Run ops l rs' s out := by
  induction h with
  | nil => exact fun _ => .nil
  | lo hk h t ih =>
    intro rs' hs
    refine .lo hk h (ih ?_)
    split
    · rename_i h1
      simp only [h1, if_true] at ih ⊢
      intro r hr
      rcases List.mem_cons.1 hr with rfl | hr
      · exact List.mem_cons_self
      · exact List.mem_cons_of_mem _ (hs r hr)
    · exact hs
  | hi hk h hc t ih => exact fun hs => .hi hk h (fun r hr => hc r (hs r hr)) (ih hs)
  | pan hk h hc => exact fun _ => .pan hk h hc
/-- j stands ahead of y, and neither need wait for the other. -/
structure Free (j y : It) : Prop where
  a : has y.x.A j.x.i = false
  b : has j.x.A y.x.i = false
  w1 : apart j.x.W (Nat.lor y.x.R y.x.W) = true
  w2 : apart y.x.W (Nat.lor j.x.R j.x.W) = true
  k1 : ¬ (2 ≤ j.x.k ∧ y.x.k = 1)
  k2 : ¬ (j.x.k = 2 ∧ y.x.k = 2)
  k3 : ¬ (j.x.k = 3 ∧ y.x.k = 2)
theorem Free.dst (h : Free j y) (hj : Wf ops j) (hy : Wf ops y) : ∀ d, j.x.o.dst = some d → y.x.o.dst ≠ some d := fun d h1 h2 => apart_spec (apart_or h.w1).2 (hj.wr d h1) (hy.wr d h2)
theorem Free.rdY (h : Free j y) (hj : Wf ops j) {d : Nat} (hd : has y.x.R d = true) : j.x.o.dst ≠ some d := fun e => apart_spec (apart_or h.w1).1 (hj.wr d e) hd
theorem Free.rdJ (h : Free j y) (hy : Wf ops y) {d : Nat} (hd : has j.x.R d = true) : y.x.o.dst ≠ some d := fun e => apart_spec (apart_or h.w2).1 (hy.wr d e) hd
/-- One that computes or reads, over one ahead of it. -/
theorem swap_lo (hj : Wf ops j) (hy : Wf ops y) (hf : Free j y) (hk : y.x.k ≤ 1) {v v' : FV} {H : MH} {D : List FV} (h1 : ans ops j s = .ok v H D) (h2 : ans ops y ⟨wrT s.T j.x.o.dst v, H, D⟩ = .ok v' H D) :
    ans ops y s = .ok v' s.H s.D ∧ ans ops j ⟨wrT s.T y.x.o.dst v', s.H, s.D⟩ = .ok v H D ∧ (⟨wrT (wrT s.T y.x.o.dst v') j.x.o.dst v, H, D⟩ : Sg) = ⟨wrT (wrT s.T j.x.o.dst v) y.x.o.dst v', H, D⟩ := by
  have e1 : ans ops y ⟨s.T, H, D⟩ = .ok v' H D := by
    have e := ans_frame (s := ⟨s.T, H, D⟩) (s' := ⟨wrT s.T j.x.o.dst v, H, D⟩) hy (fun d hd => wrT_ne (hf.rdY hj hd)) rfl rfl
    rw [← e]
    exact h2
  refine ⟨?_, ?_, by rw [wrT_comm (hf.dst hj hy)]⟩
  · have : y.x.k = 0 ∨ y.x.k = 1 := by omega
    rcases this with hk0 | hk1
    · obtain ⟨u, hu⟩ := ans_pure (s := s) hy hk0
      rw [hu] at e1
      have e2 : ans ops y s = optR u s.H s.D := hu s.H s.D
      rw [e2]
      cases u with
      | none => cases e1
      | some u => injection e1 with e1; subst e1; rfl
    · have hj1 : j.x.k ≤ 1 := by have := hf.k1; omega
      obtain ⟨a1, a2, _⟩ := ans_lo_ok hj hj1 h1
      subst a1
      subst a2
      exact e1
  · rw [← h1]
    exact ans_frame hj (fun d hd => wrT_ne (hf.rdJ hy hd)) rfl rfl
theorem chkP_front (hy : Wf ops y) (hk : y.x.k = 0) : ∀ (pre post : List It) (s : Sg), (∀ j ∈ pre, Wf ops j ∧ Free j y) → ChkP ops (pre ++ y :: post) s → ∃ v, ans ops y s = .ok v s.H s.D ∧ ChkP ops (pre ++ post) ⟨wrT s.T y.x.o.dst v, s.H, s.D⟩
  | [], post, s, _, h => by
    obtain ⟨_, v, H, D, h1, h2⟩ := h
    obtain ⟨a1, a2, _⟩ := ans_lo_ok hy (by omega) h1
    subst a1
    subst a2
    exact ⟨v, h1, h2⟩
  | j :: pre, post, s, hp, h => by
    obtain ⟨h0, v, H, D, h1, h2⟩ := h
    obtain ⟨hj, hf⟩ := hp j List.mem_cons_self
    obtain ⟨v', h3, h4⟩ := chkP_front hy hk pre post _ (fun i hi => hp i (List.mem_cons_of_mem _ hi)) h2
    obtain ⟨e1, e2, e3⟩ := swap_lo hj hy hf (by omega) h1 h3
    refine ⟨v', e1, h0, v, H, D, e2, ?_⟩
    rw [e3]
    exact h4
/-- One that computes or reads is the first. -/
theorem front_lo (hy : Wf ops y) (hk : y.x.k ≤ 1) : ∀ (pre post rs : List It) (s : Sg) (out : SOut), (∀ j ∈ pre, Wf ops j ∧ Free j y) → (∀ r ∈ rs, Wf ops r ∧ apart y.x.W (Nat.lor r.x.R r.x.W) = true) → Run ops (pre ++ y :: post) rs s out → ∃ v, ans ops y s = .ok v s.H s.D ∧ Run ops (pre ++ post) rs ⟨wrT s.T y.x.o.dst v, s.H, s.D⟩ out
  | [], post, rs, s, out, _, _, h => by
    cases h with
    | lo _ h t =>
      refine ⟨_, h, t.less ?_⟩
      split
      · exact fun r hr => List.mem_cons_of_mem _ hr
      · exact fun r hr => hr
    | hi hk2 => omega
    | pan hk2 => omega
  | j :: pre, post, rs, s, out, hp, hrs, h => by
    obtain ⟨hj, hf⟩ := hp j List.mem_cons_self
    have hp' : ∀ i ∈ pre, Wf ops i ∧ Free i y := fun i hi => hp i (List.mem_cons_of_mem _ hi)
    cases h with
    | lo hkj h1 t =>
      have hrs' : ∀ r ∈ (if j.x.k = 1 then j :: rs else rs), Wf ops r ∧ apart y.x.W (Nat.lor r.x.R r.x.W) = true := by
        split
        · intro r hr
          rcases List.mem_cons.1 hr with rfl | hr
          · exact ⟨hj, hf.w2⟩
          · exact hrs r hr
        · exact hrs
      obtain ⟨v', h3, h4⟩ := front_lo hy hk pre post _ _ out hp' hrs' t
      obtain ⟨e1, e2, e3⟩ := swap_lo hj hy hf hk h1 h3
      refine ⟨v', e1, .lo hkj e2 ?_⟩
      show Run ops (pre ++ post) _ ⟨wrT (wrT s.T y.x.o.dst v') j.x.o.dst _, s.H, s.D⟩ out
      rw [e3]
      exact h4
    | hi hkj h1 hc t =>
      obtain ⟨v', h3, h4⟩ := front_lo hy hk pre post rs _ out hp' hrs t
      obtain ⟨e1, e2, e3⟩ := swap_lo hj hy hf hk h1 h3
      refine ⟨v', e1, .hi hkj e2 (fun r hr => (hc r hr).imp (fun e => e) fun hcr => ?_) ?_⟩
      · obtain ⟨hr1, hr2⟩ := hrs r hr
        show Chk ops r ⟨wrT (wrT s.T y.x.o.dst v') j.x.o.dst _, _, _⟩
        rw [e3]
        refine hcr.frame hr1 (fun d hd => wrT_ne fun e => ?_) rfl rfl
        rcases hd with hd | hd
        · exact apart_spec (apart_or hr2).1 (hy.wr d e) hd
        · exact apart_spec (apart_or hr2).2 (hy.wr d e) hd
      · show Run ops (pre ++ post) _ ⟨wrT (wrT s.T y.x.o.dst v') j.x.o.dst _, _, _⟩ out
        rw [e3]
        exact h4
    | pan hkj h1 hc =>
      have hk0 : y.x.k = 0 := by have := hf.k1; omega
      have hfy : aft j.x.i y = true := by unfold aft; rw [hf.a]; rfl
      have hc : ChkP ops ((pre ++ y :: post).filter (aft j.x.i)) s := hc
      rw [List.filter_append, List.filter_cons_of_pos hfy] at hc
      obtain ⟨v', e1, h4⟩ := chkP_front hy hk0 (pre.filter (aft j.x.i)) (post.filter (aft j.x.i)) s (fun i hi => hp' i (List.mem_filter.1 hi).1) hc
      refine ⟨v', e1, .pan (s := ⟨wrT s.T y.x.o.dst v', s.H, s.D⟩) hkj ?_ ?_⟩
      · rw [← h1]
        exact ans_frame hj (fun d hd => wrT_ne (hf.rdJ hy hd)) rfl rfl
      · show ChkP ops ((pre ++ post).filter (aft j.x.i)) _
        rw [List.filter_append]
        exact h4
/-- One that acts is the first, over such as compute or read. -/
theorem front_hi (hy : Wf ops y) (hk : 2 ≤ y.x.k) : ∀ (pre post rs : List It) (s : Sg) (out : SOut), (∀ j ∈ pre, Wf ops j ∧ Free j y ∧ j.x.k ≤ 1) → pre.Pairwise (fun r j => r.x.k = 1 → apart j.x.W (Nat.lor r.x.R r.x.W) = true) → (∀ r ∈ rs, Wf ops r ∧ ∀ j ∈ pre, apart j.x.W (Nat.lor r.x.R r.x.W) = true) → Run ops (pre ++ y :: post) rs s out →
    (∃ v H D, ans ops y s = .ok v H D ∧ (∀ r ∈ rs, has y.x.A r.x.i = true ∨ Chk ops r ⟨wrT s.T y.x.o.dst v, H, D⟩) ∧ Run ops (pre ++ post) rs ⟨wrT s.T y.x.o.dst v, H, D⟩ out) ∨ ∃ ch H, y.x.k = 2 ∧ ans ops y s = .panic ch H ∧ out = .pan ch H s.D
  | [], post, rs, s, out, _, _, _, h => by
    cases h with
    | lo hk1 => omega
    | hi _ h1 hc t => exact .inl ⟨_, _, _, h1, hc, t⟩
    | pan hk2 h1 _ => exact .inr ⟨_, _, hk2, h1, rfl⟩
  | j :: pre, post, rs, s, out, hp, hpw, hrs, h => by
    obtain ⟨hj, hf, hkj⟩ := hp j List.mem_cons_self
    have hp' : ∀ i ∈ pre, Wf ops i ∧ Free i y ∧ i.x.k ≤ 1 := fun i hi => hp i (List.mem_cons_of_mem _ hi)
    obtain ⟨pw1, pw2⟩ := List.pairwise_cons.1 hpw
    cases h with
    | hi hk2 => omega
    | pan hk2 => omega
    | @lo _ _ _ _ vj _ _ h1 t =>
      have hrs' : ∀ r ∈ (if j.x.k = 1 then j :: rs else rs), Wf ops r ∧ ∀ i ∈ pre, apart i.x.W (Nat.lor r.x.R r.x.W) = true := by
        split
        · rename_i hj1
          intro r hr
          rcases List.mem_cons.1 hr with rfl | hr
          · exact ⟨hj, fun i hi => pw1 i hi hj1⟩
          · exact ⟨(hrs r hr).1, fun i hi => (hrs r hr).2 i (List.mem_cons_of_mem _ hi)⟩
        · exact fun r hr => ⟨(hrs r hr).1, fun i hi => (hrs r hr).2 i (List.mem_cons_of_mem _ hi)⟩
      have hfr : ans ops y ⟨wrT s.T j.x.o.dst vj, s.H, s.D⟩ = ans ops y s := ans_frame hy (fun d hd => wrT_ne (hf.rdY hj hd)) rfl rfl
      rcases front_hi hy hk pre post _ _ out hp' pw2 hrs' t with ⟨v, H, D, h3, h4, h5⟩ | ⟨ch, H, h3, h4, h5⟩
      · rw [hfr] at h3
        have ecomm : (⟨wrT (wrT s.T y.x.o.dst v) j.x.o.dst vj, H, D⟩ : Sg) = ⟨wrT (wrT s.T j.x.o.dst vj) y.x.o.dst v, H, D⟩ := by rw [wrT_comm (hf.dst hj hy)]
        left
        refine ⟨v, H, D, h3, fun r hr => ?_, ?_⟩
        · have hm : r ∈ (if j.x.k = 1 then j :: rs else rs) := by
            split
            · exact List.mem_cons_of_mem _ hr
            · exact hr
          refine (h4 r hm).imp (fun e => e) fun hc => ?_
          have hjw := (hrs r hr).2 j List.mem_cons_self
          refine hc.frame (s := ⟨wrT (wrT s.T j.x.o.dst vj) y.x.o.dst v, H, D⟩) (hrs r hr).1 (fun d hd => ?_) rfl rfl
          have hjd : j.x.o.dst ≠ some d := fun e => by
            rcases hd with hd | hd
            · exact apart_spec (apart_or hjw).1 (hj.wr d e) hd
            · exact apart_spec (apart_or hjw).2 (hj.wr d e) hd
          show wrT s.T y.x.o.dst v d = wrT (wrT s.T j.x.o.dst vj) y.x.o.dst v d
          rw [wrT_comm (hf.dst hj hy), wrT_ne hjd]
        · have hvj : ans ops j ⟨wrT s.T y.x.o.dst v, H, D⟩ = .ok vj H D := by
            have : j.x.k = 0 ∨ j.x.k = 1 := by omega
            rcases this with hk0 | hk1
            · have e1 : ans ops j ⟨wrT s.T y.x.o.dst v, H, D⟩ = ans ops j ⟨s.T, H, D⟩ := ans_frame hj (fun d hd => wrT_ne (hf.rdJ hy hd)) rfl rfl
              obtain ⟨u, hu⟩ := ans_pure (s := s) hj hk0
              have h0 : ans ops j s = optR u s.H s.D := hu s.H s.D
              rw [h1] at h0
              rw [e1, hu]
              cases u with
              | none => cases h0
              | some u => injection h0 with h0; subst h0; rfl
            · obtain ⟨_, ⟨d, hd⟩, hap⟩ := hj.k1 hk1
              have hcj := h4 j (by rw [if_pos hk1]; exact List.mem_cons_self)
              rcases hcj with e | ⟨d', hd', hc⟩
              · rw [hf.a] at e; cases e
              · rw [hd] at hd'
                injection hd' with hd'
                subst hd'
                have hyd : y.x.o.dst ≠ some d := fun e => hf.dst hj hy d hd e
                have e1 : ans ops j ⟨wrT s.T y.x.o.dst v, H, D⟩ = ans ops j ⟨wrT (wrT s.T j.x.o.dst vj) y.x.o.dst v, H, D⟩ := ans_frame hj (fun e he => by
                  have hje : j.x.o.dst ≠ some e := fun h => apart_spec hap (hj.wr e h) he
                  show wrT s.T y.x.o.dst v e = wrT (wrT s.T j.x.o.dst vj) y.x.o.dst v e
                  rw [wrT_comm (hf.dst hj hy), wrT_ne hje]) rfl rfl
                rw [e1, hc]
                show OpRes.ok (wrT (wrT s.T j.x.o.dst vj) y.x.o.dst v d) H D = _
                rw [wrT_ne hyd, hd, wrT_eq]
          have t' : Run ops (pre ++ post) (if j.x.k = 1 then j :: rs else rs) ⟨wrT (wrT s.T y.x.o.dst v) j.x.o.dst vj, H, D⟩ out := by rw [ecomm]; exact h5
          exact .lo hkj hvj t'
      · rw [hfr] at h4
        exact .inr ⟨ch, H, h3, h4, h5⟩
end
end Go.Proofs.YtkdpinpmjkomoaaGreatDoor.E
/- A reckoner for closed calls (D3): regions in an open order: states, new blocks that come early. -/
namespace Go.Proofs.YtkdpinpmjkomoaaGreatDoor.E
open Go

/-- A new block's step. -/
structure AlI (P : Program) (y : It) (loc : Bool) (l : List FV) (cur : Array Value) (e d : Nat) : Prop where
  F : ∀ vs H D, y.F vs H D = .ok ⟨4, H.nid loc, 0, []⟩ (H.new loc ⟨15, e, 0, l⟩) D
  v : ∀ g w, VRs g w l cur.toList
  run : ∀ (w : World) (a : Act), (execOp a.eval y.x.o).run P w = .ok (.value (.pointer (some ⟨w.heap.size, 0, none⟩))) (w.alloc (.cells cur e))
  grd : y.x.o.guard = none
  dst : y.x.o.dst = some d
structure Wg (P : Program) (c : Cf) (ops : Array Oper) (y : It) : Prop where
  wf : Wf ops y
  dlt : ∀ d, y.x.o.dst = some d → d < c.n
  snd : ∀ (g : G) (w : World) (a : Act) H D vs, HR g w H → DRs g w D a.defers → VRs g w vs (y.os.map a.eval) → Snd P y.x.o g w a (y.F vs H D)
  al : y.x.k = 3 → (∀ s, ans ops y s = .fail) ∨ ∃ loc l cur e d, AlI P y loc l cur e d
  k3 : y.x.k ≤ 3
section
variable {P : Program} {c : Cf} {ops : Array Oper} {y : It} {s : Sg} {g g' g0 : G} {w w' w0 : World} {a : Act}
theorem tv_vals (T : Nat → FV) : ∀ (os : List Operand), (∀ d, .tmp d ∈ os → VR g w (T d) (a.tmps.getD d undef)) → VRs g w (os.map (tv T)) (os.map a.eval)
  | [], _ => VRs.nil'
  | o :: os, h => by
    refine VRs.cons' ?_ (tv_vals T os fun d hd => h d (List.mem_cons_of_mem _ hd))
    cases o with
    | tmp d => exact h d List.mem_cons_self
    | const v => exact constF_spec v
    | func f => exact VR.of_func (cs := []) VRs.nil'
    | global _ => exact VR.ff _
/-- A step is done. -/
theorem exec_ok (hy : Wg P c ops y) (hT : ∀ d, has y.x.R d = true → VR g w (s.T d) (a.tmps.getD d undef)) (hr : HR g w s.H) (dr : DRs g w s.D a.defers) {K : Act → World → Prop} {Q : Exit → Act → World → Prop} :
    (∀ v H D, ans ops y s = .ok v H D → (∀ g' w' x ds, HR g' w' H → VR g' w' v x → DRs g' w' D ds → Evo g w g' w' → K ({ a with defers := ds }.put y.x.o.dst x) w') → wpG P ops Q y.x.o K a w) ∧
    (∀ ch H, ans ops y s = .panic ch H → (∀ g' w' pc, HR g' w' H → ChR g' w' ch pc → Evo g w g' w' → Q (.panic pc) a w') → wpG P ops Q y.x.o K a w) := by
  have hs := hy.snd g w a s.H s.D _ hr dr (tv_vals s.T y.os fun d hd => hT d (hy.wf.rd d hd))
  have go : (∀ v H D, goA y s = .ok v H D → (∀ g' w' x ds, HR g' w' H → VR g' w' v x → DRs g' w' D ds → Evo g w g' w' → K ({ a with defers := ds }.put y.x.o.dst x) w') → y.x.o.wp P a w K Q) ∧
      (∀ ch H, goA y s = .panic ch H → (∀ g' w' pc, HR g' w' H → ChR g' w' ch pc → Evo g w g' w' → Q (.panic pc) a w') → y.x.o.wp P a w K Q) := by
    constructor
    · intro v H D e hK
      have e : y.F (y.os.map (tv s.T)) s.H s.D = .ok v H D := e
      rw [e] at hs
      exact hs K Q hK
    · intro ch H e hK
      have e : y.F (y.os.map (tv s.T)) s.H s.D = .panic ch H := e
      rw [e] at hs
      exact hs K Q hK
  unfold wpG ans
  cases hg : y.x.o.guard with
  | none =>
    have hw : Region.wanted y.x.o (yielded ops a.tmps) = true := by simp [Region.wanted, hg]
    simp only [hw, if_true]
    exact go
  | some gw =>
    obtain ⟨j, want⟩ := gw
    dsimp only
    cases hd : (ops[j]?).bind (·.dst) with
    | none => exact ⟨(fun _ _ _ e => by cases e), (fun _ _ e => by cases e)⟩
    | some d =>
      dsimp only
      have hv := hT d (hy.wf.gr j want d hg hd)
      generalize s.T d = v at hv
      have skip : ¬ Region.wanted y.x.o (yielded ops a.tmps) = true → (∀ v' H D, OpRes.ok UN s.H s.D = .ok v' H D → (∀ g' w' x ds, HR g' w' H → VR g' w' v' x → DRs g' w' D ds → Evo g w g' w' → K ({ a with defers := ds }.put y.x.o.dst x) w') → (if Region.wanted y.x.o (yielded ops a.tmps) = true then y.x.o.wp P a w K Q else K (a.put y.x.o.dst undef) w)) ∧
          (∀ ch H, OpRes.ok UN s.H s.D = .panic ch H → (∀ g' w' pc, HR g' w' H → ChR g' w' ch pc → Evo g w g' w' → Q (.panic pc) a w') → (if Region.wanted y.x.o (yielded ops a.tmps) = true then y.x.o.wp P a w K Q else K (a.put y.x.o.dst undef) w)) := fun hw => by
        refine ⟨fun v' H D e hK => ?_, fun _ _ e => by cases e⟩
        rw [if_neg hw]
        injection e with e1 e2 e3
        subst e1 e2 e3
        exact hK g w undef a.defers hr VR.of_undef dr (Evo.refl g w)
      cases hb : Nat.beq v.k 1 with
      | true =>
        have eg : grdA (cond want 1 0) y s v = cond (Nat.beq v.a (cond want 1 0)) (goA y s) (.ok UN s.H s.D) := by unfold grdA; rw [hb]; rfl
        rw [eg]
        obtain ⟨e1, e2⟩ := hv.vk.bool (beqK hb)
        have hget := tmps_get e1 (by intro e; cases e)
        have hyl : yielded ops a.tmps j = some (Nat.beq v.a 1) := by
          unfold yielded
          rw [hd]
          simp [hget]
        have hw : Region.wanted y.x.o (yielded ops a.tmps) = Nat.beq v.a (cond want 1 0) := by
          simp only [Region.wanted, hg, hyl]
          have : v.a = 0 ∨ v.a = 1 := by omega
          rcases this with e | e <;> rw [e] <;> cases want <;> rfl
        cases hwa : Nat.beq v.a (cond want 1 0) with
        | true =>
          rw [hwa] at hw
          simp only [hw, if_true]
          exact go
        | false =>
          rw [hwa] at hw
          exact skip (by rw [hw]; simp)
      | false =>
        have eg : grdA (cond want 1 0) y s v = cond (an (Nat.beq v.k 16) (Nat.beq (lenL v.l) 0)) (.ok UN s.H s.D) .fail := by unfold grdA; rw [hb]; rfl
        rw [eg]
        cases hu : an (Nat.beq v.k 16) (Nat.beq (lenL v.l) 0) with
        | false => exact ⟨(fun _ _ _ e => by cases e), (fun _ _ e => by cases e)⟩
        | true =>
          obtain ⟨u1, u2⟩ := an_iff.1 hu
          obtain ⟨cs, e1, e2⟩ := hv.vk.tuple (beqK u1)
          have hl : v.l.length = 0 := by have := beqK u2; rwa [lenL_eq] at this
          have hcs : cs = [] := List.eq_nil_of_length_eq_zero (by rw [e2.length, hl])
          subst hcs
          have hyl : yielded ops a.tmps j = none := by
            unfold yielded
            rw [hd]
            rw [Array.getD_eq_getD_getElem?] at e1
            cases hq : a.tmps[d]? with
            | none => simp [hq]
            | some y => rw [hq] at e1; have e1 : y = .tuple #[] := e1; subst e1; simp [hq]
          exact skip (by simp [Region.wanted, hg, hyl])
/-! ### a block that came early -/
structure GhOk (P : Program) (g : G) (w : World) (n0 : Nat) (t : Array Value) (y : It) (b : Nat) : Prop where
  al : ∃ loc l cur e d, AlI P y loc l cur e d ∧ t.getD d undef = .pointer (some ⟨b, 0, none⟩) ∧ w.heap[b]? = some (.cells cur e (0, 0))
  rho : g.ρ b = .none
  iota : g.ι b = 0
  lo : n0 ≤ b
theorem Evo.none_lt (_hr : HR g w s.H) {b : Nat} {x : Obj} (h : w.heap[b]? = some x) : b < w.heap.size := (Array.getElem?_eq_some_iff.1 h).1
theorem GhOk.evo {n0 : Nat} {t t' : Array Value} {b : Nat} (h : GhOk P g w n0 t y b) (ev : Evo g w g' w') (ht : ∀ d, y.x.o.dst = some d → t'.getD d undef = t.getD d undef) : GhOk P g' w' n0 t' y b := by
  obtain ⟨⟨loc, l, cur, e, d, h1, h2, h3⟩, h4, h5, h6⟩ := h
  have hlt : b < w.heap.size := (Array.getElem?_eq_some_iff.1 h3).1
  obtain ⟨s1, s2, s3⟩ := ev.still b hlt h4
  exact ⟨⟨loc, l, cur, e, d, h1, (ht d h1.dst).trans h2, s1.trans h3⟩, s2, s3.trans h5, h6⟩
noncomputable def G.adopt (g : G) (H : MH) (loc : Bool) (b : Nat) : G := { g with φ := fun j => if j = H.nid loc then some b else g.φ j, ρ := fun k => if k = b then .obj (H.nid loc) else g.ρ k }
theorem Le.adopt {H : MH} (h : HR g w H) (loc : Bool) (b : Nat) : Le g w (g.adopt H loc b) w := by
  refine ⟨fun id b' e => ?_, fun _ _ e => e, fun _ => Nat.le_refl _, fun _ _ _ => rfl, fun _ _ e => e⟩
  show (if id = H.nid loc then some b else g.φ id) = some b'
  rw [if_neg]
  · exact e
  · rintro rfl; rw [h.fresh loc] at e; cases e
theorem HR.adopt {H : MH} (h : HR g w H) (loc : Bool) {b : Nat} {x : Obj} (hx : w.heap[b]? = some x) (hρ : g.ρ b = .none) (hι : g.ι b = 0) (ob : FV) (ho : OR (g.adopt H loc b) w ob b) : HR (g.adopt H loc b) w (H.new loc ob) := by
  obtain ⟨n1, n2⟩ := new_next H loc ob
  have hid := nid_lo H loc
  have hev := h.even
  have le := Le.adopt h loc b
  have hlt : b < w.heap.size := (Array.getElem?_eq_some_iff.1 hx).1
  have hρ' : ∀ k, k ≠ b → (g.adopt H loc b).ρ k = g.ρ k := fun k hk => if_neg hk
  refine ⟨?_, ?_, by rw [n1]; omega, by rw [n1]; omega, fun id k hk => ?_, ?_, fun t p hp => by rw [n1]; have := h.tau t p hp; omega, fun id hk => ?_, fun t ht => ?_, fun k id hk => ?_, fun k hk => ?_⟩
  · rw [n1]
    cases loc with
    | false => exact ⟨by show H.next < H.next + 2; omega, h.fallO⟩
    | true => exact h.fallO.mono (by omega)
  · rw [n1]
    cases loc with
    | false => exact h.fallB.mono (by omega)
    | true => exact ⟨by show Nat.succ H.next < Nat.succ (H.next + 2); omega, h.fallB⟩
  · have hk : (if id = H.nid loc then some b else g.φ id) = some k := hk
    rw [n1]
    split at hk
    · rename_i e; omega
    · have := h.phi id k hk; omega
  · rw [n1]
    show (if H.next + 2 = H.nid loc then some b else g.φ (H.next + 2)) = none
    rw [if_neg (by omega)]
    cases hq : g.φ (H.next + 2) with
    | none => rfl
    | some b => have := h.phi _ b hq; omega
  · rcases MH.get_new h loc ob id with ⟨e1, e2⟩ | ⟨e1, e2⟩
    · rw [e2]
      exact ⟨b, if_pos e1, by rw [e1]; exact if_pos rfl, ho⟩
    · rw [e2] at hk ⊢
      obtain ⟨blk, b1, b2, b3⟩ := h.obj id hk
      have hne : blk ≠ b := fun e => by rw [e, hρ] at b2; cases b2
      exact ⟨blk, (if_neg e1).trans b1, (hρ' blk hne).trans b2, b3.move le rfl⟩
  · have ht : H.isLive t = true := by unfold MH.isLive at ht ⊢; rwa [n2] at ht
    obtain ⟨blk, n, b1, b2, b3⟩ := h.tok t ht
    have hne : blk ≠ b := fun e => by rw [e, hρ] at b2; cases b2
    exact ⟨blk, n, b1, (hρ' blk hne).trans b2, b3⟩
  · by_cases hq : k = b
    · rw [hq]; exact hι
    · rw [hρ' k hq] at hk; exact h.mbl k id hk
  · have : k ≠ b := by omega
    rw [hρ' k this]
    exact h.new k hk
/-- What is left to do; what is done already, but is not yet reckoned: new blocks. -/
structure Rel (P : Program) (c : Cf) (ops : Array Oper) (g0 : G) (w0 : World) (g : G) (w : World) (rem : List (It × Option Nat)) (s : Sg) (a : Act) : Prop where
  sz : a.tmps.size = c.n
  T : ∀ d, (∀ p ∈ rem, p.2 ≠ none → p.1.x.o.dst ≠ some d) → VR g w (s.T d) (a.tmps.getD d undef)
  hr : HR g w s.H
  dr : DRs g w s.D a.defers
  gh : ∀ p ∈ rem, ∀ b, p.2 = some b → p.1.x.k = 3 ∧ GhOk P g w w0.heap.size a.tmps p.1 b
  inj : rem.Pairwise (fun p q => ∀ b, p.2 = some b → q.2 ≠ some b)
  ev : Evo g0 w0 g w
end
end Go.Proofs.YtkdpinpmjkomoaaGreatDoor.E
/- A reckoner for closed calls (D4): regions in an open order: any order answers as the one that is reckoned. -/
namespace Go.Proofs.YtkdpinpmjkomoaaGreatDoor.E
open Go

structure PairOk (x y : It) : Prop where
  b : has x.x.A y.x.i = false
  ne : x.x.i ≠ y.x.i
  r1 : x.x.k = 1 → apart y.x.W (Nat.lor x.x.R x.x.W) = true
  r3 : x.x.k = 3 → apart y.x.W x.x.W = true
  o : has y.x.A x.x.i = true ∨ (apart x.x.W (Nat.lor y.x.R y.x.W) = true ∧ apart y.x.W (Nat.lor x.x.R x.x.W) = true ∧ ¬ (2 ≤ x.x.k ∧ y.x.k = 1) ∧ ¬ (x.x.k = 2 ∧ y.x.k = 2) ∧ ¬ (x.x.k = 3 ∧ y.x.k = 2))
theorem PairOk.free {x y : It} (h : PairOk x y) (hn : has y.x.A x.x.i = false) : Free x y := by
  rcases h.o with e | ⟨h1, h2, h3, h4, h5⟩
  · rw [hn] at e; cases e
  · exact ⟨hn, h.b, h1, h2, h3, h4, h5⟩
/-- What is known of a region. -/
structure Reg (P : Program) (c : Cf) (ops : Array Oper) (M : List It) : Prop where
  wg : ∀ y ∈ M, Wg P c ops y
  pw : M.Pairwise PairOk
  tri : ∀ x a y, [x, a, y].Sublist M → 2 ≤ x.x.k → a.x.k = 3 → has a.x.A x.x.i = true ∨ (has y.x.A a.x.i = true → has y.x.A x.x.i = true)
  anc : ∀ y ∈ M, ∀ k, has y.x.A k = true → ∃ e ∈ y.x.o.after.toList, Region.binds .any e = true ∧ (e.on = k ∨ ∃ z ∈ M, z.x.i = e.on ∧ has z.x.A k = true)
  lt : ∀ y ∈ M, ∀ e ∈ y.x.o.after.toList, Region.binds .any e = true → e.on < y.x.i
  all : ∀ i, i < ops.size → ∃ y ∈ M, y.x.i = i
abbrev RemL := List (It × Option Nat)
abbrev fsts (r : RemL) : List It := r.map (·.1)
section
variable {P : Program} {c : Cf} {ops : Array Oper} {M : List It} {s : Sg} {g g0 : G} {w w0 : World} {a : Act} {out : SOut}
/-- What nobody writes. -/
def Kept (M : List It) (s s' : Sg) : Prop := ∀ d, (∀ y ∈ M, y.x.o.dst ≠ some d) → s'.T d = s.T d
theorem Kept.wr {y : It} (hy : y ∈ M) {v : FV} {H : MH} {D : List FV} : Kept M s ⟨wrT s.T y.x.o.dst v, H, D⟩ := fun _ h => wrT_ne (h y hy)
theorem Kept.trans {s1 s2 s3 : Sg} (h : Kept M s1 s2) (k : Kept M s2 s3) : Kept M s1 s3 := fun d hd => (k d hd).trans (h d hd)
theorem split_first : ∀ rem : RemL, (∀ p ∈ rem, p.1.x.k ≤ 1) ∨ ∃ pre p post, rem = pre ++ p :: post ∧ (∀ q ∈ pre, q.1.x.k ≤ 1) ∧ 2 ≤ p.1.x.k
  | [] => .inl (by simp)
  | p :: rem => by
    by_cases hp : p.1.x.k ≤ 1
    · rcases split_first rem with h | ⟨pre, q, post, rfl, h1, h2⟩
      · left
        intro q hq
        rcases List.mem_cons.1 hq with rfl | hq
        · exact hp
        · exact h q hq
      · refine .inr ⟨p :: pre, q, post, rfl, fun r hr => ?_, h2⟩
        rcases List.mem_cons.1 hr with rfl | hr
        · exact hp
        · exact h1 r hr
    · exact .inr ⟨[], p, rem, rfl, by simp, by omega⟩
/-- Ahead of each block that came early something that acts is left to do. -/
def Norm (rem : RemL) : Prop := ∀ pre y b post, rem = pre ++ (y, some b) :: post → ∃ p ∈ pre, 2 ≤ p.1.x.k ∧ p.2 = none
theorem norm_of_first {pre post : RemL} {p : It × Option Nat} (h1 : ∀ q ∈ pre, q.1.x.k ≤ 1) (hp : 2 ≤ p.1.x.k) (hn : p.2 = none) (hg : ∀ q ∈ pre ++ p :: post, ∀ b, q.2 = some b → q.1.x.k = 3) : Norm (pre ++ p :: post) := by
  intro pre' y b post' e
  rcases List.append_eq_append_iff.1 e with ⟨l, e1, e2⟩ | ⟨l, e1, e2⟩
  · cases l with
    | nil =>
      rw [List.nil_append] at e2
      injection e2 with e2 _
      rw [e2] at hn
      cases hn
    | cons q l =>
      rw [List.cons_append] at e2
      injection e2 with e2 _
      subst e2
      exact ⟨p, by rw [e1]; simp, hp, hn⟩
  · cases l with
    | nil =>
      rw [List.nil_append] at e2
      injection e2 with e2 _
      rw [← e2] at hn
      cases hn
    | cons q l =>
      rw [List.cons_append] at e2
      injection e2 with e2 _
      exfalso
      have hm : (y, some b) ∈ pre := by rw [e1, ← e2]; simp
      have h3 := hg (y, some b) (List.mem_append_left _ hm) b rfl
      have := h1 _ hm
      omega
theorem al_ans {y : It} {loc : Bool} {l : List FV} {cur : Array Value} {e d : Nat} (h : AlI P y loc l cur e d) (s : Sg) : ans ops y s = .ok ⟨4, s.H.nid loc, 0, []⟩ (s.H.new loc ⟨15, e, 0, l⟩) s.D := by
  unfold ans
  rw [h.grd]
  exact h.F _ _ _
/-- A block that came early is reckoned now. -/
theorem adopt_ok (R : Reg P c ops M) {pre post : RemL} {y : It} {b : Nat} (hsub : (fsts (pre ++ (y, some b) :: post)).Sublist M) (hpre : ∀ p ∈ pre, p.1.x.k ≤ 1) (hdone : ∀ p ∈ pre, has y.x.A p.1.x.i = false) (hr : Rel P c ops g0 w0 g w (pre ++ (y, some b) :: post) s a) (hrun : Run ops (fsts (pre ++ (y, some b) :: post)) [] s out) :
    ∃ s' g', Rel P c ops g0 w0 g' w (pre ++ post) s' a ∧ Run ops (fsts (pre ++ post)) [] s' out ∧ Kept M s s' := by
  have hym : (y, some b) ∈ pre ++ (y, some b) :: post := by simp
  have hyM : y ∈ M := hsub.subset (List.mem_map_of_mem (f := (·.1)) hym)
  have hpM : ∀ p ∈ pre, p.1 ∈ M := fun p hp => hsub.subset (List.mem_map_of_mem (f := (·.1)) (List.mem_append_left _ hp))
  obtain ⟨hk3, ⟨⟨loc, l, cur, e, d, hal, ht, hh⟩, hrho, hiota, hlo⟩⟩ := hr.gh _ hym b rfl
  have hk3 : y.x.k = 3 := hk3
  have hpw : (fsts (pre ++ (y, some b) :: post)).Pairwise PairOk := R.pw.sublist hsub
  rw [fsts, List.map_append, List.map_cons] at hpw hrun
  obtain ⟨pw1, pw2, pw3⟩ := List.pairwise_append.1 hpw
  have hfree : ∀ j ∈ fsts pre, Wf ops j ∧ Free j y ∧ j.x.k ≤ 1 := by
    intro j hj
    obtain ⟨p, hp, rfl⟩ := List.mem_map.1 hj
    exact ⟨(R.wg _ (hpM p hp)).wf, (pw3 p.1 hj y List.mem_cons_self).free (hdone p hp), hpre p hp⟩
  rcases front_hi (R.wg y hyM).wf (by omega) (fsts pre) (fsts post) [] s out hfree (pw1.imp fun h => h.r1) (by simp) hrun with ⟨v, H, D, h1, _, h3⟩ | ⟨ch, H, h1, _, _⟩
  · rw [al_ans hal s] at h1
    injection h1 with e1 e2 e3
    subst e1 e2 e3
    rw [hal.dst] at h3
    have le := Le.adopt hr.hr loc b
    refine ⟨⟨wrT s.T (some d) ⟨4, s.H.nid loc, 0, []⟩, s.H.new loc ⟨15, e, 0, l⟩, s.D⟩, g.adopt s.H loc b, ⟨hr.sz, fun d' hd' => ?_, HR.adopt hr.hr loc hh hrho hiota _ (.cells rfl (.inr rfl) hh (VRs.le le _ _ (hal.v g w))), hr.dr.le le, fun q hq b' hb' => ?_, ?_, ?_⟩, by rw [fsts, List.map_append]; exact h3, ?_⟩
    · by_cases hdd : d' = d
      · subst hdd
        rw [ht]
        show VR _ _ (wrT s.T (some d') ⟨4, s.H.nid loc, 0, []⟩ d') _
        rw [wrT_eq]
        exact VR.of_ptr [] (if_pos rfl)
      · show VR _ _ (wrT s.T (some d) ⟨4, s.H.nid loc, 0, []⟩ d') _
        rw [wrT_ne (by intro e; injection e with e; exact hdd e.symm)]
        refine VR.le le _ _ (hr.T d' fun p hp hp2 => ?_)
        rcases List.mem_append.1 hp with hp | hp
        · exact hd' p (List.mem_append_left _ hp) hp2
        · rcases List.mem_cons.1 hp with rfl | hp
          · intro e; rw [hal.dst] at e; injection e with e; exact hdd e.symm
          · exact hd' p (List.mem_append_right _ hp) hp2
    · have hq' : q ∈ pre ++ (y, some b) :: post := by
        rcases List.mem_append.1 hq with hq | hq
        · exact List.mem_append_left _ hq
        · exact List.mem_append_right _ (List.mem_cons_of_mem _ hq)
      obtain ⟨q1, ⟨qa, qb, qc, qd⟩⟩ := hr.gh q hq' b' hb'
      have hne : b' ≠ b := by
        rintro rfl
        obtain ⟨i1, i2, i3⟩ := List.pairwise_append.1 hr.inj
        rcases List.mem_append.1 hq with hq | hq
        · exact i3 q hq (y, some b') List.mem_cons_self b' hb' rfl
        · exact (List.pairwise_cons.1 i2).1 q hq b' rfl hb'
      exact ⟨q1, qa, (if_neg hne).trans qb, qc, qd⟩
    · exact hr.inj.sublist (List.Sublist.append_left (List.sublist_cons_self _ _) _)
    · refine ⟨hr.ev.le.trans le, hr.ev.size, hr.ev.os, hr.ev.tape, hr.ev.output, fun k hk hk2 => ?_⟩
      obtain ⟨s1, s2, s3⟩ := hr.ev.still k hk hk2
      have hne : k ≠ b := by omega
      exact ⟨s1, (if_neg hne).trans s2, s3⟩
    · intro d' hd'
      exact wrT_ne (fun e => hd' y hyM (hal.dst.trans e))
  · omega
theorem normalize (R : Reg P c ops M) : ∀ (n : Nat) (rem : RemL) (s : Sg) (g : G), rem.length ≤ n → (fsts rem).Sublist M → (∀ p ∈ rem, ∀ q ∈ rem, p.2 ≠ none → q.2 = none → has p.1.x.A q.1.x.i = false) → Rel P c ops g0 w0 g w rem s a → Run ops (fsts rem) [] s out →
    ∃ rem' s' g', rem'.Sublist rem ∧ (∀ p ∈ rem, p.2 = none → p ∈ rem') ∧ Norm rem' ∧ Rel P c ops g0 w0 g' w rem' s' a ∧ Run ops (fsts rem') [] s' out ∧ Kept M s s'
  | n, rem, s, g, hn, hsub, hdone, hr, hrun => by
    have hg : ∀ q ∈ rem, ∀ b, q.2 = some b → q.1.x.k = 3 := fun q hq b hb => (hr.gh q hq b hb).1
    rcases split_first rem with h | ⟨pre, p, post, e, h1, h2⟩
    · refine ⟨rem, s, g, List.Sublist.refl _, fun p hp _ => hp, fun pre y b post e => ?_, hr, hrun, fun _ _ => rfl⟩
      exfalso
      have hm : (y, some b) ∈ rem := by rw [e]; simp
      have := hg _ hm b rfl
      have := h _ hm
      omega
    · subst e
      obtain ⟨y, pb⟩ := p
      cases pb with
      | none => exact ⟨_, s, g, List.Sublist.refl _, fun p hp _ => hp, norm_of_first h1 h2 rfl hg, hr, hrun, fun _ _ => rfl⟩
      | some b =>
        have hpn : ∀ q ∈ pre, q.2 = none := fun q hq => by
          cases hq2 : q.2 with
          | none => rfl
          | some b' =>
            have := hg q (List.mem_append_left _ hq) b' hq2
            have := h1 q hq
            omega
        obtain ⟨s1, g1, r1, r2, r3⟩ := adopt_ok R hsub h1 (fun q hq => hdone (y, some b) (by simp) q (List.mem_append_left _ hq) (by simp) (hpn q hq)) hr hrun
        have hss : (pre ++ post).Sublist (pre ++ (y, some b) :: post) := List.Sublist.append_left (List.sublist_cons_self _ _) _
        cases n with
        | zero => simp at hn
        | succ n =>
          obtain ⟨rem', s', g', k1, k2, k3, k4, k5, k6⟩ := normalize R n (pre ++ post) s1 g1 (by simp at hn ⊢; omega) ((hss.map _).trans hsub) (fun p hp q hq => hdone p (hss.subset hp) q (hss.subset hq)) r1 r2
          refine ⟨rem', s', g', k1.trans hss, fun q hq hq2 => ?_, k3, k4, k5, r3.trans k6⟩
          rcases List.mem_append.1 hq with hq | hq
          · exact k2 q (List.mem_append_left _ hq) hq2
          · rcases List.mem_cons.1 hq with rfl | hq
            · cases hq2
            · exact k2 q (List.mem_append_right _ hq) hq2
end
end Go.Proofs.YtkdpinpmjkomoaaGreatDoor.E
/- A reckoner for closed calls (D5): regions in an open order, whole. -/
namespace Go.Proofs.YtkdpinpmjkomoaaGreatDoor.E
open Go

section
variable {P : Program} {c : Cf} {ops : Array Oper} {M : List It} {s s0 : Sg} {g g0 g' : G} {w w0 w' : World} {a : Act} {out : SOut}
def opI (ops : Array Oper) (i : Nat) : Oper := ops.getD i default
theorem opI_get {i : Nat} (h : i < ops.size) : ops[i]? = some (opI ops i) := by
  simp [opI, Array.getD_eq_getD_getElem?, h]
/-- What is listed holds what must come before. -/
def Down (ops : Array Oper) (l : Array Bool) : Prop := ∀ k o, ops[k]? = some o → l.getD k false = true → ∀ e ∈ o.after.toList, Region.binds .any e = true → l.getD e.on false = true
theorem ready_iff {l : Array Bool} {i : Nat} : i ∈ Region.ready .any ops l ↔ i < ops.size ∧ l.getD i true = false ∧ ∀ e ∈ (opI ops i).after.toList, Region.binds .any e = true → l.getD e.on false = true := by
  simp only [Region.ready, List.mem_filter, List.mem_range]
  constructor
  · rintro ⟨h1, h2⟩
    rw [opI_get h1] at h2
    simp only [Option.map_some, Option.getD_some, Bool.and_eq_true, Bool.not_eq_true', Array.all_eq_true', Bool.or_eq_true] at h2
    refine ⟨h1, h2.1, fun e he hb => ?_⟩
    rcases h2.2 e (Array.mem_toList_iff.1 he) with h | h
    · rw [hb] at h; cases h
    · exact h
  · rintro ⟨h1, h2, h3⟩
    refine ⟨h1, ?_⟩
    rw [opI_get h1]
    simp only [Option.map_some, Option.getD_some, Bool.and_eq_true, Bool.not_eq_true', Array.all_eq_true', Bool.or_eq_true]
    refine ⟨h2, fun e he => ?_⟩
    cases hb : Region.binds .any e with
    | false => exact .inl rfl
    | true => exact .inr (h3 e (Array.mem_toList_iff.2 he) hb)
theorem anc_done (R : Reg P c ops M) {l : Array Bool} (hl : Down ops l) : ∀ (n : Nat) (y : It), y.x.i ≤ n → y ∈ M → (∀ e ∈ y.x.o.after.toList, Region.binds .any e = true → l.getD e.on false = true) → ∀ k, has y.x.A k = true → l.getD k false = true
  | n, y, hn, hy, he, k, hk => by
    obtain ⟨e, e1, e2, e3⟩ := R.anc y hy k hk
    rcases e3 with rfl | ⟨z, z1, z2, z3⟩
    · exact he e e1 e2
    · have hlt := R.lt y hy e e1 e2
      have hd := he e e1 e2
      rw [← z2] at hd hlt
      cases n with
      | zero => omega
      | succ n => exact anc_done R hl n z (by omega) z1 (hl z.x.i z.x.o (R.wg z z1).wf.hi hd) k z3
/-- A step is done in the world. -/
theorem step_rel {y : It} (hy : Wg P c ops y) {pre post : RemL} (hr : Rel P c ops g0 w0 g w (pre ++ (y, none) :: post) s a) (hgd : ∀ p ∈ pre ++ post, p.2 ≠ none → ∀ d, y.x.o.dst = some d → p.1.x.o.dst ≠ some d) {v : FV} {H : MH} {D : List FV} {x : Value} {ds : List Deferred} (hH : HR g' w' H) (hv : VR g' w' v x) (hD : DRs g' w' D ds) (ev : Evo g w g' w') :
    Rel P c ops g0 w0 g' w' (pre ++ post) ⟨wrT s.T y.x.o.dst v, H, D⟩ ({ a with defers := ds }.put y.x.o.dst x) := by
  have hss : (pre ++ post).Sublist (pre ++ (y, none) :: post) := List.Sublist.append_left (List.sublist_cons_self _ _) _
  have hget : ∀ d, y.x.o.dst ≠ some d → ({ a with defers := ds }.put y.x.o.dst x : Act).tmps.getD d undef = a.tmps.getD d undef := fun d hd => by
    cases hq : y.x.o.dst with
    | none => rfl
    | some e =>
      have he : e < a.tmps.size := by rw [hr.sz]; exact hy.dlt e hq
      show (a.tmps.setIfInBounds e x).getD d undef = _
      rw [getD_set _ _ _ _ he, if_neg]
      rintro rfl
      exact hd hq
  refine ⟨?_, fun d hd => ?_, hH, ?_, fun p hp b hb => ?_, hr.inj.sublist hss, hr.ev.trans ev⟩
  · cases hq : y.x.o.dst with
    | none => exact hr.sz
    | some e => show (a.tmps.setIfInBounds e x).size = _; rw [Array.size_setIfInBounds]; exact hr.sz
  · by_cases hyd : y.x.o.dst = some d
    · have he : d < a.tmps.size := by rw [hr.sz]; exact hy.dlt d hyd
      show VR g' w' (wrT s.T y.x.o.dst v d) _
      rw [hyd, wrT_eq]
      show VR g' w' v ((a.tmps.setIfInBounds d x).getD d undef)
      rw [getD_set _ _ _ _ he, if_pos rfl]
      exact hv
    · rw [hget d hyd]
      show VR g' w' (wrT s.T y.x.o.dst v d) _
      rw [wrT_ne hyd]
      refine VR.le ev.le _ _ (hr.T d fun p hp hp2 => ?_)
      rcases List.mem_append.1 hp with hp | hp
      · exact hd p (List.mem_append_left _ hp) hp2
      · rcases List.mem_cons.1 hp with rfl | hp
        · exact absurd rfl hp2
        · exact hd p (List.mem_append_right _ hp) hp2
  · cases y.x.o.dst <;> exact hD
  · obtain ⟨p1, p2⟩ := hr.gh p (hss.subset hp) b hb
    exact ⟨p1, p2.evo ev fun d hd => hget d fun e => hgd p hp (by rw [hb]; simp) d e hd⟩
/-- What is asked of what comes behind the region. -/
def OutD (P : Program) (c : Cf) (ops : Array Oper) (M : List It) (g0 : G) (w0 : World) (s0 : Sg) (out : SOut) (Q : Exit → Act → World → Prop) : Prop := match out with
  | .norm s' => ∀ g' w' a', Rel P c ops g0 w0 g' w' [] s' a' → Kept M s0 s' → Q .normal a' w'
  | .pan ch H D => ∀ g' w' pc a', a'.tmps.size = c.n → (∀ d, (∀ y ∈ M, y.x.o.dst ≠ some d) → VR g' w' (s0.T d) (a'.tmps.getD d undef)) → HR g' w' H → DRs g' w' D a'.defers → ChR g' w' ch pc → Evo g0 w0 g' w' → Q (.panic pc) a' w'
/-- A new block comes early. -/
theorem early_rel {y : It} (hy : Wg P c ops y) {loc : Bool} {l : List FV} {cur : Array Value} {e d : Nat} (hal : AlI P y loc l cur e d) (hk : y.x.k = 3) {pre post : RemL} (hr : Rel P c ops g0 w0 g w (pre ++ (y, none) :: post) s a) (hgd : ∀ p ∈ pre ++ post, p.2 ≠ none → p.1.x.o.dst ≠ some d) :
    Rel P c ops g0 w0 (g.frz w 0) (w.alloc (.cells cur e)) (pre ++ (y, some w.heap.size) :: post) s (a.put y.x.o.dst (.pointer (some ⟨w.heap.size, 0, none⟩))) := by
  have ev := Evo.frz hr.hr (.cells cur e) 0
  have he : d < a.tmps.size := by rw [hr.sz]; exact hy.dlt d hal.dst
  have hput : (a.put y.x.o.dst (.pointer (some ⟨w.heap.size, 0, none⟩))).tmps = a.tmps.setIfInBounds d (.pointer (some ⟨w.heap.size, 0, none⟩)) := by rw [hal.dst]; rfl
  have hnew := hr.hr.new w.heap.size (Nat.le_refl _)
  have hold : ∀ p ∈ pre ++ post, ∀ b, p.2 = some b → b < w.heap.size ∧ p.1.x.k = 3 ∧ GhOk P g w w0.heap.size a.tmps p.1 b := fun p hp b hb => by
    have hp' : p ∈ pre ++ (y, none) :: post := by
      rcases List.mem_append.1 hp with hp | hp
      · exact List.mem_append_left _ hp
      · exact List.mem_append_right _ (List.mem_cons_of_mem _ hp)
    obtain ⟨k1, k2⟩ := hr.gh p hp' b hb
    obtain ⟨_, _, _, _, _, _, _, h3⟩ := k2.al
    exact ⟨(Array.getElem?_eq_some_iff.1 h3).1, k1, k2⟩
  refine ⟨by rw [hput, Array.size_setIfInBounds]; exact hr.sz, fun d' hd' => ?_, hr.hr.frz _ 0, ?_, fun p hp b hb => ?_, ?_, hr.ev.trans ev⟩
  · have hne : d' ≠ d := fun h => hd' (y, some w.heap.size) (by simp) (by simp) (by rw [h]; exact hal.dst)
    rw [hput, getD_set _ _ _ _ he, if_neg hne]
    refine VR.le ev.le _ _ (hr.T d' fun p hp hp2 => ?_)
    rcases List.mem_append.1 hp with hp | hp
    · exact hd' p (List.mem_append_left _ hp) hp2
    · rcases List.mem_cons.1 hp with rfl | hp
      · exact absurd rfl hp2
      · exact hd' p (List.mem_append_right _ (List.mem_cons_of_mem _ hp)) hp2
  · have : (a.put y.x.o.dst (.pointer (some ⟨w.heap.size, 0, none⟩))).defers = a.defers := by rw [hal.dst]; rfl
    rw [this]
    exact hr.dr.le ev.le
  · have hcase : p = (y, some w.heap.size) ∨ p ∈ pre ++ post := by
      rcases List.mem_append.1 hp with hp | hp
      · exact .inr (List.mem_append_left _ hp)
      · rcases List.mem_cons.1 hp with hp | hp
        · exact .inl hp
        · exact .inr (List.mem_append_right _ hp)
    rcases hcase with rfl | hp
    · injection hb with hb
      subst hb
      refine ⟨hk, ⟨loc, l, cur, e, d, hal, ?_, heap_new w _⟩, hnew.1, if_pos rfl, hr.ev.size⟩
      rw [hput, getD_set _ _ _ _ he, if_pos rfl]
    · obtain ⟨h1, h2, h3⟩ := hold p hp b hb
      refine ⟨h2, h3.evo ev fun d' hd' => ?_⟩
      have hne : d' ≠ d := fun h => hgd p hp (by rw [hb]; simp) (h ▸ hd')
      rw [hput, getD_set _ _ _ _ he, if_neg hne]
  · obtain ⟨i1, i2, i3⟩ := List.pairwise_append.1 hr.inj
    obtain ⟨i4, i5⟩ := List.pairwise_cons.1 i2
    refine List.pairwise_append.2 ⟨i1, List.pairwise_cons.2 ⟨fun q hq b hb hb2 => ?_, i5⟩, fun p hp q hq b hb hb2 => ?_⟩
    · injection hb with hb
      have := (hold q (List.mem_append_right _ hq) b hb2).1
      omega
    · rcases List.mem_cons.1 hq with rfl | hq
      · injection hb2 with hb2
        have := (hold p (List.mem_append_left _ hp) b hb).1
        omega
      · exact i3 p hp q (List.mem_cons_of_mem _ hq) b hb hb2
end
end Go.Proofs.YtkdpinpmjkomoaaGreatDoor.E
