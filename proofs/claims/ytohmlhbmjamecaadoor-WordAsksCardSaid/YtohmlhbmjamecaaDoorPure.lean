/- Plain Lean: texts as rows of runes (the model's own decoding), and what the document says of quotes, names and bad bytes, as functions on lists of bytes. No program is named here. -/
import Derived.Lib.MapLaws
namespace Go.Proofs.YtohmlhbmjamecaaDoor.P
open Go.Lib

/-! ### 1. A text's runes: each with its bytes -/
def chunksF : Nat → List UInt8 → List (Nat × List UInt8)
  | 0, _ => []
  | _ + 1, [] => []
  | f + 1, a :: t => ((decodeL (a :: t)).1, (a :: t).take (decodeL (a :: t)).2) :: chunksF f ((a :: t).drop (decodeL (a :: t)).2)
def chunks (l : List UInt8) : List (Nat × List UInt8) := chunksF l.length l

theorem chunksF_nil : ∀ f, chunksF f [] = []
  | 0 => rfl
  | _ + 1 => rfl

theorem chunksF_fuel : ∀ (n m : Nat) (l : List UInt8), l.length ≤ n → l.length ≤ m → chunksF n l = chunksF m l
  | 0, m, l, hn, _ => by
    have : l = [] := List.eq_nil_of_length_eq_zero (by omega)
    subst this
    rw [chunksF_nil, chunksF_nil]
  | n + 1, 0, l, _, hm => by
    have : l = [] := List.eq_nil_of_length_eq_zero (by omega)
    subst this
    rw [chunksF_nil, chunksF_nil]
  | n + 1, m + 1, l, hn, hm => by
    cases l with
    | nil => rfl
    | cons a t =>
      have hw := decodeL_width (a :: t)
      simp only [List.length_cons] at hn hm
      simp only [chunksF]
      rw [chunksF_fuel n m _ (by rw [List.length_drop]; simp only [List.length_cons]; omega) (by rw [List.length_drop]; simp only [List.length_cons]; omega)]

theorem chunks_nil : chunks [] = [] := rfl
theorem chunks_step (l : List UInt8) (h : l ≠ []) : chunks l = ((decodeL l).1, l.take (decodeL l).2) :: chunks (l.drop (decodeL l).2) := by
  cases l with
  | nil => exact absurd rfl h
  | cons a t =>
    have hw := decodeL_width (a :: t)
    unfold chunks
    simp only [List.length_cons, chunksF]
    rw [chunksF_fuel _ _ _ (by rw [List.length_drop]; simp only [List.length_cons]; omega) (Nat.le_refl _)]

/-- The runes from a place on, in the model's own words. -/
theorem chunks_at (s : ByteArray) (pos : Nat) (h : pos < s.size) :
    chunks (s.data.toList.drop pos) = ((Utf8.decode s pos).1, (s.data.toList.drop pos).take (Utf8.decode s pos).2) :: chunks (s.data.toList.drop (pos + (Utf8.decode s pos).2)) := by
  have hne : s.data.toList.drop pos ≠ [] := by
    intro e
    have := congrArg List.length e
    simp at this
    have : s.size = s.data.size := rfl
    omega
  rw [chunks_step _ hne]
  have e : decodeL (s.data.toList.drop pos) = Utf8.decode s pos := decodeL_drop s pos
  rw [e, List.drop_drop]
theorem chunks_end (s : ByteArray) (pos : Nat) (h : ¬ pos < s.size) : chunks (s.data.toList.drop pos) = [] := by
  have : s.data.toList.drop pos = [] := by
    apply List.drop_eq_nil_of_le
    have : s.size = s.data.size := rfl
    simp; omega
  rw [this]; rfl

/-! ### 2. To decode what was encoded -/
def ValidR (r : Nat) : Prop := r < 55296 ∨ (57343 < r ∧ r ≤ 1114111)
instance (r : Nat) : Decidable (ValidR r) := by unfold ValidR; infer_instance

theorem decodeL_valid (l : List UInt8) : ValidR (decodeL l).1 := by
  rw [decodeL_N]
  have k0 := (l.getD 0 0).toNat_lt
  have k1 := (l.getD 1 0).toNat_lt
  have k2 := (l.getD 2 0).toNat_lt
  have k3 := (l.getD 3 0).toNat_lt
  unfold ValidR
  rcases decodeN_shape l.length (l.getD 0 0).toNat (l.getD 1 0).toNat (l.getD 2 0).toNat (l.getD 3 0).toNat with ⟨c, e⟩ | ⟨c1, c2, c3, cv, e⟩ | ⟨c1, c2, c3, c4, cv, cs, e⟩ | ⟨c1, c2, c3, c4, c5, cv, cw, e⟩ | e
  all_goals (rw [e]; dsimp only; omega)

theorem byte_toNat (z : Int) (_h0 : 0 ≤ z) (h1 : z < 256) : (z.toNat.toUInt8).toNat = z.toNat := by
  simp; omega

theorem decode_encode (r : Nat) (h : ValidR r) (t : List UInt8) : decodeL (encodeRune (r : Int) ++ t) = (r, (encodeRune (r : Int)).length) := by
  rw [decodeL_N]
  unfold ValidR at h
  unfold encodeRune
  by_cases c1 : r ≤ 127
  · rw [encodeRuneZ_one (by omega) (by omega)]
    have b0 := byte_toNat (r : Int) (by omega) (by omega)
    simp only [List.map_cons, List.map_nil, List.cons_append, List.nil_append, List.length_cons, List.length_nil, List.getD_cons_zero]
    unfold decodeN
    rw [if_pos (by omega), b0]
    simp
  by_cases c2 : r ≤ 2047
  · rw [encodeRuneZ_two (by omega) (by omega)]
    have b0 := byte_toNat (192 + (r : Int) / 64) (by omega) (by omega)
    have b1 := byte_toNat (128 + (r : Int) % 64) (by omega) (by omega)
    simp only [List.map_cons, List.map_nil, List.cons_append, List.nil_append, List.length_cons, List.length_nil, List.getD_cons_zero, List.getD_cons_succ, b0, b1]
    unfold decodeN
    rw [if_neg (by omega), if_pos ⟨by omega, by omega, by omega⟩, if_pos (by omega)]
    apply Prod.ext
    · dsimp only; omega
    · rfl
  by_cases c3 : r ≤ 65535
  · rw [encodeRuneZ_three (by omega)]
    have b0 := byte_toNat (224 + (r : Int) / 4096) (by omega) (by omega)
    have b1 := byte_toNat (128 + (r : Int) / 64 % 64) (by omega) (by omega)
    have b2 := byte_toNat (128 + (r : Int) % 64) (by omega) (by omega)
    simp only [List.map_cons, List.map_nil, List.cons_append, List.nil_append, List.length_cons, List.length_nil, List.getD_cons_zero, List.getD_cons_succ, b0, b1, b2]
    unfold decodeN
    rw [if_neg (by omega), if_neg (by omega), if_pos ⟨by omega, ⟨by omega, by omega⟩, by omega, by omega⟩, if_pos (by omega)]
    apply Prod.ext
    · dsimp only; omega
    · rfl
  · rw [encodeRuneZ_four (by omega) (by omega)]
    have b0 := byte_toNat (240 + (r : Int) / 262144) (by omega) (by omega)
    have b1 := byte_toNat (128 + (r : Int) / 4096 % 64) (by omega) (by omega)
    have b2 := byte_toNat (128 + (r : Int) / 64 % 64) (by omega) (by omega)
    have b3 := byte_toNat (128 + (r : Int) % 64) (by omega) (by omega)
    simp only [List.map_cons, List.map_nil, List.cons_append, List.nil_append, List.length_cons, List.length_nil, List.getD_cons_zero, List.getD_cons_succ, b0, b1, b2, b3]
    unfold decodeN
    rw [if_neg (by omega), if_neg (by omega), if_neg (by omega), if_pos ⟨by omega, ⟨by omega, by omega⟩, ⟨by omega, by omega⟩, by omega, by omega⟩, if_pos (by omega)]
    apply Prod.ext
    · dsimp only; omega
    · rfl

theorem encode_ne (r : Int) : encodeRune r ≠ [] := by
  have := encodeRuneZ_length r
  intro e
  have h := congrArg List.length e
  simp [encodeRune] at h
  rw [h] at this
  simp at this

theorem chunks_encode (r : Nat) (h : ValidR r) (t : List UInt8) : chunks (encodeRune (r : Int) ++ t) = (r, encodeRune (r : Int)) :: chunks t := by
  rw [chunks_step _ (by simp [encode_ne]), decode_encode r h t]
  dsimp only
  rw [List.take_left, List.drop_left]

/-- A text made of runes has just them. -/
theorem chunks_runes : ∀ (rs : List Nat), (∀ r ∈ rs, ValidR r) → ∀ t, chunks (rs.flatMap (fun r => encodeRune ((r : Nat) : Int)) ++ t) = rs.map (fun r => (r, encodeRune ((r : Nat) : Int))) ++ chunks t
  | [], _, t => by simp
  | r :: rs, h, t => by
    rw [List.flatMap_cons, List.append_assoc, chunks_encode r (h r (by simp)), chunks_runes rs (fun x hx => h x (by simp [hx]))]
    simp

/-! ### 3. Bad bytes -/
def isBad (c : Nat × List UInt8) : Bool := c.1 == 65533 && c.2.length == 1
def badGo : List (Nat × List UInt8) → Nat → Int
  | [], _ => -1
  | c :: cs, at_ => if isBad c then (at_ : Int) else badGo cs (at_ + c.2.length)
/-- Where the first byte lies that is no UTF-8, or -1. -/
def bad (l : List UInt8) : Int := badGo (chunks l) 0

theorem badGo_ge : ∀ (cs : List (Nat × List UInt8)) (k : Nat), badGo cs k = -1 ∨ (k : Int) ≤ badGo cs k
  | [], _ => .inl rfl
  | c :: cs, k => by
    unfold badGo
    split
    · exact .inr (Int.le_refl _)
    · rcases badGo_ge cs (k + c.2.length) with h | h
      · exact .inl h
      · exact .inr (by omega)

theorem badGo_none : ∀ (cs : List (Nat × List UInt8)) (k : Nat), badGo cs k = -1 ↔ ∀ c ∈ cs, isBad c = false
  | [], k => by simp [badGo]
  | c :: cs, k => by
    unfold badGo
    by_cases h : isBad c = true
    · rw [if_pos h]
      constructor
      · intro e; omega
      · intro e
        have := e c (by simp)
        rw [h] at this; cases this
    · rw [if_neg h, badGo_none cs]
      simp only [List.mem_cons, forall_eq_or_imp]
      simp at h
      simp [h]

theorem bad_none (l : List UInt8) : bad l = -1 ↔ ∀ c ∈ chunks l, isBad c = false := badGo_none _ _

/-- The bytes of a text's runes are the text. -/
theorem chunksF_flat : ∀ (n : Nat) (l : List UInt8), l.length ≤ n → (chunksF n l).flatMap (·.2) = l
  | 0, l, h => by
    have : l = [] := List.eq_nil_of_length_eq_zero (by omega)
    subst this; rfl
  | n + 1, [], _ => rfl
  | n + 1, a :: t, h => by
    have hw := decodeL_width (a :: t)
    simp only [List.length_cons] at h
    simp only [chunksF, List.flatMap_cons]
    rw [chunksF_flat n _ (by rw [List.length_drop]; simp only [List.length_cons]; omega), List.take_append_drop]
theorem chunks_flat (l : List UInt8) : (chunks l).flatMap (·.2) = l := chunksF_flat _ _ (Nat.le_refl _)

/-- What each rune of a text is. -/
theorem chunksF_mem : ∀ (n : Nat) (l : List UInt8), ∀ c ∈ chunksF n l, ∃ t : List UInt8, t ≠ [] ∧ c = ((decodeL t).1, t.take (decodeL t).2)
  | 0, _, c, h => by simp [chunksF] at h
  | n + 1, [], c, h => by simp [chunksF] at h
  | n + 1, a :: t, c, h => by
    simp only [chunksF, List.mem_cons] at h
    rcases h with h | h
    · exact ⟨a :: t, by simp, h⟩
    · exact chunksF_mem n _ c h
theorem chunks_mem (l : List UInt8) (c : Nat × List UInt8) (h : c ∈ chunks l) : ∃ t : List UInt8, t ≠ [] ∧ c = ((decodeL t).1, t.take (decodeL t).2) := chunksF_mem _ _ c h

theorem chunk_valid (l : List UInt8) (c : Nat × List UInt8) (h : c ∈ chunks l) : ValidR c.1 := by
  obtain ⟨t, _, rfl⟩ := chunks_mem l c h
  exact decodeL_valid t

/-- A rune that is not bad has the bytes of its own form. -/
theorem chunk_good (l : List UInt8) (c : Nat × List UInt8) (h : c ∈ chunks l) (hb : isBad c = false) : c.2 = encodeRune (c.1 : Int) := by
  obtain ⟨t, hne, rfl⟩ := chunks_mem l c h
  have hle := decodeL_le t hne
  have hw := decodeL_width t
  refine (encode_decode t hne ?_).symm
  rintro ⟨h1, h2⟩
  rw [h1, h2] at hb
  have hl : 0 < t.length := List.length_pos_iff.2 hne
  simp [isBad] at hb
  omega

theorem encode_fffd : encodeRune (65533 : Int) = [239, 191, 189] := by decide

theorem good_encode (r : Nat) : isBad (r, encodeRune ((r : Nat) : Int)) = false := by
  unfold isBad
  by_cases h : r = 65533
  · subst h
    decide
  · simp [h]

/-! ### 4. Quotes -/
def escR (r : Nat) : List Nat := if r = 34 ∨ r = 92 then [92, r] else if r = 10 then [92, 110] else [r]
def encR (rs : List Nat) : List UInt8 := rs.flatMap fun r => encodeRune ((r : Nat) : Int)
def runesOf (l : List UInt8) : List Nat := (chunks l).map (·.1)
def inner (l : List UInt8) : List UInt8 := encR ((runesOf l).flatMap escR)
/-- The quote of a text. -/
def quote (l : List UInt8) : List UInt8 := [34] ++ inner l ++ [34]

/-- A text's unquoting, rune by rune. -/
def plainGo : List (Nat × List UInt8) → Bool → List UInt8 → Option (List UInt8)
  | [], b, acc => if b then none else some acc
  | c :: cs, b, acc =>
    if b = true ∧ c.1 = 110 then plainGo cs false (acc ++ [10])
    else if (b = true ∧ c.1 ≠ 34 ∧ c.1 ≠ 92) ∨ (b = false ∧ (c.1 = 34 ∨ c.1 = 10)) then none
    else if b = false ∧ c.1 = 92 then plainGo cs true acc
    else plainGo cs false (acc ++ encodeRune (c.1 : Int))
def plainO (l : List UInt8) : Option (List UInt8) := if bad l = -1 then plainGo (chunks l) false [] else none

theorem encR_append (a b : List Nat) : encR (a ++ b) = encR a ++ encR b := by simp [encR]
theorem encR_cons (a : Nat) (b : List Nat) : encR (a :: b) = encodeRune (a : Int) ++ encR b := by simp [encR]

theorem runes_valid (l : List UInt8) : ∀ r ∈ runesOf l, ValidR r := by
  intro r hr
  obtain ⟨c, hc, rfl⟩ := List.mem_map.1 hr
  exact chunk_valid l c hc
theorem escR_valid (r : Nat) (h : ValidR r) : ∀ x ∈ escR r, ValidR x := by
  intro x hx
  unfold escR at hx
  unfold ValidR at *
  split at hx
  · simp at hx; omega
  · split at hx
    · simp at hx; omega
    · simp at hx; omega
theorem esc_valid (rs : List Nat) (h : ∀ r ∈ rs, ValidR r) : ∀ x ∈ rs.flatMap escR, ValidR x := by
  intro x hx
  obtain ⟨r, hr, hx⟩ := List.mem_flatMap.1 hx
  exact escR_valid r (h r hr) x hx

theorem chunks_encR (rs : List Nat) (h : ∀ r ∈ rs, ValidR r) : chunks (encR rs) = rs.map (fun r => (r, encodeRune ((r : Nat) : Int))) := by
  have := chunks_runes rs h []
  simpa [encR, chunks_nil] using this
theorem runes_encR (rs : List Nat) (h : ∀ r ∈ rs, ValidR r) : runesOf (encR rs) = rs := by
  unfold runesOf
  rw [chunks_encR rs h]
  simp [Function.comp_def]
theorem bad_encR (rs : List Nat) (h : ∀ r ∈ rs, ValidR r) : bad (encR rs) = -1 := by
  rw [bad_none, chunks_encR rs h]
  intro c hc
  obtain ⟨r, _, rfl⟩ := List.mem_map.1 hc
  exact good_encode r

/-- What is valid is its runes' own forms. -/
theorem encR_runes (l : List UInt8) (h : bad l = -1) : encR (runesOf l) = l := by
  rw [bad_none] at h
  conv => rhs; rw [← chunks_flat l]
  unfold encR runesOf
  rw [List.flatMap_map]
  have : ∀ (cs : List (Nat × List UInt8)), (∀ c ∈ cs, c ∈ chunks l) → cs.flatMap (fun c => encodeRune ((c.1 : Nat) : Int)) = cs.flatMap (·.2) := by
    intro cs
    induction cs with
    | nil => intro _; rfl
    | cons c cs ih =>
      intro hc
      rw [List.flatMap_cons, List.flatMap_cons, ih (fun x hx => hc x (by simp [hx])), chunk_good l c (hc c (by simp)) (h c (hc c (by simp)))]
  exact this _ (fun _ hc => hc)

/-- Unquoting goes back, rune by rune. -/
theorem plainGo_esc : ∀ (rs : List Nat) (acc : List UInt8), plainGo ((rs.flatMap escR).map (fun r => (r, encodeRune ((r : Nat) : Int)))) false acc = some (acc ++ encR rs)
  | [], acc => by simp [plainGo, encR]
  | r :: rs, acc => by
    rw [List.flatMap_cons, List.map_append, encR_cons]
    by_cases h1 : r = 34 ∨ r = 92
    · rw [show escR r = [92, r] by unfold escR; rw [if_pos h1]]
      simp only [List.map_cons, List.map_nil, List.cons_append, List.nil_append]
      rw [plainGo, if_neg (by simp), if_neg (by simp), if_pos (by simp), plainGo, if_neg (by rintro ⟨_, h⟩; dsimp only at h; omega), if_neg (by dsimp only; simp; omega), if_neg (by simp)]
      dsimp only
      rw [plainGo_esc rs, List.append_assoc]
    · by_cases h2 : r = 10
      · subst h2
        rw [show escR 10 = [92, 110] by decide]
        simp only [List.map_cons, List.map_nil, List.cons_append, List.nil_append]
        rw [plainGo, if_neg (by simp), if_neg (by simp), if_pos (by simp), plainGo, if_pos (by simp)]
        rw [plainGo_esc rs, List.append_assoc]
        rfl
      · rw [show escR r = [r] by unfold escR; rw [if_neg h1, if_neg h2]]
        simp only [List.map_cons, List.map_nil, List.cons_append, List.nil_append]
        rw [plainGo, if_neg (by simp), if_neg (by simp; omega), if_neg (by simp; omega)]
        dsimp only
        rw [plainGo_esc rs, List.append_assoc]

/-- Unquoting a quote's inside gives the text's runes. -/
theorem plain_inner (l : List UInt8) : plainO (inner l) = some (encR (runesOf l)) := by
  have hv := esc_valid _ (runes_valid l)
  unfold plainO inner
  rw [if_pos (bad_encR _ hv), chunks_encR _ hv, plainGo_esc]
  rfl
theorem quote_encR (l : List UInt8) : quote (encR (runesOf l)) = quote l := by
  unfold quote inner
  rw [runes_encR _ (runes_valid l)]
theorem quote_eq (l : List UInt8) : quote l = encR (34 :: ((runesOf l).flatMap escR ++ [34])) := by
  unfold quote inner
  rw [encR_cons, encR_append]
  have : encodeRune (((34 : Nat)) : Int) = [34] := by decide
  rw [this]
  have h2 : encR [34] = [34] := by decide
  rw [h2]
  rfl
theorem bad_quote (l : List UInt8) : bad (quote l) = -1 := by
  rw [quote_eq]
  refine bad_encR _ ?_
  intro r hr
  have hv := esc_valid _ (runes_valid l)
  simp only [List.mem_cons, List.mem_append, List.not_mem_nil, or_false] at hr
  rcases hr with h | h | h
  · subst h; decide
  · exact hv r h
  · subst h; decide

/-! ### 5. Names -/
def smallR (r : Int) : Bool := decide (97 ≤ r) && decide (r ≤ 122)
def bigR (r : Int) : Bool := decide (65 ≤ r) && decide (r ≤ 90)
def digitR (r : Int) : Bool := decide (48 ≤ r) && decide (r ≤ 57)
def letterR (r : Int) : Bool := smallR r || bigR r || digitR r
def letterB (b : UInt8) : Bool := letterR (b.toNat : Int)

theorem smallR_iff (r : Int) : smallR r = true ↔ 97 ≤ r ∧ r ≤ 122 := by simp [smallR]
theorem bigR_iff (r : Int) : bigR r = true ↔ 65 ≤ r ∧ r ≤ 90 := by simp [bigR]
theorem digitR_iff (r : Int) : digitR r = true ↔ 48 ≤ r ∧ r ≤ 57 := by simp [digitR]
theorem letterR_iff (r : Int) : letterR r = true ↔ (97 ≤ r ∧ r ≤ 122) ∨ (65 ≤ r ∧ r ≤ 90) ∨ (48 ≤ r ∧ r ≤ 57) := by
  simp [letterR, smallR, bigR, digitR]
  omega

/-- As the program looks a text over, rune by rune. -/
def namedGo (p : Int → Bool) : Bool → List (Nat × List UInt8) → Bool
  | _, [] => true
  | z, c :: cs => if (z = true ∧ p (c.1 : Int) = false) ∨ letterR (c.1 : Int) = false then false else namedGo p false cs

theorem decodeL_low (a : UInt8) (t : List UInt8) (h : a.toNat < 128) : decodeL (a :: t) = (a.toNat, 1) := by
  rw [decodeL_N]
  unfold decodeN
  rw [if_pos (by simpa using h)]
  simp
theorem decodeL_high (a : UInt8) (t : List UInt8) (h : ¬ a.toNat < 128) : 128 ≤ (decodeL (a :: t)).1 := by
  rw [decodeL_N]
  have k1 := ((a :: t).getD 1 0).toNat_lt
  have k2 := ((a :: t).getD 2 0).toNat_lt
  have k3 := ((a :: t).getD 3 0).toNat_lt
  simp only [List.getD_cons_zero]
  rcases decodeN_shape (a :: t).length a.toNat ((a :: t).getD 1 0).toNat ((a :: t).getD 2 0).toNat ((a :: t).getD 3 0).toNat with ⟨c, e⟩ | ⟨c1, c2, c3, cv, e⟩ | ⟨c1, c2, c3, c4, cv, cs, e⟩ | ⟨c1, c2, c3, c4, c5, cv, cw, e⟩ | e
  all_goals (rw [e]; dsimp only; omega)

theorem chunks_low (a : UInt8) (t : List UInt8) (h : a.toNat < 128) : chunks (a :: t) = (a.toNat, [a]) :: chunks t := by
  rw [chunks_step _ (by simp), decodeL_low a t h]
  rfl

theorem letterB_low (a : UInt8) (h : letterB a = true) : a.toNat < 128 := by
  unfold letterB at h
  rw [letterR_iff] at h
  omega

theorem namedGo_false (p : Int → Bool) : ∀ l : List UInt8, namedGo p false (chunks l) = l.all letterB
  | [] => rfl
  | a :: t => by
    by_cases h : a.toNat < 128
    · rw [chunks_low a t h, namedGo, List.all_cons, namedGo_false p t]
      cases hl : letterR (a.toNat : Int) with
      | true => simp [letterB, hl]
      | false => simp [letterB, hl]
    · have h2 := decodeL_high a t h
      rw [chunks_step _ (by simp), namedGo]
      have hl : letterR ((decodeL (a :: t)).1 : Int) = false := by
        rw [← Bool.not_eq_true, letterR_iff]; omega
      have hl2 : letterB a = false := by
        rw [← Bool.not_eq_true]; intro hc; exact h (letterB_low a hc)
      rw [if_pos (.inr hl), List.all_cons, hl2]
      rfl

theorem namedGo_true (p : Int → Bool) (l : List UInt8) :
    namedGo p true (chunks l) = (l.all letterB && (l.isEmpty || p ((l.headD 0).toNat : Int))) := by
  cases l with
  | nil => rfl
  | cons a t =>
    by_cases h : a.toNat < 128
    · rw [chunks_low a t h, namedGo, List.all_cons, namedGo_false p t]
      simp only [List.isEmpty_cons, List.headD_cons, Bool.false_or]
      cases hl : letterR (a.toNat : Int) with
      | true => cases hq : p (a.toNat : Int) <;> simp [letterB, hl]
      | false => simp [letterB, hl]
    · have h2 := decodeL_high a t h
      rw [chunks_step _ (by simp), namedGo]
      have hl : letterR ((decodeL (a :: t)).1 : Int) = false := by
        rw [← Bool.not_eq_true, letterR_iff]; omega
      have hl2 : letterB a = false := by
        rw [← Bool.not_eq_true]; intro hc; exact h (letterB_low a hc)
      rw [if_pos (.inr hl), List.all_cons, hl2]
      rfl

/-- letters and digits, one to twenty, such a one first -/
def namedB (p : Int → Bool) (l : List UInt8) : Bool := l.all letterB && decide (1 ≤ l.length) && decide (l.length ≤ 20) && p ((l.headD 0).toNat : Int)
theorem named_eq (p : Int → Bool) (l : List UInt8) :
    (namedGo p true (chunks l) && !l.isEmpty && decide (l.length ≤ 20)) = namedB p l := by
  rw [namedGo_true p]
  unfold namedB
  cases l with
  | nil => simp
  | cons a t =>
    simp only [List.isEmpty_cons, Bool.false_or, Bool.not_false, Bool.and_true, List.length_cons]
    cases (a :: t).all letterB <;> cases p (((a :: t).headD 0).toNat : Int) <;> simp
theorem small_letter (r : Int) (h : smallR r = true) : letterR r = true := by
  rw [letterR_iff]; rw [smallR_iff] at h; omega
theorem big_letter (r : Int) (h : bigR r = true) : letterR r = true := by
  rw [letterR_iff]; rw [bigR_iff] at h; omega

def keptL : List (List UInt8) :=
  [[98, 111, 111, 108, 101, 97, 110], [105, 110, 116], [118, 111, 105, 100], [99, 108, 97, 115, 115], [101, 120, 116, 101, 110, 100, 115], [115, 116, 97, 116, 105, 99], [110, 101, 119], [116, 104, 105, 115], [115, 117, 112, 101, 114], [110, 117, 108, 108], [116, 114, 117, 101], [102, 97, 108, 115, 101], [105, 102], [101, 108, 115, 101], [119, 104, 105, 108, 101], [114, 101, 116, 117, 114, 110], [112, 114, 105, 110, 116], [97, 115, 115, 101, 114, 116], [116, 104, 114, 111, 119], [116, 114, 121], [99, 97, 116, 99, 104], [102, 105, 110, 97, 108, 108, 121], [97, 115], [105, 115]]
def keptB (l : List UInt8) : Bool := keptL.contains l
def nameB (l : List UInt8) : Bool := namedB smallR l && !keptB l
def stringL : List UInt8 := [83, 116, 114, 105, 110, 103]
def classB (l : List UInt8) : Bool := namedB bigR l && !(l == stringL)
end Go.Proofs.YtohmlhbmjamecaaDoor.P
