/- Stuffing, in plain lists of numbers: pieces of up to 254 numbers that are no zero, each with its length and one ahead: taking back and laying out are inverse. -/
import Derived.Test.YtekmjhenhgmpgaaProg
namespace Go.Proofs.Ytekmjhenhgmpgaa.Stuff

/-- how many numbers stand ahead of the first zero -/
def zero (b : List Int) : Nat := (b.takeWhile (fun x => decide (x ≠ 0))).length
theorem zero_le (b : List Int) : zero b ≤ b.length := by unfold zero; exact (List.takeWhile_prefix _).length_le

/-- the pieces of b, behind cur, which has no zero and fewer than 254 numbers -/
def encP (cur : List Int) : List Int → List Int
  | [] => ((cur.length : Int) + 1) :: cur
  | c :: r => if c = 0 then ((cur.length : Int) + 1) :: cur ++ encP [] r
    else if cur.length + 1 = 254 then 255 :: (cur ++ [c]) ++ encP [] r else encP (cur ++ [c]) r
def enc (b : List Int) : List Int := encP [] b

/-- what pieces stand for, behind out -/
def decP : Nat → List Int → List Int → Option (List Int)
  | 0, _, _ => none
  | _ + 1, _, [] => none
  | k + 1, out, n :: b => if n ≤ 0 ∨ (b.length : Int) + 1 < n then none
    else if (b.take (n.toNat - 1)).all (fun x => decide (x ≠ 0)) = false then none
    else if b.length = n.toNat - 1 then (if n = 255 then none else some (out ++ b))
    else decP k (if n < 255 then out ++ b.take (n.toNat - 1) ++ [0] else out ++ b.take (n.toNat - 1)) (b.drop (n.toNat - 1))
def dec (b : List Int) : Option (List Int) := decP (b.length + 1) [] b

theorem encP_length (cur b : List Int) : cur.length + b.length + 1 ≤ (encP cur b).length := by
  induction b generalizing cur with
  | nil => simp [encP]
  | cons c r ih =>
    unfold encP
    split
    · have := ih []; simp at this ⊢; omega
    · split
      · have := ih []; simp at this ⊢; omega
      · have := ih (cur ++ [c]); simp at this ⊢; omega
theorem encP_pos (cur b : List Int) : ∃ n r, encP cur b = n :: r := by
  have := encP_length cur b
  cases h : encP cur b with
  | nil => rw [h] at this; simp at this
  | cons n r => exact ⟨n, r, rfl⟩

/-- a piece and what is behind it, taken back -/
theorem decP_piece {k : Nat} {out cur rest : List Int} (hc : ∀ x ∈ cur, x ≠ 0) (hl : cur.length < 255) (hr : rest ≠ []) :
    decP (k + 1) out (((cur.length : Int) + 1) :: (cur ++ rest)) = decP k (if cur.length < 254 then out ++ cur ++ [0] else out ++ cur) rest := by
  conv => lhs; unfold decP
  have e : ((cur.length : Int) + 1).toNat - 1 = cur.length := by omega
  rw [if_neg (by simp; omega), e, List.take_left, List.drop_left]
  have ha : cur.all (fun x => decide (x ≠ 0)) = true := by simpa using hc
  rw [ha, if_neg (by simp)]
  have hrl : 0 < rest.length := List.length_pos_iff.2 hr
  rw [if_neg (by simp; exact hr)]
  by_cases h : cur.length < 254
  · rw [if_pos (by omega), if_pos h]
  · rw [if_neg (by omega), if_neg h]
theorem decP_last {k : Nat} {out cur : List Int} (hc : ∀ x ∈ cur, x ≠ 0) (hl : cur.length < 254) :
    decP (k + 1) out (((cur.length : Int) + 1) :: cur) = some (out ++ cur) := by
  unfold decP
  have e : ((cur.length : Int) + 1).toNat - 1 = cur.length := by omega
  rw [if_neg (by omega), e, List.take_length]
  have ha : cur.all (fun x => decide (x ≠ 0)) = true := by simpa using hc
  rw [ha, if_neg (by simp), if_pos rfl, if_neg (by omega)]

theorem dec_encP (b : List Int) : ∀ (cur out : List Int) (k : Nat), (∀ x ∈ cur, x ≠ 0) → cur.length < 254 → b.length < k → decP k out (encP cur b) = some (out ++ cur ++ b) := by
  induction b with
  | nil =>
    intro cur out k hc hl hk
    obtain ⟨k, rfl⟩ : ∃ m, k = m + 1 := ⟨k - 1, by simp at hk; omega⟩
    unfold encP
    rw [decP_last hc hl]
    simp
  | cons c r ih =>
    intro cur out k hc hl hk
    obtain ⟨k, rfl⟩ : ∃ m, k = m + 1 := ⟨k - 1, by omega⟩
    simp at hk
    unfold encP
    by_cases h0 : c = 0
    · rw [if_pos h0]
      obtain ⟨n, t, hne⟩ := encP_pos [] r
      rw [List.cons_append, decP_piece hc (by omega) (by rw [hne]; simp), if_pos hl, ih [] _ k (by simp) (by simp) (by omega)]
      simp [h0]
    · rw [if_neg h0]
      have hc' : ∀ x ∈ cur ++ [c], x ≠ 0 := by
        intro x hx
        rcases List.mem_append.1 hx with hx | hx
        · exact hc x hx
        · simp at hx; subst hx; exact h0
      by_cases hf : cur.length + 1 = 254
      · rw [if_pos hf]
        obtain ⟨n, t, hne⟩ := encP_pos [] r
        have e : (255 : Int) = ((cur ++ [c]).length : Int) + 1 := by simp; omega
        rw [List.cons_append, e, decP_piece hc' (by simp; omega) (by rw [hne]; simp), if_neg (by simp; omega), ih [] _ k (by simp) (by simp) (by omega)]
        simp
      · rw [if_neg hf, ih (cur ++ [c]) out (k + 1) hc' (by simp; omega) (by omega)]
        simp
theorem dec_enc (b : List Int) : dec (enc b) = some b := by
  unfold dec enc
  have := encP_length [] b
  rw [dec_encP b [] [] _ (by simp) (by simp) (by simp at this; omega)]
  simp

/-- laying out a piece -/
theorem encP_run : ∀ (p cur r : List Int), (∀ x ∈ p, x ≠ 0) → cur.length + p.length < 254 → encP cur (p ++ r) = encP (cur ++ p) r
  | [], cur, r, _, _ => by simp
  | c :: p, cur, r, hp, hl => by
    simp at hl
    rw [List.cons_append, encP, if_neg (hp c (by simp)), if_neg (by omega), encP_run p (cur ++ [c]) r (fun x hx => hp x (by simp [hx])) (by simp; omega)]
    simp
theorem encP_full (p r : List Int) (hp : ∀ x ∈ p, x ≠ 0) (hl : p.length = 254) : encP [] (p ++ r) = 255 :: p ++ encP [] r := by
  obtain ⟨q, c, rfl⟩ : ∃ q c, p = q ++ [c] := ⟨p.dropLast, p.getLast (by intro e; rw [e] at hl; simp at hl), (List.dropLast_concat_getLast _).symm⟩
  simp at hl
  rw [List.append_assoc, encP_run q [] _ (fun x hx => hp x (by simp [hx])) (by simp; omega)]
  simp only [List.nil_append, List.singleton_append]
  rw [encP, if_neg (hp c (by simp)), if_pos (by omega)]

/-- what was taken back, laid out, is what it was taken from -/
theorem enc_decP : ∀ (k : Nat) (out b x : List Int), (∀ c ∈ b, c ≤ 255) → decP k out b = some x → ∃ y, x = out ++ y ∧ encP [] y = b := by
  intro k
  induction k with
  | zero => intro out b x _ h; simp [decP] at h
  | succ k ih =>
    intro out b x hb h
    cases b with
    | nil => simp [decP] at h
    | cons n b =>
      have hn255 : n ≤ 255 := hb n (by simp)
      have hb' : ∀ c ∈ b, c ≤ 255 := fun c hc => hb c (by simp [hc])
      unfold decP at h
      split at h
      · cases h
      next hn =>
      split at h
      · cases h
      next ha =>
      have hp : ∀ x ∈ b.take (n.toNat - 1), x ≠ 0 := by
        intro x hx e
        subst e
        exact ha (by simpa using hx)
      split at h
      next hl =>
        split at h
        · cases h
        next h255 =>
          cases h
          have hp2 : ∀ x ∈ b, x ≠ 0 := by rw [← hl, List.take_length] at hp; exact hp
          refine ⟨b, rfl, ?_⟩
          have := encP_run b [] [] hp2 (by simp; omega)
          simp only [List.append_nil, List.nil_append] at this
          rw [this, encP]
          congr 1
          omega
      next hl =>
        obtain ⟨y, hx, hy⟩ := ih _ _ _ (fun c hc => hb' c (List.mem_of_mem_drop hc)) h
        have hlen : (b.take (n.toNat - 1)).length = n.toNat - 1 := by rw [List.length_take]; omega
        have hbs : b.take (n.toNat - 1) ++ b.drop (n.toNat - 1) = b := List.take_append_drop _ _
        by_cases h255 : n < 255
        · rw [if_pos h255] at hx
          refine ⟨b.take (n.toNat - 1) ++ 0 :: y, by rw [hx]; simp, ?_⟩
          rw [encP_run _ [] _ hp (by simp; omega), List.nil_append, encP, if_pos rfl, hy, hlen]
          have : ((n.toNat - 1 : Nat) : Int) + 1 = n := by omega
          rw [this, List.cons_append, hbs]
        · rw [if_neg h255] at hx
          refine ⟨b.take (n.toNat - 1) ++ y, by rw [hx]; simp, ?_⟩
          rw [encP_full _ y hp (by omega), hy, List.cons_append, hbs]
          have : n = 255 := by omega
          rw [this]
theorem enc_dec {b x : List Int} (hb : ∀ c ∈ b, c ≤ 255) (h : dec b = some x) : enc x = b := by
  obtain ⟨y, hx, hy⟩ := enc_decP _ _ _ _ hb h
  rw [List.nil_append] at hx
  subst hx
  exact hy
theorem dec_iff {b x : List Int} (hb : ∀ c ∈ b, c ≤ 255) : dec b = some x ↔ enc x = b :=
  ⟨enc_dec hb, fun h => by rw [← h]; exact dec_enc x⟩
theorem enc_inj {a b : List Int} (h : enc a = enc b) : a = b := by
  have h1 := dec_enc a
  rw [h, dec_enc] at h1
  cases h1
  rfl

/-- laid out, there is no zero; all are bytes -/
theorem encP_nonzero (b : List Int) : ∀ cur : List Int, (∀ x ∈ cur, x ≠ 0) → ∀ x ∈ encP cur b, x ≠ 0 := by
  induction b with
  | nil =>
    intro cur hc x hx
    unfold encP at hx
    rcases List.mem_cons.1 hx with rfl | hx
    · omega
    · exact hc x hx
  | cons c r ih =>
    intro cur hc x hx
    unfold encP at hx
    split at hx
    · rw [List.cons_append] at hx
      rcases List.mem_cons.1 hx with rfl | hx
      · omega
      · rcases List.mem_append.1 hx with hx | hx
        · exact hc x hx
        · exact ih [] (by simp) x hx
    next h0 =>
    have hc' : ∀ x ∈ cur ++ [c], x ≠ 0 := by
      intro x hx
      rcases List.mem_append.1 hx with hx | hx
      · exact hc x hx
      · simp at hx; subst hx; exact h0
    split at hx
    · rw [List.cons_append] at hx
      rcases List.mem_cons.1 hx with rfl | hx
      · omega
      · rcases List.mem_append.1 hx with hx | hx
        · exact hc' x hx
        · exact ih [] (by simp) x hx
    · exact ih _ hc' x hx
theorem enc_nonzero (b : List Int) : ∀ x ∈ enc b, x ≠ 0 := encP_nonzero b [] (by simp)
theorem encP_byte (b : List Int) (hb : ∀ x ∈ b, 0 ≤ x ∧ x ≤ 255) : ∀ cur : List Int, (∀ x ∈ cur, 0 ≤ x ∧ x ≤ 255) → cur.length < 254 → ∀ x ∈ encP cur b, 0 ≤ x ∧ x ≤ 255 := by
  induction b with
  | nil =>
    intro cur hc hl x hx
    unfold encP at hx
    rcases List.mem_cons.1 hx with rfl | hx
    · omega
    · exact hc x hx
  | cons c r ih =>
    have hr := ih (fun x hx => hb x (by simp [hx]))
    intro cur hc hl x hx
    have hc' : ∀ x ∈ cur ++ [c], 0 ≤ x ∧ x ≤ 255 := by
      intro x hx
      rcases List.mem_append.1 hx with hx | hx
      · exact hc x hx
      · simp at hx; subst hx; exact hb _ (by simp)
    unfold encP at hx
    split at hx
    · rw [List.cons_append] at hx
      rcases List.mem_cons.1 hx with rfl | hx
      · omega
      · rcases List.mem_append.1 hx with hx | hx
        · exact hc x hx
        · exact hr [] (by simp) (by simp) x hx
    · split at hx
      · rw [List.cons_append] at hx
        rcases List.mem_cons.1 hx with rfl | hx
        · omega
        · rcases List.mem_append.1 hx with hx | hx
          · exact hc' x hx
          · exact hr [] (by simp) (by simp) x hx
      · exact hr _ hc' (by simp; omega) x hx
theorem enc_byte {b : List Int} (hb : ∀ x ∈ b, 0 ≤ x ∧ x ≤ 255) : ∀ x ∈ enc b, 0 ≤ x ∧ x ≤ 255 := encP_byte b hb [] (by simp) (by simp)
/-- how long it is at most -/
theorem encP_long (b : List Int) : ∀ cur : List Int, (encP cur b).length ≤ cur.length + 2 * b.length + 1 := by
  induction b with
  | nil => intro cur; simp [encP]
  | cons c r ih =>
    intro cur
    unfold encP
    split
    · have := ih []; simp at this ⊢; omega
    · split
      · have := ih []; simp at this ⊢; omega
      · have := ih (cur ++ [c]); simp at this ⊢; omega
theorem enc_long (b : List Int) : (enc b).length ≤ 2 * b.length + 1 := by have := encP_long b []; unfold enc; simpa using this

theorem encP_tight (b : List Int) : ∀ cur : List Int, cur.length < 254 → (encP cur b).length ≤ cur.length + b.length + 1 + (cur.length + b.length) / 254 := by
  induction b with
  | nil => intro cur _; simp [encP]
  | cons c r ih =>
    intro cur hl
    unfold encP
    split
    · have := ih [] (by simp); simp at this ⊢; omega
    · split
      · have := ih [] (by simp); simp at this ⊢; omega
      · have := ih (cur ++ [c]) (by simp; omega); simp at this ⊢; omega
theorem enc_tight (b : List Int) : (enc b).length ≤ b.length + 1 + b.length / 254 := by have := encP_tight b [] (by simp); unfold enc; simpa using this
theorem enc_pos (b : List Int) : b.length + 1 ≤ (enc b).length := by have := encP_length [] b; unfold enc; simp at this; omega

end Go.Proofs.Ytekmjhenhgmpgaa.Stuff
