/- Numbers and texts as bytes, in plain lists: writing, reading, and that what is written is read back. -/
import Derived.Test.YtogeeeigfhmpmaaConv
namespace Go.Proofs.Ytogeeeigfhmpmaa.Pk
open Go.RowKit

/-- how many bytes a number needs -/
def size (x : Nat) : Nat := if h : x = 0 then 0 else size (x / 256) + 1
termination_by x
decreasing_by omega
theorem size_zero : size 0 = 0 := by unfold size; simp
theorem size_pos {x : Nat} (h : 0 < x) : size x = size (x / 256) + 1 := by conv => lhs; unfold size; rw [dif_neg (by omega)]
/-- n bytes of a number, the highest first -/
def be : Nat → Nat → List Int
  | 0, _ => []
  | n + 1, x => be n (x / 256) ++ [((x % 256 : Nat) : Int)]
theorem be_length : ∀ n x, (be n x).length = n
  | 0, _ => rfl
  | n + 1, x => by unfold be; rw [List.length_append, be_length n]; rfl
def num (x : Nat) : List Int := (size x : Int) :: be (size x) x
def text (s : List Int) : List Int := num s.length ++ s

theorem size_lt {x : Nat} : ∀ n, x < 256 ^ n → size x ≤ n
  | 0, h => by have : x = 0 := by simpa using h
               rw [this, size_zero]; omega
  | n + 1, h => by
    rcases Nat.eq_zero_or_pos x with h0 | h0
    · rw [h0, size_zero]; omega
    · rw [size_pos h0]
      have := size_lt (x := x / 256) n (by rw [Nat.pow_succ] at h; omega)
      omega
theorem size_le8 {x : Nat} (h : x < 18446744073709551616) : size x ≤ 8 := size_lt 8 (by simpa using h)
theorem lt_size (x : Nat) : x < 256 ^ size x := by
  induction x using Nat.strongRecOn with
  | ind x ih =>
    rcases Nat.eq_zero_or_pos x with h0 | h0
    · subst h0; rw [size_zero]; decide
    · rw [size_pos h0, Nat.pow_succ]
      have := ih (x / 256) (by omega)
      omega
theorem num_length (x : Nat) : (num x).length = size x + 1 := by unfold num; rw [List.length_cons, be_length]
theorem be_byte : ∀ n x, ∀ c ∈ be n x, 0 ≤ c ∧ c ≤ 255
  | 0, _, c, h => by cases h
  | n + 1, x, c, h => by
    unfold be at h
    rcases List.mem_append.1 h with h | h
    · exact be_byte n _ c h
    · simp at h; subst h; omega
theorem num_byte {x : Nat} (h : x < 18446744073709551616) : ∀ c ∈ num x, 0 ≤ c ∧ c ≤ 255 := by
  intro c hc
  unfold num at hc
  rcases List.mem_cons.1 hc with h1 | h1
  · have := size_le8 h; omega
  · exact be_byte _ _ c h1
/-- the byte at place i -/
theorem be_snoc_high (n x : Nat) : be (n + 1) x = ((x / 256 ^ n % 256 : Nat) : Int) :: be n x := by
  induction n generalizing x with
  | zero => simp [be]
  | succ n ih =>
    conv => lhs; unfold be
    rw [ih]
    conv => rhs; rhs; unfold be
    rw [Nat.pow_succ, Nat.div_div_eq_div_mul, Nat.mul_comm 256]
    rfl

theorem be_getD : ∀ (n x j : Nat), j < n → (be n x).getD j 0 = ((x / 256 ^ (n - 1 - j) % 256 : Nat) : Int)
  | 0, _, _, h => by omega
  | n + 1, x, 0, _ => by rw [be_snoc_high, List.getD_cons_zero]; rfl
  | n + 1, x, j + 1, h => by
    rw [be_snoc_high, List.getD_cons_succ, be_getD n x j (by omega)]
    have : n + 1 - 1 - (j + 1) = n - 1 - j := by omega
    rw [this]
theorem be_take {n x j : Nat} (h : j < n) : (be n x).take (j + 1) = (be n x).take j ++ [((x / 256 ^ (n - 1 - j) % 256 : Nat) : Int)] := by
  have hl := be_length n x
  rw [List.take_add_one, List.getElem?_eq_getElem (by omega)]
  have := be_getD n x j h
  rw [List.getD_eq_getElem?_getD, List.getElem?_eq_getElem (by omega), Option.getD_some] at this
  rw [this]; rfl
/-- what bytes say, the highest first -/
def val (l : List Int) : Nat := l.foldl (fun x c => 256 * x + c.toNat) 0
theorem val_nil : val [] = 0 := rfl
theorem val_snoc (l : List Int) (c : Int) : val (l ++ [c]) = 256 * val l + c.toNat := by unfold val; rw [List.foldl_append]; rfl
theorem val_be : ∀ n x, x < 256 ^ n → val (be n x) = x
  | 0, x, h => by have : x = 0 := by simpa using h
                  rw [this]; rfl
  | n + 1, x, h => by
    unfold be
    rw [val_snoc, val_be n (x / 256) (by rw [Nat.pow_succ] at h; omega)]
    omega
theorem foldl_lt : ∀ (l : List Int) (a : Nat), (∀ c ∈ l, 0 ≤ c ∧ c ≤ 255) → l.foldl (fun x c => 256 * x + c.toNat) a < (a + 1) * 256 ^ l.length
  | [], a, _ => by simp
  | c :: t, a, h => by
    rw [List.foldl_cons, List.length_cons, Nat.pow_succ]
    have h1 := foldl_lt t (256 * a + c.toNat) (fun x hx => h x (by simp [hx]))
    have h2 := h c (by simp)
    have h3 : (256 * a + c.toNat + 1) * 256 ^ t.length ≤ (256 * (a + 1)) * 256 ^ t.length := Nat.mul_le_mul_right _ (by omega)
    have h4 : (256 * (a + 1)) * 256 ^ t.length = (a + 1) * (256 ^ t.length * 256) := by rw [Nat.mul_comm 256 (a + 1), Nat.mul_assoc, Nat.mul_comm 256]
    omega
theorem val_lt (l : List Int) (h : ∀ c ∈ l, 0 ≤ c ∧ c ≤ 255) : val l < 256 ^ l.length := by
  have := foldl_lt l 0 h
  unfold val
  omega

/-- a reader: what is left, and whether it failed -/
structure RD where
  s : List Int
  bad : Bool
def RD.fail (_ : RD) : RD := ⟨[], true⟩
/-- may a number be read? -/
def okNum (s : List Int) : Bool := match s with
  | [] => false
  | n :: t => !(decide (8 < n) || decide ((t.length : Int) < n) || (decide (0 < n) && decide (t.getD 0 0 = 0)))
def numV (s : List Int) : Nat := if okNum s = true then val ((s.drop 1).take (s.getD 0 0).toNat) else 0
def numR (r : RD) : RD := if okNum r.s = true then ⟨r.s.drop ((r.s.getD 0 0).toNat + 1), r.bad⟩ else ⟨[], true⟩
def RD.num (r : RD) : Nat × RD := (numV r.s, numR r)
def RD.up (r : RD) (limit : Nat) : Nat × RD := if numV r.s ≤ limit then (numV r.s, numR r) else (0, ⟨[], true⟩)
def RD.text (r : RD) (limit : Nat) : List Int × RD :=
  let u := r.up limit
  if u.1 ≤ u.2.s.length then (u.2.s.take u.1, ⟨u.2.s.drop u.1, u.2.bad⟩) else ([], ⟨[], true⟩)
def RD.done (r : RD) : Bool := r.s.isEmpty && !r.bad

theorem okNum_num {x : Nat} (h : x < 18446744073709551616) (t : List Int) : okNum (num x ++ t) = true := by
  have h8 := size_le8 h
  unfold num okNum
  rw [List.cons_append]
  simp only [Bool.not_eq_true', Bool.or_eq_false_iff, Bool.and_eq_false_iff, decide_eq_false_iff_not]
  refine ⟨⟨by omega, by rw [List.length_append, be_length]; omega⟩, ?_⟩
  rcases Nat.eq_zero_or_pos x with h0 | h0
  · left; rw [h0, size_zero]; omega
  · right
    obtain ⟨n, hn⟩ : ∃ n, size x = n + 1 := ⟨size x - 1, by have := size_pos h0; omega⟩
    rw [hn, be_snoc_high, List.cons_append, List.getD_cons_zero]
    have h1 := lt_size x
    rw [hn, Nat.pow_succ] at h1
    have h2 : 256 ^ n ≤ x := by
      rcases Nat.lt_or_ge x (256 ^ n) with h3 | h3
      · have := size_lt n h3; omega
      · exact h3
    have hp : 0 < 256 ^ n := Nat.pow_pos (by decide)
    have h3 : 1 ≤ x / 256 ^ n := (Nat.le_div_iff_mul_le hp).2 (by omega)
    have h4 : x / 256 ^ n < 256 := (Nat.div_lt_iff_lt_mul hp).2 (by rw [Nat.mul_comm]; exact h1)
    rw [Nat.mod_eq_of_lt h4]
    omega
/-- a number is read back -/
theorem num_back {x : Nat} (h : x < 18446744073709551616) (t : List Int) (b : Bool) : (RD.mk (num x ++ t) b).num = (x, ⟨t, b⟩) := by
  unfold RD.num numV numR
  have ho := okNum_num h t
  simp only
  rw [if_pos ho, if_pos ho]
  unfold num
  rw [List.cons_append, List.getD_cons_zero, Int.toNat_natCast, List.drop_one, List.tail_cons]
  have e1 : (be (size x) x ++ t).take (size x) = be (size x) x := List.take_left' (be_length _ _)
  have e2 : (be (size x) x ++ t).drop (size x) = t := List.drop_left' (be_length _ _)
  rw [e1, val_be _ _ (lt_size x), List.drop_succ_cons, e2]
theorem up_back {x limit : Nat} (h : x ≤ limit) (hl : limit < 18446744073709551616) (t : List Int) (b : Bool) : (RD.mk (num x ++ t) b).up limit = (x, ⟨t, b⟩) := by
  have := num_back (x := x) (by omega) t b
  unfold RD.num at this
  simp only [Prod.mk.injEq] at this
  unfold RD.up
  simp only
  rw [this.1, this.2, if_pos h]
theorem text_back {s : List Int} {limit : Nat} (h : s.length ≤ limit) (hl : limit < 18446744073709551616) (t : List Int) (b : Bool) : (RD.mk (text s ++ t) b).text limit = (s, ⟨t, b⟩) := by
  unfold RD.text text
  rw [List.append_assoc, up_back h hl]
  simp only
  rw [if_pos (by rw [List.length_append]; omega), List.take_left, List.drop_left]
theorem numR_le (r : RD) : (numR r).s.length ≤ r.s.length := by
  unfold numR
  split
  · rw [List.length_drop]; omega
  · exact Nat.zero_le _
theorem okNum_len {s : List Int} (h : okNum s = true) : (s.getD 0 0).toNat + 1 ≤ s.length ∧ (s.getD 0 0).toNat ≤ 8 := by
  cases s with
  | nil => simp [okNum] at h
  | cons n t =>
    unfold okNum at h
    simp only [Bool.not_eq_true', Bool.or_eq_false_iff, Bool.and_eq_false_iff, decide_eq_false_iff_not] at h
    obtain ⟨⟨h1, h2⟩, _⟩ := h
    rw [List.getD_cons_zero, List.length_cons]
    omega
theorem numV_lt {s : List Int} (h : ∀ c ∈ s, 0 ≤ c ∧ c ≤ 255) : numV s < 18446744073709551616 := by
  unfold numV
  split
  next ho =>
    have hl := okNum_len ho
    have h1 := val_lt ((s.drop 1).take (s.getD 0 0).toNat) (fun c hc => h c (List.mem_of_mem_drop (List.mem_of_mem_take hc)))
    refine Nat.lt_of_lt_of_le h1 ?_
    have h8 : ((s.drop 1).take (s.getD 0 0).toNat).length ≤ 8 := by rw [List.length_take]; omega
    have := Nat.pow_le_pow_right (n := 256) (by decide) h8
    have e8 : 256 ^ 8 = 18446744073709551616 := by decide
    omega
  · omega
theorem numR_byte {r : RD} (h : ∀ c ∈ r.s, 0 ≤ c ∧ c ≤ 255) : ∀ c ∈ (numR r).s, 0 ≤ c ∧ c ≤ 255 := by
  unfold numR
  split
  · exact fun c hc => h c (List.mem_of_mem_drop hc)
  · intro c hc; cases hc
end Go.Proofs.Ytogeeeigfhmpmaa.Pk
