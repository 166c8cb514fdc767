/- Records in a file, in plain lists of numbers: a record's frame, what stands first in numbers, all records that stand there; framed and scanned they are as they were. -/
import Derived.Test.YtekmjhenhgmpgaaStuff
import Derived.Test.YtekmjhenhgmpgaaCrc
namespace Go.Proofs.Ytekmjhenhgmpgaa.Wal

def be4 (x : Int) : List Int := [x / 16777216, x / 65536 % 256, x / 256 % 256, x % 256]
theorem be4_byte {x : Int} (h : Crc.U x) : ∀ c ∈ be4 x, 0 ≤ c ∧ c ≤ 255 := by
  obtain ⟨h0, h1⟩ := h
  intro c hc
  simp only [be4, List.mem_cons, List.not_mem_nil, or_false] at hc
  rcases hc with rfl | rfl | rfl | rfl <;> omega
theorem be4_val (x : Int) : (x / 16777216) * 16777216 + (x / 65536 % 256) * 65536 + (x / 256 % 256) * 256 + x % 256 = x := by omega
theorem be4_inj {x y : Int} (h : be4 x = be4 y) : x = y := by
  simp only [be4, List.cons.injEq, and_true] at h
  obtain ⟨h1, h2, h3, h4⟩ := h
  have := be4_val x
  have := be4_val y
  omega
theorem crc_U (l : List Int) : Crc.U (Crc.add 0 l) := by
  unfold Crc.add
  exact Crc.not_U (Crc.sum_u (by constructor <;> decide) l)

def Byte (l : List Int) : Prop := ∀ x ∈ l, 0 ≤ x ∧ x ≤ 255
theorem Byte.append {a b : List Int} (ha : Byte a) (hb : Byte b) : Byte (a ++ b) := by
  intro x hx
  rcases List.mem_append.1 hx with hx | hx
  · exact ha x hx
  · exact hb x hx
theorem Byte.take {a : List Int} (ha : Byte a) (n : Nat) : Byte (a.take n) := fun x hx => ha x (List.mem_of_mem_take hx)
theorem Byte.drop {a : List Int} (ha : Byte a) (n : Nat) : Byte (a.drop n) := fun x hx => ha x (List.mem_of_mem_drop hx)

/-- a record with its sum -/
def raw (l : List Int) : List Int := l ++ be4 (Crc.add 0 l)
def frame (l : List Int) : List Int := Stuff.enc (raw l) ++ [0]
theorem raw_byte {l : List Int} (h : Byte l) : Byte (raw l) := h.append (be4_byte (crc_U l))
theorem raw_length (l : List Int) : (raw l).length = l.length + 4 := by simp [raw, be4]
theorem frame_byte {l : List Int} (h : Byte l) : Byte (frame l) := by
  refine Byte.append (Stuff.enc_byte (raw_byte h)) ?_
  intro x hx
  simp at hx
  omega
theorem frame_long (l : List Int) : (frame l).length ≤ l.length + l.length / 254 + 8 := by
  have := Stuff.enc_tight (raw l)
  have := raw_length l
  simp [frame]
  omega
theorem frame_pos (l : List Int) : l.length + 6 ≤ (frame l).length := by
  have := Stuff.enc_pos (raw l)
  have := raw_length l
  simp [frame]
  omega

/-- what stands behind b's last four -/
def body (b : List Int) : List Int := b.take (b.length - 4)
def tail (b : List Int) : List Int := b.drop (b.length - 4)
/-- the record of taken back bytes, if they are one -/
def rec (b : List Int) : Option (List Int) :=
  if b.length < 4 then none else if tail b = be4 (Crc.add 0 (body b)) ∧ (body b).length ≤ 65536 then some (body b) else none
/-- the record that begins r, and how many bytes it takes -/
def first (r : List Int) : Option (List Int × Nat) :=
  if Stuff.zero r = r.length then none else
  match Stuff.dec (r.take (Stuff.zero r)) with
  | none => none
  | some b => match rec b with
    | none => none
    | some x => some (x, Stuff.zero r + 1)
def scanK : Nat → List Int → List (List Int) × Nat
  | 0, _ => ([], 0)
  | k + 1, r => match first r with
    | none => ([], 0)
    | some (x, n) => (x :: (scanK k (r.drop n)).1, n + (scanK k (r.drop n)).2)
def scan (r : List Int) : List (List Int) × Nat := scanK (r.length + 1) r

theorem body_tail (b : List Int) : body b ++ tail b = b := List.take_append_drop _ _
theorem rec_iff {b x : List Int} : rec b = some x ↔ b = raw x ∧ x.length ≤ 65536 := by
  unfold rec
  constructor
  · intro h
    split at h
    · cases h
    · split at h
      next h4 hc =>
        cases h
        refine ⟨?_, hc.2⟩
        conv => lhs; rw [← body_tail b, hc.1]
        rfl
      · cases h
  · rintro ⟨rfl, hx⟩
    have hl := raw_length x
    have hb : body (raw x) = x := by unfold body; rw [hl, Nat.add_sub_cancel]; unfold raw; exact List.take_left
    have ht : tail (raw x) = be4 (Crc.add 0 x) := by unfold tail; rw [hl, Nat.add_sub_cancel]; unfold raw; exact List.drop_left
    rw [if_neg (by omega), hb, ht, if_pos ⟨rfl, hx⟩]

theorem zero_append {a r : List Int} (h : ∀ x ∈ a, x ≠ 0) : Stuff.zero (a ++ 0 :: r) = a.length := by
  unfold Stuff.zero
  rw [List.takeWhile_append_of_pos (by intro x hx; simpa using h x hx)]
  simp
theorem zero_none {a : List Int} (h : ∀ x ∈ a, x ≠ 0) : Stuff.zero a = a.length := by
  have := zero_append (r := []) h
  unfold Stuff.zero at this ⊢
  rw [List.takeWhile_append_of_pos (by intro x hx; simpa using h x hx)] at this
  have e : ∀ l : List Int, (∀ x ∈ l, x ≠ 0) → l.takeWhile (fun x => decide (x ≠ 0)) = l := by
    intro l
    induction l with
    | nil => intro _; rfl
    | cons c r ih => intro h; rw [List.takeWhile_cons, if_pos (by simpa using h c (by simp)), ih (fun x hx => h x (by simp [hx]))]
  rw [e a h]
theorem take_zero_nonzero (r : List Int) : ∀ x ∈ r.take (Stuff.zero r), x ≠ 0 := by
  intro x hx
  unfold Stuff.zero at hx
  rw [(List.prefix_iff_eq_take.1 (List.takeWhile_prefix (l := r) (fun x => decide (x ≠ 0)))).symm] at hx
  have := List.all_takeWhile (l := r) (p := fun x => decide (x ≠ 0))
  rw [List.all_eq_true] at this
  simpa using this x hx
theorem zero_split {r : List Int} (h : Stuff.zero r < r.length) : r = r.take (Stuff.zero r) ++ 0 :: r.drop (Stuff.zero r + 1) := by
  have h1 : r = r.takeWhile (fun x => decide (x ≠ 0)) ++ r.dropWhile (fun x => decide (x ≠ 0)) := List.takeWhile_append_dropWhile.symm
  have hp : r.take (Stuff.zero r) = r.takeWhile (fun x => decide (x ≠ 0)) := (List.prefix_iff_eq_take.1 (List.takeWhile_prefix _)).symm
  cases hd : r.dropWhile (fun x => decide (x ≠ 0)) with
  | nil =>
    rw [hd, List.append_nil] at h1
    unfold Stuff.zero at h
    rw [← h1] at h
    omega
  | cons c t =>
    have hc : c = 0 := by
      have h2 : (r.dropWhile (fun x => decide (x ≠ 0))).head? = some c := by rw [hd]; rfl
      have := List.head?_dropWhile_not (fun x => decide (x ≠ 0)) r
      rw [h2] at this
      simpa using this
    subst hc
    rw [hd] at h1
    have : r.drop (Stuff.zero r + 1) = t := by
      have hl : Stuff.zero r = (r.takeWhile (fun x => decide (x ≠ 0))).length := rfl
      generalize r.takeWhile (fun x => decide (x ≠ 0)) = p at h1 hl
      rw [hl, h1, List.drop_append]
      simp
    rw [this, hp]
    exact h1

/-- what stands first: a frame -/
theorem first_iff {r x : List Int} {n : Nat} (hr : Byte r) : first r = some (x, n) ↔ x.length ≤ 65536 ∧ n = (frame x).length ∧ ∃ t, r = frame x ++ t := by
  constructor
  · intro h
    unfold first at h
    split at h
    · cases h
    next hz =>
    have hlt : Stuff.zero r < r.length := by have := Stuff.zero_le r; omega
    split at h
    · cases h
    next b hb =>
    split at h
    · cases h
    next y hy =>
    cases h
    obtain ⟨rfl, hx⟩ := rec_iff.1 hy
    have he := Stuff.enc_dec (fun c hc => (hr.take _ c hc).2) hb
    have hs := zero_split hlt
    have hlen : (Stuff.enc (raw x)).length = Stuff.zero r := by rw [he, List.length_take]; omega
    refine ⟨hx, by simp [frame, hlen], r.drop (Stuff.zero r + 1), ?_⟩
    unfold frame
    rw [he, List.append_assoc]
    exact hs
  · rintro ⟨hx, rfl, t, rfl⟩
    unfold first
    have hz : Stuff.zero (frame x ++ t) = (Stuff.enc (raw x)).length := by
      unfold frame
      rw [List.append_assoc]
      exact zero_append (Stuff.enc_nonzero _)
    have ht : (frame x ++ t).take (Stuff.enc (raw x)).length = Stuff.enc (raw x) := by
      unfold frame
      rw [List.append_assoc]
      exact List.take_left
    rw [hz, ht, if_neg (by simp [frame]), Stuff.dec_enc]
    simp only
    rw [rec_iff.2 ⟨rfl, hx⟩]
    simp [frame]
theorem first_frame {x t : List Int} (hx : Byte x) (hl : x.length ≤ 65536) (ht : Byte t) : first (frame x ++ t) = some (x, (frame x).length) :=
  (first_iff ((frame_byte hx).append ht)).2 ⟨hl, rfl, t, rfl⟩
theorem first_cut {x p : List Int} (hp : p <+: frame x) (hl : p.length < (frame x).length) : first p = none := by
  obtain ⟨q, hq⟩ := hp
  have hne : ∀ c ∈ p, c ≠ 0 := by
    have hpre : p <+: Stuff.enc (raw x) := by
      refine List.prefix_of_prefix_length_le (l₃ := frame x) ⟨q, hq⟩ ⟨[0], rfl⟩ ?_
      simp [frame] at hl
      omega
    intro c hc
    exact Stuff.enc_nonzero _ c (hpre.subset hc)
  unfold first
  rw [if_pos (zero_none hne)]
theorem first_nil : first [] = none := rfl
theorem first_pos {r x : List Int} {n : Nat} (h : first r = some (x, n)) : 1 ≤ n ∧ n ≤ r.length := by
  unfold first at h
  split at h
  · cases h
  next hz =>
  have := Stuff.zero_le r
  split at h
  · cases h
  split at h
  · cases h
  cases h
  omega

theorem scanK_more : ∀ (k j : Nat) (r : List Int), r.length < k → r.length < j → scanK k r = scanK j r
  | 0, _, r, h, _ => by omega
  | _ + 1, 0, r, _, h => by omega
  | k + 1, j + 1, r, h1, h2 => by
    unfold scanK
    cases hf : first r with
    | none => rfl
    | some p =>
      obtain ⟨x, n⟩ := p
      have := first_pos hf
      have hd : (r.drop n).length < r.length := by rw [List.length_drop]; omega
      simp only
      rw [scanK_more k j (r.drop n) (by omega) (by omega)]
theorem scan_none {r : List Int} (h : first r = none) : scan r = ([], 0) := by unfold scan scanK; rw [h]
theorem scan_some {r x : List Int} {n : Nat} (h : first r = some (x, n)) : scan r = (x :: (scan (r.drop n)).1, n + (scan (r.drop n)).2) := by
  have := first_pos h
  have hd : (r.drop n).length < r.length := by rw [List.length_drop]; omega
  unfold scan
  conv => lhs; unfold scanK
  rw [h]
  simp only
  rw [scanK_more r.length ((r.drop n).length + 1) (r.drop n) hd (by omega)]

def frames (l : List (List Int)) : List Int := (l.map frame).flatten
theorem frames_nil : frames [] = [] := rfl
theorem frames_cons (x : List Int) (l : List (List Int)) : frames (x :: l) = frame x ++ frames l := rfl
theorem frames_append (a b : List (List Int)) : frames (a ++ b) = frames a ++ frames b := by simp [frames]
theorem frames_snoc (a : List (List Int)) (x : List Int) : frames (a ++ [x]) = frames a ++ frame x := by simp [frames]
/-- texts that may be records -/
def Recs (l : List (List Int)) : Prop := ∀ x ∈ l, Byte x ∧ x.length ≤ 65536
theorem frames_byte {l : List (List Int)} (h : Recs l) : Byte (frames l) := by
  induction l with
  | nil => intro x hx; cases hx
  | cons y r ih => exact (frame_byte (h y (by simp)).1).append (ih (fun x hx => h x (by simp [hx])))

/-- records, one behind the other, and what is no record behind them -/
theorem scan_frames {l : List (List Int)} {t : List Int} (h : Recs l) (ht : Byte t) (hn : first t = none) : scan (frames l ++ t) = (l, (frames l).length) := by
  induction l with
  | nil => rw [frames_nil, List.nil_append, scan_none hn]; rfl
  | cons y r ih =>
    have hy := h y (by simp)
    have hr : Recs r := fun x hx => h x (by simp [hx])
    rw [frames_cons, List.append_assoc, scan_some (first_frame hy.1 hy.2 ((frames_byte hr).append ht)), List.drop_left, ih hr]
    simp
/-- of frames that are cut off the first ones are there -/
theorem frames_take : ∀ (l : List (List Int)) (n : Nat), ∃ k t, k ≤ l.length ∧ (frames l).take n = frames (l.take k) ++ t ∧ (n < (frames l).length ∨ k = l.length) ∧ (k < l.length → t <+: frame (l.getD k []) ∧ t.length < (frame (l.getD k [])).length) ∧ (k = l.length → t = [])
  | [], n => ⟨0, [], by simp, by simp [frames], .inr rfl, by simp, fun _ => rfl⟩
  | y :: r, n => by
    by_cases h : n < (frame y).length
    · refine ⟨0, (frame y).take n, by simp, ?_, .inl ?_, ?_, by simp⟩
      · rw [frames_cons, List.take_append_of_le_length (by omega), List.take_zero, frames_nil, List.nil_append]
      · rw [frames_cons, List.length_append]; omega
      · intro _
        simp only [List.getD_cons_zero]
        exact ⟨List.take_prefix _ _, by rw [List.length_take]; omega⟩
    · obtain ⟨k, t, hk, he, hn, h1, h2⟩ := frames_take r (n - (frame y).length)
      refine ⟨k + 1, t, by simp; omega, ?_, ?_, ?_, ?_⟩
      · rw [frames_cons, List.take_append, he, List.take_of_length_le (by omega), List.take_succ_cons, frames_cons, List.append_assoc]
      · rw [frames_cons, List.length_append]
        rcases hn with hn | hn
        · left; omega
        · right; simp [hn]
      · intro hlt
        rw [List.getD_cons_succ]
        exact h1 (by simp at hlt; omega)
      · intro hlt
        exact h2 (by simp at hlt; omega)
/-- how many whole records there are in the first n bytes -/
theorem scan_cut {l : List (List Int)} (h : Recs l) (n : Nat) : ∃ k, k ≤ l.length ∧ scan ((frames l).take n) = (l.take k, (frames (l.take k)).length) ∧ (frames (l.take k)).length ≤ n ∧ (k < l.length → n < (frames (l.take (k + 1))).length) := by
  obtain ⟨k, t, hk, he, hn, h1, h2⟩ := frames_take l n
  have ht : first t = none := by
    rcases Nat.lt_or_ge k l.length with hlt | hge
    · exact first_cut (h1 hlt).1 (h1 hlt).2
    · rw [h2 (by omega)]; exact first_nil
  have hb : Byte t := by
    have : Byte ((frames l).take n) := (frames_byte h).take n
    rw [he] at this
    exact fun x hx => this x (by simp [hx])
  refine ⟨k, hk, by rw [he, scan_frames (fun x hx => h x (List.mem_of_mem_take hx)) hb ht], ?_, ?_⟩
  · have : ((frames l).take n).length ≤ n := List.length_take_le _ _
    rw [he, List.length_append] at this
    omega
  · intro hlt
    obtain ⟨h3, h4⟩ := h1 hlt
    have e : l.take (k + 1) = l.take k ++ [l.getD k []] := by rw [List.take_add_one, List.getElem?_eq_getElem hlt, List.getD_eq_getElem?_getD, List.getElem?_eq_getElem hlt]; rfl
    rw [e, frames_snoc, List.length_append]
    have hl : ((frames l).take n).length = min n (frames l).length := List.length_take
    rw [he, List.length_append] at hl
    rcases hn with hn | hn
    · omega
    · omega

theorem decP_byte : ∀ (k : Nat) (out b x : List Int), Byte out → Byte b → Stuff.decP k out b = some x → Byte x
  | 0, _, _, _, _, _, h => by simp [Stuff.decP] at h
  | k + 1, out, [], x, _, _, h => by simp [Stuff.decP] at h
  | k + 1, out, n :: b, x, ho, hb, h => by
    have hb' : Byte b := fun c hc => hb c (by simp [hc])
    unfold Stuff.decP at h
    split at h
    · cases h
    split at h
    · cases h
    split at h
    · split at h
      · cases h
      · cases h; exact ho.append hb'
    · refine decP_byte k _ _ x ?_ (hb'.drop _) h
      split
      · exact (ho.append (hb'.take _)).append (by intro c hc; simp at hc; omega)
      · exact ho.append (hb'.take _)
theorem dec_byte {b x : List Int} (hb : Byte b) (h : Stuff.dec b = some x) : Byte x := decP_byte _ [] b x (by intro c hc; cases hc) hb h

/-- the records of anything -/
theorem scan_sound {r : List Int} (hr : Byte r) : ∃ t, r = frames (scan r).1 ++ t ∧ (scan r).2 = (frames (scan r).1).length ∧ first t = none ∧ Recs (scan r).1 ∧ Byte t := by
  have : ∀ (k : Nat) (r : List Int), r.length < k → Byte r → ∃ t, r = frames (scan r).1 ++ t ∧ (scan r).2 = (frames (scan r).1).length ∧ first t = none ∧ Recs (scan r).1 ∧ Byte t := by
    intro k
    induction k with
    | zero => intro r h; omega
    | succ k ih =>
      intro r h hr
      cases hf : first r with
      | none => rw [scan_none hf]; exact ⟨r, rfl, rfl, hf, (by intro x hx; cases hx), hr⟩
      | some p =>
        obtain ⟨x, n⟩ := p
        have hp := first_pos hf
        obtain ⟨hx, hn, t, ht⟩ := (first_iff hr).1 hf
        have hd : r.drop n = t := by rw [ht, hn, List.drop_left]
        obtain ⟨u, h1, h2, h3, h4, h5⟩ := ih (r.drop n) (by rw [List.length_drop]; omega) (hr.drop n)
        rw [scan_some hf]
        have hxb : Byte x := by
          have h6 : Byte (frame x) := by rw [ht] at hr; exact fun c hc => hr c (by simp [hc])
          have h7 : Byte (Stuff.enc (raw x)) := fun c hc => h6 c (by simp [frame, hc])
          have h8 := Stuff.dec_enc (raw x)
          have h9 : Byte (raw x) := dec_byte h7 h8
          exact fun c hc => h9 c (by simp [raw, hc])
        refine ⟨u, ?_, ?_, h3, ?_, h5⟩
        · simp only
          rw [frames_cons, List.append_assoc, ← h1, hd]
          exact ht
        · simp only
          rw [frames_cons, List.length_append, h2, hn]
        · intro y hy
          rcases List.mem_cons.1 hy with rfl | hy
          · exact ⟨hxb, hx⟩
          · exact h4 y hy
  exact this _ r (Nat.lt_succ_self _) hr
end Go.Proofs.Ytekmjhenhgmpgaa.Wal
