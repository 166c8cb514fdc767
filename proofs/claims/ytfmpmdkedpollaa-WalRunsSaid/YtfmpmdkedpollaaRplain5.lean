/- What the document's stuffing and frames answer, in plain lists: pieces taken off one by one, and a frame that is tried. -/
import Derived.Test.YtfmpmdkedpollaaWal
namespace Go.Proofs.Ytfmpmdkedpollaa

namespace Stuff
theorem zero_take (b : List Int) : ∀ x ∈ b.take (zero b), x ≠ 0 := Wal.take_zero_nonzero b
theorem take_nonzero {b : List Int} {n : Nat} (h : n ≤ zero b) : ∀ x ∈ b.take n, x ≠ 0 := by
  intro x hx
  refine zero_take b x ?_
  have e : b.take n = (b.take (zero b)).take n := by rw [List.take_take, Nat.min_eq_left h]
  rw [e] at hx
  exact List.mem_of_mem_take hx
theorem zero_split {b : List Int} (h : zero b < b.length) : b.drop (zero b) = 0 :: b.drop (zero b + 1) := by
  have e := Wal.zero_split h
  generalize zero b = n at h e
  rw [List.drop_eq_getElem_cons h]
  congr 1
  have h2 : (b.take n).length = n := by rw [List.length_take]; omega
  have : b[n]? = some 0 := by
    conv => lhs; rw [e]
    rw [List.getElem?_append_right (by omega), h2, Nat.sub_self]
    rfl
  rw [List.getElem?_eq_getElem h] at this
  exact Option.some.inj this
/-- a full piece -/
theorem enc_full {b : List Int} (h : 254 ≤ zero b) : enc b = 255 :: b.take 254 ++ enc (b.drop 254) := by
  have hl := zero_le b
  have e := encP_full (b.take 254) (b.drop 254) (take_nonzero h) (by rw [List.length_take]; omega)
  rw [List.take_append_drop] at e
  exact e
/-- the last piece -/
theorem enc_last {b : List Int} (h : zero b < 254) (he : zero b = b.length) : enc b = ((b.length : Int) + 1) :: b := by
  have e := encP_run b [] [] (by have := zero_take b; rw [he, List.take_length] at this; exact this) (by simp; omega)
  rw [List.append_nil] at e
  unfold enc
  rw [e, List.nil_append, encP]
/-- a piece ahead of a zero -/
theorem enc_piece {b : List Int} (h : zero b < 254) (he : zero b < b.length) : enc b = ((zero b : Nat) + 1 : Int) :: b.take (zero b) ++ enc (b.drop (zero b + 1)) := by
  have e := encP_run (b.take (zero b)) [] (b.drop (zero b)) (zero_take b) (by rw [List.length_take]; simp; omega)
  rw [List.take_append_drop, zero_split he, List.nil_append] at e
  unfold enc
  rw [e, encP, if_pos rfl, List.length_take]
  have hm : min (zero b) b.length = zero b := by omega
  rw [hm]

/-- what pieces stand for, behind out; sep: a zero stands ahead of the next one -/
def plP : Nat → Bool → List Int → List Int → Option (List Int)
  | 0, _, _, _ => none
  | _ + 1, _, out, [] => some out
  | k + 1, sep, out, n :: t => if n ≤ 0 ∨ (t.length : Int) + 1 < n then none
    else if zero (t.take (n.toNat - 1)) < n.toNat - 1 then none
    else plP k (decide (n ≠ 255)) ((if sep then out ++ [0] else out) ++ t.take (n.toNat - 1)) (t.drop (n.toNat - 1))
theorem zero_all {b : List Int} (h : ∀ x ∈ b, x ≠ 0) : zero b = b.length := Wal.zero_none h
theorem plP_piece {k : Nat} {sep : Bool} {out cur rest : List Int} (hc : ∀ x ∈ cur, x ≠ 0) :
    plP (k + 1) sep out (((cur.length : Int) + 1) :: cur ++ rest) = plP k (decide ((cur.length : Int) + 1 ≠ 255)) ((if sep then out ++ [0] else out) ++ cur) rest := by
  rw [List.cons_append, plP, if_neg (by simp; omega)]
  have e : ((cur.length : Int) + 1).toNat - 1 = cur.length := by omega
  rw [e, List.take_left, List.drop_left, if_neg (by rw [zero_all hc]; omega)]
theorem plP_encP (b : List Int) : ∀ (cur out : List Int) (sep : Bool) (k : Nat), (∀ x ∈ cur, x ≠ 0) → cur.length < 254 → (encP cur b).length < k → plP k sep out (encP cur b) = some ((if sep then out ++ [0] else out) ++ cur ++ b) := by
  induction b with
  | nil =>
    intro cur out sep k hc hl hk
    unfold encP at hk ⊢
    obtain ⟨k, rfl⟩ : ∃ j, k = j + 2 := ⟨k - 2, by simp at hk; omega⟩
    have := plP_piece (k := k + 1) (sep := sep) (out := out) (rest := []) hc
    rw [List.append_nil] at this
    rw [this, plP, List.append_nil]
  | cons c t ih =>
    intro cur out sep k hc hl hk
    unfold encP at hk ⊢
    by_cases h0 : c = 0
    · rw [if_pos h0] at hk ⊢
      obtain ⟨k, rfl⟩ : ∃ j, k = j + 1 := ⟨k - 1, by simp at hk; omega⟩
      rw [plP_piece hc, ih [] _ _ k (by simp) (by simp) (by simp at hk; omega)]
      have hd : decide ((cur.length : Int) + 1 ≠ 255) = true := by simp; omega
      rw [hd, if_pos rfl, h0]
      simp
    · rw [if_neg h0] at hk ⊢
      by_cases hf : cur.length + 1 = 254
      · rw [if_pos hf] at hk ⊢
        obtain ⟨k, rfl⟩ : ∃ j, k = j + 1 := ⟨k - 1, by simp at hk; omega⟩
        have hcc : ∀ x ∈ cur ++ [c], x ≠ 0 := by
          intro x hx
          rcases List.mem_append.1 hx with hx | hx
          · exact hc x hx
          · simp at hx; subst hx; exact h0
        have hlc : (cur ++ [c]).length = 254 := by simp; omega
        have := plP_piece (k := k) (sep := sep) (out := out) (rest := encP [] t) hcc
        rw [hlc] at this
        have e : ((254 : Nat) : Int) + 1 = 255 := by omega
        rw [e] at this
        rw [this, ih [] _ _ k (by simp) (by simp) (by simp at hk; omega)]
        simp
      · rw [if_neg hf] at hk ⊢
        have hcc : ∀ x ∈ cur ++ [c], x ≠ 0 := by
          intro x hx
          rcases List.mem_append.1 hx with hx | hx
          · exact hc x hx
          · simp at hx; subst hx; exact h0
        rw [ih (cur ++ [c]) out sep k hcc (by simp; omega) hk]
        simp
/-- pieces, and whether there are any -/
def pl (b : List Int) : Option (List Int) := if b = [] then none else plP (b.length + 1) false [] b
theorem pl_enc (x : List Int) : pl (enc x) = some x := by
  unfold pl
  have h := enc_pos x
  rw [if_neg (by intro e; rw [e] at h; simp at h)]
  unfold enc
  rw [plP_encP x [] [] false _ (by simp) (by simp) (by omega)]
  simp
theorem dec_nil : dec [] = none := rfl
/-- the document's taking back is the plain one -/
theorem dec_pl {b : List Int} (hb : ∀ c ∈ b, c ≤ 255) : dec b = match pl b with | none => none | some x => if enc x = b then some x else none := by
  cases hd : dec b with
  | none =>
    cases hp : pl b with
    | none => rfl
    | some x =>
      simp only
      rw [if_neg]
      intro e
      rw [← e, dec_enc] at hd
      cases hd
  | some x =>
    have e := enc_dec hb hd
    rw [← e, pl_enc]
    simp
end Stuff

namespace Wal
/-- what the document's first tries -/
theorem first_try {r : List Int} (hr : Byte r) : first r =
    if Stuff.zero r = r.length then none else
    match Stuff.dec (r.take (Stuff.zero r)) with
    | none => none
    | some b => if b.length < 4 ∨ 65540 < b.length then none else if frame (body b) = r.take (Stuff.zero r + 1) then some (body b, Stuff.zero r + 1) else none := by
  by_cases hz : Stuff.zero r = r.length
  · rw [if_pos hz]; unfold first; rw [if_pos hz]
  · rw [if_neg hz]
    have hzl := Stuff.zero_le r
    cases hd : Stuff.dec (r.take (Stuff.zero r)) with
    | none => unfold first; rw [if_neg hz, hd]
    | some b =>
      simp only
      have henc := Stuff.enc_dec (fun c hc => (hr c (List.mem_of_mem_take hc)).2) hd
      have hfst : first r = match rec b with | none => none | some x => some (x, Stuff.zero r + 1) := by unfold first; rw [if_neg hz, hd]; rfl
      have hz1 : r.take (Stuff.zero r + 1) = r.take (Stuff.zero r) ++ [0] := by
        have e := zero_split (r := r) (by omega)
        generalize Stuff.zero r = n at hz hzl e
        have h2 : (r.take n).length = n := by rw [List.length_take]; omega
        conv => lhs; rw [e]
        rw [List.take_append, h2]
        have : n + 1 - n = 1 := by omega
        rw [this, List.take_of_length_le (by omega)]
        rfl
      have hfr : frame (body b) = r.take (Stuff.zero r + 1) ↔ raw (body b) = b := by
        rw [hz1, ← henc]
        unfold frame
        rw [List.append_left_inj]
        exact ⟨fun h => Stuff.enc_inj h, fun h => by rw [h]⟩
      rw [hfst]
      by_cases hb : b.length < 4 ∨ 65540 < b.length
      · rw [if_pos hb]
        have : rec b = none := by
          unfold rec
          rcases hb with h | h
          · rw [if_pos h]
          · rw [if_neg (by omega), if_neg]
            intro g
            have := g.2
            unfold body at this
            rw [List.length_take] at this
            omega
        rw [this]
      · rw [if_neg hb]
        by_cases hf : frame (body b) = r.take (Stuff.zero r + 1)
        · rw [if_pos hf]
          have : rec b = some (body b) := rec_iff.2 ⟨(hfr.1 hf).symm, by unfold body; rw [List.length_take]; omega⟩
          rw [this]
        · rw [if_neg hf]
          have : rec b = none := by
            cases hrec : rec b with
            | none => rfl
            | some x =>
              exfalso
              obtain ⟨e, _⟩ := rec_iff.1 hrec
              apply hf
              rw [hfr]
              have hx : body b = x := by
                rw [e]; unfold body raw
                simp [be4]
              rw [hx, ← e]
          rw [this]
end Wal
end Go.Proofs.Ytfmpmdkedpollaa
