/- A log in a file, in plain data: what opening, appending and laying anew answer, and what they leave of the disk. -/
import Derived.Test.YtekmjhenhgmpgaaWal
import Derived.Test.YtekmjhenhgmpgaaConv
import Derived.Test.YtekmjhenhgmpgaaDm
namespace Go.Proofs.Ytekmjhenhgmpgaa.Wal
open Go.RowKit

def long (l : List ByteArray) : Bool := l.any (fun x => decide (65536 < x.size))
def text (l : List ByteArray) : ByteArray := textOf (frames (l.map nums))
def appE (M : DM) (n : Int) (l : List ByteArray) : Int := if long l = true then 3 else if M.appendE n (text l) = 0 then (M.append n (text l)).syncE n else M.appendE n (text l)
def app (M : DM) (n : Int) (l : List ByteArray) : DM := if long l = true then M else if M.appendE n (text l) = 0 then (M.append n (text l)).sync n else M.append n (text l)
def anewE (M : DM) (n : Int) (l : List ByteArray) : Int := if long l = true then 3 else M.replaceE n (text l)
def anew (M : DM) (n : Int) (l : List ByteArray) : DM := if long l = true then M else M.replace n (text l)
def o0E (M : DM) (n : Int) : Int := if M.readE n = 12 then M.replaceE n ByteArray.empty else M.readE n
def o0 (M : DM) (n : Int) : DM := if M.readE n = 12 then M.replace n ByteArray.empty else M
def whole (s : ByteArray) : Nat := (scan (nums s)).2
def o1E (M : DM) (n : Int) (s : ByteArray) : Int := if whole s < s.size then M.replaceE n (s.extract 0 (whole s)) else M.syncE n
def o1 (M : DM) (n : Int) (s : ByteArray) : DM := if whole s < s.size then M.replace n (s.extract 0 (whole s)) else M.sync n
def openE (M : DM) (n : Int) : Int := if n < 0 ∨ 16 ≤ n then 1 else if o0E M n = 0 then o1E (o0 M n) n (M.read n) else o0E M n
def openM (M : DM) (n : Int) : DM := if n < 0 ∨ 16 ≤ n then M else if o0E M n = 0 then o1 (o0 M n) n (M.read n) else o0 M n
def recs (s : ByteArray) : List ByteArray := (scan (nums s)).1.map textOf
def openL (M : DM) (n : Int) : List ByteArray := recs (M.read n)

theorem read_none {M : DM} {n : Int} (h : M.readE n = 12) : M.read n = ByteArray.empty := by
  unfold DM.readE at h
  unfold DM.read
  split at h
  · cases h
  · split at h
    next h1 h2 => rw [if_neg h1, if_pos h2]
    · cases h
theorem read_size {M : DM} (hM : M.Ok) (n : Int) : (M.read n).size ≤ 1048576 := by
  unfold DM.read
  split
  · exact Nat.zero_le _
  · split
    · exact Nat.zero_le _
    next h1 h2 =>
      cases hf : M.files n with
      | none => rw [hf] at h2; exact absurd rfl h2
      | some f =>
        obtain ⟨h0, h3⟩ := hM.keys n f hf
        have h4 := fsz_le h0 h3 hf
        have h5 := hM.used
        have h6 := hM.room1
        unfold DM.used at h5
        show (f.1 ++ f.2).size ≤ 1048576
        rw [ByteArray.size_append]
        omega
theorem whole_le (s : ByteArray) : whole s ≤ s.size := by
  obtain ⟨t, h1, h2, _⟩ := scan_sound (r := nums s) (nums_byte s)
  have := congrArg List.length h1
  rw [List.length_append, nums_length] at this
  unfold whole
  omega
theorem recs_few (s : ByteArray) : (recs s).length ≤ s.size := by
  have h := whole_le s
  unfold recs
  rw [List.length_map]
  obtain ⟨t, h1, h2, _⟩ := scan_sound (r := nums s) (nums_byte s)
  have h3 : ∀ l : List (List Int), l.length ≤ (frames l).length := by
    intro l
    induction l with
    | nil => simp
    | cons x r ih => rw [frames_cons, List.length_append, List.length_cons]; have := frame_pos x; omega
  have := h3 (scan (nums s)).1
  unfold whole at h
  omega
theorem text_nil : text [] = ByteArray.empty := rfl
theorem text_snoc (l : List ByteArray) (x : ByteArray) : text (l ++ [x]) = text l ++ textOf (frame (nums x)) := by
  unfold text
  rw [List.map_append, List.map_cons, List.map_nil, frames_snoc, textOf_append]
theorem text_size (l : List ByteArray) : (text l).size = (frames (l.map nums)).length := textOf_size _
theorem text_append (a b : List ByteArray) : text (a ++ b) = text a ++ text b := by
  unfold text
  rw [List.map_append, frames_append, textOf_append]
theorem text_take_le (l : List ByteArray) (k : Nat) : (text (l.take k)).size ≤ (text l).size := by
  have := text_append (l.take k) (l.drop k)
  rw [List.take_append_drop] at this
  rw [this, ByteArray.size_append]
  omega
theorem frame_in {l : List ByteArray} {k : Nat} (h : k < l.length) : (l.getD k ByteArray.empty).size ≤ (text l).size := by
  have e : l.take (k + 1) = l.take k ++ [l.getD k ByteArray.empty] := by rw [List.take_add_one, List.getElem?_eq_getElem h, List.getD_eq_getElem?_getD, List.getElem?_eq_getElem h]; rfl
  have h1 := text_take_le l (k + 1)
  rw [e, text_snoc, ByteArray.size_append, textOf_size] at h1
  have h2 := frame_pos (nums (l.getD k ByteArray.empty))
  rw [nums_length] at h2
  omega
theorem take_snoc {l : List ByteArray} {k : Nat} (h : k < l.length) : l.take (k + 1) = l.take k ++ [l.getD k ByteArray.empty] := by
  rw [List.take_add_one, List.getElem?_eq_getElem h, List.getD_eq_getElem?_getD, List.getElem?_eq_getElem h]; rfl
end Go.Proofs.Ytekmjhenhgmpgaa.Wal
