/- The sum of a text, in plain numbers, and what the program's and the document's functions make of it. -/
import Derived.Test.YtogeeeigfhmpmaaProg
import Derived.Test.YtogeeeigfhmpmaaBase
import Derived.Deep.RegionHeld3
import Derived.Laws.BitsLemmas
import Derived.IntWalk
namespace Go.Proofs.Ytogeeeigfhmpmaa
open Go.RowKit

/-- a row of bytes that is read -/
structure BytesIn (w : World) (ao : Option Addr) (l : List Int) : Prop where
  wf : ∀ x ∈ l, 0 ≤ x ∧ x ≤ 255
  len : l.length ≤ maxLen
  cell : ∀ i, i < l.length → ∃ b off, ao = some ⟨b, off, none⟩ ∧ w.cell? ⟨b, off + i, none⟩ = some (.int .u8 (l.getD i 0))

theorem BytesIn.keeps {S : Nat → Prop} {w w' : World} {ao : Option Addr} {l : List Int} (h : BytesIn w ao l) (ho : Only S w w') (hs : ∀ a, ao = some a → ¬ S a.block) : BytesIn w' ao l :=
  ⟨h.wf, h.len, fun i hi => by
    obtain ⟨b, off, e, hc⟩ := h.cell i hi
    refine ⟨b, off, e, ?_⟩
    have hlt : b < w.heap.size := World.block_lt_of_cell? w _ hc
    have hb := ho.block b hlt (hs ⟨b, off, none⟩ e)
    rw [← hc]
    simp [World.cell?, hb]⟩
theorem BytesIn.at {w : World} {ao : Option Addr} {l : List Int} (h : BytesIn w ao l) {k : Nat} (hk : k < l.length) : ∃ b off, ao = some ⟨b, off, none⟩ ∧ w.cell? ⟨b, off + k, none⟩ = some (.int .u8 (l.getD k 0)) ∧ 0 ≤ l.getD k 0 ∧ l.getD k 0 ≤ 255 := by
  obtain ⟨b, off, e, hc⟩ := h.cell k hk
  have hmem : l.getD k 0 ∈ l := by rw [List.getD_eq_getElem?_getD, List.getElem?_eq_getElem hk]; exact List.getElem_mem hk
  exact ⟨b, off, e, hc, h.wf _ hmem⟩

namespace Crc
def half (x : Int) : Int := if x % 2 = 1 then bits .xor .u32 (x / 2) 2197175160 else x / 2
def halfs : Nat → Int → Int
  | 0, x => x
  | n + 1, x => half (halfs n x)
def byte (x c : Int) : Int := halfs 8 (bits .xor .u32 x c)
def sum (x : Int) (l : List Int) : Int := l.foldl byte x
def add (s : Int) (l : List Int) : Int := 4294967295 - sum (4294967295 - s) l

def U (x : Int) : Prop := 0 ≤ x ∧ x < 4294967296
theorem xor_u (a b : Int) : U (bits .xor .u32 a b) := by
  unfold bits
  simp only [IntKind.wrap_u32]
  constructor <;> omega
theorem half_u {x : Int} (h : U x) : U (half x) := by
  unfold half
  split
  · exact xor_u _ _
  · obtain ⟨h0, h1⟩ := h; exact ⟨by omega, by omega⟩
theorem halfs_u {x : Int} (h : U x) : ∀ n, U (halfs n x)
  | 0 => h
  | n + 1 => half_u (halfs_u h n)
theorem byte_u (x c : Int) : U (byte x c) := halfs_u (xor_u x c) 8
theorem sum_u {x : Int} (h : U x) (l : List Int) : U (sum x l) := by
  unfold sum
  induction l generalizing x with
  | nil => exact h
  | cons c r ih => exact ih (byte_u x c)
theorem sum_step (x : Int) (l : List Int) (k : Nat) (hk : k < l.length) : sum x (l.take (k + 1)) = byte (sum x (l.take k)) (l.getD k 0) := by
  unfold sum
  rw [List.take_add_one, List.getElem?_eq_getElem hk, Option.toList_some, List.foldl_append, List.getD_eq_getElem?_getD, List.getElem?_eq_getElem hk]
  rfl
theorem and_one {x : Int} (h : U x) : bits .and .u32 x 1 = x % 2 :=
  bits_mask .u32 32 (by decide) (fun n h0 h1 => by rw [IntKind.wrap_u32]; omega) 1 (by decide) x h.1 (by have := h.2; omega)
theorem xor_zero {x : Int} (h : U x) : bits .xor .u32 x 0 = x := by
  obtain ⟨a, rfl⟩ := Int.eq_ofNat_of_zero_le h.1
  have h1 := h.2
  unfold bits
  simp only [IntKind.wrap_u32]
  have e : (BitVec.ofInt 32 (a : Int) ^^^ BitVec.ofInt 32 0) = BitVec.ofInt 32 (a : Int) := by simp
  show ((BitVec.ofInt 32 (a : Int) ^^^ BitVec.ofInt 32 0).toNat : Int) % 4294967296 = a
  rw [e]
  simp [BitVec.ofInt_natCast]
  omega
theorem half_code {x : Int} (h : U x) : bits .xor .u32 (x / 2) (bits .and .u32 2197175160 (-(bits .and .u32 x 1) % 4294967296)) = half x := by
  rw [and_one h]
  unfold half
  have hu : U (x / 2) := by obtain ⟨h0, h1⟩ := h; exact ⟨by omega, by omega⟩
  rcases (by omega : x % 2 = 0 ∨ x % 2 = 1) with e | e
  · rw [e, if_neg (by decide)]
    have : bits .and .u32 2197175160 (-0 % 4294967296) = 0 := by decide +kernel
    rw [this, xor_zero hu]
  · rw [e, if_pos rfl]
    have : bits .and .u32 2197175160 (-1 % 4294967296) = 2197175160 := by decide +kernel
    rw [this]
theorem not_u {x : Int} (h : U x) : bits .xor .u32 IntKind.u32.max x = 4294967295 - x := by
  obtain ⟨a, rfl⟩ := Int.eq_ofNat_of_zero_le h.1
  have h1 := h.2
  unfold bits
  simp only [IntKind.wrap_u32]
  have em : IntKind.u32.max = 4294967295 := by decide +kernel
  rw [em]
  have e : (BitVec.ofInt 32 4294967295 ^^^ BitVec.ofInt 32 (a : Int)) = ~~~ (BitVec.ofInt 32 (a : Int)) := by
    have : BitVec.ofInt 32 4294967295 = BitVec.allOnes 32 := by decide +kernel
    rw [this, BitVec.allOnes_xor]
  show ((BitVec.ofInt 32 4294967295 ^^^ BitVec.ofInt 32 (a : Int)).toNat : Int) % 4294967296 = 4294967295 - a
  rw [e, BitVec.toNat_not]
  simp only [BitVec.ofInt_natCast, BitVec.toNat_ofNat]
  omega
theorem not_U {x : Int} (h : U x) : U (4294967295 - x) := by obtain ⟨h0, h1⟩ := h; exact ⟨by omega, by omega⟩
end Crc

end Go.Proofs.Ytogeeeigfhmpmaa
