/- The sum of a text, in plain numbers, and what the program's and the document's functions make of it. -/
import Derived.Test.YtekmjhenhgmpgaaProg
import Derived.Test.YtekmjhenhgmpgaaBase
import Derived.Deep.RegionHeld3
import Derived.Laws.BitsLemmas
import Derived.IntWalk
namespace Go.Proofs.Ytekmjhenhgmpgaa
open Go.RowKit

/-- a row of bytes that is read -/
structure BytesIn (w : World) (ao : Option Addr) (l : List Int) : Prop where
  wf : ∀ x ∈ l, 0 ≤ x ∧ x ≤ 255
  len : l.length ≤ maxLen
  cell : ∀ i, i < l.length → ∃ b off, ao = some ⟨b, off, none⟩ ∧ w.cell? ⟨b, off + i, none⟩ = some (.int .u8 (l.getD i 0))

theorem BytesIn.keeps {S : Nat → Prop} {w w' : World} {ao : Option Addr} {l : List Int} (h : BytesIn w ao l) (ho : Only S w w') (hs : ∀ a, ao = some a → ¬ S a.block) : BytesIn w' ao l :=
  ⟨h.wf, h.len, fun i hi => by
    obtain ⟨b, off, e, hc⟩ := h.cell i hi
    refine ⟨b, off, e, ?_⟩
    have hlt : b < w.heap.size := World.block_lt_of_cell? w _ hc
    have hb := ho.block b hlt (hs ⟨b, off, none⟩ e)
    rw [← hc]
    simp [World.cell?, hb]⟩
theorem BytesIn.at {w : World} {ao : Option Addr} {l : List Int} (h : BytesIn w ao l) {k : Nat} (hk : k < l.length) : ∃ b off, ao = some ⟨b, off, none⟩ ∧ w.cell? ⟨b, off + k, none⟩ = some (.int .u8 (l.getD k 0)) ∧ 0 ≤ l.getD k 0 ∧ l.getD k 0 ≤ 255 := by
  obtain ⟨b, off, e, hc⟩ := h.cell k hk
  have hmem : l.getD k 0 ∈ l := by rw [List.getD_eq_getElem?_getD, List.getElem?_eq_getElem hk]; exact List.getElem_mem hk
  exact ⟨b, off, e, hc, h.wf _ hmem⟩

namespace Crc
def half (x : Int) : Int := if x % 2 = 1 then bits .xor .u32 (x / 2) 2197175160 else x / 2
def halfs : Nat → Int → Int
  | 0, x => x
  | n + 1, x => half (halfs n x)
def byte (x c : Int) : Int := halfs 8 (bits .xor .u32 x c)
def sum (x : Int) (l : List Int) : Int := l.foldl byte x
def add (s : Int) (l : List Int) : Int := 4294967295 - sum (4294967295 - s) l

def U (x : Int) : Prop := 0 ≤ x ∧ x < 4294967296
theorem xor_u (a b : Int) : U (bits .xor .u32 a b) := by
  unfold bits
  simp only [IntKind.wrap_u32]
  constructor <;> omega
theorem half_u {x : Int} (h : U x) : U (half x) := by
  unfold half
  split
  · exact xor_u _ _
  · obtain ⟨h0, h1⟩ := h; exact ⟨by omega, by omega⟩
theorem halfs_u {x : Int} (h : U x) : ∀ n, U (halfs n x)
  | 0 => h
  | n + 1 => half_u (halfs_u h n)
theorem byte_u (x c : Int) : U (byte x c) := halfs_u (xor_u x c) 8
theorem sum_u {x : Int} (h : U x) (l : List Int) : U (sum x l) := by
  unfold sum
  induction l generalizing x with
  | nil => exact h
  | cons c r ih => exact ih (byte_u x c)
theorem sum_step (x : Int) (l : List Int) (k : Nat) (hk : k < l.length) : sum x (l.take (k + 1)) = byte (sum x (l.take k)) (l.getD k 0) := by
  unfold sum
  rw [List.take_add_one, List.getElem?_eq_getElem hk, Option.toList_some, List.foldl_append, List.getD_eq_getElem?_getD, List.getElem?_eq_getElem hk]
  rfl
theorem and_one {x : Int} (h : U x) : bits .and .u32 x 1 = x % 2 :=
  bits_mask .u32 32 (by decide) (fun n h0 h1 => by rw [IntKind.wrap_u32]; omega) 1 (by decide) x h.1 (by have := h.2; omega)
theorem xor_zero {x : Int} (h : U x) : bits .xor .u32 x 0 = x := by
  obtain ⟨a, rfl⟩ := Int.eq_ofNat_of_zero_le h.1
  have h1 := h.2
  unfold bits
  simp only [IntKind.wrap_u32]
  have e : (BitVec.ofInt 32 (a : Int) ^^^ BitVec.ofInt 32 0) = BitVec.ofInt 32 (a : Int) := by simp
  show ((BitVec.ofInt 32 (a : Int) ^^^ BitVec.ofInt 32 0).toNat : Int) % 4294967296 = a
  rw [e]
  simp [BitVec.ofInt_natCast]
  omega
theorem half_code {x : Int} (h : U x) : bits .xor .u32 (x / 2) (bits .and .u32 2197175160 (-(bits .and .u32 x 1) % 4294967296)) = half x := by
  rw [and_one h]
  unfold half
  have hu : U (x / 2) := by obtain ⟨h0, h1⟩ := h; exact ⟨by omega, by omega⟩
  rcases (by omega : x % 2 = 0 ∨ x % 2 = 1) with e | e
  · rw [e, if_neg (by decide)]
    have : bits .and .u32 2197175160 (-0 % 4294967296) = 0 := by decide +kernel
    rw [this, xor_zero hu]
  · rw [e, if_pos rfl]
    have : bits .and .u32 2197175160 (-1 % 4294967296) = 2197175160 := by decide +kernel
    rw [this]
theorem not_u {x : Int} (h : U x) : bits .xor .u32 IntKind.u32.max x = 4294967295 - x := by
  obtain ⟨a, rfl⟩ := Int.eq_ofNat_of_zero_le h.1
  have h1 := h.2
  unfold bits
  simp only [IntKind.wrap_u32]
  have em : IntKind.u32.max = 4294967295 := by decide +kernel
  rw [em]
  have e : (BitVec.ofInt 32 4294967295 ^^^ BitVec.ofInt 32 (a : Int)) = ~~~ (BitVec.ofInt 32 (a : Int)) := by
    have : BitVec.ofInt 32 4294967295 = BitVec.allOnes 32 := by decide +kernel
    rw [this, BitVec.allOnes_xor]
  show ((BitVec.ofInt 32 4294967295 ^^^ BitVec.ofInt 32 (a : Int)).toNat : Int) % 4294967296 = 4294967295 - a
  rw [e, BitVec.toNat_not]
  simp only [BitVec.ofInt_natCast, BitVec.toNat_ofNat]
  omega
theorem not_U {x : Int} (h : U x) : U (4294967295 - x) := by obtain ⟨h0, h1⟩ := h; exact ⟨by omega, by omega⟩
end Crc

set_option maxHeartbeats 1000000 in
theorem crc_add_at (w : World) (s : Int) (ao : Option Addr) (cap : Nat) (l : List Int) (hs : Crc.U s) (hl : BytesIn w ao l) :
    Calls Try.prog 94 #[.int .u32 s, .slice ao l.length cap] w fun e w' => e = .returned (.int .u32 (Crc.add s l)) ∧ w = w' := by
  have hlm := hl.len
  unfold maxLen at hlm
  have hs' := Crc.not_U hs
  have hn := Crc.not_u hs
  have HN := Lib.hid hn
  clear hn
  go_enter Try.func94, Try.ntmps94
  go_wp2_with fail
  go_loop [5, 12] (fun v5 i => ∃ k : Nat, k ≤ l.length ∧ i = .int .i64 k ∧ v5 = .int .u32 (Crc.sum (4294967295 - s) (l.take k))) (fun _ i => l.length - (intOf i).toNat)
  case atStart => exact ⟨0, by omega, rfl, by rw [HN.out]; rfl⟩
  case round =>
    obtain ⟨k, hk, rfl, rfl⟩ := hrel
    by_cases hlt : k < l.length
    · obtain ⟨b, off, rfl, hcell⟩ := hl.cell k hlt
      have hmem : l.getD k 0 ∈ l := by rw [List.getD_eq_getElem?_getD, List.getElem?_eq_getElem hlt]; exact List.getElem_mem hlt
      have hw := hl.wf _ hmem
      have hst := Crc.sum_step (4294967295 - s) l k hlt
      have HST := Lib.hid hst
      clear hst hmem
      generalize l.getD k 0 = c at hcell hw HST
      generalize Crc.sum (4294967295 - s) (l.take k) = x at HST ⊢
      go_wp2_with fail
      have hx0 := Crc.xor_u x c
      obtain ⟨x0, HX⟩ : ∃ x0, RowKit.Hid (bits .xor .u32 x c = x0) := ⟨_, Lib.hid rfl⟩
      rw [HX.out] at hx0 ⊢
      go_loop [5, 20] (fun v5 i => ∃ j : Nat, j ≤ 8 ∧ i = .int .i64 j ∧ v5 = .int .u32 (Crc.halfs j x0)) (fun _ i => 8 - (intOf i).toNat)
      case atStart => exact ⟨0, by omega, rfl, rfl⟩
      case round =>
        obtain ⟨j, hj, rfl, rfl⟩ := hrel
        by_cases hj8 : j < 8
        · have hu := Crc.halfs_u hx0 j
          have HC := Lib.hid (Crc.half_code hu)
          obtain ⟨y, HY⟩ : ∃ y, RowKit.Hid (Crc.halfs j x0 = y) := ⟨_, Lib.hid rfl⟩
          rw [HY.out] at hu HC ⊢
          obtain ⟨u0, u1⟩ := hu
          go_wp2_with fail
          go_round
          case rel => exact ⟨j + 1, by omega, by go_num, by rw [HC.out]; unfold Crc.halfs; rw [HY.out]⟩
          case measure => simp [intOf]; omega
        · have e : j = 8 := by omega
          subst e
          go_wp2_with fail
          go_round
          case rel => exact ⟨k + 1, by omega, by go_num, by rw [HST.out]; unfold Crc.byte; rw [HX.out]⟩
          case measure => simp [intOf]; omega
    · have e : k = l.length := by omega
      subst e
      have hu := Crc.sum_u hs' l
      have hn2 := Crc.not_u hu
      have HN2 := Lib.hid hn2
      clear hn2
      go_wp2_with fail
      go_ret
      refine ⟨?_, rfl⟩
      show Ending.returned (Value.int IntKind.u32 (bits BinOp.xor IntKind.u32 IntKind.u32.max (Crc.sum (4294967295 - s) l))) = _
      rw [HN2.out]
      rfl

theorem crc_sum_at (w : World) (ao : Option Addr) (cap : Nat) (l : List Int) (hl : BytesIn w ao l) :
    Calls Try.prog 84 #[.slice ao l.length cap] w fun e w' => e = .returned (.int .u32 (Crc.add 0 l)) ∧ w = w' := by
  go_enter Try.func84, Try.ntmps84
  go_wp2_with fail
  refine (crc_add_at w 0 ao cap l ⟨by decide, by decide⟩ hl).mono ?_
  rintro e w1 ⟨rfl, rfl⟩
  go_wp2_with fail
  go_ret
  exact ⟨rfl, rfl⟩

end Go.Proofs.Ytekmjhenhgmpgaa
