/- Bits of small sets, in plain numbers; and what math/bits makes of them. -/
import Derived.Test.YtekmjhenhgmpgaaInts
import Derived.Laws.BitsLemmas
import Derived.IntWalk
namespace Go.Proofs.Ytekmjhenhgmpgaa
open Go.RowKit

namespace Qu
/-- x as 64 bits -/
def W (x : Int) : Prop := 0 ≤ x ∧ x < 18446744073709551616
theorem and_nat {x y : Nat} (hx : x < 2 ^ 64) (hy : y < 2 ^ 64) : bits .and .u64 (x : Int) (y : Int) = ((x &&& y : Nat) : Int) := by
  unfold bits
  simp only [IntKind.wrap_u64]
  show ((BitVec.ofInt 64 (x : Int) &&& BitVec.ofInt 64 (y : Int)).toNat : Int) % 18446744073709551616 = _
  rw [BitVec.toNat_and, BitVec.ofInt_natCast, BitVec.ofInt_natCast, BitVec.toNat_ofNat, BitVec.toNat_ofNat, Nat.mod_eq_of_lt hx, Nat.mod_eq_of_lt hy]
  have : x &&& y ≤ x := Nat.and_le_left
  omega
theorem or_nat {x y : Nat} (hx : x < 2 ^ 64) (hy : y < 2 ^ 64) : bits .or .u64 (x : Int) (y : Int) = ((x ||| y : Nat) : Int) := by
  unfold bits
  simp only [IntKind.wrap_u64]
  show ((BitVec.ofInt 64 (x : Int) ||| BitVec.ofInt 64 (y : Int)).toNat : Int) % 18446744073709551616 = _
  rw [BitVec.toNat_or, BitVec.ofInt_natCast, BitVec.ofInt_natCast, BitVec.toNat_ofNat, BitVec.toNat_ofNat, Nat.mod_eq_of_lt hx, Nat.mod_eq_of_lt hy]
  have := Nat.or_lt_two_pow (n := 64) hx hy
  omega
end Qu

namespace Qu
def o1 (x : Int) : Int := IntKind.u64.wrap (bits .and .u64 (x / 2) 6148914691236517205 + bits .and .u64 x 6148914691236517205)
def o2 (x : Int) : Int := IntKind.u64.wrap (bits .and .u64 (x / 4) 3689348814741910323 + bits .and .u64 x 3689348814741910323)
def o3 (x : Int) : Int := bits .and .u64 (IntKind.u64.wrap (x / 16 + x)) 1085102592571150095
def o4 (x : Int) : Int := IntKind.u64.wrap (x + x / 256)
def o5 (x : Int) : Int := IntKind.u64.wrap (x + x / 65536)
def o6 (x : Int) : Int := IntKind.u64.wrap (x + x / 4294967296)
end Qu

namespace Qu
def tab : List Nat := [0, 1, 56, 2, 57, 49, 28, 3, 61, 58, 42, 50, 38, 29, 17, 4, 62, 47, 59, 36, 45, 43, 51, 22, 53, 39, 33, 30, 24, 18, 12, 5, 63, 55, 48, 27, 60, 41, 37, 16, 46, 35, 44, 21, 52, 32, 23, 11, 54, 26, 40, 15, 34, 20, 31, 10, 25, 14, 19, 9, 13, 8, 7, 6]
/-- the table of math/bits lies where the program lays it -/
def TabOk (w : World) : Prop := ∀ i, i < 64 → w.cell? ⟨0, i, none⟩ = some (.int .u8 (tab.getD i 0))
theorem TabOk.keeps {S : Nat → Prop} {w w' : World} (h : TabOk w) (ho : Only S w w') (hs : ¬ S 0) : TabOk w' := by
  intro i hi
  have hc := h i hi
  have hlt : 0 < w.heap.size := World.block_lt_of_cell? w _ hc
  have hb := ho.block 0 hlt hs
  rw [← hc]
  simp [World.cell?, hb]

/-- the members of a set of bits -/
def mem (m : Nat) : List Int := ((List.range 7).filter (fun i => m.testBit i)).map (fun (i : Nat) => (i : Int))
def pop (m : Nat) : Nat := (mem m).length
/-- the bits that count -/
def low (c : Int) : Nat := (c % 128).toNat
theorem low_lt (c : Int) : low c < 128 := by unfold low; omega
theorem and_127 {c : Int} (h : W c) : bits .and .u64 c 127 = (low c : Int) := by
  have e := bits_mask .u64 64 (by decide) (fun n h0 h1 => by rw [IntKind.wrap_u64]; omega) 7 (by decide) c h.1 (by have := h.2; omega)
  have e2 : bits .and .u64 c 127 = c % 128 := e
  rw [e2]
  unfold low
  omega
def oc (x : Int) : Int := bits .and .i64 (o6 (o5 (o4 (o3 (o2 (o1 x)))))) 127
theorem oc_pop : ∀ x : Fin 128, oc (x.val : Int) = (pop x.val : Int) := by decide +kernel
theorem o6_small : ∀ x : Fin 128, 0 ≤ o6 (o5 (o4 (o3 (o2 (o1 (x.val : Int)))))) ∧ o6 (o5 (o4 (o3 (o2 (o1 (x.val : Int)))))) < 1000000000000000000 := by decide +kernel
/-- the place of the table -/
def ti (x : Int) : Int := IntKind.u64.wrap (bits .and .u64 x (IntKind.u64.wrap (-x)) * 285870213051353865) / 288230376151711744
def tz (x : Nat) : Nat := tab.getD (ti (x : Int)).toNat 0
theorem ti_in : ∀ x : Fin 128, 0 ≤ ti (x.val : Int) ∧ ti (x.val : Int) < 64 := by decide +kernel
theorem mem_step : ∀ x : Fin 128, x.val ≠ 0 → mem x.val = (tz x.val : Int) :: mem (x.val &&& (x.val - 1)) := by decide +kernel
theorem tz_small : ∀ x : Fin 128, tz x.val < 64 := by decide +kernel
theorem mem_zero : mem 0 = [] := by decide
theorem and_lt {x : Nat} (h : x < 128) : x &&& (x - 1) < 128 := Nat.lt_of_le_of_lt Nat.and_le_left h
theorem and_less {x : Nat} (h : x ≠ 0) : x &&& (x - 1) < x := Nat.lt_of_le_of_lt Nat.and_le_right (by omega)
theorem pop_le (m : Nat) : pop m ≤ 7 := by
  unfold pop mem
  rw [List.length_map]
  have := List.length_filter_le (fun i => m.testBit i) (List.range 7)
  simpa using this
theorem mem_range (m : Nat) : ∀ x ∈ mem m, 0 ≤ x ∧ x < 7 := by
  intro x hx
  unfold mem at hx
  obtain ⟨i, hi, rfl⟩ := List.mem_map.1 hx
  have := (List.mem_filter.1 hi).1
  rw [List.mem_range] at this
  omega
end Qu

end Go.Proofs.Ytekmjhenhgmpgaa
