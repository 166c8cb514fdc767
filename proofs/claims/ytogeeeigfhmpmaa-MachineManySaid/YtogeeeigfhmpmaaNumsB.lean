/- Rows of numbers of 64 bits, and their bytes. -/
import Derived.Test.YtogeeeigfhmpmaaRpack
namespace Go.Proofs.Ytogeeeigfhmpmaa
open Go.RowKit
set_option maxRecDepth 100000

theorem num_len {x : Nat} (h : x < 18446744073709551616) : (Pk.num x).length ≤ 9 := by rw [Pk.num_length]; have := Pk.size_le8 h; omega
/-- a row of numbers of 64 bits that is read -/
structure U64sIn (w : World) (ao : Option Addr) (l : List Nat) : Prop where
  wf : ∀ x ∈ l, x < 18446744073709551616
  len : l.length ≤ 1000
  cell : ∀ i, i < l.length → ∃ b off, ao = some ⟨b, off, none⟩ ∧ w.cell? ⟨b, off + i, none⟩ = some (.int .u64 (l.getD i 0))
theorem U64sIn.keeps {S : Nat → Prop} {w w' : World} {ao : Option Addr} {l : List Nat} (h : U64sIn w ao l) (ho : Only S w w') (hs : ∀ a, ao = some a → ¬ S a.block) : U64sIn w' ao l :=
  ⟨h.wf, h.len, fun i hi => by
    obtain ⟨b, off, e, h0⟩ := h.cell i hi
    have hlt : b < w.heap.size := World.block_lt_of_cell? w _ h0
    have hb := ho.block b hlt (hs ⟨b, off, none⟩ e)
    exact ⟨b, off, e, by rw [← h0]; simp [World.cell?, hb]⟩⟩
def numsB (l : List Nat) : List Int := l.flatMap Pk.num
theorem numsB_snoc {l : List Nat} {k : Nat} (h : k < l.length) : numsB (l.take (k + 1)) = numsB (l.take k) ++ Pk.num (l.getD k 0) := by
  have e : l.take (k + 1) = l.take k ++ [l.getD k 0] := by rw [List.take_add_one, List.getElem?_eq_getElem h, List.getD_eq_getElem?_getD, List.getElem?_eq_getElem h]; rfl
  rw [e]; unfold numsB; simp
theorem numsB_len {l : List Nat} (h : ∀ x ∈ l, x < 18446744073709551616) : (numsB l).length ≤ 9 * l.length := by
  induction l with
  | nil => simp [numsB]
  | cons x r ih =>
    have h1 := num_len (h x (by simp))
    have h2 := ih (fun y hy => h y (by simp [hy]))
    have e : numsB (x :: r) = Pk.num x ++ numsB r := by simp [numsB]
    rw [e, List.length_append, List.length_cons]; omega

theorem u64s_made (w : World) (l : List Nat) (t : TypeId) (hl : l.length ≤ 1000) (hw : ∀ x ∈ l, x < 18446744073709551616) : U64sIn (w.alloc (.cells (l.map (fun (x : Nat) => Value.int .u64 (x : Int))).toArray t)) (some ⟨w.heap.size, 0, none⟩) l := by
  have hb := Blk.made w (l.map (fun (x : Nat) => Value.int .u64 (x : Int))).toArray t
  refine ⟨hw, hl, fun i hi => ⟨w.heap.size, 0, rfl, ?_⟩⟩
  rw [hb.cell, Nat.zero_add]
  rw [List.getElem?_toArray, List.getElem?_map, List.getElem?_eq_getElem hi, List.getD_eq_getElem?_getD, List.getElem?_eq_getElem hi]
  rfl
end Go.Proofs.Ytogeeeigfhmpmaa
