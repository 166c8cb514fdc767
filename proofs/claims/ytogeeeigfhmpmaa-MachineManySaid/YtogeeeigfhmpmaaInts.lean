/- Rows of numbers: of a call's own, appended to, and read. -/
import Derived.Test.YtogeeeigfhmpmaaProg
import Derived.Test.YtogeeeigfhmpmaaBase
namespace Go.Proofs.Ytogeeeigfhmpmaa
open Go.RowKit

/-- a slice of the call's own that holds these numbers -/
def Ints (w : World) (base : Nat) (v : Value) (l : List Int) : Prop := w.ownsRow base 3 1 v l.length (l.map (Value.int .i64))

/-- a slice of numbers that is read: whose cells hold these -/
structure IntsIn (w : World) (ao : Option Addr) (l : List Int) : Prop where
  wf : ∀ x ∈ l, (Lit.int .i64 x).wf = true
  len : l.length ≤ maxLen
  cell : ∀ i, i < l.length → ∃ b off, ao = some ⟨b, off, none⟩ ∧ w.cell? ⟨b, off + i, none⟩ = some (.int .i64 (l.getD i 0))

theorem IntsIn.stay {S : Nat → Prop} {w w' : World} {ao : Option Addr} {l : List Int} (h : IntsIn w ao l) (ho : Only S w w') (hs : ∀ a, ao = some a → ¬ S a.block) : IntsIn w' ao l :=
  ⟨h.wf, h.len, fun i hi => by
    obtain ⟨b, off, e, hc⟩ := h.cell i hi
    refine ⟨b, off, e, ?_⟩
    have hlt : b < w.heap.size := World.block_lt_of_cell? w _ hc
    have hb := ho.block b hlt (hs ⟨b, off, none⟩ e)
    rw [← hc]
    simp [World.cell?, hb]⟩

theorem Ints.read {w : World} {base : Nat} {v : Value} {l : List Int} (h : Ints w base v l) (hl : l.length ≤ maxLen) (hw : ∀ x ∈ l, (Lit.int .i64 x).wf = true) : ∃ ao cap, v = .slice ao l.length cap ∧ IntsIn w ao l := by
  have h0 := h
  unfold Ints at h0
  rcases h.2 with ⟨rfl, h1⟩ | ⟨g, cap, cur, rfl, _⟩
  · have : l = [] := List.length_eq_zero_iff.1 h1
    subst this
    exact ⟨none, 0, rfl, hw, hl, fun i hi => absurd hi (by simp)⟩
  · refine ⟨_, cap, rfl, hw, hl, fun i hi => ⟨g, 0, rfl, ?_⟩⟩
    rw [Nat.zero_add, h0.cellAt i (by omega), List.getElem?_map, List.getElem?_eq_getElem hi]
    simp [List.getD, hi]

namespace Nu
theorem info : (Try.prog.info? 3).map (fun i => (i.zero, i.size, i.bytes)) = some (some (.int .i64 0), 1, 8) := by kernel_rfl
end Nu

section
variable {w w' : World} {base : Nat} {v : Value} {l : List Int}
theorem Ints.keeps' {S : Nat → Prop} (h : Ints w base v l) (ho : Only S w w') (hs : ∀ k, v.ownBlock = some k → ¬ S k) : Ints w' base v l := row_keeps h ho hs
theorem Ints.nil' (w : World) (base : Nat) : Ints w base (.slice none 0 0) [] := World.ownsRow_nil _ _ _ _
theorem Ints.shape (h : Ints w base v l) : ∃ ao cap, v = .slice ao l.length cap := by
  rcases h.2 with ⟨h1, h0⟩ | ⟨g, cap, cur, rfl, hb, _, hn, hm, _⟩
  · exact ⟨none, 0, by rw [h1, h0]⟩
  · exact ⟨_, cap, rfl⟩
theorem Ints.at' {ao : Option Addr} {cap : Nat} (h : Ints w base (.slice ao l.length cap) l) {k : Nat} (hk : k < l.length) : ∃ b off, ao = some ⟨b, off, none⟩ ∧ w.cell? ⟨b, off + k, none⟩ = some (.int .i64 (l.getD k 0)) := by
  rcases h.2 with ⟨h1, h0⟩ | ⟨g, cap', cur, h1, hb, hg, hn, hm, _, ht⟩
  · omega
  · simp only [Value.slice.injEq] at h1
    obtain ⟨rfl, _, rfl⟩ := h1
    refine ⟨g, 0, rfl, ?_⟩
    rw [Nat.zero_add]
    have := World.ownsRow.cellAt h k (by simpa using hk)
    rw [this, List.getElem?_map, List.getElem?_eq_getElem hk]
    simp [List.getD, hk]
theorem Ints.lenLe {ao : Option Addr} {cap : Nat} (h : Ints w base (.slice ao l.length cap) l) : l.length ≤ cap ∧ cap ≤ maxLen := by
  rcases h.2 with ⟨h1, h0⟩ | ⟨g, cap', cur, h1, hb, hg, hn, hm, _, ht⟩
  · simp only [Value.slice.injEq] at h1
    exact ⟨by omega, by rw [h1.2.2]; unfold maxLen; omega⟩
  · simp only [Value.slice.injEq] at h1
    obtain ⟨rfl, _, rfl⟩ := h1
    exact ⟨hn, hm⟩
theorem cell_int (w : World) (c : Int) (t : TypeId) (n : Nat) (hn : n = w.heap.size) : (w.alloc (.cells #[.int .i64 c] t)).cell? ⟨n, 0, none⟩ = some (.int .i64 c) := by
  subst hn
  rw [(Blk.made w _ _).cell]; rfl
end

section
variable {ops : Array Oper} {rest : List Oper} {o : Oper} {a : Act} {Q : Exit → Act → World → Prop}
end
end Go.Proofs.Ytogeeeigfhmpmaa
