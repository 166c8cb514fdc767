/- Rows of unsigned numbers: of a call's own, appended to, and read. -/
import Derived.Test.YtogeeeigfhmpmaaProg
import Derived.Test.YtogeeeigfhmpmaaInts
import Derived.ProofKit
import Derived.Deep.Slices
import Derived.Deep.Fields
import Derived.ChangeSame
namespace Go.Proofs.Ytogeeeigfhmpmaa
open Go.RowKit
set_option maxRecDepth 100000

/-- a slice of the call's own that holds these numbers -/
def U64s (w : World) (base : Nat) (v : Value) (l : List Int) : Prop := w.ownsRow base 28 1 v l.length (l.map (Value.int .u64))

/-- a slice of numbers that is read: whose cells hold these -/
structure U64In (w : World) (ao : Option Addr) (l : List Int) : Prop where
  wf : ∀ x ∈ l, (Lit.int .u64 x).wf = true
  len : l.length ≤ maxLen
  cell : ∀ i, i < l.length → ∃ b off, ao = some ⟨b, off, none⟩ ∧ w.cell? ⟨b, off + i, none⟩ = some (.int .u64 (l.getD i 0))

theorem U64In.stay {S : Nat → Prop} {w w' : World} {ao : Option Addr} {l : List Int} (h : U64In w ao l) (ho : Only S w w') (hs : ∀ a, ao = some a → ¬ S a.block) : U64In w' ao l :=
  ⟨h.wf, h.len, fun i hi => by
    obtain ⟨b, off, e, hc⟩ := h.cell i hi
    refine ⟨b, off, e, ?_⟩
    have hlt : b < w.heap.size := World.block_lt_of_cell? w _ hc
    have hb := ho.block b hlt (hs ⟨b, off, none⟩ e)
    rw [← hc]
    simp [World.cell?, hb]⟩

theorem U64s.read {w : World} {base : Nat} {v : Value} {l : List Int} (h : U64s w base v l) (hl : l.length ≤ maxLen) (hw : ∀ x ∈ l, (Lit.int .u64 x).wf = true) : ∃ ao cap, v = .slice ao l.length cap ∧ U64In w ao l := by
  have h0 := h
  unfold U64s at h0
  rcases h.2 with ⟨rfl, h1⟩ | ⟨g, cap, cur, rfl, _⟩
  · have : l = [] := List.length_eq_zero_iff.1 h1
    subst this
    exact ⟨none, 0, rfl, hw, hl, fun i hi => absurd hi (by simp)⟩
  · refine ⟨_, cap, rfl, hw, hl, fun i hi => ⟨g, 0, rfl, ?_⟩⟩
    rw [Nat.zero_add, h0.cellAt i (by omega), List.getElem?_map, List.getElem?_eq_getElem hi]
    simp [List.getD, hi]

namespace Nu64
theorem u_u64s : Try.prog.underlying 22 = some (.slice 28) := by kernel_rfl
theorem info : (Try.prog.info? 28).map (fun i => (i.zero, i.size, i.bytes)) = some (some (.int .u64 0), 1, 8) := by kernel_rfl
theorem u_u64 : Try.prog.underlying 28 = some (.int .u64) := by kernel_rfl
end Nu64

section
variable {w w' : World} {base : Nat} {v : Value} {l : List Int}
theorem U64s.keeps' {S : Nat → Prop} (h : U64s w base v l) (ho : Only S w w') (hs : ∀ k, v.ownBlock = some k → ¬ S k) : U64s w' base v l := row_keeps h ho hs
theorem U64s.nil' (w : World) (base : Nat) : U64s w base (.slice none 0 0) [] := World.ownsRow_nil _ _ _ _
theorem U64s.shape (h : U64s w base v l) : ∃ ao cap, v = .slice ao l.length cap := by
  rcases h.2 with ⟨h1, h0⟩ | ⟨g, cap, cur, rfl, hb, _, hn, hm, _⟩
  · exact ⟨none, 0, by rw [h1, h0]⟩
  · exact ⟨_, cap, rfl⟩
theorem U64s.at' {ao : Option Addr} {cap : Nat} (h : U64s w base (.slice ao l.length cap) l) {k : Nat} (hk : k < l.length) : ∃ b off, ao = some ⟨b, off, none⟩ ∧ w.cell? ⟨b, off + k, none⟩ = some (.int .u64 (l.getD k 0)) := by
  rcases h.2 with ⟨h1, h0⟩ | ⟨g, cap', cur, h1, hb, hg, hn, hm, _, ht⟩
  · omega
  · simp only [Value.slice.injEq] at h1
    obtain ⟨rfl, _, rfl⟩ := h1
    refine ⟨g, 0, rfl, ?_⟩
    rw [Nat.zero_add]
    have := World.ownsRow.cellAt h k (by simpa using hk)
    rw [this, List.getElem?_map, List.getElem?_eq_getElem hk]
    simp [List.getD, hk]
theorem U64s.lenLe {ao : Option Addr} {cap : Nat} (h : U64s w base (.slice ao l.length cap) l) : l.length ≤ cap ∧ cap ≤ maxLen := by
  rcases h.2 with ⟨h1, h0⟩ | ⟨g, cap', cur, h1, hb, hg, hn, hm, _, ht⟩
  · simp only [Value.slice.injEq] at h1
    exact ⟨by omega, by rw [h1.2.2]; unfold maxLen; omega⟩
  · simp only [Value.slice.injEq] at h1
    obtain ⟨rfl, _, rfl⟩ := h1
    exact ⟨hn, hm⟩
theorem cell_u64 (w : World) (c : Int) (t : TypeId) (n : Nat) (hn : n = w.heap.size) : (w.alloc (.cells #[.int .u64 c] t)).cell? ⟨n, 0, none⟩ = some (.int .u64 c) := by
  subst hn
  rw [(Blk.made w _ _).cell]; rfl
end

section
variable {ops : Array Oper} {rest : List Oper} {o : Oper} {a : Act} {Q : Exit → Act → World → Prop}
theorem wpList_append_u64 (w : World) (hgd : o.guard = none) (s x : Operand) (ho : o.op = .call { callee := .builtin .append, args := #[s, x], argTypes := #[22, 22] })
    (base : Nat) (v : Value) (l : List Int) (c : Int) (ad : Addr) (n : Nat) (hs : a.eval s = v) (hown : U64s w base v l) (hx : a.eval x = .slice (some ad) 1 n) (hc : w.cell? ad = some (.int .u64 c))
    (hlen : l.length + 1 ≤ 17592186044416) (hbase : base ≤ w.heap.size)
    (h : ∀ v' w', U64s w' base v' (l ++ [c]) → w.grownBy w' v.ownBlock → wpList Try.prog ops Q rest (a.put o.dst v') w') : wpList Try.prog ops Q (o :: rest) a w := by
  obtain ⟨i, hi, hz, hsz, hby⟩ := info_parts Nu64.info
  refine wpList_append_own w hgd s x _ ho base 28 i (.int .u64 0) 1 8 Nu64.u_u64s hi hz hsz hby rfl (by decide) v l.length _ hs hown ad 1 n [.int .u64 c] hx rfl ?_ ?_ ?_ ?_ hbase ?_
  · intro j u hj
    cases j with
    | zero =>
      cases hj
      have : ad.add 0 = ad := by unfold Addr.add; obtain ⟨b, off, sp⟩ := ad; cases sp <;> rfl
      rw [this]; exact hc
    | succ j => cases hj
  · simp [Value.oneCell']
  · unfold maxLen; omega
  · omega
  · intro v' w' h1 h2 _
    refine h v' w' ?_ h2
    unfold U64s
    simpa using h1
end
open Go.Maps Go.ChangeShapes Go.WideShapes Go.Deep
section
variable {H : Type} {enc : TypeId × Value → H} {w : World}
theorem open_u64s_cs {fuel : Nat} {v : Value} {x : DataW H × List MemPlace} (h : DataW.trod enc Try.prog w 0 (fun _ => true) true fuel 22 [v] = some x) :
    ∃ (l : List Int) (ao : Option Addr) (cap : Nat), v = .slice ao l.length cap ∧ U64In w ao l := by
  rcases open_ints Nu64.u_u64s Nu64.u_u64 (by kernel_rfl) h with ⟨hcs, _⟩ | ⟨a, len, cap, zs, hcs, _, hl, hm, hz, _, hcell, hwz⟩
  · simp at hcs
    subst hcs
    exact ⟨[], none, 0, rfl, by simp, by simp, fun i hi => absurd hi (by simp)⟩
  · simp at hcs
    subst hcs
    have hz' : zs.length = cap := by simpa using hz
    have hlen : (zs.take len).length = len := by rw [List.length_take]; omega
    refine ⟨zs.take len, some a, cap, by rw [hlen], fun y hy => hwz y (List.mem_of_mem_take hy), by rw [hlen]; omega, fun i hi => ?_⟩
    have hi' : i < len := by omega
    have hc := hcell i (by omega)
    have hc0 := hcell 0 (by omega)
    obtain ⟨b, off, spot⟩ := a
    have hspot : spot = none := by simpa [Addr.add] using World.cell?_spot hc0
    subst hspot
    refine ⟨b, off, rfl, ?_⟩
    have e : (zs.take len).getD i 0 = zs.getD i 0 := by simp [List.getD, hi']
    rw [e, ← Addr.add_lit]
    exact hc
theorem open_u64s {v : Value} {d : DataW H} {p : List MemPlace} {r : Reach} {base : Nat} (_hv : Value.okWide Try.prog w r base 22 v) (h : DataW.Trod enc Try.prog w 0 (fun _ => true) true 22 v d p) :
    ∃ x : List Int × Option Addr × Nat, v = .slice x.2.1 x.1.length x.2.2 ∧ U64In w x.2.1 x.1 := by
  obtain ⟨a, len, cap, rfl⟩ := okWide_slice Nu64.u_u64s _hv
  obtain ⟨fuel, hf⟩ := h
  obtain ⟨l, ao, cap', e, hi⟩ := open_u64s_cs (by simpa [Value.cells] using hf)
  exact ⟨⟨l, ao, cap'⟩, e, hi⟩
end
end Go.Proofs.Ytogeeeigfhmpmaa
