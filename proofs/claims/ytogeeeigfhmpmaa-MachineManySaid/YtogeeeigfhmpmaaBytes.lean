/- Rows of bytes of a call's own: made, appended to, written, read; and text turned into such a row. -/
import Derived.Test.YtogeeeigfhmpmaaCrc
import Derived.Laws.MakeOwn
import Derived.Lib.ConvBytes
namespace Go.Proofs.Ytogeeeigfhmpmaa
open Go.RowKit

namespace By
theorem u_bytes : Try.prog.underlying 100 = some (.slice 5) := by kernel_rfl
theorem info : (Try.prog.info? 5).map (fun i => (i.zero, i.size, i.bytes)) = some (some (.int .u8 0), 1, 1) := by kernel_rfl
end By

/-- a row of bytes of the call's own -/
def Bts (w : World) (base : Nat) (v : Value) (l : List Int) : Prop := w.ownsRow base 5 1 v l.length (l.map (Value.int .u8))

section
variable {w w' : World} {base : Nat} {v : Value} {l : List Int}
theorem Bts.keeps {S : Nat → Prop} (h : Bts w base v l) (ho : Only S w w') (hs : ∀ k, v.ownBlock = some k → ¬ S k) : Bts w' base v l := row_keeps h ho hs
theorem Bts.shape (h : Bts w base v l) (hl : 0 < l.length) : ∃ g cap, v = .slice (some ⟨g, 0, none⟩) l.length cap ∧ base ≤ g ∧ l.length ≤ cap ∧ cap ≤ maxLen := by
  rcases h.2 with ⟨_, h0⟩ | ⟨g, cap, cur, rfl, hb, _, hn, hm, _⟩
  · omega
  · exact ⟨g, cap, rfl, hb, hn, hm⟩
theorem Bts.shape' (h : Bts w base v l) : ∃ ao cap, v = .slice ao l.length cap := by
  rcases h.2 with ⟨h1, h0⟩ | ⟨g, cap, cur, rfl, hb, _, hn, hm, _⟩
  · exact ⟨none, 0, by rw [h1, h0]⟩
  · exact ⟨_, cap, rfl⟩
theorem Bts.nil (w : World) (base : Nat) : Bts w base (.slice none 0 0) [] := World.ownsRow_nil _ _ _ _
theorem Bts.read {ao : Option Addr} {cap : Nat} (h : Bts w base (.slice ao l.length cap) l) (hw : ∀ x ∈ l, 0 ≤ x ∧ x ≤ 255) : BytesIn w ao l := by
  rcases h.2 with ⟨h1, h0⟩ | ⟨g, cap', cur, h1, hb, hg, hn, hm, _, ht⟩
  · exact ⟨hw, by unfold maxLen; omega, fun i hi => by omega⟩
  · simp only [Value.slice.injEq] at h1
    obtain ⟨rfl, _, rfl⟩ := h1
    refine ⟨hw, by omega, fun i hi => ⟨g, 0, rfl, ?_⟩⟩
    rw [Nat.zero_add]
    have := World.ownsRow.cellAt h i (by simpa using hi)
    rw [this, List.getElem?_map, List.getElem?_eq_getElem hi]
    simp [List.getD, hi]
theorem Bts.write {g cap n : Nat} (h : Bts w base (.slice (some ⟨g, 0, none⟩) n cap) l) (hn : n = l.length) (j : Nat) (x : Int) :
    Bts (w.setCell ⟨g, j, none⟩ (.int .u8 x)) base (.slice (some ⟨g, 0, none⟩) n cap) (l.set j x) ∧ w.grownBy (w.setCell ⟨g, j, none⟩ (.int .u8 x)) (some g) := by
  subst hn
  have := World.ownsRow.stored h j (.int .u8 x)
  refine ⟨?_, this.2⟩
  unfold Bts
  rw [List.length_set, List.map_set]
  exact this.1
theorem Bts.at {g cap n : Nat} (h : Bts w base (.slice (some ⟨g, 0, none⟩) n cap) l) (hn : n = l.length) (j : Nat) (hj : j < l.length) : w.cell? ⟨g, j, none⟩ = some (.int .u8 (l.getD j 0)) := by
  subst hn
  rw [World.ownsRow.cellAt h j (by simpa using hj), List.getElem?_map, List.getElem?_eq_getElem hj]
  simp [List.getD, hj]
theorem Bts.free {g cap n : Nat} (h : Bts w base (.slice (some ⟨g, 0, none⟩) n cap) l) (hn : n = l.length) (j : Nat) : w.frozen? ⟨g, j, none⟩ = false := by
  subst hn
  exact World.ownsRow.frozenAt h j
theorem cell_byte (w : World) (c : Int) (t : TypeId) (n : Nat) (hn : n = w.heap.size) : (w.alloc (.cells #[.int .u8 c] t)).cell? ⟨n, 0, none⟩ = some (.int .u8 c) := by
  subst hn
  rw [(Blk.made w _ _).cell]; rfl
end

section
variable {ops : Array Oper} {rest : List Oper} {o : Oper} {a : Act} {Q : Exit → Act → World → Prop}
theorem wpList_append_byte (w : World) (hgd : o.guard = none) (s x : Operand) (ho : o.op = .call { callee := .builtin .append, args := #[s, x], argTypes := #[100, 100] })
    (base : Nat) (v : Value) (l : List Int) (c : Int) (ad : Addr) (n : Nat) (hs : a.eval s = v) (hown : Bts w base v l) (hx : a.eval x = .slice (some ad) 1 n) (hc : w.cell? ad = some (.int .u8 c))
    (hlen : l.length + 1 ≤ 140737488355328) (hbase : base ≤ w.heap.size)
    (h : ∀ v' w', Bts w' base v' (l ++ [c]) → w.grownBy w' v.ownBlock → wpList Try.prog ops Q rest (a.put o.dst v') w') : wpList Try.prog ops Q (o :: rest) a w := by
  obtain ⟨i, hi, hz, hsz, hby⟩ := info_parts By.info
  refine wpList_append_own w hgd s x _ ho base 5 i (.int .u8 0) 1 1 By.u_bytes hi hz hsz hby rfl (by decide) v l.length _ hs hown ad 1 n [.int .u8 c] hx rfl ?_ ?_ ?_ ?_ hbase ?_
  · intro j u hj
    cases j with
    | zero =>
      cases hj
      have : ad.add 0 = ad := by unfold Addr.add; obtain ⟨b, off, sp⟩ := ad; cases sp <;> rfl
      rw [this]; exact hc
    | succ j => cases hj
  · simp [Value.oneCell']
  · unfold maxLen; omega
  · omega
  · intro v' w' h1 h2 _
    refine h v' w' ?_ h2
    unfold Bts
    simpa using h1
theorem wpList_make_byte (w : World) (hg : o.guard = none) (l c : Operand) (hop : o.op = Op.makeSlice 100 l c)
    (base : Nat) (kl kc : IntKind) (n : Nat) (hl : a.eval l = .int kl 1) (hc : a.eval c = .int kc (n : Int)) (hn : 1 ≤ n) (b2 : n ≤ 281474976710656) (b4 : base ≤ w.heap.size)
    (hK : ∀ w', Bts w' base (.slice (some ⟨w.heap.size, 0, none⟩) 1 n) [0] → w.grownBy w' none → wpList Try.prog ops Q rest (a.put o.dst (.slice (some ⟨w.heap.size, 0, none⟩) 1 n)) w') :
    wpList Try.prog ops Q (o :: rest) a w := by
  obtain ⟨i, hi, hz, hsz, hby⟩ := info_parts By.info
  have hrun := run_make (P := Try.prog) w 100 5 i (.int .u8 0) By.u_bytes hi hz kl kc 1 n (by decide) (by omega) (by rw [hby]; omega) (by omega)
  rw [hsz] at hrun
  simp only [Int.toNat_one, Int.toNat_natCast] at hrun
  have hz1 : (Value.int .u8 0).cells = #[Value.int .u8 0] := rfl
  rw [hz1] at hrun
  refine wpList_plain hg fun K hK' => ?_
  unfold Oper.wp
  simp [execOp, hop, hl, hc, hrun, Result.andThen]
  refine hK' _ _ (hK _ ⟨rfl, .inr ⟨w.heap.size, n, _, rfl, b4, heap_alloc_new w _, hn, by unfold maxLen; omega, (size_madeCells _ _).trans (Nat.mul_one n).symm, ?_⟩⟩ (World.grownBy_alloc w _ none))
  rw [Nat.mul_one, toList_madeCells_one]
  obtain ⟨m, rfl⟩ : ∃ m, n = m + 1 := ⟨n - 1, by omega⟩
  rfl
end

end Go.Proofs.Ytogeeeigfhmpmaa
