/- Rows of texts: of a call's own, or read. -/
import Derived.Test.YtogeeeigfhmpmaaConv
namespace Go.Proofs.Ytogeeeigfhmpmaa
open Go.RowKit

namespace St
theorem u_strings : Try.prog.underlying 41 = some (.slice 9) := by kernel_rfl
theorem info : (Try.prog.info? 9).map (fun i => (i.zero, i.size, i.bytes)) = some (some (.string ByteArray.empty), 1, 16) := by kernel_rfl
end St

/-- a row of texts of the call's own -/
def Strs (w : World) (base : Nat) (v : Value) (l : List ByteArray) : Prop := w.ownsRow base 9 1 v l.length (l.map Value.string)

/-- a row of texts that is read -/
structure StrsIn (w : World) (ao : Option Addr) (l : List ByteArray) : Prop where
  len : l.length ≤ maxLen
  cell : ∀ i, i < l.length → ∃ b off, ao = some ⟨b, off, none⟩ ∧ w.cell? ⟨b, off + i, none⟩ = some (.string (l.getD i ByteArray.empty))

section
variable {w w' : World} {base : Nat} {v : Value} {l : List ByteArray}
theorem StrsIn.keeps {S : Nat → Prop} {ao : Option Addr} (h : StrsIn w ao l) (ho : Only S w w') (hs : ∀ a, ao = some a → ¬ S a.block) : StrsIn w' ao l :=
  ⟨h.len, fun i hi => by
    obtain ⟨b, off, e, hc⟩ := h.cell i hi
    refine ⟨b, off, e, ?_⟩
    have hlt : b < w.heap.size := World.block_lt_of_cell? w _ hc
    have hb := ho.block b hlt (hs ⟨b, off, none⟩ e)
    rw [← hc]
    simp [World.cell?, hb]⟩
theorem Strs.keeps {S : Nat → Prop} (h : Strs w base v l) (ho : Only S w w') (hs : ∀ k, v.ownBlock = some k → ¬ S k) : Strs w' base v l := row_keeps h ho hs
theorem Strs.lower {b' : Nat} (h : Strs w base v l) (hb : b' ≤ base) : Strs w b' v l := by
  obtain ⟨h1, h2⟩ := h
  refine ⟨h1, ?_⟩
  rcases h2 with h2 | ⟨g, cap, cur, rfl, hg, r⟩
  · exact .inl h2
  · exact .inr ⟨g, cap, cur, rfl, Nat.le_trans hb hg, r⟩
theorem Strs.keeps2 {S : Nat → Prop} (h : Strs w base v l) (ho : Only S w w') (hs : ∀ k, S k → k < base) : Strs w' base v l :=
  h.keeps ho (fun k hk hS => by have := (World.ownsRow.lt h k hk).1; have := hs k hS; omega)
theorem Strs.nil (w : World) (base : Nat) : Strs w base (.slice none 0 0) [] := World.ownsRow_nil _ _ _ _
theorem Strs.shape (h : Strs w base v l) : ∃ ao cap, v = .slice ao l.length cap := by
  rcases h.2 with ⟨h1, h0⟩ | ⟨g, cap, cur, rfl, hb, _, hn, hm, _⟩
  · exact ⟨none, 0, by rw [h1, h0]⟩
  · exact ⟨_, cap, rfl⟩
theorem Strs.read {ao : Option Addr} {cap : Nat} (h : Strs w base (.slice ao l.length cap) l) : StrsIn w ao l ∧ l.length ≤ cap ∧ cap ≤ maxLen := by
  rcases h.2 with ⟨h1, h0⟩ | ⟨g, cap', cur, h1, hb, hg, hn, hm, _, ht⟩
  · simp only [Value.slice.injEq] at h1
    exact ⟨⟨by unfold maxLen; omega, fun i hi => by omega⟩, by omega, by rw [h1.2.2]; unfold maxLen; omega⟩
  · simp only [Value.slice.injEq] at h1
    obtain ⟨rfl, _, rfl⟩ := h1
    refine ⟨⟨by omega, fun i hi => ⟨g, 0, rfl, ?_⟩⟩, hn, hm⟩
    rw [Nat.zero_add]
    have := World.ownsRow.cellAt h i (by simpa using hi)
    rw [this, List.getElem?_map, List.getElem?_eq_getElem hi]
    simp [List.getD, hi]
theorem Strs.isIn (h : Strs w base v l) : ∃ ao cap, v = .slice ao l.length cap ∧ StrsIn w ao l ∧ l.length ≤ cap ∧ cap ≤ maxLen := by
  obtain ⟨ao, cap, rfl⟩ := h.shape
  exact ⟨ao, cap, rfl, h.read⟩
theorem StrsIn.at {ao : Option Addr} (h : StrsIn w ao l) {k : Nat} (hk : k < l.length) : ∃ b off, ao = some ⟨b, off, none⟩ ∧ w.cell? ⟨b, off + k, none⟩ = some (.string (l.getD k ByteArray.empty)) := h.cell k hk
theorem StrsIn.take {ao : Option Addr} (h : StrsIn w ao l) (n : Nat) : StrsIn w ao (l.take n) :=
  ⟨by have := h.len; rw [List.length_take]; omega, fun i hi => by
    rw [List.length_take] at hi
    obtain ⟨b, off, e, hc⟩ := h.cell i (by omega)
    refine ⟨b, off, e, ?_⟩
    rw [hc, List.getD_eq_getElem?_getD, List.getD_eq_getElem?_getD, List.getElem?_take, if_pos (by omega)]⟩
theorem StrsIn.none (w : World) : StrsIn w none [] := ⟨by unfold maxLen; decide, fun i hi => by simp at hi⟩
theorem cell_str (w : World) (s : ByteArray) (t : TypeId) (n : Nat) (hn : n = w.heap.size) : (w.alloc (.cells #[.string s] t)).cell? ⟨n, 0, none⟩ = some (.string s) := by
  subst hn
  rw [(Blk.made w _ _).cell]; rfl
end

section
variable {ops : Array Oper} {rest : List Oper} {o : Oper} {a : Act} {Q : Exit → Act → World → Prop}
theorem wpList_append_str (w : World) (hgd : o.guard = none) (s x : Operand) (ho : o.op = .call { callee := .builtin .append, args := #[s, x], argTypes := #[41, 41] })
    (base : Nat) (v : Value) (l : List ByteArray) (c : ByteArray) (ad : Addr) (n : Nat) (hs : a.eval s = v) (hown : Strs w base v l) (hx : a.eval x = .slice (some ad) 1 n) (hc : w.cell? ad = some (.string c))
    (hlen : l.length + 1 ≤ 8796093022208) (hbase : base ≤ w.heap.size)
    (h : ∀ v' w', Strs w' base v' (l ++ [c]) → w.grownBy w' v.ownBlock → wpList Try.prog ops Q rest (a.put o.dst v') w') : wpList Try.prog ops Q (o :: rest) a w := by
  obtain ⟨i, hi, hz, hsz, hby⟩ := info_parts St.info
  refine wpList_append_own w hgd s x _ ho base 9 i (.string ByteArray.empty) 1 16 St.u_strings hi hz hsz hby rfl (by decide) v l.length _ hs hown ad 1 n [.string c] hx rfl ?_ ?_ ?_ ?_ hbase ?_
  · intro j u hj
    cases j with
    | zero =>
      cases hj
      have : ad.add 0 = ad := by unfold Addr.add; obtain ⟨b, off, sp⟩ := ad; cases sp <;> rfl
      rw [this]; exact hc
    | succ j => cases hj
  · simp [Value.oneCell']
  · unfold maxLen; omega
  · omega
  · intro v' w' h1 h2 _
    refine h v' w' ?_ h2
    unfold Strs
    simpa using h1
/-- 'append' of a row of texts -/
theorem wpList_append_strs (w : World) (hgd : o.guard = none) (s x : Operand) (ho : o.op = .call { callee := .builtin .append, args := #[s, x], argTypes := #[41, 41] })
    (base : Nat) (v : Value) (l m : List ByteArray) (ad : Addr) (k n : Nat) (hs : a.eval s = v) (hown : Strs w base v l) (hx : a.eval x = .slice (some ad) k n) (hk : k = m.length) (hm : StrsIn w (some ad) m)
    (hlen : l.length + m.length ≤ 8796093022208) (hbase : base ≤ w.heap.size)
    (h : ∀ v' w', Strs w' base v' (l ++ m) → w.grownBy w' v.ownBlock → wpList Try.prog ops Q rest (a.put o.dst v') w') : wpList Try.prog ops Q (o :: rest) a w := by
  subst hk
  obtain ⟨i, hi, hz, hsz, hby⟩ := info_parts St.info
  refine wpList_append_own w hgd s x _ ho base 9 i (.string ByteArray.empty) 1 16 St.u_strings hi hz hsz hby rfl (by decide) v l.length _ hs hown ad m.length n (m.map Value.string) hx (by simp) ?_ ?_ ?_ ?_ hbase ?_
  · intro j u hj
    have hj' : j < m.length := by have := (List.getElem?_eq_some_iff.1 hj).1; simpa using this
    obtain ⟨b, off, e, hc⟩ := hm.cell j hj'
    cases e
    rw [List.getElem?_map, List.getElem?_eq_getElem hj'] at hj
    cases hj
    rw [Addr.add_lit, hc, List.getD_eq_getElem?_getD, List.getElem?_eq_getElem hj']
    rfl
  · intro u hu
    obtain ⟨x, _, rfl⟩ := List.mem_map.1 hu
    rfl
  · unfold maxLen; omega
  · omega
  · intro v' w' h1 h2 _
    refine h v' w' ?_ h2
    unfold Strs
    simpa using h1
end

end Go.Proofs.Ytogeeeigfhmpmaa
