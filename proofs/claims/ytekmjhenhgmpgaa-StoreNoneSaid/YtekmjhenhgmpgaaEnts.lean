/- Entries of a log: rows of entries that are read, and rows of the call's own. -/
import Derived.Test.YtekmjhenhgmpgaaConv
import Derived.Maps.AppendAt
namespace Go.Proofs.Ytekmjhenhgmpgaa
open Go.RowKit
set_option maxRecDepth 100000

/-- an entry, in plain data -/
structure Ent where
  term : Nat
  index : Nat
  kind : Int
  data : ByteArray
instance : Inhabited Ent := ⟨⟨0, 0, 0, ByteArray.empty⟩⟩
def Ent.zero : Ent := ⟨0, 0, 0, ByteArray.empty⟩
def Ent.cells (e : Ent) : List Value := [.int .u64 e.term, .int .u64 e.index, .int .i64 e.kind, .string e.data]
def Ent.val (e : Ent) : Value := .agg #[.int .u64 e.term, .int .u64 e.index, .int .i64 e.kind, .string e.data]
/-- an entry that can lie in memory -/
structure Ent.Wf (e : Ent) : Prop where
  term : e.term < 18446744073709551616
  index : e.index < 18446744073709551616
  kind : (Lit.int .i64 e.kind).wf = true
  data : e.data.size ≤ 140737488351232
theorem Ent.zero_wf : Ent.zero.Wf := ⟨by decide, by decide, by decide, by decide⟩

/-- a row of entries that is read -/
structure EntsIn (w : World) (ao : Option Addr) (l : List Ent) : Prop where
  wf : ∀ e ∈ l, e.Wf
  len : l.length ≤ 2305843009213693951
  cell : ∀ i, i < l.length → ∃ b off, ao = some ⟨b, off, none⟩ ∧
    w.cell? ⟨b, off + i * 4, none⟩ = some (.int .u64 (l.getD i Ent.zero).term) ∧ w.cell? ⟨b, off + i * 4 + 1, none⟩ = some (.int .u64 (l.getD i Ent.zero).index) ∧
    w.cell? ⟨b, off + i * 4 + 2, none⟩ = some (.int .i64 (l.getD i Ent.zero).kind) ∧ w.cell? ⟨b, off + i * 4 + 3, none⟩ = some (.string (l.getD i Ent.zero).data)
section
variable {w w' : World} {ao : Option Addr} {l : List Ent}
theorem EntsIn.keeps {S : Nat → Prop} (h : EntsIn w ao l) (ho : Only S w w') (hs : ∀ a, ao = some a → ¬ S a.block) : EntsIn w' ao l :=
  ⟨h.wf, h.len, fun i hi => by
    obtain ⟨b, off, e, h0, h1, h2, h3⟩ := h.cell i hi
    have hlt : b < w.heap.size := World.block_lt_of_cell? w _ h0
    have hb := ho.block b hlt (hs ⟨b, off, none⟩ e)
    have hc : ∀ k, w'.cell? ⟨b, k, none⟩ = w.cell? ⟨b, k, none⟩ := fun k => by simp [World.cell?, hb]
    exact ⟨b, off, e, by rw [hc, h0], by rw [hc, h1], by rw [hc, h2], by rw [hc, h3]⟩⟩
theorem EntsIn.nil (w : World) (ao : Option Addr) : EntsIn w ao [] := ⟨by simp, by simp, fun i hi => by simp at hi⟩
theorem EntsIn.take (h : EntsIn w ao l) (n : Nat) : EntsIn w ao (l.take n) :=
  ⟨fun e he => h.wf e (List.mem_of_mem_take he), by rw [List.length_take]; have := h.len; omega, fun i hi => by
    rw [List.length_take] at hi
    obtain ⟨b, off, e, hc⟩ := h.cell i (by omega)
    refine ⟨b, off, e, ?_⟩
    have : (l.take n).getD i Ent.zero = l.getD i Ent.zero := by rw [List.getD_eq_getElem?_getD, List.getD_eq_getElem?_getD, List.getElem?_take, if_pos (by omega)]
    rw [this]
    exact hc⟩
theorem EntsIn.at_wf (h : EntsIn w ao l) {i : Nat} (hi : i < l.length) : (l.getD i Ent.zero).Wf := by
  rw [List.getD_eq_getElem?_getD, List.getElem?_eq_getElem hi]
  exact h.wf _ (List.getElem_mem hi)
end

namespace En
theorem u_ents : Try.prog.underlying 40 = some (.slice 77) := by kernel_rfl
theorem info : (Try.prog.info? 77).map (fun i => (i.zero, i.size, i.bytes)) = some (some (.agg #[.int .u64 0, .int .u64 0, .int .i64 0, .string ByteArray.empty]), 4, 40) := by kernel_rfl
end En

/-- a row of entries of the call's own -/
def Ents (w : World) (base : Nat) (v : Value) (l : List Ent) : Prop := w.ownsRow base 77 4 v l.length (l.flatMap Ent.cells) ∧ ∀ e ∈ l, e.Wf

theorem flat_length (l : List Ent) : (l.flatMap Ent.cells).length = l.length * 4 := by
  induction l with
  | nil => rfl
  | cons e r ih => rw [List.flatMap_cons, List.length_append, ih, List.length_cons]; show 4 + _ = _; omega
theorem flat_get : ∀ (l : List Ent) (i j : Nat), i < l.length → j < 4 → (l.flatMap Ent.cells)[i * 4 + j]? = (l.getD i Ent.zero).cells[j]?
  | [], _, _, h, _ => by simp at h
  | e :: r, 0, j, _, hj => by
    rw [List.flatMap_cons, Nat.zero_mul, Nat.zero_add, List.getElem?_append_left (by show j < 4; exact hj)]
    rfl
  | e :: r, i + 1, j, h, hj => by
    rw [List.flatMap_cons, List.getElem?_append_right (by show 4 ≤ _; omega)]
    have : (i + 1) * 4 + j - e.cells.length = i * 4 + j := by show (i + 1) * 4 + j - 4 = _; omega
    rw [this, flat_get r i j (by simpa using h) hj, List.getD_cons_succ]

section
variable {w w' : World} {base : Nat} {v : Value} {l : List Ent}
theorem Ents.keeps {S : Nat → Prop} (h : Ents w base v l) (ho : Only S w w') (hs : ∀ k, v.ownBlock = some k → ¬ S k) : Ents w' base v l := ⟨row_keeps h.1 ho hs, h.2⟩
theorem Ents.nil (w : World) (base : Nat) : Ents w base (.slice none 0 0) [] := ⟨World.ownsRow_nil _ _ _ _, by simp⟩
theorem Ents.shape (h : Ents w base v l) : ∃ ao cap, v = .slice ao l.length cap := by
  rcases h.1.2 with ⟨h1, h0⟩ | ⟨g, cap, cur, rfl, _⟩
  · exact ⟨none, 0, by rw [h1, h0]⟩
  · exact ⟨_, cap, rfl⟩
theorem Ents.lower {b' : Nat} (h : Ents w base v l) (hb : b' ≤ base) : Ents w b' v l := by
  refine ⟨⟨h.1.1, ?_⟩, h.2⟩
  rcases h.1.2 with h0 | ⟨g, cap, cur, h1, h2, h3⟩
  · exact .inl h0
  · exact .inr ⟨g, cap, cur, h1, Nat.le_trans hb h2, h3⟩
theorem Ents.read {ao : Option Addr} {cap : Nat} (h : Ents w base (.slice ao l.length cap) l) (hl : l.length ≤ 2305843009213693951) : EntsIn w ao l ∧ l.length ≤ cap ∧ cap ≤ maxLen := by
  rcases h.1.2 with ⟨h1, h0⟩ | ⟨g, cap', cur, h1, hb, hg, hn, hm, hsz, ht⟩
  · simp only [Value.slice.injEq] at h1
    have : l = [] := List.length_eq_zero_iff.1 h0
    subst this
    exact ⟨EntsIn.nil _ _, by omega, by rw [h1.2.2]; unfold maxLen; omega⟩
  · simp only [Value.slice.injEq] at h1
    obtain ⟨rfl, _, rfl⟩ := h1
    refine ⟨⟨h.2, hl, fun i hi => ⟨g, 0, rfl, ?_⟩⟩, hn, hm⟩
    have hc : ∀ j, j < 4 → w.cell? ⟨g, i * 4 + j, none⟩ = (l.getD i Ent.zero).cells[j]? := fun j hj => by
      rw [← flat_get l i j hi hj]
      exact World.ownsRow.cellAt h.1 (i * 4 + j) (by omega)
    simp only [Nat.zero_add]
    exact ⟨hc 0 (by decide), hc 1 (by decide), hc 2 (by decide), hc 3 (by decide)⟩
theorem Ents.apart {p : Nat} {cs : Array Value} {t : TypeId} (h : Ents w base v l) (hb : Blk w p cs t) (ht : t ≠ 77) : v.ownBlock ≠ some p := by
  rcases h.1.2 with ⟨rfl, h0⟩ | ⟨g, cap, cur, rfl, _, hg, _⟩
  · simp [Value.ownBlock]
  · intro e
    have e' : g = p := by simpa [Value.ownBlock] using e
    subst e'
    unfold Blk at hb
    rw [hb] at hg
    cases hg
    exact ht rfl
end

section
variable {ops : Array Oper} {rest : List Oper} {o : Oper} {a : Act} {Q : Exit → Act → World → Prop}
theorem run_append_ent (w : World) (ty : TypeId) (base : Nat) (v : Value) (l : List Ent) (e : Ent) (he : e.Wf) (b : Nat) (n : Nat) (hown : Ents w base v l)
    (c0 : w.cell? ⟨b, 0, none⟩ = some (.int .u64 e.term)) (c1 : w.cell? ⟨b, 1, none⟩ = some (.int .u64 e.index)) (c2 : w.cell? ⟨b, 2, none⟩ = some (.int .i64 e.kind)) (c3 : w.cell? ⟨b, 3, none⟩ = some (.string e.data))
    (hlen : l.length + 1 ≤ 3518437208883) (hbase : base ≤ w.heap.size) :
    ∃ v' w', (Builtin.append_ #[40, 40] ty #[v, .slice (some ⟨b, 0, none⟩) 1 n]).run Try.prog w = .ok v' w' ∧ Ents w' base v' (l ++ [e]) ∧ w.grownBy w' v.ownBlock ∧ (v'.ownBlock = v.ownBlock ∨ v'.ownBlock = some w.heap.size) := by
  obtain ⟨i, hi, hz, hsz, hby⟩ := info_parts En.info
  obtain ⟨v', w', hr, h2, h3, _, h5⟩ := run_append_own_at (P := Try.prog) w base 40 ty 77 i _ 4 40 En.u_ents hi hz hsz hby rfl (by decide) v l.length _ hown.1 ⟨b, 0, none⟩ 1 n e.cells (by rfl) (by
    intro j u hj
    rw [Addr.add_lit, Nat.zero_add]
    match j, hj with
    | 0, hj => cases hj; exact c0
    | 1, hj => cases hj; exact c1
    | 2, hj => cases hj; exact c2
    | 3, hj => cases hj; exact c3
    | j + 4, hj => cases hj) (by intro u hu; simp [Ent.cells] at hu; rcases hu with rfl | rfl | rfl | rfl <;> rfl) (by unfold maxLen; omega) (by omega) hbase
  refine ⟨v', w', hr, ⟨?_, ?_⟩, h3, h5⟩
  · rw [List.flatMap_append, List.length_append]
    simpa using h2
  · intro x hx
    rcases List.mem_append.1 hx with hx | hx
    · exact hown.2 x hx
    · simp at hx; subst hx; exact he
theorem wpList_append_ent (w : World) (hgd : o.guard = none) (s x : Operand) (ho : o.op = .call { callee := .builtin .append, args := #[s, x], argTypes := #[40, 40] })
    (base : Nat) (v : Value) (l : List Ent) (e : Ent) (he : e.Wf) (b : Nat) (n : Nat) (hs : a.eval s = v) (hown : Ents w base v l) (hx : a.eval x = .slice (some ⟨b, 0, none⟩) 1 n)
    (c0 : w.cell? ⟨b, 0, none⟩ = some (.int .u64 e.term)) (c1 : w.cell? ⟨b, 1, none⟩ = some (.int .u64 e.index)) (c2 : w.cell? ⟨b, 2, none⟩ = some (.int .i64 e.kind)) (c3 : w.cell? ⟨b, 3, none⟩ = some (.string e.data))
    (hlen : l.length + 1 ≤ 3518437208883) (hbase : base ≤ w.heap.size)
    (h : ∀ v' w', Ents w' base v' (l ++ [e]) → w.grownBy w' v.ownBlock → wpList Try.prog ops Q rest (a.put o.dst v') w') : wpList Try.prog ops Q (o :: rest) a w := by
  refine wpList_plain hgd fun K hK => ?_
  unfold Oper.wp execOp
  simp only [ho, resolve, invoke, builtin, Sem.run_bind, Sem.run_pure, Result.andThen_ok, List.map_toArray, List.map_cons, List.map_nil, hs, hx]
  obtain ⟨v', w', hr, h2, h3, h5⟩ := run_append_ent w o.type base v l e he b n hown c0 c1 c2 c3 hlen hbase
  rw [hr]
  exact hK _ _ (h v' w' h2 h3)
/-- 'append' of an entry, as one step of a region that draws -/
theorem step_append_ent {K : Act → World → Prop} {E : Prop} (w : World) (hgd : o.guard = none) (s x : Operand) (ho : o.op = .call { callee := .builtin .append, args := #[s, x], argTypes := #[40, 40] })
    (base : Nat) (v : Value) (l : List Ent) (e : Ent) (he : e.Wf) (b : Nat) (n : Nat) (hs : a.eval s = v) (hown : Ents w base v l) (hx : a.eval x = .slice (some ⟨b, 0, none⟩) 1 n)
    (c0 : w.cell? ⟨b, 0, none⟩ = some (.int .u64 e.term)) (c1 : w.cell? ⟨b, 1, none⟩ = some (.int .u64 e.index)) (c2 : w.cell? ⟨b, 2, none⟩ = some (.int .i64 e.kind)) (c3 : w.cell? ⟨b, 3, none⟩ = some (.string e.data))
    (hlen : l.length + 1 ≤ 3518437208883) (hbase : base ≤ w.heap.size)
    (h : ∀ v' w', Ents w' base v' (l ++ [e]) → w.grownBy w' v.ownBlock → K (a.put o.dst v') w') : if Region.wanted o (yielded ops a.tmps) = true then Oper.wp Try.prog o a w K Q else E := by
  have hw : Region.wanted o (yielded ops a.tmps) = true := by simp [Region.wanted, hgd]
  rw [if_pos hw]
  unfold Oper.wp execOp
  simp only [ho, resolve, invoke, builtin, Sem.run_bind, Sem.run_pure, Result.andThen_ok, List.map_toArray, List.map_cons, List.map_nil, hs, hx]
  obtain ⟨v', w', hr, h2, h3, h5⟩ := run_append_ent w o.type base v l e he b n hown c0 c1 c2 c3 hlen hbase
  rw [hr]
  exact h v' w' h2 h3
/-- .. and where the new row lies -/
theorem step_append_entw {K : Act → World → Prop} {E : Prop} (w : World) (hgd : o.guard = none) (s x : Operand) (ho : o.op = .call { callee := .builtin .append, args := #[s, x], argTypes := #[40, 40] })
    (base : Nat) (v : Value) (l : List Ent) (e : Ent) (he : e.Wf) (b : Nat) (n : Nat) (hs : a.eval s = v) (hown : Ents w base v l) (hx : a.eval x = .slice (some ⟨b, 0, none⟩) 1 n)
    (c0 : w.cell? ⟨b, 0, none⟩ = some (.int .u64 e.term)) (c1 : w.cell? ⟨b, 1, none⟩ = some (.int .u64 e.index)) (c2 : w.cell? ⟨b, 2, none⟩ = some (.int .i64 e.kind)) (c3 : w.cell? ⟨b, 3, none⟩ = some (.string e.data))
    (hlen : l.length + 1 ≤ 3518437208883) (hbase : base ≤ w.heap.size)
    (h : ∀ v' w', Ents w' base v' (l ++ [e]) → w.grownBy w' v.ownBlock → (v'.ownBlock = v.ownBlock ∨ v'.ownBlock = some w.heap.size) → K (a.put o.dst v') w') : if Region.wanted o (yielded ops a.tmps) = true then Oper.wp Try.prog o a w K Q else E := by
  have hw : Region.wanted o (yielded ops a.tmps) = true := by simp [Region.wanted, hgd]
  rw [if_pos hw]
  unfold Oper.wp execOp
  simp only [ho, resolve, invoke, builtin, Sem.run_bind, Sem.run_pure, Result.andThen_ok, List.map_toArray, List.map_cons, List.map_nil, hs, hx]
  obtain ⟨v', w', hr, h2, h3, h5⟩ := run_append_ent w o.type base v l e he b n hown c0 c1 c2 c3 hlen hbase
  rw [hr]
  exact h v' w' h2 h3 h5
end
end Go.Proofs.Ytekmjhenhgmpgaa
