/- The document's wheel in memory: the time, two rows of numbers. -/
import Derived.Test.YtklpdkojffaiiaaWheelI
import Derived.Test.YtklpdkojffaiiaaU64
import Derived.Test.YtklpdkojffaiiaaStop
import Derived.Maps.AppendAt
namespace Go.Proofs.Ytklpdkojffaiiaa
open Go.RowKit Go.Shelf
set_option maxRecDepth 100000

namespace Rw
open Wh
/-- a row of numbers of the call's own -/
def Row (e : TypeId) (k : IntKind) (w : World) (base : Nat) (v : Value) (l : List Int) : Prop := w.ownsRow base e 1 v l.length (l.map (Value.int k))
section
variable {e : TypeId} {k : IntKind} {w w' : World} {base : Nat} {v : Value} {l : List Int}
theorem Row.keeps {S : Nat → Prop} (h : Row e k w base v l) (ho : Only S w w') (hs : ∀ b, v.ownBlock = some b → ¬ S b) : Row e k w' base v l := row_keeps h ho hs
theorem Row.nil (e : TypeId) (k : IntKind) (w : World) (base : Nat) : Row e k w base (.slice none 0 0) [] := World.ownsRow_nil _ _ _ _
theorem Row.less {b : Nat} (h : Row e k w base v l) (hb : b ≤ base) : Row e k w b v l := by
  refine ⟨h.1, ?_⟩
  rcases h.2 with h2 | ⟨g, cap, cur, e1, h3, r⟩
  · exact .inl h2
  · exact .inr ⟨g, cap, cur, e1, by omega, r⟩
theorem Row.shape (h : Row e k w base v l) : ∃ ao cap, v = .slice ao l.length cap ∧ l.length ≤ cap ∧ cap ≤ maxLen ∧ (ao = none → l = []) := by
  rcases h.2 with ⟨h1, h0⟩ | ⟨g, cap, cur, rfl, hb, _, hn, hm, _⟩
  · exact ⟨none, 0, by rw [h1, h0], by omega, by unfold maxLen; omega, fun _ => List.eq_nil_of_length_eq_zero h0⟩
  · exact ⟨_, cap, rfl, hn, hm, fun e => by cases e⟩
theorem Row.at_ {ao : Option Addr} {cap : Nat} (h : Row e k w base (.slice ao l.length cap) l) {i : Nat} (hi : i < l.length) : ∃ g, ao = some ⟨g, 0, none⟩ ∧ w.cell? ⟨g, i, none⟩ = some (.int k (l.getD i 0)) := by
  rcases h.2 with ⟨h1, h0⟩ | ⟨g, cap', cur, h1, hb, hg, hn, hm, _, ht⟩
  · omega
  · simp only [Value.slice.injEq] at h1
    obtain ⟨rfl, _, rfl⟩ := h1
    refine ⟨g, rfl, ?_⟩
    have := World.ownsRow.cellAt h i (by simpa using hi)
    rw [this, List.getElem?_map, List.getElem?_eq_getElem hi]
    simp [List.getD, hi]
theorem Row.apart {t : TypeId} {cs : Array Value} {b : Nat} (h : Row e k w base v l) (hb : Blk w b cs t) (ht : t ≠ e) : v.ownBlock ≠ some b := by
  rcases h.2 with ⟨rfl, h0⟩ | ⟨g, cap, cur, rfl, _, hg, _⟩
  · simp [Value.ownBlock]
  · intro e'
    have e' : g = b := by simpa [Value.ownBlock] using e'
    subst e'
    unfold Blk at hb
    rw [hb] at hg
    cases hg
    exact ht rfl
theorem Row.two {e' : TypeId} {k' : IntKind} {base' : Nat} {v' : Value} {l' : List Int} (h : Row e k w base v l) (h' : Row e' k' w base' v' l') (hne : e ≠ e') (b : Nat) (hb : v.ownBlock = some b) : v'.ownBlock ≠ some b := by
  rcases h.2 with ⟨rfl, h0⟩ | ⟨g, cap, cur, rfl, _, hg, _⟩
  · simp [Value.ownBlock] at hb
  · simp [Value.ownBlock] at hb
    subst hb
    rcases h'.2 with ⟨rfl, h0⟩ | ⟨g', cap', cur', rfl, _, hg', _⟩
    · simp [Value.ownBlock]
    · intro e1
      simp [Value.ownBlock] at e1
      subst e1
      rw [hg] at hg'
      cases hg'
      exact hne rfl
theorem Row.lt (h : Row e k w base v l) : ∀ b, v.ownBlock = some b → base ≤ b ∧ b < w.heap.size := World.ownsRow.lt h
end
/-- a row is appended to a row, as one step of a region that draws -/
theorem step_append_row {ops : Array Oper} {o : Oper} {a : Act} {Q : Exit → Act → World → Prop} {K : Act → World → Prop} {E : Prop} (w : World) (T e : TypeId) (k : IntKind) (hT : Try.prog.underlying T = some (.slice e)) (hinf : (Try.prog.info? e).map (fun i => (i.zero, i.size, i.bytes)) = some (some (.int k 0), 1, 8))
    (hgd : o.guard = none) (s x : Operand) (ho : o.op = .call { callee := .builtin .append, args := #[s, x], argTypes := #[T, T] })
    (base : Nat) (v : Value) (l m : List Int) (ad : Addr) (n c : Nat) (hs : a.eval s = v) (hown : Row e k w base v l) (hn : n = m.length) (hx : a.eval x = .slice (some ad) n c)
    (hc : ∀ j, j < m.length → w.cell? (ad.add j) = some (.int k (m.getD j 0))) (hlen : l.length + m.length ≤ 1000000) (hbase : base ≤ w.heap.size)
    (h : ∀ v' w', Row e k w' base v' (l ++ m) → w.grownBy w' v.ownBlock → (v'.ownBlock = v.ownBlock ∨ v'.ownBlock = some w.heap.size) → K (a.put o.dst v') w') : if Region.wanted o (yielded ops a.tmps) = true then Oper.wp Try.prog o a w K Q else E := by
  have hw : Region.wanted o (yielded ops a.tmps) = true := by simp [Region.wanted, hgd]
  rw [if_pos hw]
  subst hn
  obtain ⟨i, hi, hz, hsz, hby⟩ := info_parts hinf
  have hrun := run_append_own_at (P := Try.prog) w base T o.type e i (.int k 0) 1 8 hT hi hz hsz hby rfl (by decide) v l.length _ hown ad m.length c (m.map (Value.int k)) (by simp) (by
    intro j u hj
    obtain ⟨hjl, hj2⟩ := List.getElem?_eq_some_iff.1 hj
    have hjm : j < m.length := by simpa using hjl
    rw [hc j hjm, ← hj2, List.getElem_map, List.getD_eq_getElem?_getD, List.getElem?_eq_getElem hjm]
    rfl) (by intro u hu; obtain ⟨y, _, rfl⟩ := List.mem_map.1 hu; rfl) (by unfold maxLen; omega) (by omega) hbase
  obtain ⟨v', w', hr, h2, h3, _, h5⟩ := hrun
  unfold Oper.wp execOp
  simp only [ho, resolve, invoke, builtin, Sem.run_bind, Sem.run_pure, Result.andThen_ok, List.map_toArray, List.map_cons, List.map_nil, hs, hx]
  rw [hr]
  refine h v' w' ?_ h3 h5
  unfold Row
  rw [List.length_append, List.map_append]
  exact h2
theorem exec_h {P : Program} {ρ : Operand → Value} {o : Oper} {t : TypeId} {x u : Operand} {v v1 v2 : Value} {w : World} (ho : o.op = .slice t x none (some u) none) (hx : ρ x = v1) (hu : ρ u = v2) (ht : P.underlying t = some (.slice (P.elem t))) (h : (Instr.slice t v1 none (some v2) none).run P w = .ok v w) : (execOp ρ o).run P w = .ok (.value v) w := by
  unfold execOp
  simp only [ho, Option.map_some, Option.map_none, hx, hu, Sem.run_bind, run_sliceAt_slice (w := w) t _ _ _ _ ht, h, Result.andThen, Sem.run_pure]
theorem sl_h1 (t : TypeId) (ht : Try.prog.underlying t = some (.slice (Try.prog.elem t))) (hz : ∀ w, (sizeOf (Try.prog.elem t)).run Try.prog w = .ok 1 w) (g n cap k : Nat) (hk : k ≤ cap) (w : World) : (Instr.slice t (.slice (some ⟨g, 0, none⟩) n cap) none (some (.int .i64 k)) none).run Try.prog w = .ok (.slice (some ⟨g, 0, none⟩) k cap) w := by
  have hrun := run_slice_h (P := Try.prog) (w := w) t (some ⟨g, 0, none⟩) n cap ht .i64 (k : Int) (by omega) (by omega)
  rw [hrun, hz]
  simp only [Result.andThen, Int.toNat_natCast, sliced, Nat.zero_mul, Nat.sub_zero, Option.map_some, Addr.add_lit]
  split <;> rfl
/-- the rest of a row: where it lies -/
theorem sl_l1 (t : TypeId) (ht : Try.prog.underlying t = some (.slice (Try.prog.elem t))) (hz : ∀ w, (sizeOf (Try.prog.elem t)).run Try.prog w = .ok 1 w) {e : TypeId} {k : IntKind} {w : World} {base g cap : Nat} {l : List Int} (h : Row e k w base (.slice (some ⟨g, 0, none⟩) l.length cap) l) (i : Nat) (hi : i ≤ l.length) :
    ∃ ad : Addr, (∀ w : World, (Instr.slice t (.slice (some ⟨g, 0, none⟩) l.length cap) (some (.int .i64 (i : Int))) none none).run Try.prog w = .ok (.slice (some ad) (l.length - i) (cap - i)) w) ∧ (∀ j, j < (l.drop i).length → w.cell? (ad.add j) = some (.int k ((l.drop i).getD j 0))) ∧ ad.block = g := by
  obtain ⟨_, _, e1, hlc, _⟩ := h.shape
  simp only [Value.slice.injEq] at e1
  obtain ⟨_, _, rfl⟩ := e1
  have hrun := fun w => run_slice_l (P := Try.prog) (w := w) t (some ⟨g, 0, none⟩) l.length cap ht .i64 (i : Int) (by omega) (by omega)
  by_cases hc : cap = i
  · refine ⟨⟨g, 0, none⟩, fun w => ?_, fun j hj => ?_, rfl⟩
    · rw [hrun, hz]
      simp only [Result.andThen, Int.toNat_natCast, sliced, if_pos hc]
    · simp at hj; omega
  · refine ⟨⟨g, i, none⟩, fun w => ?_, fun j hj => ?_, rfl⟩
    · rw [hrun, hz]
      simp only [Result.andThen, Int.toNat_natCast, sliced, if_neg hc, Option.map_some, Addr.add_lit, Nat.mul_one, Nat.zero_add]
    · have hj' : i + j < l.length := by simp at hj; omega
      rw [Addr.add_lit]
      obtain ⟨g', e2, hcell⟩ := h.at_ hj'
      cases e2
      rw [hcell, List.getD_eq_getElem?_getD, List.getD_eq_getElem?_getD, List.getElem?_drop]
/-- the document's wheel; R: blocks that may be its own -/
def RefW (w : World) (R : Nat → Prop) (r now : Nat) (A : List Tm) : Prop :=
  ∃ vi vd, Blk w r #[.int .u64 now, vi, vd] 42 ∧ Row 3 .i64 w 0 vi (A.map (·.id)) ∧ Row 33 .u64 w 0 vd (A.map (fun t => (t.due : Int))) ∧ R r ∧ (∀ b, vi.ownBlock = some b → R b) ∧ (∀ b, vd.ownBlock = some b → R b)
theorem RefW.keeps {w w' : World} {R S : Nat → Prop} {r now : Nat} {A : List Tm} (h : RefW w R r now A) (ho : Only S w w') (hs : ∀ b, R b → ¬ S b) : RefW w' R r now A := by
  obtain ⟨vi, vd, h1, h2, h3, h4, h5, h6⟩ := h
  exact ⟨vi, vd, h1.keeps ho (hs r h4), h2.keeps ho (fun b e => hs b (h5 b e)), h3.keeps ho (fun b e => hs b (h6 b e)), h4, h5, h6⟩
theorem RefW.more {w : World} {R S : Nat → Prop} {r now : Nat} {A : List Tm} (h : RefW w R r now A) (hs : ∀ b, R b → S b) : RefW w S r now A := by
  obtain ⟨vi, vd, h1, h2, h3, h4, h5, h6⟩ := h
  exact ⟨vi, vd, h1, h2, h3, hs r h4, fun b e => hs b (h5 b e), fun b e => hs b (h6 b e)⟩
/-- R and what is new -/
def plus (R : Nat → Prop) (w w' : World) : Nat → Prop := fun b => R b ∨ (w.heap.size ≤ b ∧ b < w'.heap.size)
theorem u_i : Try.prog.underlying 27 = some (.slice 3) := by kernel_rfl
theorem i_i : (Try.prog.info? 3).map (fun i => (i.zero, i.size, i.bytes)) = some (some (.int .i64 0), 1, 8) := by kernel_rfl
theorem u_u : Try.prog.underlying 40 = some (.slice 33) := by kernel_rfl
theorem i_u : (Try.prog.info? 33).map (fun i => (i.zero, i.size, i.bytes)) = some (some (.int .u64 0), 1, 8) := by kernel_rfl
theorem uei : Try.prog.underlying 27 = some (.slice (Try.prog.elem 27)) := by kernel_rfl
theorem uzi (w : World) : (sizeOf (Try.prog.elem 27)).run Try.prog w = .ok 1 w := by kernel_rfl
theorem ueu : Try.prog.underlying 40 = some (.slice (Try.prog.elem 40)) := by kernel_rfl
theorem uzu (w : World) : (sizeOf (Try.prog.elem 40)).run Try.prog w = .ok 1 w := by kernel_rfl
end Rw
end Go.Proofs.Ytklpdkojffaiiaa
