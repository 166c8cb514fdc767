/- A row of entries appended to a row of the call's own. -/
import Derived.Test.YtekmjhenhgmpgaaEnts
import Derived.Test.YtekmjhenhgmpgaaAppTexts
namespace Go.Proofs.Ytekmjhenhgmpgaa
open Go.RowKit
set_option maxRecDepth 100000

theorem EntsIn.flat {w : World} {ad : Addr} {m : List Ent} (hm : EntsIn w (some ad) m) : ∀ j u, (m.flatMap Ent.cells)[j]? = some u → w.cell? (ad.add j) = some u := by
  intro j u hj
  have hj' : j < m.length * 4 := by have := (List.getElem?_eq_some_iff.1 hj).1; rw [flat_length] at this; exact this
  obtain ⟨b, off, e, h0, h1, h2, h3⟩ := hm.cell (j / 4) (by omega)
  cases e
  have hd : j = j / 4 * 4 + j % 4 := by omega
  have hr : j % 4 < 4 := Nat.mod_lt _ (by decide)
  generalize j / 4 = i at *
  generalize j % 4 = r at *
  subst hd
  rw [flat_get m i r (by omega) hr] at hj
  rw [Addr.add_lit, ← Nat.add_assoc]
  match r, hr with
  | 0, _ => cases hj; exact h0
  | 1, _ => cases hj; exact h1
  | 2, _ => cases hj; exact h2
  | 3, _ => cases hj; exact h3
theorem cells_one {m : List Ent} : ∀ u ∈ m.flatMap Ent.cells, u.oneCell' = true := by
  intro u hu
  obtain ⟨e, _, he⟩ := List.mem_flatMap.1 hu
  simp [Ent.cells] at he
  rcases he with rfl | rfl | rfl | rfl <;> rfl

section
variable {ops : Array Oper} {rest : List Oper} {o : Oper} {a : Act} {Q : Exit → Act → World → Prop}
theorem wpList_append_ents (w : World) (hgd : o.guard = none) (s x : Operand) (ho : o.op = .call { callee := .builtin .append, args := #[s, x], argTypes := #[40, 40] })
    (base : Nat) (v : Value) (l m : List Ent) (ao : Option Addr) (k n : Nat) (hs : a.eval s = v) (hown : Ents w base v l) (hx : a.eval x = .slice ao k n) (hk : k = m.length) (hm : EntsIn w ao m)
    (hlen : l.length + m.length ≤ 3518437208883) (hbase : base ≤ w.heap.size)
    (h : ∀ v' w', Ents w' base v' (l ++ m) → w.grownBy w' v.ownBlock → (v'.ownBlock = v.ownBlock ∨ v'.ownBlock = some w.heap.size) → wpList Try.prog ops Q rest (a.put o.dst v') w') : wpList Try.prog ops Q (o :: rest) a w := by
  subst hk
  obtain ⟨i, hi, hz, hsz, hby⟩ := info_parts En.info
  refine wpList_plain hgd fun K hK => ?_
  unfold Oper.wp execOp
  simp only [ho, resolve, invoke, builtin, Sem.run_bind, Sem.run_pure, Result.andThen_ok, List.map_toArray, List.map_cons, List.map_nil, hs, hx]
  have hwf : ∀ e ∈ l ++ m, e.Wf := by
    intro e he
    rcases List.mem_append.1 he with he | he
    · exact hown.2 e he
    · exact hm.wf e he
  cases ao with
  | none =>
    have hm0 : m = [] := by
      cases m with
      | nil => rfl
      | cons y r => obtain ⟨b, off, e, _⟩ := hm.cell 0 (by simp); cases e
    subst hm0
    rw [show ([] : List Ent).length = 0 from rfl, append_nothing base 40 o.type 77 i 4 En.u_ents hi v l.length _ hown.1 n]
    exact hK _ _ (h v w (by rw [List.append_nil]; exact hown) ⟨rfl, rfl, rfl, Nat.le_refl _, fun _ _ _ => rfl⟩ (.inl rfl))
  | some ad =>
    obtain ⟨v', w', hr, h2, h3, _, h5⟩ := run_append_own_at (P := Try.prog) w base 40 o.type 77 i _ 4 40 En.u_ents hi hz hsz hby rfl (by decide) v l.length _ hown.1 ad m.length n (m.flatMap Ent.cells) (flat_length m) hm.flat cells_one (by unfold maxLen; omega) (by omega) hbase
    rw [hr]
    refine hK _ _ (h v' w' ⟨?_, hwf⟩ h3 h5)
    rw [List.flatMap_append, List.length_append]
    exact h2
end
end Go.Proofs.Ytekmjhenhgmpgaa
