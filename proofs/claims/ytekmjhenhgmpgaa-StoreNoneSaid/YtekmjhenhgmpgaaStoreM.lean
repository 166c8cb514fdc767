/- A store's state in plain data, and what a record makes of it. -/
import Derived.Test.YtekmjhenhgmpgaaStoreC
import Derived.Test.YtekmjhenhgmpgaaSliceW
namespace Go.Proofs.Ytekmjhenhgmpgaa
open Go.RowKit
set_option maxRecDepth 100000

structure St where
  hard : Hrd
  snap : Snp
  es : List Ent
namespace Sto
/-- the reader behind a record's kind -/
def r0 (b : ByteArray) : Pk.RD := Pk.numR ⟨nums b, false⟩
def kind (b : ByteArray) : Nat := Pk.numV (nums b)
def hardV (r : Pk.RD) : Hrd := ⟨Pk.numV r.s, (((Pk.numR r).up 7).1 : Int) - 1⟩
def hardR (r : Pk.RD) : Pk.RD := ((Pk.numR r).up 7).2
def entR (r : Pk.RD) : Pk.RD := ((Pk.numR (Pk.numR r)).up 2).2
def entV (r : Pk.RD) : Ent := ⟨Pk.numV r.s, Pk.numV (Pk.numR r).s, (((Pk.numR (Pk.numR r)).up 2).1 : Nat), textOf ((entR r).text 65536).1⟩
def snapV (r : Pk.RD) : Snp := ⟨Pk.numV r.s, Pk.numV (Pk.numR r).s, Pk.numV (Pk.numR (Pk.numR r)).s, textOf ((Pk.numR (Pk.numR (Pk.numR r))).text 65536).1⟩
def cutOff (i : Nat) (l : List Ent) : List Ent := l.takeWhile fun e => decide (e.index < i)
def takeK (s : St) (k : Nat) (r : Pk.RD) : Option St :=
  if k = 1 then (if (hardR r).done = true then some ⟨hardV r, s.snap, s.es⟩ else none)
  else if k = 2 then (if ((entR r).text 65536).2.done = true then some ⟨s.hard, s.snap, s.es ++ [entV r]⟩ else none)
  else if k = 3 then (if (Pk.numR r).done = true then some ⟨s.hard, s.snap, cutOff (Pk.numV r.s) s.es⟩ else none)
  else if k = 4 then (if ((Pk.numR (Pk.numR (Pk.numR r))).text 65536).2.done = true then some ⟨s.hard, snapV r, []⟩ else none)
  else none
def take (s : St) (b : ByteArray) : Option St := takeK s (kind b) (r0 b)
theorem u_elem : Try.prog.underlying 40 = some (.slice (Try.prog.elem 40)) := by kernel_rfl
theorem e_elem : Try.prog.elem 40 = 77 := by kernel_rfl
theorem z_elem (w : World) : (sizeOf (Try.prog.elem 40)).run Try.prog w = .ok 4 w := by
  obtain ⟨i, hi, hz, hsz, hby⟩ := info_parts En.info
  rw [e_elem]
  simp [sizeOf, typeInfo, hi, hsz]
theorem cutOff_take (x : Nat) : ∀ (l : List Ent) (m : Nat), m ≤ l.length → (∀ j, j < m → (l.getD j Ent.zero).index < x) → (m = l.length ∨ ¬ (l.getD m Ent.zero).index < x) → cutOff x l = l.take m
  | [], m, _, _, _ => by simp [cutOff]
  | e :: r, 0, _, _, h => by
    have h' : ¬ e.index < x := by
      rcases h with h | h
      · simp at h
      · simpa using h
    unfold cutOff
    rw [List.takeWhile_cons_of_neg (by simpa using h'), List.take_zero]
  | e :: r, m + 1, hm, hj, h => by
    have h0 : e.index < x := by simpa using hj 0 (by omega)
    have ih := cutOff_take x r m (by simpa using hm) (fun j h' => by simpa using hj (j + 1) (by omega)) (by simpa using h)
    unfold cutOff at ih ⊢
    rw [List.takeWhile_cons_of_pos (by simpa using h0), ih, List.take_succ_cons]
theorem up_le (r : Pk.RD) (L : Nat) : (r.up L).1 ≤ L := by
  unfold Pk.RD.up
  split <;> simp_all
theorem text_le (r : Pk.RD) (L : Nat) : (r.text L).1.length ≤ L := by
  unfold Pk.RD.text
  have := up_le r L
  simp only
  split
  · rw [List.length_take]; omega
  · simp
end Sto

theorem Ents.take {w : World} {base : Nat} {ao : Option Addr} {cap : Nat} {l : List Ent} (h : Ents w base (.slice ao l.length cap) l) (n : Nat) (hn : n ≤ l.length) : Ents w base (.slice ao n cap) (l.take n) := by
  refine ⟨⟨?_, ?_⟩, fun e he => h.2 e (List.mem_of_mem_take he)⟩
  · rw [flat_length]
  · have hl : (l.take n).length = n := by rw [List.length_take]; omega
    have hf : ∀ (l : List Ent) (n : Nat), ((l.take n).flatMap Ent.cells) = (l.flatMap Ent.cells).take (n * 4) := by
      intro l
      induction l with
      | nil => intro n; simp
      | cons e r ih =>
        intro n
        cases n with
        | zero => simp
        | succ n =>
          have h4 : e.cells.length = 4 := rfl
          have e1 : (n + 1) * 4 = e.cells.length + n * 4 := by rw [h4]; omega
          rw [List.take_succ_cons, List.flatMap_cons, List.flatMap_cons, ih, e1, List.take_length_add_append]
    rcases h.1.2 with ⟨h1, h0⟩ | ⟨g, cap', cur, h1, hb, hg, hnc, hm, hsz, ht⟩
    · left
      simp only [Value.slice.injEq] at h1
      obtain ⟨rfl, _, rfl⟩ := h1
      have : n = 0 := by omega
      subst this
      exact ⟨rfl, by rw [List.take_zero]; rfl⟩
    · right
      simp only [Value.slice.injEq] at h1
      obtain ⟨rfl, _, rfl⟩ := h1
      refine ⟨g, cap, cur, by rw [hl], hb, hg, by omega, hm, hsz, ?_⟩
      rw [hl, hf, ← ht, List.take_take, Nat.min_eq_left (by omega)]

/-- block p is a state, of rows of the call's own -/
structure StAt (w : World) (base p : Nat) (s : St) : Prop where
  from_ : base ≤ p
  hard : s.hard.Wf
  snap : s.snap.Wf
  ex : ∃ v, Blk w p (stCells s.hard s.snap v) 42 ∧ Ents w base v s.es
/-- the same, with the row's value -/
structure StV (w : World) (base p : Nat) (s : St) (v : Value) : Prop where
  from_ : base ≤ p
  hard : s.hard.Wf
  snap : s.snap.Wf
  blk : Blk w p (stCells s.hard s.snap v) 42
  row : Ents w base v s.es
theorem StAt.val {w : World} {base p : Nat} {s : St} (h : StAt w base p s) : ∃ v, StV w base p s v := ⟨h.ex.choose, h.from_, h.hard, h.snap, h.ex.choose_spec.1, h.ex.choose_spec.2⟩
theorem StV.at {w : World} {base p : Nat} {s : St} {v : Value} (h : StV w base p s v) : StAt w base p s := ⟨h.from_, h.hard, h.snap, v, h.blk, h.row⟩
/-- what a record's taking answers, with the row's value -/
def TakeEndV (base p : Nat) (s : St) (v : Value) (b : ByteArray) (w : World) (e : Ending) (w' : World) : Prop :=
  Only (fun k => k = p ∨ v.ownBlock = some k) w w' ∧ ((∃ s' v', Sto.take s b = some s' ∧ e = .returned (.bool true) ∧ StV w' base p s' v' ∧ ∀ k, v'.ownBlock = some k → v.ownBlock = some k ∨ w.heap.size ≤ k) ∨ (Sto.take s b = none ∧ e = .returned (.bool false)))
/-- what a record's taking answers -/
def TakeEnd (base p : Nat) (s : St) (b : ByteArray) (w : World) (e : Ending) (w' : World) : Prop :=
  Only (fun k => base ≤ k) w w' ∧ ((∃ s', Sto.take s b = some s' ∧ e = .returned (.bool true) ∧ StAt w' base p s') ∨ (Sto.take s b = none ∧ e = .returned (.bool false)))
end Go.Proofs.Ytekmjhenhgmpgaa
