/- Rows of a saga's steps that are read. -/
import Derived.Test.YtogeeeigfhmpmaaCmdM
namespace Go.Proofs.Ytogeeeigfhmpmaa
open Go.RowKit

/-- a step in plain data, as it lies -/
structure StD where
  part : Int
  name : ByteArray
  budget : Int
/-- one step lies at b, o -/
structure StepAt (w : World) (b o : Nat) (s : StD) : Prop where
  c0 : w.cell? ⟨b, o, none⟩ = some (.int .i64 s.part)
  c1 : w.cell? ⟨b, o + 1, none⟩ = some (.string s.name)
  c2 : w.cell? ⟨b, o + 2, none⟩ = some (.int .i64 s.budget)
  name : s.name.size ≤ maxLen
structure StepsIn (w : World) (ao : Option Addr) (l : List StD) : Prop where
  len : l.length ≤ maxLen
  step : ∀ i (h : i < l.length), ∃ b off, ao = some ⟨b, off, none⟩ ∧ StepAt w b (off + i * 3) l[i]
theorem StepsIn.keeps {S : Nat → Prop} {w w' : World} {ao : Option Addr} {l : List StD} (h : StepsIn w ao l) (ho : Only S w w') (hs : ∀ a, ao = some a → ¬ S a.block) : StepsIn w' ao l :=
  ⟨h.len, fun i hi => by
    obtain ⟨b, off, e, hc⟩ := h.step i hi
    have hb : w'.heap[b]? = w.heap[b]? := ho.block b (World.block_lt_of_cell? w _ hc.c0) (hs _ e)
    exact ⟨b, off, e, ⟨(World.cell?_of_block (a := ⟨b, off + i * 3, none⟩) hb).trans hc.c0, (World.cell?_of_block (a := ⟨b, off + i * 3 + 1, none⟩) hb).trans hc.c1, (World.cell?_of_block (a := ⟨b, off + i * 3 + 2, none⟩) hb).trans hc.c2, hc.name⟩⟩⟩
theorem StepsIn.nil (w : World) : StepsIn w none [] := ⟨by simp, fun i h => by simp at h⟩
/-- a step that was read -/
def StD.of (t : Pk.Stp) : StD := ⟨t.part, textOf t.name, t.budget⟩
def StD.ok (s : StD) : Bool := decide (0 ≤ s.part) && decide (s.part < 4) && decide (1 ≤ s.name.size) && decide (s.name.size ≤ 16) && decide (1 ≤ s.budget) && decide (s.budget ≤ 9)
theorem StD.ok_of (t : Pk.Stp) : (StD.of t).ok = Pk.okS t := by
  unfold StD.ok StD.of Pk.okS
  simp only [textOf_size]
  rw [Bool.eq_iff_iff]
  simp only [Bool.and_eq_true, decide_eq_true_eq]
  omega
/-- plan.Check -/
def checkD (l : List StD) : Int := if 1 ≤ l.length ∧ l.length ≤ 64 ∧ l.all StD.ok = true then 0 else 44
end Go.Proofs.Ytogeeeigfhmpmaa
