/- Arguments of the store's statements as the walks take them: a vote. -/
import Derived.Test.YtekmjhenhgmpgaaRecs
import Derived.ProofKit
import Derived.OpenShut
import Derived.Deep.Slices
import Derived.Deep.Fields
import Derived.ChangeSame
namespace Go.Proofs.Ytekmjhenhgmpgaa
open Go.RowKit Go.Maps Go.ChangeShapes Go.WideShapes Go.Deep
set_option maxRecDepth 100000

namespace O8
noncomputable def hardFields : Array Field := match Try.prog.underlying 37 with | some (.struct fs) => fs | _ => #[]
theorem u_hard : Try.prog.underlying 37 = some (.struct hardFields) := by kernel_rfl
theorem hard_one : oneCellFields Try.prog hardFields = true := by kernel_rfl
theorem hard_cells : Try.prog.cellsOf 37 = 2 := by kernel_rfl
theorem hard_size : hardFields.size = 2 := by kernel_rfl
theorem hard_types : hardFields.toList.map (·.type) = [23, 3] := by kernel_rfl
theorem u_u64 : Try.prog.underlying 23 = some (.int .u64) := by kernel_rfl
theorem u_int : Try.prog.underlying 3 = some (.int .i64) := by kernel_rfl
theorem nat_of_wf {x : Int} (h : (Lit.int .u64 x).wf = true) : ∃ n : Nat, x = (n : Int) ∧ n < 18446744073709551616 := by
  have h1 : (IntKind.u64).min = 0 := by decide
  have h2 : (IntKind.u64).max = 18446744073709551615 := by decide
  have e : (Lit.int .u64 x).wf = (decide ((IntKind.u64).min ≤ x) && decide (x ≤ (IntKind.u64).max)) := rfl
  rw [e, h1, h2] at h
  simp at h
  exact ⟨x.toNat, by omega, by omega⟩
end O8

section
variable {H : Type} {enc : TypeId × Value → H} {w : World}
/-- a vote as cells -/
theorem hard_cells_of {fuel : Nat} {cs : List Value} {x : DataW H × List MemPlace} (hf : DataW.trod enc Try.prog w 0 (fun _ => true) true fuel 37 cs = some x) :
    ∃ h : Hrd, cs = [.int .u64 h.term, .int .i64 h.vote] ∧ h.Wf := by
  have hu := O8.u_hard
  have hone := O8.hard_one
  have hsz := O8.hard_size
  have hty := O8.hard_types
  have hC := O8.hard_cells
  generalize O8.hardFields = fs at hu hone hsz hty
  obtain ⟨ys, n, _, _, hl, hyl, hff⟩ := DataW.trod_struct hu hf
  rw [hC] at hl
  obtain ⟨c0, c1, rfl⟩ : ∃ c0 c1, cs = [c0, c1] := by
    match cs, hl with
    | [a, b], _ => exact ⟨a, b, rfl⟩
  have hfs : ∀ j, j < 2 → ∃ f, fs[j]? = some f ∧ [23, 3][j]? = some f.type := by
    intro j hj
    have : fs[j]? = some fs[j] := Array.getElem?_eq_getElem (by omega)
    refine ⟨_, this, ?_⟩
    rw [← hty, List.getElem?_map]
    simp
    exact ⟨_, this, rfl⟩
  obtain ⟨f0, g0, t0⟩ := hfs 0 (by omega)
  obtain ⟨f1, g1, t1⟩ := hfs 1 (by omega)
  simp at t0 t1
  have a0 := hff 0 f0 g0
  have a1 := hff 1 f1 g1
  rw [(hone_of hone 0 f0 g0).1, (hone_of hone 0 f0 g0).2, ← t0] at a0
  rw [(hone_of hone 1 f1 g1).1, (hone_of hone 1 f1 g1).2, ← t1] at a1
  rw [List.getElem?_eq_getElem (by omega)] at a0 a1
  simp only [List.drop_zero, List.take_succ_cons, List.take_zero, List.drop_succ_cons] at a0 a1
  obtain ⟨z0, e0, _, w0⟩ := DataW.trod_int O8.u_u64 a0
  obtain ⟨z1, e1, _, w1⟩ := DataW.trod_int O8.u_int a1
  obtain ⟨m0, rfl, y0⟩ := O8.nat_of_wf w0
  cases e0
  cases e1
  exact ⟨⟨m0, z1⟩, rfl, y0, w1⟩
theorem open_hard {v : Value} {d : DataW H} {p : List MemPlace} {r : Reach} {base : Nat} (hv : Value.okWide Try.prog w r base 37 v) (h : DataW.Trod enc Try.prog w 0 (fun _ => true) true 37 v d p) :
    ∃ x : Hrd, v = .agg #[.int .u64 x.term, .int .i64 x.vote] ∧ x.Wf := by
  unfold Value.okWide at hv
  rw [O8.u_hard] at hv
  obtain ⟨cs, rfl, hsz, _⟩ := hv
  obtain ⟨fuel, hf⟩ := h
  obtain ⟨x, e, hx⟩ := hard_cells_of hf
  refine ⟨x, ?_, hx⟩
  have hcl : (Value.agg cs).cells.toList = cs.toList := rfl
  rw [hcl] at e
  congr 1
  apply Array.ext'
  exact e
end
end Go.Proofs.Ytekmjhenhgmpgaa
