/- The table of math/bits: from the row's condition to its cells; a world that meets the condition. -/
import Derived.Test.YtlkonimjeoaljaaDoorRows
import Derived.Test.YtlkonimjeoaljaaDoorQbits
import Derived.LaidLaws
import Derived.Lib.LaidTab
namespace Go.Proofs.YtlkonimjeoaljaaDoor
open Go.RowKit

namespace L6
def tabZ : List Int := Qu.tab.map Int.ofNat
abbrev laid : List (String × DataW Unit) := [("math/bits.deBruijn64tab", Rows.laid_math_bits_deBruijn64tab)]
theorem laid_tab : laid = [("math/bits.deBruijn64tab", Lib.tabData .u8 tabZ)] := by kernel_rfl
theorem g0 : Tryd.prog.globalNamed "math/bits.deBruijn64tab" = some 0 := by kernel_rfl
theorem tabOk {W : World} (h : laidMet Tryd.prog laid W) : Qu.TabOk W := by
  rw [laid_tab] at h
  have hT := Lib.tabIs_of_head (P := Tryd.prog) (W := W) (g := 0) (t := 61) (e := 5) (n := 64) g0 (by kernel_rfl) (by kernel_rfl) (by kernel_rfl) (by kernel_rfl) (by kernel_rfl) h
  intro i hi
  have := hT.cell g0 i (by exact hi)
  rw [this]
  congr 2
  have hd : ∀ j : Fin 64, tabZ.getD j.val 0 = ((Qu.tab.getD j.val 0 : Nat) : Int) := by decide +kernel
  exact hd ⟨i, hi⟩

noncomputable def laidWorld (os : Os) : World :=
  let w0 := World.holding Tryd.prog os ⟨#[], #[], []⟩
  { w0 with heap := w0.heap.modify 0 fun
      | .cells _ t frozen => .cells (tabZ.map (Value.int .u8)).toArray t frozen
      | o => o }
theorem laidWorld_met (os : Os) (args : Array Value) : laidMet Tryd.prog laid ((laidWorld os).forCall (fun _ _ => 0) ⟨#[], args, []⟩).memory :=
  laidMet_of_run' 8 (by kernel_rfl) (by kernel_rfl)
theorem nat_of_wf {x : Int} (h : (Lit.int .u64 x).wf = true) : ∃ n : Nat, x = (n : Int) ∧ n < 2 ^ 64 := by
  have h1 : (IntKind.u64).min = 0 := by decide
  have h2 : (IntKind.u64).max = 18446744073709551615 := by decide
  have e : (Lit.int .u64 x).wf = (decide ((IntKind.u64).min ≤ x) && decide (x ≤ (IntKind.u64).max)) := rfl
  rw [e, h1, h2] at h
  simp at h
  exact ⟨x.toNat, by omega, by omega⟩
end L6

end Go.Proofs.YtlkonimjeoaljaaDoor
