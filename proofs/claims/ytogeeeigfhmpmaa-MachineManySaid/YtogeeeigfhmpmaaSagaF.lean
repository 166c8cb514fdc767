/- saga.back, Abort, Ended, Wants; machine.told. -/
import Derived.Test.YtogeeeigfhmpmaaSound
import Derived.Test.YtogeeeigfhmpmaaSets
import Derived.Test.YtogeeeigfhmpmaaReadK
namespace Go.Proofs.Ytogeeeigfhmpmaa
open Go.RowKit
set_option maxRecDepth 100000

theorem u_sg : ∃ fs, Try.prog.underlying 63 = some (.struct fs) := ⟨_, rfl⟩
theorem size_sg : (Try.prog.info? 63).map (·.size) = some 4 := by kernel_rfl
theorem u_rep : ∃ fs, Try.prog.underlying 34 = some (.struct fs) := ⟨_, rfl⟩
theorem size_rep : (Try.prog.info? 34).map (·.size) = some 3 := by kernel_rfl
def repV (y : Mc.Rep) : Value := .agg #[.int .i64 y.err, .int .u64 y.num, .int .u64 y.extra]

set_option maxHeartbeats 1600000 in
theorem back_at (w : World) (s : Mc.Sg) (ao : Option Addr) (cap : Nat) (step : Int) :
    Calls Try.prog 79 #[sgV s ao cap, .int .i64 step] w fun e w' => e = .returned (sgV (Mc.backTo s step) ao cap) ∧ Only NoBlock w w' := by
  obtain ⟨l, st, cu, fa⟩ := s
  obtain ⟨fs, hfs⟩ := u_sg
  have HFS := Lib.hid hfs
  clear hfs
  show Calls Try.prog 79 #[.agg #[.slice ao l.length cap, .int .i64 st, .int .i64 cu, .int .i64 fa], .int .i64 step] w _
  have HE : RowKit.Hid (∀ v c : Int, step = v ∨ True → True) := Lib.hid (fun _ _ _ => trivial)
  clear HE
  go_enter Try.func79, Try.ntmps79
  go_upto_region 1 with fail
  have hS := Blk.made w #[.slice ao l.length cap, .int .i64 st, .int .i64 cu, .int .i64 fa] 63
  have hA := (Only.refl NoBlock w).alloc (Obj.cells #[.slice ao l.length cap, .int .i64 st, .int .i64 cu, .int .i64 fa] 63)
  have hz : (w.alloc (Obj.cells #[.slice ao l.length cap, .int .i64 st, .int .i64 cu, .int .i64 fa] 63)).heap.size = w.heap.size + 1 := by simp
  generalize w.alloc (Obj.cells #[.slice ao l.length cap, .int .i64 st, .int .i64 cu, .int .i64 fa] 63) = w1 at hS hA hz ⊢
  rw [← hz]
  have hS0 : w.heap.size ≤ w.heap.size := Nat.le_refl _
  have hG0 : w.heap.size ≤ w1.heap.size := by omega
  have hne : w.heap.size ≠ w1.heap.size := by omega
  have hG := Blk.made w1 #[.slice none 0 0, .int .i64 0, .int .i64 0, .int .i64 0] 63
  have hB := hS.alloc (.cells #[.slice none 0 0, .int .i64 0, .int .i64 0, .int .i64 0] 63)
  have hO := hA.alloc (.cells #[.slice none 0 0, .int .i64 0, .int .i64 0, .int .i64 0] 63)
  generalize w1.alloc (.cells #[.slice none 0 0, .int .i64 0, .int .i64 0, .int .i64 0] 63) = w2 at hG hB hO ⊢
  have HSD := Lib.hid (rfl : w.heap.size = w.heap.size)
  generalize hSe : w.heap.size = S at hB hne hS0 ⊢
  have HSe := Lib.hid hSe
  clear hSe HSD hS hA hz
  generalize w1.heap.size = G at hG hne hG0 ⊢
  have c0 := hB.cell 0
  have c1 := hB.cell 1
  have c2 := hB.cell 2
  have c3 := hB.cell 3
  have f1 := hB.free 1
  have f2 := hB.free 2
  have f3 := hB.free 3
  have g0 := hG.cell 0
  have g1 := hG.cell 1
  have g2 := hG.cell 2
  have g3 := hG.cell 3
  have u0 := hG.free 0
  have u1 := hG.free 1
  have u2 := hG.free 2
  have u3 := hG.free 3
  simp only [List.getElem?_toArray, List.getElem?_cons_succ, List.getElem?_cons_zero] at c0 c1 c2 c3 g0 g1 g2 g3
  by_cases h0 : step < 0
  · have d0 : decide (step < 0) = true := by simp; omega
    have HB : RowKit.Hid (Mc.backTo ⟨l, st, cu, fa⟩ step = ⟨l, 4, 0, 0⟩) := Lib.hid (by unfold Mc.backTo; rw [if_pos h0])
    clear h0
    go_wp2_with fail
    have hG1 := ((hG.setCell_other (p := ⟨S, 1, none⟩) (fun e => hne e.symm) (.int .i64 4)).setCell_other (p := ⟨S, 2, none⟩) (fun e => hne e.symm) (.int .i64 0)).setCell_other (p := ⟨S, 3, none⟩) (fun e => hne e.symm) (.int .i64 0)
    have hO1 := ((hO.setCell (p := ⟨S, 1, none⟩) (fun h => by have h' : S < w.heap.size := h; have := HSe.out; omega) (.int .i64 4)).setCell (p := ⟨S, 2, none⟩) (fun h => by have h' : S < w.heap.size := h; have := HSe.out; omega) (.int .i64 0)).setCell (p := ⟨S, 3, none⟩) (fun h => by have h' : S < w.heap.size := h; have := HSe.out; omega) (.int .i64 0)
    have hV := sets_blk hG1 [.slice ao l.length cap, .int .i64 4, .int .i64 0, .int .i64 0] rfl
    have hW := sets_only (g := G) hO1 (fun h => by omega) [.slice ao l.length cap, .int .i64 4, .int .i64 0, .int .i64 0] 0
    simp only [sets] at hV hW
    refine bodyPost_ret (results_cell_row (P := Try.prog) rfl _ _ G _ _ _ _ rfl hV HFS.out rfl size_sg) rfl ?_
    exact ⟨by rw [HB.out]; rfl, hW⟩
  · have d0 : decide (step < 0) = false := by simp; omega
    have HB : RowKit.Hid (Mc.backTo ⟨l, st, cu, fa⟩ step = ⟨l, 2, step, 0⟩) := Lib.hid (by unfold Mc.backTo; rw [if_neg h0])
    clear h0
    go_wp2_with fail
    have hG1 := ((hG.setCell_other (p := ⟨S, 1, none⟩) (fun e => hne e.symm) (.int .i64 2)).setCell_other (p := ⟨S, 2, none⟩) (fun e => hne e.symm) (.int .i64 step)).setCell_other (p := ⟨S, 3, none⟩) (fun e => hne e.symm) (.int .i64 0)
    have hO1 := ((hO.setCell (p := ⟨S, 1, none⟩) (fun h => by have h' : S < w.heap.size := h; have := HSe.out; omega) (.int .i64 2)).setCell (p := ⟨S, 2, none⟩) (fun h => by have h' : S < w.heap.size := h; have := HSe.out; omega) (.int .i64 step)).setCell (p := ⟨S, 3, none⟩) (fun h => by have h' : S < w.heap.size := h; have := HSe.out; omega) (.int .i64 0)
    have hV := sets_blk hG1 [.slice ao l.length cap, .int .i64 2, .int .i64 step, .int .i64 0] rfl
    have hW := sets_only (g := G) hO1 (fun h => by omega) [.slice ao l.length cap, .int .i64 2, .int .i64 step, .int .i64 0] 0
    simp only [sets] at hV hW
    refine bodyPost_ret (results_cell_row (P := Try.prog) rfl _ _ G _ _ _ _ rfl hV HFS.out rfl size_sg) rfl ?_
    exact ⟨by rw [HB.out]; rfl, hW⟩
end Go.Proofs.Ytogeeeigfhmpmaa
