/- A new wheel. -/
import Derived.Test.YtklpdkojffaiiaaWheelW
namespace Go.Proofs.Ytklpdkojffaiiaa
open Go.RowKit Go.Shelf
set_option maxRecDepth 100000

theorem idx3 (w : World) : (Instr.index 50 (.agg #[.int .i64 64, .int .i64 128, .int .i64 256]) (.int .i64 0)).run Try.prog w = .ok (.int .i64 64) w ∧ (Instr.index 50 (.agg #[.int .i64 64, .int .i64 128, .int .i64 256]) (.int .i64 1)).run Try.prog w = .ok (.int .i64 128) w ∧ (Instr.index 50 (.agg #[.int .i64 64, .int .i64 128, .int .i64 256]) (.int .i64 2)).run Try.prog w = .ok (.int .i64 256) w := by
  refine ⟨?_, ?_, ?_⟩ <;> kernel_rfl
theorem u_rings : Try.prog.underlying 45 = some (.slice 47) := by kernel_rfl
theorem info_list : (Try.prog.info? 47).map (fun i => (i.zero, i.size, i.bytes)) = some (some (.slice none 0 0), 1, 24) := by kernel_rfl
theorem make_ring (w : World) (n : Nat) (hn : n ≤ 1000) : (Instr.makeSlice 45 (.int .i64 n) (.int .i64 n)).run Try.prog w = .ok (.slice (some ⟨w.heap.size, 0, none⟩) n n) (w.alloc (.cells (madeCells #[.slice none 0 0] n) 47)) := by
  obtain ⟨i, hi, hz, hsz, hby⟩ := info_parts info_list
  have := run_make (P := Try.prog) (w := w) 45 47 i _ u_rings hi hz .i64 .i64 (n : Int) (n : Int) (by omega) (by omega) (by rw [hby]; omega) (by omega)
  rw [hsz] at this
  simpa [Value.cells] using this
theorem made_size (n : Nat) : (madeCells #[.slice none 0 0] n).size = n ∧ ∀ i, i < n → (madeCells #[.slice none 0 0] n)[i]? = some (.slice none 0 0) := by
  constructor
  · simp [madeCells]
  · intro i hi
    simp [madeCells, hi, Nat.mod_one]
/-- a wheel in the making: so many rings are made -/
def NewSt (w : World) (p : Nat) : Nat → World → Prop
  | 0, W => Only NoBlock w W ∧ p < W.heap.size ∧ w.heap.size ≤ p ∧ Blk W p #[.int .u64 0, .int .i64 0, .slice none 0 0, .slice none 0 0, .slice none 0 0, .slice none 0 0, .int .i64 0] 49
  | 1, W => ∃ r0, Only NoBlock w W ∧ p < W.heap.size ∧ w.heap.size ≤ p ∧ Blk W p #[.int .u64 0, .int .i64 0, .slice (some ⟨r0, 0, none⟩) 64 64, .slice none 0 0, .slice none 0 0, .slice none 0 0, .int .i64 0] 49 ∧ Blk W r0 (madeCells #[.slice none 0 0] 64) 47 ∧ w.heap.size ≤ r0 ∧ p ≠ r0
  | 2, W => ∃ r0 r1, Only NoBlock w W ∧ p < W.heap.size ∧ w.heap.size ≤ p ∧ Blk W p #[.int .u64 0, .int .i64 0, .slice (some ⟨r0, 0, none⟩) 64 64, .slice (some ⟨r1, 0, none⟩) 128 128, .slice none 0 0, .slice none 0 0, .int .i64 0] 49 ∧ Blk W r0 (madeCells #[.slice none 0 0] 64) 47 ∧ w.heap.size ≤ r0 ∧ p ≠ r0 ∧ Blk W r1 (madeCells #[.slice none 0 0] 128) 47 ∧ w.heap.size ≤ r1 ∧ p ≠ r1 ∧ r0 ≠ r1
  | _, W => ∃ r0 r1 r2, Only NoBlock w W ∧ p < W.heap.size ∧ w.heap.size ≤ p ∧ Blk W p #[.int .u64 0, .int .i64 0, .slice (some ⟨r0, 0, none⟩) 64 64, .slice (some ⟨r1, 0, none⟩) 128 128, .slice (some ⟨r2, 0, none⟩) 256 256, .slice none 0 0, .int .i64 0] 49 ∧ Blk W r0 (madeCells #[.slice none 0 0] 64) 47 ∧ w.heap.size ≤ r0 ∧ p ≠ r0 ∧ Blk W r1 (madeCells #[.slice none 0 0] 128) 47 ∧ w.heap.size ≤ r1 ∧ p ≠ r1 ∧ Blk W r2 (madeCells #[.slice none 0 0] 256) 47 ∧ w.heap.size ≤ r2 ∧ p ≠ r2 ∧ r0 ≠ r1 ∧ r0 ≠ r2 ∧ r1 ≠ r2
theorem new_step0 {w W : World} {p : Nat} (h : NewSt w p 0 W) : NewSt w p 1 ((W.setCell ⟨p, 2, none⟩ (.slice (some ⟨W.heap.size, 0, none⟩) 64 64)).alloc (.cells (madeCells #[.slice none 0 0] 64) 47)).drew := by
  obtain ⟨hO, hlt, hle, hp⟩ := h
  have hk := (Blk.made (W.setCell ⟨p, 2, none⟩ (.slice (some ⟨W.heap.size, 0, none⟩) 64 64)) (madeCells #[.slice none 0 0] 64) 47).drew
  simp only [World.size_setCell] at hk
  have hz := hO.size
  exact ⟨W.heap.size, ((hO.setCell (p := ⟨p, 2, none⟩) (fun h => by have h : p < w.heap.size := h; omega) _).alloc _).drew, by simp; omega, hle, by have := ((hp.setCell 2 (.slice (some ⟨W.heap.size, 0, none⟩) 64 64)).alloc (.cells (madeCells #[.slice none 0 0] 64) 47)).drew; simpa using this, hk, hz, by omega⟩
theorem new_step1 {w W : World} {p : Nat} (h : NewSt w p 1 W) : NewSt w p 2 ((W.setCell ⟨p, 3, none⟩ (.slice (some ⟨W.heap.size, 0, none⟩) 128 128)).alloc (.cells (madeCells #[.slice none 0 0] 128) 47)).drew := by
  obtain ⟨r0, hO, hlt, hle, hp, k0, l0, n0⟩ := h
  have hk := (Blk.made (W.setCell ⟨p, 3, none⟩ (.slice (some ⟨W.heap.size, 0, none⟩) 128 128)) (madeCells #[.slice none 0 0] 128) 47).drew
  simp only [World.size_setCell] at hk
  have hz := hO.size
  exact ⟨r0, W.heap.size, ((hO.setCell (p := ⟨p, 3, none⟩) (fun h => by have h : p < w.heap.size := h; omega) _).alloc _).drew, by simp; omega, hle, by have := ((hp.setCell 3 (.slice (some ⟨W.heap.size, 0, none⟩) 128 128)).alloc (.cells (madeCells #[.slice none 0 0] 128) 47)).drew; simpa using this, ((k0.setCell_other (fun e => n0 e.symm) _).alloc _).drew, l0, n0, hk, hz, by omega, by have := k0.lt; omega⟩
theorem new_step2 {w W : World} {p : Nat} (h : NewSt w p 2 W) : NewSt w p 3 ((W.setCell ⟨p, 4, none⟩ (.slice (some ⟨W.heap.size, 0, none⟩) 256 256)).alloc (.cells (madeCells #[.slice none 0 0] 256) 47)).drew := by
  obtain ⟨r0, r1, hO, hlt, hle, hp, k0, l0, n0, k1, l1, n1, n01⟩ := h
  have hk := (Blk.made (W.setCell ⟨p, 4, none⟩ (.slice (some ⟨W.heap.size, 0, none⟩) 256 256)) (madeCells #[.slice none 0 0] 256) 47).drew
  simp only [World.size_setCell] at hk
  have hz := hO.size
  exact ⟨r0, r1, W.heap.size, ((hO.setCell (p := ⟨p, 4, none⟩) (fun h => by have h : p < w.heap.size := h; omega) _).alloc _).drew, by simp; omega, hle, by have := ((hp.setCell 4 (.slice (some ⟨W.heap.size, 0, none⟩) 256 256)).alloc (.cells (madeCells #[.slice none 0 0] 256) 47)).drew; simpa using this, ((k0.setCell_other (fun e => n0 e.symm) _).alloc _).drew, l0, n0, ((k1.setCell_other (fun e => n1 e.symm) _).alloc _).drew, l1, n1, hk, hz, by omega, n01, by have := k0.lt; omega, by have := k1.lt; omega⟩
theorem nloc0 {p r0 r1 r2 k : Nat} (h : k < 64) : Wh.loc p r0 r1 r2 k = ⟨r0, k, none⟩ := by unfold Wh.loc; rw [if_pos h]
theorem nloc1 {p r0 r1 r2 k : Nat} (h : k < 128) : Wh.loc p r0 r1 r2 (64 + k) = ⟨r1, k, none⟩ := by unfold Wh.loc; rw [if_neg (by omega), if_pos (by omega), Nat.add_sub_cancel_left]
theorem nloc2 {p r0 r1 r2 k : Nat} (h : k < 256) : Wh.loc p r0 r1 r2 (192 + k) = ⟨r2, k, none⟩ := by unfold Wh.loc; rw [if_neg (by omega), if_neg (by omega), if_pos (by omega), Nat.add_sub_cancel_left]
theorem new_done {w W : World} {p : Nat} (h : NewSt w p 3 W) : ∃ r0 r1 r2, Wh.WheelAt W w.heap.size (fun _ => False) p r0 r1 r2 ⟨0, 0, 0, fun _ => []⟩ ∧ Only NoBlock w W := by
  obtain ⟨r0, r1, r2, hO, hlt, hle, hp, k0, l0, n0, k1, l1, n1, k2, l2, n2, n01, n02, n12⟩ := h
  refine ⟨r0, r1, r2, ⟨⟨_, hp, rfl⟩, ⟨_, k0, (made_size 64).1⟩, ⟨_, k1, (made_size 128).1⟩, ⟨_, k2, (made_size 256).1⟩, ⟨n01, n02, n12⟩, ⟨hle, l0, l1, l2⟩, by rw [hp.cell]; rfl, by rw [hp.cell]; rfl, ⟨by rw [hp.cell]; rfl, by rw [hp.cell]; rfl, by rw [hp.cell]; rfl⟩, by rw [hp.cell]; rfl, ⟨fun h => h, fun h => h, fun h => h, fun h => h⟩, fun b hb => hb.elim, fun _ => .slice none 0 0, ⟨fun q hq => ⟨?_, Wh.Tms.nil _ _⟩, fun q q' _ _ _ b hb => by simp [Value.ownBlock] at hb, fun q _ b hb => by simp [Value.ownBlock] at hb⟩⟩, hO⟩
  by_cases h1 : q < 64
  · rw [nloc0 h1, k0.cell]; exact (made_size 64).2 q h1
  by_cases h2 : q < 192
  · obtain ⟨k, rfl⟩ : ∃ k, q = 64 + k := ⟨q - 64, by omega⟩
    rw [nloc1 (by omega), k1.cell]; exact (made_size 128).2 k (by omega)
  by_cases h3 : q < 448
  · obtain ⟨k, rfl⟩ : ∃ k, q = 192 + k := ⟨q - 192, by omega⟩
    rw [nloc2 (by omega), k2.cell]; exact (made_size 256).2 k (by omega)
  · obtain rfl : q = 448 := by omega
    show W.cell? ⟨p, 5, none⟩ = _
    rw [hp.cell]; rfl
set_option maxHeartbeats 2000000 in
theorem new_at (w : World) : Calls Try.prog 10 #[] w fun e w' => ∃ p r0 r1 r2, e = .returned (.pointer (some ⟨p, 0, none⟩)) ∧ Wh.WheelAt w' w.heap.size (fun _ => False) p r0 r1 r2 ⟨0, 0, 0, fun _ => []⟩ ∧ Only NoBlock w w' := by
  go_enter Try.func10, Try.ntmps10
  go_wp2_with fail
  have bp := Blk.made w #[.int .u64 0, .int .i64 0, .slice none 0 0, .slice none 0 0, .slice none 0 0, .slice none 0 0, .int .i64 0] 49
  have hn := (Only.refl NoBlock w).alloc (Obj.cells #[.int .u64 0, .int .i64 0, .slice none 0 0, .slice none 0 0, .slice none 0 0, .slice none 0 0, .int .i64 0] 49)
  generalize w.alloc (Obj.cells #[.int .u64 0, .int .i64 0, .slice none 0 0, .slice none 0 0, .slice none 0 0, .slice none 0 0, .int .i64 0] 49) = w1 at bp hn ⊢
  obtain ⟨p, hp⟩ : ∃ p, w.heap.size = p := ⟨_, rfl⟩
  rw [hp] at bp
  have j0 := fun w => (idx3 w).1
  have j1 := fun w => (idx3 w).2.1
  have j2 := fun w => (idx3 w).2.2
  have m0 : ∀ w : World, (Instr.makeSlice 45 (.int .i64 64) (.int .i64 64)).run Try.prog w = .ok (.slice (some ⟨w.heap.size, 0, none⟩) 64 64) (w.alloc (.cells (madeCells #[.slice none 0 0] 64) 47)) := fun w => make_ring w 64 (by decide)
  have m1 : ∀ w : World, (Instr.makeSlice 45 (.int .i64 128) (.int .i64 128)).run Try.prog w = .ok (.slice (some ⟨w.heap.size, 0, none⟩) 128 128) (w.alloc (.cells (madeCells #[.slice none 0 0] 128) 47)) := fun w => make_ring w 128 (by decide)
  have m2 : ∀ w : World, (Instr.makeSlice 45 (.int .i64 256) (.int .i64 256)).run Try.prog w = .ok (.slice (some ⟨w.heap.size, 0, none⟩) 256 256) (w.alloc (.cells (madeCells #[.slice none 0 0] 256) 47)) := fun w => make_ring w 256 (by decide)
  have hp0 : NewSt w p 0 w1 := ⟨hn, bp.lt, by omega, bp⟩
  clear bp
  go_loopw [7, 2, 3] (fun u7 _ _ wr => ∃ i : Nat, i ≤ 3 ∧ u7 = .int .i64 i ∧ NewSt w p i wr) (fun u7 _ _ _ => 3 - (intOf u7).toNat)
  case atStart => exact ⟨0, by omega, rfl, hp0⟩
  case round =>
    obtain ⟨i, hi, rfl, hSt⟩ := hrel
    have hcase : i = 0 ∨ i = 1 ∨ i = 2 ∨ i = 3 := by omega
    rcases hcase with rfl | rfl | rfl | rfl
    · have hst := new_step0 hSt
      obtain ⟨_, _, _, hp⟩ := id hSt
      have cc := ((hp.alloc (.cells (madeCells #[.slice none 0 0] 64) 47))).cell 2
      have ff := ((hp.alloc (.cells (madeCells #[.slice none 0 0] 64) 47))).free 2
      simp at cc
      go_upto_region 5 with fail
      go_wp2_with fail
      go_region
      generalize ((wr.setCell ⟨p, 2, none⟩ (.slice (some ⟨wr.heap.size, 0, none⟩) 64 64)).alloc (.cells (madeCells #[.slice none 0 0] 64) 47)).drew = w2 at hst ⊢
      clear cc ff hp hSt
      go_wp2_with fail
      go_roundw
      case rel => exact ⟨1, by omega, rfl, hst⟩
      case measure => simp [intOf]
    · have hst := new_step1 hSt
      obtain ⟨_, _, _, _, hp, _⟩ := id hSt
      have cc := ((hp.alloc (.cells (madeCells #[.slice none 0 0] 128) 47))).cell 3
      have ff := ((hp.alloc (.cells (madeCells #[.slice none 0 0] 128) 47))).free 3
      simp at cc
      go_upto_region 5 with fail
      go_wp2_with fail
      go_region
      generalize ((wr.setCell ⟨p, 3, none⟩ (.slice (some ⟨wr.heap.size, 0, none⟩) 128 128)).alloc (.cells (madeCells #[.slice none 0 0] 128) 47)).drew = w2 at hst ⊢
      clear cc ff hp hSt
      go_wp2_with fail
      go_roundw
      case rel => exact ⟨2, by omega, rfl, hst⟩
      case measure => simp [intOf]
    · have hst := new_step2 hSt
      obtain ⟨_, _, _, _, _, hp, _⟩ := id hSt
      have cc := ((hp.alloc (.cells (madeCells #[.slice none 0 0] 256) 47))).cell 4
      have ff := ((hp.alloc (.cells (madeCells #[.slice none 0 0] 256) 47))).free 4
      simp at cc
      go_upto_region 5 with fail
      go_wp2_with fail
      go_region
      generalize ((wr.setCell ⟨p, 4, none⟩ (.slice (some ⟨wr.heap.size, 0, none⟩) 256 256)).alloc (.cells (madeCells #[.slice none 0 0] 256) 47)).drew = w2 at hst ⊢
      clear cc ff hp hSt
      go_wp2_with fail
      go_roundw
      case rel => exact ⟨3, by omega, rfl, hst⟩
      case measure => simp [intOf]
    · obtain ⟨r0, r1, r2, hw, hO⟩ := new_done hSt
      go_wp2_with fail
      go_ret
      exact ⟨p, r0, r1, r2, by rw [← hp]; rfl, hw, hO⟩
end Go.Proofs.Ytklpdkojffaiiaa
