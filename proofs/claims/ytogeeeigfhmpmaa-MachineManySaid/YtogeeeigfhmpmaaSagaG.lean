/- saga.Abort, Ended, Wants; machine.told. -/
import Derived.Test.YtogeeeigfhmpmaaSagaF
namespace Go.Proofs.Ytogeeeigfhmpmaa
open Go.RowKit
set_option maxRecDepth 100000

theorem told_at (w : World) (s : Mc.Sg) (ao : Option Addr) (cap : Nat) (h0 : 0 ≤ s.state) (h1 : s.state ≤ 1000) (h2 : 0 ≤ s.cursor) (h3 : s.cursor ≤ 1000) :
    Calls Try.prog 60 #[sgV s ao cap] w fun e w' => e = .returned (repV (Mc.told s)) ∧ Only NoBlock w w' := by
  obtain ⟨l, st, cu, fa⟩ := s
  simp only at h0 h1 h2 h3
  obtain ⟨a, rfl⟩ : ∃ a : Nat, st = a := ⟨st.toNat, by omega⟩
  obtain ⟨c, rfl⟩ : ∃ c : Nat, cu = c := ⟨cu.toNat, by omega⟩
  obtain ⟨fs, hfs⟩ := u_rep
  have HFS := Lib.hid hfs
  clear hfs
  have hA := (Only.refl NoBlock w).alloc (Obj.cells #[.slice ao l.length cap, .int .i64 (a : Int), .int .i64 (c : Int), .int .i64 fa] 63)
  show Calls Try.prog 60 #[.agg #[.slice ao l.length cap, .int .i64 (a : Int), .int .i64 (c : Int), .int .i64 fa]] w _
  go_enter Try.func60, Try.ntmps60
  go_upto_region 1 with fail
  have hS := Blk.made w #[.slice ao l.length cap, .int .i64 (a : Int), .int .i64 (c : Int), .int .i64 fa] 63
  have hz : (w.alloc (Obj.cells #[.slice ao l.length cap, .int .i64 (a : Int), .int .i64 (c : Int), .int .i64 fa] 63)).heap.size = w.heap.size + 1 := by simp
  generalize w.alloc (Obj.cells #[.slice ao l.length cap, .int .i64 (a : Int), .int .i64 (c : Int), .int .i64 fa] 63) = w1 at hS hA hz ⊢
  rw [← hz]
  have hG0 : w.heap.size ≤ w1.heap.size := by omega
  have hG := Blk.made w1 #[.int .i64 0, .int .u64 0, .int .u64 0] 34
  have hB := hS.alloc (.cells #[.int .i64 0, .int .u64 0, .int .u64 0] 34)
  have hO := hA.alloc (.cells #[.int .i64 0, .int .u64 0, .int .u64 0] 34)
  generalize w1.alloc (.cells #[.int .i64 0, .int .u64 0, .int .u64 0] 34) = w2 at hG hB hO ⊢
  generalize w1.heap.size = G at hG hG0 ⊢
  clear hz hS hA
  have c1 := hB.cell 1
  have c2 := hB.cell 2
  have g0 := hG.cell 0
  have g1 := hG.cell 1
  have g2 := hG.cell 2
  have u0 := hG.free 0
  have u1 := hG.free 1
  have u2 := hG.free 2
  simp only [List.getElem?_toArray, List.getElem?_cons_succ, List.getElem?_cons_zero] at c1 c2 g0 g1 g2
  go_wp2_with fail
  have hV := sets_blk hG [.int .i64 0, .int .u64 (a : Int), .int .u64 (c : Int)] rfl
  have hW := sets_only (g := G) hO (fun h => by omega) [.int .i64 0, .int .u64 (a : Int), .int .u64 (c : Int)] 0
  simp only [sets] at hV hW
  refine bodyPost_ret (results_cell_row (P := Try.prog) rfl _ _ G _ _ _ _ rfl hV HFS.out rfl size_rep) rfl ?_
  exact ⟨by simp [repV, Mc.told], hW⟩

set_option maxHeartbeats 1600000 in
theorem abort_at (w : World) (s : Mc.Sg) (ao : Option Addr) (cap : Nat) (hsm : Smalls s.steps) (hrow : RowIn stpK 38 w ao s.steps) :
    Calls Try.prog 63 #[sgV s ao cap] w fun e w' => e = .returned (.tuple #[sgV (Mc.abort s).1 ao cap, .bool (Mc.abort s).2]) ∧ Only NoBlock w w' := by
  have HS := Lib.hid (show Mc.abort s = if Mc.sound s = true ∧ s.state = 1 then (Mc.backTo s s.cursor, true) else (s, false) from rfl)
  obtain ⟨l, st, cu, fa⟩ := s
  simp only at hsm hrow
  obtain ⟨fs, hfs⟩ := u_sg
  have HFS := Lib.hid hfs
  clear hfs
  show Calls Try.prog 63 #[.agg #[.slice ao l.length cap, .int .i64 st, .int .i64 cu, .int .i64 fa]] w _
  go_enter Try.func63, Try.ntmps63
  go_upto_region 1 with fail
  have hS := Blk.made w #[.slice ao l.length cap, .int .i64 st, .int .i64 cu, .int .i64 fa] 63
  have hA := (Only.refl NoBlock w).alloc (Obj.cells #[.slice ao l.length cap, .int .i64 st, .int .i64 cu, .int .i64 fa] 63)
  have hz : (w.alloc (Obj.cells #[.slice ao l.length cap, .int .i64 st, .int .i64 cu, .int .i64 fa] 63)).heap.size = w.heap.size + 1 := by simp
  generalize w.alloc (Obj.cells #[.slice ao l.length cap, .int .i64 st, .int .i64 cu, .int .i64 fa] 63) = w1 at hS hA hz ⊢
  rw [← hz]
  have hG0 : w.heap.size ≤ w1.heap.size := by omega
  have hne : w.heap.size ≠ w1.heap.size := by omega
  have hG := Blk.made w1 #[.slice none 0 0, .int .i64 0, .int .i64 0, .int .i64 0] 63
  have hB := hS.alloc (.cells #[.slice none 0 0, .int .i64 0, .int .i64 0, .int .i64 0] 63)
  have hO := hA.alloc (.cells #[.slice none 0 0, .int .i64 0, .int .i64 0, .int .i64 0] 63)
  generalize w1.alloc (.cells #[.slice none 0 0, .int .i64 0, .int .i64 0, .int .i64 0] 63) = w2 at hG hB hO ⊢
  generalize hSe : w.heap.size = S at hB hne ⊢
  have HSe := Lib.hid hSe
  generalize w1.heap.size = G at hG hne hG0 ⊢
  have hr2 := hrow.keepsN hO
  clear hSe hS hA hz hrow
  have c0 := hB.cell 0
  have c1 := hB.cell 1
  have c2 := hB.cell 2
  have c3 := hB.cell 3
  simp only [List.getElem?_toArray, List.getElem?_cons_succ, List.getElem?_cons_zero] at c0 c1 c2 c3
  go_wp2_with fail
  refine (sound_at w2 ⟨l, st, cu, fa⟩ ao cap hsm hr2).mono ?_
  rintro e w3 ⟨rfl, hO3⟩
  have hB3 := hB.keeps hO3 (fun h => h)
  have hG3 := hG.keeps hO3 (fun h => h)
  have hOw := hO.trans hO3
  clear c0 c1 c2 c3 hB hG hO hO3 hr2
  have c0 := hB3.cell 0
  have c1 := hB3.cell 1
  have c2 := hB3.cell 2
  have c3 := hB3.cell 3
  have g0 := hG3.cell 0
  have g1 := hG3.cell 1
  have g2 := hG3.cell 2
  have g3 := hG3.cell 3
  have u0 := hG3.free 0
  have u1 := hG3.free 1
  have u2 := hG3.free 2
  have u3 := hG3.free 3
  simp only [List.getElem?_toArray, List.getElem?_cons_succ, List.getElem?_cons_zero] at c0 c1 c2 c3 g0 g1 g2 g3
  cases hs : Mc.sound ⟨l, st, cu, fa⟩ with
  | false =>
    have HR : RowKit.Hid (Mc.abort ⟨l, st, cu, fa⟩ = (⟨l, st, cu, fa⟩, false)) := Lib.hid (by rw [HS.out, if_neg (by simp [hs])])
    clear hs
    go_wp2_with fail
    have hV := sets_blk hG3 [.slice ao l.length cap, .int .i64 st, .int .i64 cu, .int .i64 fa] rfl
    have hW := sets_only (g := G) hOw (fun h => by omega) [.slice ao l.length cap, .int .i64 st, .int .i64 cu, .int .i64 fa] 0
    simp only [sets] at hV hW
    refine bodyPost_ret (results_cell_tmp (P := Try.prog) rfl _ _ G _ _ _ _ rfl hV HFS.out rfl size_sg) rfl ?_
    exact ⟨by rw [HR.out]; rfl, hW⟩
  | true =>
    by_cases h1 : st = 1
    · have HR : RowKit.Hid (Mc.abort ⟨l, st, cu, fa⟩ = (Mc.backTo ⟨l, st, cu, fa⟩ cu, true)) := Lib.hid (by rw [HS.out, if_pos ⟨hs, h1⟩])
      have d1 : (st == 1) = true := by simp; omega
      have d2 : (st != 1) = false := by simp; omega
      clear h1 hs
      go_wp2_with fail
      refine (back_at w3 ⟨l, st, cu, fa⟩ ao cap cu).mono ?_
      rintro e w4 ⟨rfl, hO4⟩
      have hG4 := hG3.keeps hO4 (fun h => h)
      have hOv := hOw.trans hO4
      clear c0 c1 c2 c3 g0 g1 g2 g3 u0 u1 u2 u3
      obtain ⟨l2, st2, cu2, fa2, hb⟩ : ∃ l2 st2 cu2 fa2, Mc.backTo ⟨l, st, cu, fa⟩ cu = ⟨l2, st2, cu2, fa2⟩ := ⟨_, _, _, _, rfl⟩
      rw [hb]
      have HR2 : RowKit.Hid (Mc.abort ⟨l, st, cu, fa⟩ = (⟨l2, st2, cu2, fa2⟩, true)) := Lib.hid (by rw [HR.out, hb])
      clear hb
      have g0 := hG4.cell 0
      have g1 := hG4.cell 1
      have g2 := hG4.cell 2
      have g3 := hG4.cell 3
      have u0 := hG4.free 0
      have u1 := hG4.free 1
      have u2 := hG4.free 2
      have u3 := hG4.free 3
      simp only [List.getElem?_toArray, List.getElem?_cons_succ, List.getElem?_cons_zero] at g0 g1 g2 g3
      unfold sgV
      go_wp2_with fail
      have hV := sets_blk hG4 [.slice ao l2.length cap, .int .i64 st2, .int .i64 cu2, .int .i64 fa2] rfl
      have hW := sets_only (g := G) hOv (fun h => by omega) [.slice ao l2.length cap, .int .i64 st2, .int .i64 cu2, .int .i64 fa2] 0
      simp only [sets] at hV hW
      refine bodyPost_ret (results_cell_tmp (P := Try.prog) rfl _ _ G _ _ _ _ rfl hV HFS.out rfl size_sg) rfl ?_
      exact ⟨by rw [HR2.out]; rfl, hW⟩
    · have HR : RowKit.Hid (Mc.abort ⟨l, st, cu, fa⟩ = (⟨l, st, cu, fa⟩, false)) := Lib.hid (by rw [HS.out, if_neg (fun h => h1 h.2)])
      have d1 : (st == 1) = false := by simp; omega
      have d2 : (st != 1) = true := by simp; omega
      clear h1 hs
      go_wp2_with fail
      have hV := sets_blk hG3 [.slice ao l.length cap, .int .i64 st, .int .i64 cu, .int .i64 fa] rfl
      have hW := sets_only (g := G) hOw (fun h => by omega) [.slice ao l.length cap, .int .i64 st, .int .i64 cu, .int .i64 fa] 0
      simp only [sets] at hV hW
      refine bodyPost_ret (results_cell_tmp (P := Try.prog) rfl _ _ G _ _ _ _ rfl hV HFS.out rfl size_sg) rfl ?_
      exact ⟨by rw [HR.out]; rfl, hW⟩

def endedB (st : Int) : Bool := decide (3 ≤ st) && decide (st ≤ 5)
theorem ended_at (w : World) (s : Mc.Sg) (ao : Option Addr) (cap : Nat) :
    Calls Try.prog 100 #[sgV s ao cap] w fun e w' => e = .returned (.bool (endedB s.state)) ∧ Only NoBlock w w' := by
  obtain ⟨l, st, cu, fa⟩ := s
  have hA := (Only.refl NoBlock w).alloc (Obj.cells #[.slice ao l.length cap, .int .i64 st, .int .i64 cu, .int .i64 fa] 63)
  show Calls Try.prog 100 #[.agg #[.slice ao l.length cap, .int .i64 st, .int .i64 cu, .int .i64 fa]] w _
  go_enter Try.func100, Try.ntmps100
  by_cases h3 : 3 ≤ st
  · have d3 : decide (3 ≤ st) = true := by simp; omega
    by_cases h5 : st ≤ 5
    · have d5 : decide (st ≤ 5) = true := by simp; omega
      have HB : RowKit.Hid (endedB st = true) := Lib.hid (by unfold endedB; rw [d3, d5]; rfl)
      clear h3 h5
      go_wp2_with fail
      go_ret
      exact ⟨by rw [HB.out]; rfl, hA⟩
    · have d5 : decide (st ≤ 5) = false := by simp; omega
      have HB : RowKit.Hid (endedB st = false) := Lib.hid (by unfold endedB; rw [d3, d5]; rfl)
      clear h3 h5
      go_wp2_with fail
      go_ret
      exact ⟨by rw [HB.out]; rfl, hA⟩
  · have d3 : decide (3 ≤ st) = false := by simp; omega
    have HB : RowKit.Hid (endedB st = false) := Lib.hid (by unfold endedB; rw [d3]; rfl)
    clear h3
    go_wp2_with fail
    go_ret
    exact ⟨by rw [HB.out]; rfl, hA⟩

/-- what a saga waits for -/
def wantsE (s : Mc.Sg) : Value := if Mc.sound s = true ∧ endedB s.state = false then .tuple #[.int .i64 s.cursor, .bool (decide (s.state = 2)), .bool true] else .tuple #[.int .i64 0, .bool false, .bool false]
set_option maxHeartbeats 1600000 in
theorem wants_at (w : World) (s : Mc.Sg) (ao : Option Addr) (cap : Nat) (hsm : Smalls s.steps) (hrow : RowIn stpK 38 w ao s.steps) :
    Calls Try.prog 78 #[sgV s ao cap] w fun e w' => e = .returned (wantsE s) ∧ Only NoBlock w w' := by
  have HS := Lib.hid (show wantsE s = if Mc.sound s = true ∧ endedB s.state = false then .tuple #[.int .i64 s.cursor, .bool (decide (s.state = 2)), .bool true] else .tuple #[.int .i64 0, .bool false, .bool false] from rfl)
  obtain ⟨l, st, cu, fa⟩ := s
  simp only at hsm hrow
  have hA := (Only.refl NoBlock w).alloc (Obj.cells #[.slice ao l.length cap, .int .i64 st, .int .i64 cu, .int .i64 fa] 63)
  have hB := Blk.made w #[.slice ao l.length cap, .int .i64 st, .int .i64 cu, .int .i64 fa] 63
  have hrA := hrow.keepsN hA
  show Calls Try.prog 78 #[.agg #[.slice ao l.length cap, .int .i64 st, .int .i64 cu, .int .i64 fa]] w _
  go_enter Try.func78, Try.ntmps78
  go_wp2_with fail
  refine (sound_at _ ⟨l, st, cu, fa⟩ ao cap hsm hrA).mono ?_
  rintro e w2 ⟨rfl, hO2⟩
  have hB2 := hB.keeps hO2 (fun h => h)
  have hO := hA.trans hO2
  generalize w.heap.size = S at hB2 ⊢
  clear hrow hrA hA hB hO2
  have c0 := hB2.cell 0
  have c1 := hB2.cell 1
  have c2 := hB2.cell 2
  have c3 := hB2.cell 3
  simp only [List.getElem?_toArray, List.getElem?_cons_succ, List.getElem?_cons_zero] at c0 c1 c2 c3
  cases hs : Mc.sound ⟨l, st, cu, fa⟩ with
  | false =>
    have HR : RowKit.Hid (wantsE ⟨l, st, cu, fa⟩ = .tuple #[.int .i64 0, .bool false, .bool false]) := Lib.hid (by rw [HS.out, if_neg (by simp [hs])])
    clear hs
    go_wp2_with fail
    go_ret3
    exact ⟨by rw [HR.out]; rfl, hO⟩
  | true =>
    have HSO := Lib.hid hs
    clear hs
    go_wp2_with fail
    refine (ended_at w2 ⟨l, st, cu, fa⟩ ao cap).mono ?_
    rintro e w3 ⟨rfl, hO3⟩
    have hB3 := hB2.keeps hO3 (fun h => h)
    have hO3' := hO.trans hO3
    clear c0 c1 c2 c3 hB2 hO hO3
    have c1 := hB3.cell 1
    have c2 := hB3.cell 2
    simp only [List.getElem?_toArray, List.getElem?_cons_succ, List.getElem?_cons_zero] at c1 c2
    cases he : endedB st with
    | true =>
      have HR : RowKit.Hid (wantsE ⟨l, st, cu, fa⟩ = .tuple #[.int .i64 0, .bool false, .bool false]) := Lib.hid (by rw [HS.out, if_neg (by simp [he])])
      clear he
      go_wp2_with fail
      go_ret3
      exact ⟨by rw [HR.out]; rfl, hO3'⟩
    | false =>
      have HR : RowKit.Hid (wantsE ⟨l, st, cu, fa⟩ = .tuple #[.int .i64 cu, .bool (decide (st = 2)), .bool true]) := Lib.hid (by rw [HS.out, if_pos ⟨HSO.out, he⟩])
      clear he
      have d2 : (st == 2) = decide (st = 2) := by rw [Bool.eq_iff_iff]; simp
      go_wp2_with fail
      go_quiet (fail)
      go_wp2_with fail
      go_ret3
      exact ⟨by rw [HR.out]; first | rfl | (rw [← d2]; rfl) | (rw [d2]), hO3'.drewN _⟩
end Go.Proofs.Ytogeeeigfhmpmaa
