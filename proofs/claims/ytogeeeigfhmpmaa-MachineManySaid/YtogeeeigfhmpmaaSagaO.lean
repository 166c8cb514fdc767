/- saga.Outcome: of a step's doing, or of its taking back. -/
import Derived.Test.YtogeeeigfhmpmaaSagaG
namespace Go.Proofs.Ytogeeeigfhmpmaa
open Go.RowKit
set_option maxRecDepth 100000

theorem ended_state {s : Mc.Sg} (h : Mc.sound s = true) : endedB s.state = false ↔ s.state ≤ 2 := by
  obtain ⟨_, h1, h5, _⟩ := Mc.sound_up h
  unfold endedB
  constructor
  · intro he
    by_cases h3 : 3 ≤ s.state
    · simp [h3, h5] at he
    · omega
  · intro he
    have : ¬ 3 ≤ s.state := by omega
    simp [this]
theorem budget_pos1 {l : List Pk.Stp} {st cu fa : Int} (h : Mc.sound ⟨l, st, cu, fa⟩ = true) : 0 ≤ fa ∧ fa ≤ 9 ∧ 0 ≤ cu ∧ cu ≤ 64 ∧ (st ≤ 2 → cu < l.length) := by
  obtain ⟨h0, h1, hp⟩ := Mc.sound_parts h
  obtain ⟨_, k1, k2, k3, k4, k5, k6⟩ := Mc.sound_up h
  simp only at *
  refine ⟨k5, k6, k3, k4, fun h2 => ?_⟩
  rcases hp with hp | hp | hp | hp | hp <;> omega
set_option maxHeartbeats 4000000 in
theorem outcome_at (w : World) (s : Mc.Sg) (ao : Option Addr) (cap : Nat) (hsm : Smalls s.steps) (hrow : RowIn stpK 38 w ao s.steps) (step : Int) (taken : Bool) (tr : Int) (ok : Bool) (hst : -1000 ≤ step ∧ step ≤ 1000) :
    Calls Try.prog 59 #[sgV s ao cap, .int .i64 step, .bool taken, .int .i64 tr, .bool ok] w fun e w' => e = .returned (.tuple #[sgV (Mc.outcome s step taken tr ok).1 ao cap, .bool (Mc.outcome s step taken tr ok).2]) ∧ Only NoBlock w w' := by
  have HO := Lib.hid (show Mc.outcome s step taken tr ok = _ from rfl)
  have HS := Lib.hid (show wantsE s = if Mc.sound s = true ∧ endedB s.state = false then .tuple #[.int .i64 s.cursor, .bool (decide (s.state = 2)), .bool true] else .tuple #[.int .i64 0, .bool false, .bool false] from rfl)
  obtain ⟨l, st, cu, fa⟩ := s
  simp only at hsm hrow
  have hn64 := hsm.1
  obtain ⟨fs, hfs⟩ := u_sg
  have HFS := Lib.hid hfs
  clear hfs HO
  show Calls Try.prog 59 #[.agg #[.slice ao l.length cap, .int .i64 st, .int .i64 cu, .int .i64 fa], .int .i64 step, .bool taken, .int .i64 tr, .bool ok] w _
  go_enter Try.func59, Try.ntmps59
  go_upto_region 1 with fail
  have hS := Blk.made w #[.slice ao l.length cap, .int .i64 st, .int .i64 cu, .int .i64 fa] 63
  have hA := (Only.refl NoBlock w).alloc (Obj.cells #[.slice ao l.length cap, .int .i64 st, .int .i64 cu, .int .i64 fa] 63)
  have hz : (w.alloc (Obj.cells #[.slice ao l.length cap, .int .i64 st, .int .i64 cu, .int .i64 fa] 63)).heap.size = w.heap.size + 1 := by simp
  generalize w.alloc (Obj.cells #[.slice ao l.length cap, .int .i64 st, .int .i64 cu, .int .i64 fa] 63) = w1 at hS hA hz ⊢
  rw [← hz]
  have hG0 : w.heap.size ≤ w1.heap.size := by omega
  have hne : w.heap.size ≠ w1.heap.size := by omega
  have hG := Blk.made w1 #[.slice none 0 0, .int .i64 0, .int .i64 0, .int .i64 0] 63
  have hB := hS.alloc (.cells #[.slice none 0 0, .int .i64 0, .int .i64 0, .int .i64 0] 63)
  have hO := hA.alloc (.cells #[.slice none 0 0, .int .i64 0, .int .i64 0, .int .i64 0] 63)
  generalize w1.alloc (.cells #[.slice none 0 0, .int .i64 0, .int .i64 0, .int .i64 0] 63) = w2 at hG hB hO ⊢
  have hS0 : w.heap.size ≤ w.heap.size := Nat.le_refl _
  generalize hSe : w.heap.size = S at hB hne ⊢
  have hS0 : w.heap.size ≤ S := by omega
  generalize w1.heap.size = G at hG hne hG0 ⊢
  have hr2 := hrow.keepsN hO
  clear hSe hS hA hz hrow
  have c0 := hB.cell 0
  have c1 := hB.cell 1
  have c2 := hB.cell 2
  have c3 := hB.cell 3
  simp only [List.getElem?_toArray, List.getElem?_cons_succ, List.getElem?_cons_zero] at c0 c1 c2 c3
  go_wp2_with fail
  refine (wants_at w2 ⟨l, st, cu, fa⟩ ao cap hsm hr2).mono ?_
  rintro e w3 ⟨rfl, hO3⟩
  have hB3 := hB.keeps hO3 (fun h => h)
  have hG3 := hG.keeps hO3 (fun h => h)
  have hOw := hO.trans hO3
  have hr3 := hr2.keepsN hO3
  clear c0 c1 c2 c3 hB hG hO hO3 hr2
  have c0 := hB3.cell 0
  have c1 := hB3.cell 1
  have c2 := hB3.cell 2
  have c3 := hB3.cell 3
  have f1 := hB3.free 1
  have f2 := hB3.free 2
  have f3 := hB3.free 3
  have g0 := hG3.cell 0
  have g1 := hG3.cell 1
  have g2 := hG3.cell 2
  have g3 := hG3.cell 3
  have u0 := hG3.free 0
  have u1 := hG3.free 1
  have u2 := hG3.free 2
  have u3 := hG3.free 3
  simp only [List.getElem?_toArray, List.getElem?_cons_succ, List.getElem?_cons_zero] at c0 c1 c2 c3 g0 g1 g2 g3
  by_cases hw : Mc.sound ⟨l, st, cu, fa⟩ = true ∧ endedB st = false
  · have hwe : wantsE ⟨l, st, cu, fa⟩ = .tuple #[.int .i64 cu, .bool (decide (st = 2)), .bool true] := by rw [HS.out, if_pos hw]
    rw [hwe]
    clear hwe
    obtain ⟨hso, hen⟩ := hw
    have hs2 : st ≤ 2 := (ended_state hso).1 hen
    obtain ⟨b0, b9, k0, k64, klt⟩ := budget_pos1 hso
    have klt := klt hs2
    have HSO := Lib.hid hso
    have hs1 := (Mc.sound_up hso).2.1
    simp only at hs1
    obtain ⟨_, _, hpp⟩ := Mc.sound_parts hso
    have hst1 : st = 1 ∨ st = 2 := by rcases hpp with hp | hp | hp | hp | hp <;> simp only at hp <;> omega
    clear hso hen hpp hs1
    by_cases hc : cu = step
    · subst hc
      have e1 : (cu != cu) = false := by simp
      by_cases ht : taken = decide (st = 2)
      · by_cases ho : ok = true ∨ tr = fa
        · have HC : RowKit.Hid (Mc.sound ⟨l, st, cu, fa⟩ = true ∧ st ≤ 2 ∧ cu = cu ∧ taken = decide (st = 2) ∧ (ok = true ∨ tr = fa)) := Lib.hid ⟨HSO.out, hs2, rfl, ht, ho⟩
          rcases hst1 with rfl | rfl
          · obtain rfl : taken = false := by simpa using ht
            cases ok with
            | true =>
              have hw1 : IntKind.i64.wrap (cu + 1) = cu + 1 := IntWalk.i64_in _ (by omega)
              clear hw1
              by_cases hl : cu + 1 = l.length
              · have dl : (cu + 1 == (l.length : Int)) = true := by simp; omega
                have HR : RowKit.Hid (Mc.outcome ⟨l, 1, cu, fa⟩ cu false tr true = (⟨l, 3, cu + 1, fa⟩, true)) := Lib.hid (by have hc := HC.out; unfold Mc.outcome; rw [if_pos hc, if_pos ⟨rfl, rfl⟩]; simp only; rw [if_pos hl])
                clear hl ht ho hs2 hr3
                go_wp2_with fail
                have hG4 := (hG3.setCell_other (p := ⟨S, 2, none⟩) (fun e => hne e.symm) (.int .i64 (cu + 1))).setCell_other (p := ⟨S, 1, none⟩) (fun e => hne e.symm) (.int .i64 3)
                have hO4 := (hOw.setCell (p := ⟨S, 2, none⟩) (fun h => by have h' : S < w.heap.size := h; omega) (.int .i64 (cu + 1))).setCell (p := ⟨S, 1, none⟩) (fun h => by have h' : S < w.heap.size := h; omega) (.int .i64 3)
                have hV := sets_blk hG4 [.slice ao l.length cap, .int .i64 3, .int .i64 (cu + 1), .int .i64 fa] rfl
                have hW := sets_only (g := G) hO4 (fun h => by omega) [.slice ao l.length cap, .int .i64 3, .int .i64 (cu + 1), .int .i64 fa] 0
                simp only [sets] at hV hW
                refine bodyPost_ret (results_cell_tmp (P := Try.prog) rfl _ _ G _ _ _ _ rfl hV HFS.out rfl size_sg) rfl ?_
                exact ⟨by rw [HR.out]; rfl, hW⟩
              · have dl : (cu + 1 == (l.length : Int)) = false := by simp; omega
                have HR : RowKit.Hid (Mc.outcome ⟨l, 1, cu, fa⟩ cu false tr true = (⟨l, 1, cu + 1, fa⟩, true)) := Lib.hid (by have hc := HC.out; unfold Mc.outcome; rw [if_pos hc, if_pos ⟨rfl, rfl⟩]; simp only; rw [if_neg hl])
                clear hl ht ho hs2 hr3
                go_wp2_with fail
                have hG4 := hG3.setCell_other (p := ⟨S, 2, none⟩) (fun e => hne e.symm) (.int .i64 (cu + 1))
                have hO4 := hOw.setCell (p := ⟨S, 2, none⟩) (fun h => by have h' : S < w.heap.size := h; omega) (.int .i64 (cu + 1))
                have hV := sets_blk hG4 [.slice ao l.length cap, .int .i64 1, .int .i64 (cu + 1), .int .i64 fa] rfl
                have hW := sets_only (g := G) hO4 (fun h => by omega) [.slice ao l.length cap, .int .i64 1, .int .i64 (cu + 1), .int .i64 fa] 0
                simp only [sets] at hV hW
                refine bodyPost_ret (results_cell_tmp (P := Try.prog) rfl _ _ G _ _ _ _ rfl hV HFS.out rfl size_sg) rfl ?_
                exact ⟨by rw [HR.out]; rfl, hW⟩
            | false =>
              have HR : RowKit.Hid (Mc.outcome ⟨l, 1, cu, fa⟩ cu false tr false = (Mc.backTo ⟨l, 1, cu, fa⟩ (cu - 1), true)) := Lib.hid (by have hc := HC.out; unfold Mc.outcome; rw [if_pos hc, if_neg (by simp), if_pos (by simp)])
              obtain rfl : tr = fa := by simpa using ho
              clear ht ho hs2 hr3
              go_wp2_with fail
              refine (back_at w3 ⟨l, 1, cu, tr⟩ ao cap (cu - 1)).mono ?_
              rintro e w4 ⟨rfl, hO4⟩
              have hG4 := hG3.keeps hO4 (fun h => h)
              have hB4 := hB3.keeps hO4 (fun h => h)
              have hOv := hOw.trans hO4
              clear c0 c1 c2 c3 g0 g1 g2 g3 u0 u1 u2 u3 f1 f2 f3
              obtain ⟨l2, st2, cu2, fa2, hb⟩ : ∃ l2 st2 cu2 fa2, Mc.backTo ⟨l, 1, cu, tr⟩ (cu - 1) = ⟨l2, st2, cu2, fa2⟩ := ⟨_, _, _, _, rfl⟩
              rw [hb]
              have HR2 := Lib.hid (HR.out.trans (by rw [hb]))
              clear hb HR
              have HR := HR2
              clear HR2
              have c0 := hB4.cell 0
              have f0 := hB4.free 0
              have c1 := hB4.cell 1
              have f1 := hB4.free 1
              have c2 := hB4.cell 2
              have f2 := hB4.free 2
              have c3 := hB4.cell 3
              have f3 := hB4.free 3
              simp only [List.getElem?_toArray, List.getElem?_cons_succ, List.getElem?_cons_zero] at c0 c1 c2 c3
              unfold sgV
              go_upto_region 14 with fail
              have hB5 := sets_blk hB4 [.slice ao l2.length cap, .int .i64 st2, .int .i64 cu2, .int .i64 fa2] rfl
              have hO5 := sets_only (g := S) hOv (fun h => by omega) [.slice ao l2.length cap, .int .i64 st2, .int .i64 cu2, .int .i64 fa2] 0
              have hG5 := ((((hG4.setCell_other (p := ⟨S, 0, none⟩) (fun e => hne e.symm) (.slice ao l2.length cap)).setCell_other (p := ⟨S, 1, none⟩) (fun e => hne e.symm) (.int .i64 st2)).setCell_other (p := ⟨S, 2, none⟩) (fun e => hne e.symm) (.int .i64 cu2)).setCell_other (p := ⟨S, 3, none⟩) (fun e => hne e.symm) (.int .i64 fa2))
              simp only [sets] at hB5 hO5
              generalize (((w4.setCell ⟨S, 0, none⟩ (.slice ao l2.length cap)).setCell ⟨S, 1, none⟩ (.int .i64 st2)).setCell ⟨S, 2, none⟩ (.int .i64 cu2)).setCell ⟨S, 3, none⟩ (.int .i64 fa2) = w5 at hB5 hO5 hG5 ⊢
              clear c0 c1 c2 c3 f0 f1 f2 f3 hB4 hG4 hOv
              have c0 := hB5.cell 0
              have g0 := hG5.cell 0
              have u0 := hG5.free 0
              have c1 := hB5.cell 1
              have g1 := hG5.cell 1
              have u1 := hG5.free 1
              have c2 := hB5.cell 2
              have g2 := hG5.cell 2
              have u2 := hG5.free 2
              have c3 := hB5.cell 3
              have g3 := hG5.cell 3
              have u3 := hG5.free 3
              simp only [List.getElem?_toArray, List.getElem?_cons_succ, List.getElem?_cons_zero] at c0 c1 c2 c3 g0 g1 g2 g3
              go_wp2_with fail
              have hV := sets_blk hG5 [.slice ao l2.length cap, .int .i64 st2, .int .i64 cu2, .int .i64 fa2] rfl
              have hW := sets_only (g := G) hO5 (fun h => by omega) [.slice ao l2.length cap, .int .i64 st2, .int .i64 cu2, .int .i64 fa2] 0
              simp only [sets] at hV hW
              refine bodyPost_ret (results_cell_tmp (P := Try.prog) rfl _ _ G _ _ _ _ rfl hV HFS.out rfl size_sg) rfl ?_
              exact ⟨by rw [HR.out]; rfl, hW⟩
          · obtain rfl : taken = true := by simpa using ht
            cases ok with
            | true =>
              have HR : RowKit.Hid (Mc.outcome ⟨l, 2, cu, fa⟩ cu true tr true = (Mc.backTo ⟨l, 2, cu, fa⟩ (cu - 1), true)) := Lib.hid (by have hc := HC.out; unfold Mc.outcome; rw [if_pos hc, if_neg (by simp), if_pos (by simp)])
              clear ht ho hs2 hr3
              go_wp2_with fail
              refine (back_at w3 ⟨l, 2, cu, fa⟩ ao cap (cu - 1)).mono ?_
              rintro e w4 ⟨rfl, hO4⟩
              have hG4 := hG3.keeps hO4 (fun h => h)
              have hB4 := hB3.keeps hO4 (fun h => h)
              have hOv := hOw.trans hO4
              clear c0 c1 c2 c3 g0 g1 g2 g3 u0 u1 u2 u3 f1 f2 f3
              obtain ⟨l2, st2, cu2, fa2, hb⟩ : ∃ l2 st2 cu2 fa2, Mc.backTo ⟨l, 2, cu, fa⟩ (cu - 1) = ⟨l2, st2, cu2, fa2⟩ := ⟨_, _, _, _, rfl⟩
              rw [hb]
              have HR2 := Lib.hid (HR.out.trans (by rw [hb]))
              clear hb HR
              have HR := HR2
              clear HR2
              have c0 := hB4.cell 0
              have f0 := hB4.free 0
              have c1 := hB4.cell 1
              have f1 := hB4.free 1
              have c2 := hB4.cell 2
              have f2 := hB4.free 2
              have c3 := hB4.cell 3
              have f3 := hB4.free 3
              simp only [List.getElem?_toArray, List.getElem?_cons_succ, List.getElem?_cons_zero] at c0 c1 c2 c3
              unfold sgV
              go_upto_region 14 with fail
              have hB5 := sets_blk hB4 [.slice ao l2.length cap, .int .i64 st2, .int .i64 cu2, .int .i64 fa2] rfl
              have hO5 := sets_only (g := S) hOv (fun h => by omega) [.slice ao l2.length cap, .int .i64 st2, .int .i64 cu2, .int .i64 fa2] 0
              have hG5 := ((((hG4.setCell_other (p := ⟨S, 0, none⟩) (fun e => hne e.symm) (.slice ao l2.length cap)).setCell_other (p := ⟨S, 1, none⟩) (fun e => hne e.symm) (.int .i64 st2)).setCell_other (p := ⟨S, 2, none⟩) (fun e => hne e.symm) (.int .i64 cu2)).setCell_other (p := ⟨S, 3, none⟩) (fun e => hne e.symm) (.int .i64 fa2))
              simp only [sets] at hB5 hO5
              generalize (((w4.setCell ⟨S, 0, none⟩ (.slice ao l2.length cap)).setCell ⟨S, 1, none⟩ (.int .i64 st2)).setCell ⟨S, 2, none⟩ (.int .i64 cu2)).setCell ⟨S, 3, none⟩ (.int .i64 fa2) = w5 at hB5 hO5 hG5 ⊢
              clear c0 c1 c2 c3 f0 f1 f2 f3 hB4 hG4 hOv
              have c0 := hB5.cell 0
              have g0 := hG5.cell 0
              have u0 := hG5.free 0
              have c1 := hB5.cell 1
              have g1 := hG5.cell 1
              have u1 := hG5.free 1
              have c2 := hB5.cell 2
              have g2 := hG5.cell 2
              have u2 := hG5.free 2
              have c3 := hB5.cell 3
              have g3 := hG5.cell 3
              have u3 := hG5.free 3
              simp only [List.getElem?_toArray, List.getElem?_cons_succ, List.getElem?_cons_zero] at c0 c1 c2 c3 g0 g1 g2 g3
              go_wp2_with fail
              have hV := sets_blk hG5 [.slice ao l2.length cap, .int .i64 st2, .int .i64 cu2, .int .i64 fa2] rfl
              have hW := sets_only (g := G) hO5 (fun h => by omega) [.slice ao l2.length cap, .int .i64 st2, .int .i64 cu2, .int .i64 fa2] 0
              simp only [sets] at hV hW
              refine bodyPost_ret (results_cell_tmp (P := Try.prog) rfl _ _ G _ _ _ _ rfl hV HFS.out rfl size_sg) rfl ?_
              exact ⟨by rw [HR.out]; rfl, hW⟩
            | false =>
              obtain rfl : tr = fa := by simpa using ho
              obtain ⟨k, rfl⟩ : ∃ k : Nat, cu = k := ⟨cu.toNat, by omega⟩
              obtain ⟨b, off, rfl⟩ := hr3.shape (by omega)
              have hbc := budget_cell hr3 (k := k) (by omega) 2 tr
              have hkl : k < l.length := by omega
              have hbS : b ≠ S := (hr3.typed _ rfl).ne_blk hB3 (by decide)
              generalize hbg : Mc.budgetAt ⟨l, 2, (k : Int), tr⟩ = bg at hbc
              by_cases hl : tr + 1 = bg
              · have dl : (tr + 1 == bg) = true := by simp; omega
                have HR : RowKit.Hid (Mc.outcome ⟨l, 2, (k : Int), tr⟩ k true tr false = (⟨l, 5, k, tr + 1⟩, true)) := Lib.hid (by have hc := HC.out; unfold Mc.outcome; rw [if_pos hc, if_neg (by simp), if_neg (by simp)]; simp only; rw [hbg, if_pos hl])
                clear hl ht ho hs2 hbg hn64
                have hbc3 : (w3.setCell ⟨S, 3, none⟩ (.int .i64 (tr + 1))).cell? ⟨b, off + k * 3 + 2, none⟩ = some (.int .i64 bg) := (World.cell?_of_block (a := ⟨b, off + k * 3 + 2, none⟩) (Below.heap_setCell w3 ⟨S, 3, none⟩ _ b hbS)).trans hbc
                go_upto_region 12 with fail
                have hB4 : Blk (w3.setCell ⟨S, 3, none⟩ (.int .i64 (tr + 1))) S #[.slice (some ⟨b, off, none⟩) l.length cap, .int .i64 2, .int .i64 (k : Int), .int .i64 (tr + 1)] 63 := hB3.setCell 3 (.int .i64 (tr + 1))
                have hG4 := hG3.setCell_other (p := ⟨S, 3, none⟩) (fun e => hne e.symm) (.int .i64 (tr + 1))
                have hO4 := hOw.setCell (p := ⟨S, 3, none⟩) (fun h => by have h' : S < w.heap.size := h; omega) (.int .i64 (tr + 1))
                generalize w3.setCell ⟨S, 3, none⟩ (.int .i64 (tr + 1)) = w4 at hB4 hG4 hO4 hbc3 ⊢
                clear c0 c1 c2 c3 g0 g1 g2 g3 u0 u1 u2 u3 f1 f2 f3 hbc hr3
                have c0 := hB4.cell 0
                have c1 := hB4.cell 1
                have c2 := hB4.cell 2
                have c3 := hB4.cell 3
                simp only [List.getElem?_toArray, List.getElem?_cons_succ, List.getElem?_cons_zero] at c0 c1 c2 c3
                go_quiet (fail)
                rename_i nq
                have hB5 := hB4.drewN nq
                have hG5 := hG4.drewN nq
                have hO5 := hO4.drewN nq
                generalize w4.drewN nq = w5 at hB5 hG5 hO5 ⊢
                clear c0 c1 c2 c3 hbc3
                have c0 := hB5.cell 0
                have g0 := hG5.cell 0
                have u0 := hG5.free 0
                have c1 := hB5.cell 1
                have g1 := hG5.cell 1
                have u1 := hG5.free 1
                have c2 := hB5.cell 2
                have g2 := hG5.cell 2
                have u2 := hG5.free 2
                have c3 := hB5.cell 3
                have g3 := hG5.cell 3
                have u3 := hG5.free 3
                have f1 := hB5.free 1
                simp only [List.getElem?_toArray, List.getElem?_cons_succ, List.getElem?_cons_zero] at c0 c1 c2 c3 g0 g1 g2 g3
                go_wp2_with fail
                have hG6 := hG5.setCell_other (p := ⟨S, 1, none⟩) (fun e => hne e.symm) (.int .i64 5)
                have hO6 := hO5.setCell (p := ⟨S, 1, none⟩) (fun h => by have h' : S < w.heap.size := h; omega) (.int .i64 5)
                have hV := sets_blk hG6 [.slice (some ⟨b, off, none⟩) l.length cap, .int .i64 5, .int .i64 (k : Int), .int .i64 (tr + 1)] rfl
                have hW := sets_only (g := G) hO6 (fun h => by omega) [.slice (some ⟨b, off, none⟩) l.length cap, .int .i64 5, .int .i64 (k : Int), .int .i64 (tr + 1)] 0
                simp only [sets] at hV hW
                refine bodyPost_ret (results_cell_tmp (P := Try.prog) rfl _ _ G _ _ _ _ rfl hV HFS.out rfl size_sg) rfl ?_
                exact ⟨by rw [HR.out]; rfl, hW⟩
              · have dl : (tr + 1 == bg) = false := by simp; omega
                have HR : RowKit.Hid (Mc.outcome ⟨l, 2, (k : Int), tr⟩ k true tr false = (⟨l, 2, k, tr + 1⟩, true)) := Lib.hid (by have hc := HC.out; unfold Mc.outcome; rw [if_pos hc, if_neg (by simp), if_neg (by simp)]; simp only; rw [hbg, if_neg hl])
                clear hl ht ho hs2 hbg hn64
                have hbc3 : (w3.setCell ⟨S, 3, none⟩ (.int .i64 (tr + 1))).cell? ⟨b, off + k * 3 + 2, none⟩ = some (.int .i64 bg) := (World.cell?_of_block (a := ⟨b, off + k * 3 + 2, none⟩) (Below.heap_setCell w3 ⟨S, 3, none⟩ _ b hbS)).trans hbc
                go_upto_region 12 with fail
                have hB4 : Blk (w3.setCell ⟨S, 3, none⟩ (.int .i64 (tr + 1))) S #[.slice (some ⟨b, off, none⟩) l.length cap, .int .i64 2, .int .i64 (k : Int), .int .i64 (tr + 1)] 63 := hB3.setCell 3 (.int .i64 (tr + 1))
                have hG4 := hG3.setCell_other (p := ⟨S, 3, none⟩) (fun e => hne e.symm) (.int .i64 (tr + 1))
                have hO4 := hOw.setCell (p := ⟨S, 3, none⟩) (fun h => by have h' : S < w.heap.size := h; omega) (.int .i64 (tr + 1))
                generalize w3.setCell ⟨S, 3, none⟩ (.int .i64 (tr + 1)) = w4 at hB4 hG4 hO4 hbc3 ⊢
                clear c0 c1 c2 c3 g0 g1 g2 g3 u0 u1 u2 u3 f1 f2 f3 hbc hr3
                have c0 := hB4.cell 0
                have c1 := hB4.cell 1
                have c2 := hB4.cell 2
                have c3 := hB4.cell 3
                simp only [List.getElem?_toArray, List.getElem?_cons_succ, List.getElem?_cons_zero] at c0 c1 c2 c3
                go_quiet (fail)
                rename_i nq
                have hB5 := hB4.drewN nq
                have hG5 := hG4.drewN nq
                have hO5 := hO4.drewN nq
                generalize w4.drewN nq = w5 at hB5 hG5 hO5 ⊢
                clear c0 c1 c2 c3 hbc3
                have c0 := hB5.cell 0
                have g0 := hG5.cell 0
                have u0 := hG5.free 0
                have c1 := hB5.cell 1
                have g1 := hG5.cell 1
                have u1 := hG5.free 1
                have c2 := hB5.cell 2
                have g2 := hG5.cell 2
                have u2 := hG5.free 2
                have c3 := hB5.cell 3
                have g3 := hG5.cell 3
                have u3 := hG5.free 3
                have f1 := hB5.free 1
                simp only [List.getElem?_toArray, List.getElem?_cons_succ, List.getElem?_cons_zero] at c0 c1 c2 c3 g0 g1 g2 g3
                go_wp2_with fail
                have hV := sets_blk hG5 [.slice (some ⟨b, off, none⟩) l.length cap, .int .i64 2, .int .i64 (k : Int), .int .i64 (tr + 1)] rfl
                have hW := sets_only (g := G) hO5 (fun h => by omega) [.slice (some ⟨b, off, none⟩) l.length cap, .int .i64 2, .int .i64 (k : Int), .int .i64 (tr + 1)] 0
                simp only [sets] at hV hW
                refine bodyPost_ret (results_cell_tmp (P := Try.prog) rfl _ _ G _ _ _ _ rfl hV HFS.out rfl size_sg) rfl ?_
                exact ⟨by rw [HR.out]; rfl, hW⟩
        · have hok : ok = false := by cases ok; rfl; exact absurd (.inl rfl) ho
          subst hok
          have htr : ¬ tr = fa := fun e => ho (.inr e)
          have dt : (tr != fa) = true := by simpa using htr
          have dt2 : (tr == fa) = false := by simpa using htr
          rcases hst1 with rfl | rfl
          · obtain rfl : taken = false := by simpa using ht
            have HR : RowKit.Hid (Mc.outcome ⟨l, 1, cu, fa⟩ cu false tr false = (⟨l, 1, cu, fa⟩, false)) := Lib.hid (by unfold Mc.outcome; rw [if_neg (fun h => ho h.2.2.2.2)])
            clear hr3 ho htr hs2 ht
            go_wp2_with fail
            have hV := sets_blk hG3 [.slice ao l.length cap, .int .i64 1, .int .i64 cu, .int .i64 fa] rfl
            have hW := sets_only (g := G) hOw (fun h => by omega) [.slice ao l.length cap, .int .i64 1, .int .i64 cu, .int .i64 fa] 0
            simp only [sets] at hV hW
            refine bodyPost_ret (results_cell_tmp (P := Try.prog) rfl _ _ G _ _ _ _ rfl hV HFS.out rfl size_sg) rfl ?_
            exact ⟨by rw [HR.out]; rfl, hW⟩
          · obtain rfl : taken = true := by simpa using ht
            have HR : RowKit.Hid (Mc.outcome ⟨l, 2, cu, fa⟩ cu true tr false = (⟨l, 2, cu, fa⟩, false)) := Lib.hid (by unfold Mc.outcome; rw [if_neg (fun h => ho h.2.2.2.2)])
            clear hr3 ho htr hs2 ht
            go_wp2_with fail
            have hV := sets_blk hG3 [.slice ao l.length cap, .int .i64 2, .int .i64 cu, .int .i64 fa] rfl
            have hW := sets_only (g := G) hOw (fun h => by omega) [.slice ao l.length cap, .int .i64 2, .int .i64 cu, .int .i64 fa] 0
            simp only [sets] at hV hW
            refine bodyPost_ret (results_cell_tmp (P := Try.prog) rfl _ _ G _ _ _ _ rfl hV HFS.out rfl size_sg) rfl ?_
            exact ⟨by rw [HR.out]; rfl, hW⟩
      · rcases hst1 with rfl | rfl
        · obtain rfl : taken = true := by cases taken <;> simp_all
          have HR : RowKit.Hid (Mc.outcome ⟨l, 1, cu, fa⟩ cu true tr ok = (⟨l, 1, cu, fa⟩, false)) := Lib.hid (by unfold Mc.outcome; rw [if_neg (fun h => ht h.2.2.2.1)])
          clear hr3 ht hs2
          go_wp2_with fail
          have hV := sets_blk hG3 [.slice ao l.length cap, .int .i64 1, .int .i64 cu, .int .i64 fa] rfl
          have hW := sets_only (g := G) hOw (fun h => by omega) [.slice ao l.length cap, .int .i64 1, .int .i64 cu, .int .i64 fa] 0
          simp only [sets] at hV hW
          refine bodyPost_ret (results_cell_tmp (P := Try.prog) rfl _ _ G _ _ _ _ rfl hV HFS.out rfl size_sg) rfl ?_
          exact ⟨by rw [HR.out]; rfl, hW⟩
        · obtain rfl : taken = false := by cases taken <;> simp_all
          have HR : RowKit.Hid (Mc.outcome ⟨l, 2, cu, fa⟩ cu false tr ok = (⟨l, 2, cu, fa⟩, false)) := Lib.hid (by unfold Mc.outcome; rw [if_neg (fun h => ht h.2.2.2.1)])
          clear hr3 ht hs2
          go_wp2_with fail
          have hV := sets_blk hG3 [.slice ao l.length cap, .int .i64 2, .int .i64 cu, .int .i64 fa] rfl
          have hW := sets_only (g := G) hOw (fun h => by omega) [.slice ao l.length cap, .int .i64 2, .int .i64 cu, .int .i64 fa] 0
          simp only [sets] at hV hW
          refine bodyPost_ret (results_cell_tmp (P := Try.prog) rfl _ _ G _ _ _ _ rfl hV HFS.out rfl size_sg) rfl ?_
          exact ⟨by rw [HR.out]; rfl, hW⟩
    · have e1 : (cu != step) = true := by simpa using hc
      have HR : RowKit.Hid (Mc.outcome ⟨l, st, cu, fa⟩ step taken tr ok = (⟨l, st, cu, fa⟩, false)) := Lib.hid (by unfold Mc.outcome; rw [if_neg (fun h => hc h.2.2.1)])
      clear hr3 hc hs2
      generalize decide (st = 2) = tk
      go_wp2_with fail
      have hV := sets_blk hG3 [.slice ao l.length cap, .int .i64 st, .int .i64 cu, .int .i64 fa] rfl
      have hW := sets_only (g := G) hOw (fun h => by omega) [.slice ao l.length cap, .int .i64 st, .int .i64 cu, .int .i64 fa] 0
      simp only [sets] at hV hW
      refine bodyPost_ret (results_cell_tmp (P := Try.prog) rfl _ _ G _ _ _ _ rfl hV HFS.out rfl size_sg) rfl ?_
      exact ⟨by rw [HR.out]; rfl, hW⟩
  · have hwe : wantsE ⟨l, st, cu, fa⟩ = .tuple #[.int .i64 0, .bool false, .bool false] := by rw [HS.out, if_neg hw]
    rw [hwe]
    clear hwe
    have HR : RowKit.Hid (Mc.outcome ⟨l, st, cu, fa⟩ step taken tr ok = (⟨l, st, cu, fa⟩, false)) := Lib.hid (by unfold Mc.outcome; rw [if_neg (fun h => hw ⟨h.1, (ended_state h.1).2 h.2.1⟩)])
    clear hr3 hw
    go_wp2_with fail
    have hV := sets_blk hG3 [.slice ao l.length cap, .int .i64 st, .int .i64 cu, .int .i64 fa] rfl
    have hW := sets_only (g := G) hOw (fun h => by omega) [.slice ao l.length cap, .int .i64 st, .int .i64 cu, .int .i64 fa] 0
    simp only [sets] at hV hW
    refine bodyPost_ret (results_cell_tmp (P := Try.prog) rfl _ _ G _ _ _ _ rfl hV HFS.out rfl size_sg) rfl ?_
    exact ⟨by rw [HR.out]; rfl, hW⟩
end Go.Proofs.Ytogeeeigfhmpmaa
