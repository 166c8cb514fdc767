/- saga.Sound, Ended, Wants: can a saga be, has it ended, what does it wait for? -/
import Derived.Test.YtogeeeigfhmpmaaStpK
import Derived.Test.YtogeeeigfhmpmaaMachI
import Derived.Deep.RegionHeld3
namespace Go.Proofs.Ytogeeeigfhmpmaa
open Go.RowKit
set_option maxRecDepth 100000

/-- a saga's value: its steps lie at ao -/
def sgV (s : Mc.Sg) (ao : Option Addr) (cap : Nat) : Value := .agg #[.slice ao s.steps.length cap, .int .i64 s.state, .int .i64 s.cursor, .int .i64 s.failed]
theorem budget_cell {w : World} {b off : Nat} {l : List Pk.Stp} (h : RowIn stpK 38 w (some ⟨b, off, none⟩) l) {k : Nat} (hk : k < l.length) (st fa : Int) : w.cell? ⟨b, off + k * 3 + 2, none⟩ = some (.int .i64 (Mc.budgetAt ⟨l, st, (k : Int), fa⟩)) := by
  have := h.at hk (j := 2) (by decide)
  refine this.trans ?_
  unfold Mc.budgetAt
  simp only [Int.toNat_natCast]
  rw [List.getD_eq_getElem?_getD, List.getD_eq_getElem?_getD, List.getElem?_map, List.getElem?_eq_getElem hk]
  rfl
set_option maxHeartbeats 4000000 in
theorem sound_at (w : World) (s : Mc.Sg) (ao : Option Addr) (cap : Nat) (hsm : Smalls s.steps) (hrow : RowIn stpK 38 w ao s.steps) :
    Calls Try.prog 75 #[sgV s ao cap] w fun e w' => e = .returned (.bool (Mc.sound s)) ∧ Only NoBlock w w' := by
  obtain ⟨l, st, cu, fa⟩ := s
  simp only at hsm hrow
  have hn64 := hsm.1
  have hA := (Only.refl NoBlock w).alloc (Obj.cells #[.slice ao l.length cap, .int .i64 st, .int .i64 cu, .int .i64 fa] 63)
  have hB := Blk.made w #[.slice ao l.length cap, .int .i64 st, .int .i64 cu, .int .i64 fa] 63
  have hrA := hrow.keepsN hA
  have hck := checkS_at _ ao cap l hrA hsm
  show Calls Try.prog 75 #[.agg #[.slice ao l.length cap, .int .i64 st, .int .i64 cu, .int .i64 fa]] w _
  go_enter Try.func75, Try.ntmps75
  go_wp2_with fail
  refine hck.mono ?_
  rintro e w2 ⟨rfl, hO2⟩
  have hB2 := hB.keeps hO2 (fun h => h)
  have hr2 := hrA.keepsN hO2
  have hO := hA.trans hO2
  have c0 := hB2.cell 0
  have c1 := hB2.cell 1
  have c2 := hB2.cell 2
  have c3 := hB2.cell 3
  simp only [List.getElem?_toArray, List.getElem?_cons_succ, List.getElem?_cons_zero] at c0 c1 c2 c3
  generalize w.heap.size = S at c0 c1 c2 c3 ⊢
  clear hck hrA hA hB hO2 hB2 hrow hsm
  cases hok : Pk.okSs l with
  | false =>
    have HB : RowKit.Hid (Mc.sound ⟨l, st, cu, fa⟩ = false) := Lib.hid (by unfold Mc.sound; simp [hok])
    clear hok
    go_wp2_with fail
    go_ret
    exact ⟨by rw [HB.out]; rfl, hO⟩
  | true =>
  by_cases hf0 : fa < 0
  · have df : decide (fa < 0) = true := by simp; omega
    have HB : RowKit.Hid (Mc.sound ⟨l, st, cu, fa⟩ = false) := Lib.hid (by unfold Mc.sound; simp [hok]; intro; omega)
    clear hok hf0
    go_wp2_with fail
    go_ret
    exact ⟨by rw [HB.out]; rfl, hO⟩
  have df : decide (fa < 0) = false := by simp; omega
  by_cases s1 : st = 1
  · subst s1
    clear hr2
    by_cases h0 : 0 ≤ cu
    · have dh0 : decide (0 ≤ cu) = true := by simp; omega
      by_cases h1 : cu < l.length
      · have dh1 : decide (cu < (l.length : Int)) = true := by simp; omega
        by_cases h2 : fa = 0
        · have dh2 : (fa == 0) = true := by simp; omega
          have HB : RowKit.Hid (Mc.sound ⟨l, 1, cu, fa⟩ = true) := Lib.hid (by unfold Mc.sound Mc.within; simp [hok, h0, h1, h2]; try omega)
          clear hok hf0 h0 h1 h2
          go_wp2_with fail
          go_ret
          exact ⟨by rw [HB.out]; rfl, hO⟩
        · have dh2 : (fa == 0) = false := by simp; omega
          have HB : RowKit.Hid (Mc.sound ⟨l, 1, cu, fa⟩ = false) := Lib.hid (by unfold Mc.sound Mc.within; simp [hok, h0, h1, h2]; try omega)
          clear hok hf0 h0 h1 h2
          go_wp2_with fail
          go_ret
          exact ⟨by rw [HB.out]; rfl, hO⟩
      · have dh1 : decide (cu < (l.length : Int)) = false := by simp; omega
        have HB : RowKit.Hid (Mc.sound ⟨l, 1, cu, fa⟩ = false) := Lib.hid (by unfold Mc.sound Mc.within; simp [hok, h0, h1]; try omega)
        clear hok hf0 h0 h1
        go_wp2_with fail
        go_ret
        exact ⟨by rw [HB.out]; rfl, hO⟩
    · have dh0 : decide (0 ≤ cu) = false := by simp; omega
      have HB : RowKit.Hid (Mc.sound ⟨l, 1, cu, fa⟩ = false) := Lib.hid (by unfold Mc.sound Mc.within; simp [hok, h0]; try omega)
      clear hok hf0 h0
      go_wp2_with fail
      go_ret
      exact ⟨by rw [HB.out]; rfl, hO⟩
  by_cases s2 : st = 2
  · subst s2
    clear s1
    by_cases h0 : 0 ≤ cu
    · have dh0 : decide (0 ≤ cu) = true := by simp; omega
      by_cases h1 : cu < l.length
      · have dh1 : decide (cu < (l.length : Int)) = true := by simp; omega
        obtain ⟨k, rfl⟩ : ∃ k : Nat, cu = k := ⟨cu.toNat, by omega⟩
        obtain ⟨b, off, rfl⟩ := hr2.shape (by omega)
        have hbc := budget_cell hr2 (k := k) (by omega) 2 fa
        have hkl : k < l.length := by omega
        have dh0 : decide (0 ≤ (k : Int)) = true := by simp
        have dh1 : decide (k < l.length) = true := by simpa using hkl
        generalize hbg : Mc.budgetAt ⟨l, 2, (k : Int), fa⟩ = bg at hbc
        have HBG := Lib.hid hbg
        clear hbg hr2 h0 h1
        by_cases h3 : fa < bg
        · have d3 : decide (fa < bg) = true := by simp; omega
          have HB : RowKit.Hid (Mc.sound ⟨l, 2, (k : Int), fa⟩ = true) := Lib.hid (by unfold Mc.sound Mc.within; rw [HBG.out]; simp [hok]; omega)
          clear hok hf0 h3
          go_wp2_with fail
          go_quiet (fail)
          go_wp2_with fail
          go_ret
          exact ⟨by rw [HB.out]; rfl, hO.drewN _⟩
        · have d3 : decide (fa < bg) = false := by simp; omega
          have HB : RowKit.Hid (Mc.sound ⟨l, 2, (k : Int), fa⟩ = false) := Lib.hid (by unfold Mc.sound Mc.within; rw [HBG.out]; simp [hok]; omega)
          clear hok hf0 h3
          go_wp2_with fail
          go_quiet (fail)
          go_wp2_with fail
          go_ret
          exact ⟨by rw [HB.out]; rfl, hO.drewN _⟩
      · have dh1 : decide (cu < (l.length : Int)) = false := by simp; omega
        have HB : RowKit.Hid (Mc.sound ⟨l, 2, cu, fa⟩ = false) := Lib.hid (by unfold Mc.sound Mc.within; simp [hok]; omega)
        clear hok hf0 hr2 h0 h1
        go_wp2_with fail
        go_quiet (fail)
        go_wp2_with fail
        go_ret
        exact ⟨by rw [HB.out]; rfl, hO.drewN _⟩
    · have dh0 : decide (0 ≤ cu) = false := by simp; omega
      have HB : RowKit.Hid (Mc.sound ⟨l, 2, cu, fa⟩ = false) := Lib.hid (by unfold Mc.sound Mc.within; simp [hok]; omega)
      clear hok hf0 hr2 h0
      go_wp2_with fail
      go_quiet (fail)
      go_wp2_with fail
      go_ret
      exact ⟨by rw [HB.out]; rfl, hO.drewN _⟩
  by_cases s3 : st = 3
  · subst s3
    clear hr2 s1 s2
    by_cases h0 : cu = l.length
    · have dh0 : (cu == (l.length : Int)) = true := by simp; omega
      by_cases h2 : fa = 0
      · have dh2 : (fa == 0) = true := by simp; omega
        have HB : RowKit.Hid (Mc.sound ⟨l, 3, cu, fa⟩ = true) := Lib.hid (by unfold Mc.sound Mc.within; simp [hok, h0, h2]; try omega)
        clear hok hf0 h0 h2
        go_wp2_with fail
        go_ret
        exact ⟨by rw [HB.out]; rfl, hO⟩
      · have dh2 : (fa == 0) = false := by simp; omega
        have HB : RowKit.Hid (Mc.sound ⟨l, 3, cu, fa⟩ = false) := Lib.hid (by unfold Mc.sound Mc.within; simp [hok, h0, h2]; try omega)
        clear hok hf0 h0 h2
        go_wp2_with fail
        go_ret
        exact ⟨by rw [HB.out]; rfl, hO⟩
    · have dh0 : (cu == (l.length : Int)) = false := by simp; omega
      have HB : RowKit.Hid (Mc.sound ⟨l, 3, cu, fa⟩ = false) := Lib.hid (by unfold Mc.sound Mc.within; simp [hok, h0]; try omega)
      clear hok hf0 h0
      go_wp2_with fail
      go_ret
      exact ⟨by rw [HB.out]; rfl, hO⟩
  by_cases s4 : st = 4
  · subst s4
    clear hr2 s1 s2 s3
    by_cases h0 : cu = 0
    · have dh0 : (cu == 0) = true := by simp; omega
      by_cases h2 : fa = 0
      · have dh2 : (fa == 0) = true := by simp; omega
        have HB : RowKit.Hid (Mc.sound ⟨l, 4, cu, fa⟩ = true) := Lib.hid (by unfold Mc.sound Mc.within; simp [hok, h0, h2]; try omega)
        clear hok hf0 h0 h2
        go_wp2_with fail
        go_ret
        exact ⟨by rw [HB.out]; rfl, hO⟩
      · have dh2 : (fa == 0) = false := by simp; omega
        have HB : RowKit.Hid (Mc.sound ⟨l, 4, cu, fa⟩ = false) := Lib.hid (by unfold Mc.sound Mc.within; simp [hok, h0, h2]; try omega)
        clear hok hf0 h0 h2
        go_wp2_with fail
        go_ret
        exact ⟨by rw [HB.out]; rfl, hO⟩
    · have dh0 : (cu == 0) = false := by simp; omega
      have HB : RowKit.Hid (Mc.sound ⟨l, 4, cu, fa⟩ = false) := Lib.hid (by unfold Mc.sound Mc.within; simp [hok, h0]; try omega)
      clear hok hf0 h0
      go_wp2_with fail
      go_ret
      exact ⟨by rw [HB.out]; rfl, hO⟩
  by_cases s5 : st = 5
  · subst s5
    clear s1 s2 s3 s4
    by_cases h0 : 0 ≤ cu
    · have dh0 : decide (0 ≤ cu) = true := by simp; omega
      by_cases h1 : cu < l.length
      · have dh1 : decide (cu < (l.length : Int)) = true := by simp; omega
        obtain ⟨k, rfl⟩ : ∃ k : Nat, cu = k := ⟨cu.toNat, by omega⟩
        obtain ⟨b, off, rfl⟩ := hr2.shape (by omega)
        have hbc := budget_cell hr2 (k := k) (by omega) 5 fa
        have hkl : k < l.length := by omega
        have dh0 : decide (0 ≤ (k : Int)) = true := by simp
        have dh1 : decide (k < l.length) = true := by simpa using hkl
        generalize hbg : Mc.budgetAt ⟨l, 5, (k : Int), fa⟩ = bg at hbc
        have HBG := Lib.hid hbg
        clear hbg hr2 h0 h1
        by_cases h3 : fa = bg
        · have d3 : (fa == bg) = true := by simp; omega
          have HB : RowKit.Hid (Mc.sound ⟨l, 5, (k : Int), fa⟩ = true) := Lib.hid (by unfold Mc.sound Mc.within; rw [HBG.out]; simp [hok]; omega)
          clear hok hf0 h3
          go_wp2_with fail
          go_quiet (fail)
          go_wp2_with fail
          go_ret
          exact ⟨by rw [HB.out]; rfl, hO.drewN _⟩
        · have d3 : (fa == bg) = false := by simp; omega
          have HB : RowKit.Hid (Mc.sound ⟨l, 5, (k : Int), fa⟩ = false) := Lib.hid (by unfold Mc.sound Mc.within; rw [HBG.out]; simp [hok]; omega)
          clear hok hf0 h3
          go_wp2_with fail
          go_quiet (fail)
          go_wp2_with fail
          go_ret
          exact ⟨by rw [HB.out]; rfl, hO.drewN _⟩
      · have dh1 : decide (cu < (l.length : Int)) = false := by simp; omega
        have HB : RowKit.Hid (Mc.sound ⟨l, 5, cu, fa⟩ = false) := Lib.hid (by unfold Mc.sound Mc.within; simp [hok]; omega)
        clear hok hf0 hr2 h0 h1
        go_wp2_with fail
        go_quiet (fail)
        go_wp2_with fail
        go_ret
        exact ⟨by rw [HB.out]; rfl, hO.drewN _⟩
    · have dh0 : decide (0 ≤ cu) = false := by simp; omega
      have HB : RowKit.Hid (Mc.sound ⟨l, 5, cu, fa⟩ = false) := Lib.hid (by unfold Mc.sound Mc.within; simp [hok]; omega)
      clear hok hf0 hr2 h0
      go_wp2_with fail
      go_quiet (fail)
      go_wp2_with fail
      go_ret
      exact ⟨by rw [HB.out]; rfl, hO.drewN _⟩
  have HB : RowKit.Hid (Mc.sound ⟨l, st, cu, fa⟩ = false) := Lib.hid (by unfold Mc.sound; simp [hok, s1, s2, s3, s4, s5])
  have e1 : (st == 1) = false := by simp; omega
  have e2 : (st == 2) = false := by simp; omega
  have e3 : (st == 3) = false := by simp; omega
  have e4 : (st == 4) = false := by simp; omega
  have e5 : (st == 5) = false := by simp; omega
  clear hok hf0 hr2 s1 s2 s3 s4 s5
  go_wp2_with fail
  go_ret
  exact ⟨by rw [HB.out]; rfl, hO⟩
end Go.Proofs.Ytogeeeigfhmpmaa
