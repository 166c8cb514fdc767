/- A wheel that is none: the law's walk. -/
import Derived.Test.YtklpdkojffaiiaaBegun9
namespace Go.Proofs.Ytklpdkojffaiiaa
open Go.RowKit Go.Shelf
set_option maxRecDepth 100000

set_option maxHeartbeats 4000000 in
theorem walk9_none (w : World) (id d : Int) (hid : (Lit.int .i64 id).wf = true) :
    Calls Try.prog 8 #[.int .i64 id, .int .i64 d] w fun e w' => e = .returned (.bool true) ∧ Only NoBlock w w' := by
  go_enter Try.func8, Try.ntmps8
  go_wp2_with fail
  refine (begun9_ok w).mono ?_
  rintro e w1 ⟨rfl, o1⟩
  go_wp2_with fail
  refine (now_nil w1).mono ?_
  rintro e w2 ⟨rfl, rfl⟩
  go_wp2_with fail
  refine (len_nil w1).mono ?_
  rintro e w2 ⟨rfl, rfl⟩
  go_wp2_with fail
  refine (set_nil w1 id d).mono ?_
  rintro e w2 ⟨rfl, rfl⟩
  go_wp2_with fail
  refine (stop_nil w1 id).mono ?_
  rintro e w2 ⟨rfl, o2⟩
  go_wp2_with fail
  refine (due_nil w2).mono ?_
  rintro e w3 ⟨rfl, o3⟩
  go_wp2_with fail
  refine (tick_nil w3).mono ?_
  rintro e w4 ⟨rfl, rfl⟩
  go_wp2_with fail
  refine (new_i w3).mono ?_
  rintro e w4 ⟨p, rfl, h4, o4⟩
  go_wp2_with fail
  refine (set_i w4 _ p 0 _ [] 0 h4 id d hid (by decide) (by decide)).mono ?_
  rintro e w5 ⟨rfl, h5, o5⟩
  have hz4 := ((o1.trans o2).trans o3).size
  have hO : Only NoBlock w w5 := (((o1.trans o2).trans o3).trans o4).andThen o5 (fun i hi e => by have := e.1; omega)
  clear h5
  by_cases h1 : d < 1
  · have e1 : Wh.setA [] 0 0 id d = ([], 1, 0) := by unfold Wh.setA; rw [if_neg (by omega)]
    have hb1 : decide (1 ≤ d) = false := by simp; omega
    rw [e1]
    clear h1
    simp only
    go_wp2_with fail
    go_ret
    exact ⟨rfl, hO⟩
  · have hb1 : decide (1 ≤ d) = true := by simp; omega
    by_cases h2 : d ≤ 1048576
    · have e1 : Wh.setA [] 0 0 id d = (Wh.dropA [] id ++ [⟨id, 0 + d.toNat, 0 + 1⟩], 0, 0 + 1) := by unfold Wh.setA; rw [if_pos ⟨by omega, by omega⟩, if_neg (by simp)]
      have hb2 : decide (d ≤ 1048576) = true := by simpa using h2
      rw [e1]
      clear h1 h2
      simp only
      go_wp2_with fail
      go_ret
      exact ⟨rfl, hO⟩
    · have e1 : Wh.setA [] 0 0 id d = ([], 1, 0) := by unfold Wh.setA; rw [if_neg (by omega)]
      have hb2 : decide (d ≤ 1048576) = false := by simpa using h2
      rw [e1]
      clear h1 h2
      simp only
      go_wp2_with fail
      go_ret
      exact ⟨rfl, hO⟩
theorem walk_WheelNone (a0 : Int) (w0 : (Lit.int .i64 a0).wf = true) (a1 : Int) (_w1 : (Lit.int .i64 a1).wf = true) (w : World) :
    Calls Try.prog 8 #[.int .i64 a0, .int .i64 a1] w fun e w' => e = .returned (.bool true) ∧ Below w.heap.size w w' :=
  (walk9_none w a0 a1 w0).mono fun _ _ h => ⟨h.1, h.2.below (Nat.le_refl _) (fun _ h => h.elim)⟩
end Go.Proofs.Ytklpdkojffaiiaa
