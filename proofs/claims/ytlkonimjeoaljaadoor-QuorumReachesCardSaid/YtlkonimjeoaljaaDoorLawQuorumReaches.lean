/- What a majority has reached is told as the document has it: the walk of the law. -/
import Derived.Test.YtlkonimjeoaljaaDoorBegun6
import Derived.Test.YtlkonimjeoaljaaDoorRreached6
namespace Go.Proofs.YtlkonimjeoaljaaDoor
open Go.RowKit

theorem u64_nonneg {x : Int} (h : (Lit.int .u64 x).wf = true) : 0 ≤ x := by
  have h1 : (IntKind.u64).min = 0 := by decide
  have e : (Lit.int .u64 x).wf = (decide ((IntKind.u64).min ≤ x) && decide (x ≤ (IntKind.u64).max)) := rfl
  rw [e, h1] at h
  simp at h
  exact h.1

set_option maxRecDepth 100000 in
set_option maxHeartbeats 2000000 in
theorem walk_reaches (w : World) (c : Nat) (hc : c < 2 ^ 64) (l : List Int) (ao : Option Addr) (cap : Nat) (hl : U64In w ao l) (ht : Qu.TabOk w) :
    Calls Tryd.prog 3 #[.int .u64 c, .slice ao l.length cap] w fun e w' => e = .returned (.bool true) ∧ Only NoBlock w w' := by
  have hbe := Qu.best_eq c l (fun x hx => u64_nonneg (hl.wf x hx))
  have HBE := Lib.hid hbe
  clear hbe
  go_enter Tryd.func3, Tryd.ntmps3
  go_wp2_with fail
  refine (begun6_ok w ht).mono ?_
  rintro e w1 ⟨rfl, ho1⟩
  go_wp2_with fail
  refine (reached_at w1 c hc l ao cap (hl.stay ho1 (fun _ _ h => h)) (ht.keeps ho1 (fun h => h))).mono ?_
  rintro e w2 ⟨rfl, ho2⟩
  have hO := ho1.trans ho2
  go_wp2_with fail
  refine (rreached_at w2 c hc l ao cap (hl.stay hO (fun _ _ h => h))).mono ?_
  rintro e w3 ⟨rfl, ho3⟩
  rw [HBE.out]
  go_wp2_with fail
  go_ret
  exact ⟨by simp, hO.trans ho3⟩

theorem walk_QuorumReaches {w : World} (c : Nat) (hc : c < 2 ^ 64) (x : List Int × Option Addr × Nat) (hx : U64In w x.2.1 x.1) (ht : Qu.TabOk w) :
    Calls Tryd.prog 3 #[.int .u64 c, .slice x.2.1 x.1.length x.2.2] w fun e w' => e = .returned (.bool true) ∧ Below w.heap.size w w' :=
  (walk_reaches w c hc x.1 x.2.1 x.2.2 hx ht).mono fun _ _ ⟨he, ho⟩ => ⟨he, ho.below (Nat.le_refl _) (fun _ h => h.elim)⟩

end Go.Proofs.YtlkonimjeoaljaaDoor
