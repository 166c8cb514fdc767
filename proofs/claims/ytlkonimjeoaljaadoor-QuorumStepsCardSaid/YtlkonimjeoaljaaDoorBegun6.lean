/- The anchor of the quorum's statements holds. -/
import Derived.Test.YtlkonimjeoaljaaDoorReached
import Derived.Test.YtlkonimjeoaljaaDoorRef6
namespace Go.Proofs.YtlkonimjeoaljaaDoor
open Go.RowKit Go.Sort

namespace Bg6
theorem vals7 : Qu.vals 7 [5, 3, 9] = [5, 3, 9] := by decide +kernel
theorem desc3 : Sd.desc [5, 3, 9] = [9, 5, 3] := by
  simp [Sd.desc, List.mergeSort, List.MergeSort.Internal.splitInTwo, List.merge]
theorem pop7 : Qu.pop (7 % 128) / 2 = 1 := by decide +kernel
theorem r7 : Qu.reachN 7 [5, 3, 9] = 5 := by
  unfold Qu.reachN
  rw [vals7, desc3, pop7]
  rfl
theorem c1 : Qu.chg 1 false 0 = (0, 32) := by decide +kernel
theorem n7 : Qu.needN 7 = 2 := by decide +kernel
theorem m5 : Qu.majB 7 5 = true := by decide +kernel
theorem m4 : Qu.majB 7 4 = false := by decide +kernel
end Bg6

set_option maxRecDepth 100000 in
set_option maxHeartbeats 2000000 in
theorem begun6_ok (w : World) (ht : Qu.TabOk w) :
    Calls Tryd.prog 9 #[] w fun e w' => e = .returned (.bool true) ∧ Only NoBlock w w' := by
  go_enter Tryd.func9, Tryd.ntmps9
  go_wp2_with fail
  refine (change_at w 1 (by decide) false 0).mono ?_
  rintro e w1 ⟨rfl, rfl⟩
  rw [Bg6.c1]
  go_wp2_with fail
  refine (need_at w 7 (by decide)).mono ?_
  rintro e w1 ⟨rfl, rfl⟩
  rw [Bg6.n7]
  go_wp2_with fail
  have ho0 : Only NoBlock w (w.alloc (.cells #[.int .u64 5, .int .u64 3, .int .u64 9] 22)) := (Only.refl _ _).alloc _
  have hU : U64In (w.alloc (.cells #[.int .u64 5, .int .u64 3, .int .u64 9] 22)) (some ⟨w.heap.size, 0, none⟩) [5, 3, 9] :=
    ⟨by decide, by decide, fun i hi => ⟨_, _, rfl, by
      have h3 : i = 0 ∨ i = 1 ∨ i = 2 := by simp at hi; omega
      rcases h3 with rfl | rfl | rfl <;> (rw [(Blk.made w _ _).cell]; rfl)⟩⟩
  refine (reached_at _ 7 (by decide) [5, 3, 9] _ 3 hU (ht.keeps ho0 (fun h => h))).mono ?_
  rintro e w2 ⟨rfl, ho2⟩
  rw [Bg6.r7]
  go_wp2_with fail
  refine (majority_at w2 7 5 (by decide) (by decide)).mono ?_
  rintro e w3 ⟨rfl, rfl⟩
  rw [Bg6.m5]
  go_wp2_with fail
  refine (majority_at w2 7 4 (by decide) (by decide)).mono ?_
  rintro e w3 ⟨rfl, rfl⟩
  rw [Bg6.m4]
  go_wp2_with fail
  go_ret
  exact ⟨rfl, ho0.trans ho2⟩

end Go.Proofs.YtlkonimjeoaljaaDoor
