/- Sets, members and majorities are told as the document has them: the walk of the law. -/
import Derived.Test.YtlkonimjeoaljaaDoorBegun6
namespace Go.Proofs.YtlkonimjeoaljaaDoor
open Go.RowKit

namespace Qu
theorem mem_wf (m : Nat) : ∀ x ∈ mem m, (Lit.int .i64 x).wf = true := by
  intro x hx
  have h := mem_range m x hx
  obtain ⟨n, rfl⟩ := Int.eq_ofNat_of_zero_le h.1
  have h7 : n = 0 ∨ n = 1 ∨ n = 2 ∨ n = 3 ∨ n = 4 ∨ n = 5 ∨ n = 6 := by omega
  rcases h7 with rfl | rfl | rfl | rfl | rfl | rfl | rfl <;> decide
end Qu

set_option maxRecDepth 100000 in
set_option maxHeartbeats 2000000 in
theorem walk_sets (w : World) (c s : Nat) (hc : c < 2 ^ 64) (hs : s < 2 ^ 64) (id : Int) (ht : Qu.TabOk w) :
    Calls Tryd.prog 7 #[.int .u64 c, .int .u64 s, .int .i64 id] w fun e w' => e = .returned (.bool true) ∧ Only NoBlock w w' := by
  have hml : (Qu.mem (c % 128)).length ≤ 7 := Qu.pop_le (c % 128)
  have hwf := Qu.mem_wf (c % 128)
  go_enter Tryd.func7, Tryd.ntmps7
  go_wp2_with fail
  refine (begun6_ok w ht).mono ?_
  rintro e w1 ⟨rfl, ho1⟩
  go_wp2_with fail
  refine (sound_at w1 c hc).mono ?_
  rintro e w2 ⟨rfl, rfl⟩
  generalize hSB : Qu.soundB c = sb
  have HSB := Lib.hid hSB
  clear hSB
  go_wp2_with fail
  refine (rsound_at w1 c hc).mono ?_
  rintro e w2 ⟨rfl, rfl⟩
  rw [HSB.out]
  go_wp2_with fail
  refine (has_at w1 c hc id).mono ?_
  rintro e w2 ⟨rfl, rfl⟩
  generalize hHB : Qu.hasB c id = hb
  have HHB := Lib.hid hHB
  clear hHB
  go_wp2_with fail
  refine (rhas6_at w1 c hc id).mono ?_
  rintro e w2 ⟨rfl, rfl⟩
  rw [HHB.out]
  go_wp2_with fail
  refine (members_at w1 c hc (ht.keeps ho1 (fun h => h))).mono ?_
  rintro e w2 ⟨v2, rfl, hm2, ho2⟩
  go_wp2_with fail
  refine (rmembers_at w2 c hc).mono ?_
  rintro e w3 ⟨v3, rfl, hm3, ho3⟩
  obtain ⟨a2, k2, rfl, hi2⟩ := (hm2.keeps' ho3 (fun _ _ h => h) : Ints _ _ _ _).read (by unfold maxLen; omega) hwf
  obtain ⟨a3, k3, rfl, hi3⟩ := Ints.read hm3 (by unfold maxLen; omega) hwf
  go_wp2_with fail
  refine (ints_at w3 a2 a3 k2 k3 _ _ hi2 hi3).mono ?_
  rintro e w4 ⟨rfl, q, rfl⟩
  have hdt : decide (Qu.mem (c % 128) = Qu.mem (c % 128)) = true := by simp
  rw [hdt]
  have hO : Only NoBlock w (w3.drewN q) := ((ho1.trans ho2).trans ho3).drewN q
  clear hi2 hi3 hm2 hm3 ho2 ho3 ho1 hdt
  generalize w3.drewN q = w4 at hO ⊢
  go_wp2_with fail
  refine (need_at w4 c hc).mono ?_
  rintro e w5 ⟨rfl, rfl⟩
  have hn7 : Qu.needN c ≤ 4 := by have := Qu.pop_le (c % 128); unfold Qu.needN; omega
  generalize hNN : Qu.needN c = nn at hn7 ⊢
  have HNN := Lib.hid hNN
  clear hNN
  go_wp2_with fail
  refine (rneed_at w4 c hc).mono ?_
  rintro e w5 ⟨rfl, ho5⟩
  rw [HNN.out]
  go_wp2_with fail
  refine (majority_at w5 c s hc hs).mono ?_
  rintro e w6 ⟨rfl, rfl⟩
  generalize hMB : Qu.majB c s = mb
  have HMB := Lib.hid hMB
  clear hMB
  go_wp2_with fail
  refine (rmajority_at w5 c s hc hs).mono ?_
  rintro e w6 ⟨rfl, ho6⟩
  rw [HMB.out]
  go_wp2_with fail
  go_ret
  exact ⟨by simp, (hO.trans ho5).trans ho6⟩

theorem walk_QuorumSets {w : World} (c : Nat) (hc : c < 2 ^ 64) (s : Nat) (hs : s < 2 ^ 64) (id : Int) (_hid : (Lit.int .i64 id).wf = true) (ht : Qu.TabOk w) :
    Calls Tryd.prog 7 #[.int .u64 c, .int .u64 s, .int .i64 id] w fun e w' => e = .returned (.bool true) ∧ Below w.heap.size w w' :=
  (walk_sets w c s hc hs id ht).mono fun _ _ ⟨he, ho⟩ => ⟨he, ho.below (Nat.le_refl _) (fun _ h => h.elim)⟩

end Go.Proofs.YtlkonimjeoaljaaDoor
