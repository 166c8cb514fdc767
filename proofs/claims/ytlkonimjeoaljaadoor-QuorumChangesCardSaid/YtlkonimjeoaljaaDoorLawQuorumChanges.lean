/- A member more or fewer is taken, or refused, as the document has it: the walk of the law. -/
import Derived.Test.YtlkonimjeoaljaaDoorBegun6
import Derived.Test.YtlkonimjeoaljaaDoorRchange6
namespace Go.Proofs.YtlkonimjeoaljaaDoor
open Go.RowKit

set_option maxRecDepth 100000 in
set_option maxHeartbeats 2000000 in
theorem walk_changes (w : World) (c : Nat) (hc : c < 2 ^ 64) (add : Bool) (id : Int) (ht : Qu.TabOk w) :
    Calls Tryd.prog 8 #[.int .u64 c, .bool add, .int .i64 id] w fun e w' => e = .returned (.bool true) ∧ Only NoBlock w w' := by
  have hcs := Qu.chg_cases c add id
  rcases hcs with hch | hch | ⟨k, hk, hid, h0, hc8, hdc, hd0, hd8, hch, hbk, hsd, hhas⟩
  · have HC := Lib.hid hch
    clear hch
    go_enter Tryd.func8, Tryd.ntmps8
    go_wp2_with fail
    refine (begun6_ok w ht).mono ?_
    rintro e w1 ⟨rfl, ho1⟩
    go_wp2_with fail
    refine (change_at w1 c hc add id).mono ?_
    rintro e w2 ⟨rfl, rfl⟩
    rw [HC.out]
    go_wp2_with fail
    refine (rchange_at w1 c hc add id).mono ?_
    rintro e w2 ⟨rfl, ho2⟩
    rw [HC.out]
    go_wp2_with fail
    go_ret
    exact ⟨rfl, ho1.trans ho2⟩
  · have HC := Lib.hid hch
    clear hch
    go_enter Tryd.func8, Tryd.ntmps8
    go_wp2_with fail
    refine (begun6_ok w ht).mono ?_
    rintro e w1 ⟨rfl, ho1⟩
    go_wp2_with fail
    refine (change_at w1 c hc add id).mono ?_
    rintro e w2 ⟨rfl, rfl⟩
    rw [HC.out]
    go_wp2_with fail
    refine (rchange_at w1 c hc add id).mono ?_
    rintro e w2 ⟨rfl, ho2⟩
    rw [HC.out]
    go_wp2_with fail
    go_ret
    exact ⟨rfl, ho1.trans ho2⟩
  · generalize Qu.turned c add k = d at hdc hd0 hd8 hch hbk hsd hhas
    have HC := Lib.hid hch
    have HBK := Lib.hid hbk
    have HSD := Lib.hid hsd
    have HHAS := Lib.hid hhas
    have HID := Lib.hid hid
    clear hch hbk hsd hhas hid
    go_enter Tryd.func8, Tryd.ntmps8
    go_wp2_with fail
    refine (begun6_ok w ht).mono ?_
    rintro e w1 ⟨rfl, ho1⟩
    go_wp2_with fail
    refine (change_at w1 c hc add id).mono ?_
    rintro e w2 ⟨rfl, rfl⟩
    rw [HC.out]
    go_wp2_with fail
    refine (rchange_at w1 c hc add id).mono ?_
    rintro e w2 ⟨rfl, ho2⟩
    rw [HC.out]
    go_wp2_with fail
    refine (change_at w2 d (by omega) (!add) id).mono ?_
    rintro e w3 ⟨rfl, rfl⟩
    rw [HBK.out]
    go_wp2_with fail
    refine (sound_at w2 d (by omega)).mono ?_
    rintro e w3 ⟨rfl, rfl⟩
    rw [HSD.out]
    go_wp2_with fail
    refine (has_at w2 d (by omega) id).mono ?_
    rintro e w3 ⟨rfl, rfl⟩
    rw [HHAS.out]
    go_wp2_with fail
    go_ret
    exact ⟨by simp, ho1.trans ho2⟩

theorem walk_QuorumChanges {w : World} (c : Nat) (hc : c < 2 ^ 64) (add : Bool) (id : Int) (_hid : (Lit.int .i64 id).wf = true) (ht : Qu.TabOk w) :
    Calls Tryd.prog 8 #[.int .u64 c, .bool add, .int .i64 id] w fun e w' => e = .returned (.bool true) ∧ Below w.heap.size w w' :=
  (walk_changes w c hc add id ht).mono fun _ _ ⟨he, ho⟩ => ⟨he, ho.below (Nat.le_refl _) (fun _ h => h.elim)⟩

end Go.Proofs.YtlkonimjeoaljaaDoor
