/- Two majorities of a set meet, and so do those of a set and of one that is a member apart: the walk of the law. -/
import Derived.Test.YtlkonimjeoaljaaDoorBegun6
import Derived.Test.YtlkonimjeoaljaaDoorPlain6
import Derived.Test.YtlkonimjeoaljaaDoorOpen6
namespace Go.Proofs.YtlkonimjeoaljaaDoor
open Go.RowKit

set_option maxRecDepth 100000 in
set_option maxHeartbeats 4000000 in
theorem walk_meets (w : World) (c a b : Nat) (hc : c < 2 ^ 64) (ha : a < 2 ^ 64) (hb : b < 2 ^ 64) (add : Bool) (id : Int) (ht : Qu.TabOk w) :
    Calls Tryd.prog 4 #[.agg #[.int .u64 c, .int .u64 a, .int .u64 b], .bool add, .int .i64 id] w fun e w' => e = .returned (.bool true) ∧ Only NoBlock w w' := by
  have hcs := Qu.chg_cases c add id
  have hm1 : Qu.soundB c = true → Qu.majB c a = true → Qu.majB c b = true → (a &&& b) &&& c ≠ 0 := by
    intro hs h1 h2
    unfold Qu.soundB at hs
    simp only [decide_eq_true_eq] at hs
    exact Qu.meets_one hs.2 h1 h2
  have HM1 := Lib.hid hm1
  have HCS := Lib.hid hcs
  clear hm1 hcs
  have hab := Qu.and_nat ha hb
  have hab64 : a &&& b < 2 ^ 64 := Nat.lt_of_le_of_lt Nat.and_le_left ha
  have habc := Qu.and_nat hab64 hc
  have habc64 : (a &&& b) &&& c < 2 ^ 64 := Nat.lt_of_le_of_lt Nat.and_le_left hab64
  have HAB := Lib.hid hab
  have HABC := Lib.hid habc
  clear hab habc
  have ho0 : Only NoBlock w (w.alloc (.cells #[.int .u64 c, .int .u64 a, .int .u64 b] 27)) := (Only.refl _ _).alloc _
  have c0 : (w.alloc (.cells #[.int .u64 c, .int .u64 a, .int .u64 b] 27)).cell? ⟨w.heap.size, 0, none⟩ = some (.int .u64 c) := by rw [(Blk.made w _ _).cell]; rfl
  have c1 : (w.alloc (.cells #[.int .u64 c, .int .u64 a, .int .u64 b] 27)).cell? ⟨w.heap.size, 1, none⟩ = some (.int .u64 a) := by rw [(Blk.made w _ _).cell]; rfl
  have c2 : (w.alloc (.cells #[.int .u64 c, .int .u64 a, .int .u64 b] 27)).cell? ⟨w.heap.size, 2, none⟩ = some (.int .u64 b) := by rw [(Blk.made w _ _).cell]; rfl
  go_enter Tryd.func4, Tryd.ntmps4
  go_wp2_with fail
  go_quiet (fail)
  go_wp2_with fail
  refine (begun6_ok _ (ht.keeps (ho0.drewN nq) (fun h => h))).mono ?_
  rintro e w1 ⟨rfl, ho1⟩
  have hO := (ho0.drewN nq).trans ho1
  clear c0 c1 c2 ho0 ho1
  go_wp2_with fail
  refine (sound_at w1 c hc).mono ?_
  rintro e w2 ⟨rfl, rfl⟩
  cases hsb : Qu.soundB c with
  | false =>
    have HS := Lib.hid hsb
    clear hsb
    go_wp2_with fail
    go_ret
    exact ⟨rfl, hO⟩
  | true =>
    have HS := Lib.hid hsb
    clear hsb
    go_wp2_with fail
    refine (majority_at w1 c a hc ha).mono ?_
    rintro e w2 ⟨rfl, rfl⟩
    cases hma : Qu.majB c a with
    | false =>
      have HMA := Lib.hid hma
      clear hma
      go_wp2_with fail
      rcases HCS.out with hch | hch | ⟨k, hk, hid, h0, hc8, hdc, hd0, hd8, hch, -, -, -⟩
      · have HCH := Lib.hid hch
        clear hch
        refine (change_at w1 c hc add id).mono ?_
        rintro e w3 ⟨rfl, rfl⟩
        rw [HCH.out]
        go_wp2_with fail
        go_ret
        exact ⟨rfl, hO⟩
      · have HCH := Lib.hid hch
        clear hch
        refine (change_at w1 c hc add id).mono ?_
        rintro e w3 ⟨rfl, rfl⟩
        rw [HCH.out]
        go_wp2_with fail
        go_ret
        exact ⟨rfl, hO⟩
      · obtain ⟨d, htd⟩ : ∃ d, Qu.turned c add k = d := ⟨_, rfl⟩
        rw [htd] at hdc hd0 hd8 hch
        have HT := Lib.hid htd
        clear htd
        have HCH := Lib.hid hch
        have HID := Lib.hid hid
        clear hch hid
        refine (change_at w1 c hc add id).mono ?_
        rintro e w3 ⟨rfl, rfl⟩
        rw [HCH.out]
        go_wp2_with fail
        refine (majority_at w1 c a hc ha).mono ?_
        rintro e w3 ⟨rfl, rfl⟩
        rw [HMA.out]
        go_wp2_with fail
        go_ret
        exact ⟨rfl, hO⟩
    | true =>
      have HMA := Lib.hid hma
      clear hma
      go_wp2_with fail
      refine (majority_at w1 c b hc hb).mono ?_
      rintro e w2 ⟨rfl, rfl⟩
      cases hmb : Qu.majB c b with
      | false =>
        have HMB := Lib.hid hmb
        clear hmb
        go_wp2_with fail
        rcases HCS.out with hch | hch | ⟨k, hk, hid, h0, hc8, hdc, hd0, hd8, hch, -, -, -⟩
        · have HCH := Lib.hid hch
          clear hch
          refine (change_at w1 c hc add id).mono ?_
          rintro e w3 ⟨rfl, rfl⟩
          rw [HCH.out]
          go_wp2_with fail
          go_ret
          exact ⟨rfl, hO⟩
        · have HCH := Lib.hid hch
          clear hch
          refine (change_at w1 c hc add id).mono ?_
          rintro e w3 ⟨rfl, rfl⟩
          rw [HCH.out]
          go_wp2_with fail
          go_ret
          exact ⟨rfl, hO⟩
        · obtain ⟨d, htd⟩ : ∃ d, Qu.turned c add k = d := ⟨_, rfl⟩
          rw [htd] at hdc hd0 hd8 hch
          have HT := Lib.hid htd
          clear htd
          have HCH := Lib.hid hch
          have HID := Lib.hid hid
          clear hch hid
          refine (change_at w1 c hc add id).mono ?_
          rintro e w3 ⟨rfl, rfl⟩
          rw [HCH.out]
          go_wp2_with fail
          refine (majority_at w1 c a hc ha).mono ?_
          rintro e w3 ⟨rfl, rfl⟩
          rw [HMA.out]
          go_wp2_with fail
          have hd64 : d < 2 ^ 64 := by omega
          refine (majority_at w1 d b hd64 hb).mono ?_
          rintro e w3 ⟨rfl, rfl⟩
          cases hmd : Qu.majB d b with
          | false =>
            have HMD := Lib.hid hmd
            clear hmd
            go_wp2_with fail
            go_ret
            exact ⟨rfl, hO⟩
          | true =>
            have h4 := Qu.meets_two hc8 hk HT.out hd8 hdc HMA.out hmd
            have habcd := Qu.and_nat habc64 hd64
            have h5 : bits .and .u64 (bits .and .u64 (bits .and .u64 (a : Int) (b : Int)) (c : Int)) (d : Int) ≠ 0 := by
              rw [HAB.out, HABC.out, habcd]; omega
            have h6 : (bits .and .u64 (bits .and .u64 (bits .and .u64 (a : Int) (b : Int)) (c : Int)) (d : Int) != 0) = true := by simp [h5]
            clear hmd habcd h4 h5
            go_wp2_with fail
            go_ret
            exact ⟨rfl, hO⟩
      | true =>
        have h3 := HM1.out HS.out HMA.out hmb
        have HMB := Lib.hid hmb
        have h3' : (bits .and .u64 (bits .and .u64 (a : Int) (b : Int)) (c : Int) == 0) = false := by
          rw [HAB.out, HABC.out]; simp only [beq_eq_false_iff_ne, ne_eq]; omega
        clear hmb h3
        go_wp2_with fail
        rcases HCS.out with hch | hch | ⟨k, hk, hid, h0, hc8, hdc, hd0, hd8, hch, -, -, -⟩
        · have HCH := Lib.hid hch
          clear hch
          refine (change_at w1 c hc add id).mono ?_
          rintro e w3 ⟨rfl, rfl⟩
          rw [HCH.out]
          go_wp2_with fail
          go_ret
          exact ⟨rfl, hO⟩
        · have HCH := Lib.hid hch
          clear hch
          refine (change_at w1 c hc add id).mono ?_
          rintro e w3 ⟨rfl, rfl⟩
          rw [HCH.out]
          go_wp2_with fail
          go_ret
          exact ⟨rfl, hO⟩
        · obtain ⟨d, htd⟩ : ∃ d, Qu.turned c add k = d := ⟨_, rfl⟩
          rw [htd] at hdc hd0 hd8 hch
          have HT := Lib.hid htd
          clear htd
          have HCH := Lib.hid hch
          have HID := Lib.hid hid
          clear hch hid
          refine (change_at w1 c hc add id).mono ?_
          rintro e w3 ⟨rfl, rfl⟩
          rw [HCH.out]
          go_wp2_with fail
          refine (majority_at w1 c a hc ha).mono ?_
          rintro e w3 ⟨rfl, rfl⟩
          rw [HMA.out]
          go_wp2_with fail
          have hd64 : d < 2 ^ 64 := by omega
          refine (majority_at w1 d b hd64 hb).mono ?_
          rintro e w3 ⟨rfl, rfl⟩
          cases hmd : Qu.majB d b with
          | false =>
            have HMD := Lib.hid hmd
            clear hmd
            go_wp2_with fail
            go_ret
            exact ⟨rfl, hO⟩
          | true =>
            have h4 := Qu.meets_two hc8 hk HT.out hd8 hdc HMA.out hmd
            have habcd := Qu.and_nat habc64 hd64
            have h5 : bits .and .u64 (bits .and .u64 (bits .and .u64 (a : Int) (b : Int)) (c : Int)) (d : Int) ≠ 0 := by
              rw [HAB.out, HABC.out, habcd]; omega
            have h6 : (bits .and .u64 (bits .and .u64 (bits .and .u64 (a : Int) (b : Int)) (c : Int)) (d : Int) != 0) = true := by simp [h5]
            clear hmd habcd h4 h5
            go_wp2_with fail
            go_ret
            exact ⟨rfl, hO⟩

theorem walk_QuorumMeets {w : World} (x : Nat × Nat × Nat) (hx : x.1 < 2 ^ 64 ∧ x.2.1 < 2 ^ 64 ∧ x.2.2 < 2 ^ 64) (add : Bool) (id : Int) (_hid : (Lit.int .i64 id).wf = true) (ht : Qu.TabOk w) :
    Calls Tryd.prog 4 #[.agg #[.int .u64 x.1, .int .u64 x.2.1, .int .u64 x.2.2], .bool add, .int .i64 id] w fun e w' => e = .returned (.bool true) ∧ Below w.heap.size w w' :=
  (walk_meets w x.1 x.2.1 x.2.2 hx.1 hx.2.1 hx.2.2 add id ht).mono fun _ _ ⟨he, ho⟩ => ⟨he, ho.below (Nat.le_refl _) (fun _ h => h.elim)⟩

end Go.Proofs.YtlkonimjeoaljaaDoor
