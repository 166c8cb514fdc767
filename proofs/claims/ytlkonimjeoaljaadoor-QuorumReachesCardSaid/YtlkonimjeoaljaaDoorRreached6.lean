/- The document's Reached: each number that is told is tried. -/
import Derived.Test.YtlkonimjeoaljaaDoorPlain6B
namespace Go.Proofs.YtlkonimjeoaljaaDoor
open Go.RowKit

theorem rhas6_at' (w : World) (c : Nat) (hc : c < 2 ^ 64) (id : Int) :
    Calls Tryd.prog 19 #[.int .u64 c, .int .i64 id] w fun e w' => e = .returned (.bool (Qu.hasB c id)) ∧ w' = w :=
  (rhas6_at w c hc id).mono fun _ _ ⟨he, hw⟩ => ⟨he, hw.symm⟩

set_option maxRecDepth 100000 in
set_option maxHeartbeats 4000000 in
theorem rreached_at (w : World) (c : Nat) (hc : c < 2 ^ 64) (l : List Int) (ao : Option Addr) (cap : Nat) (hl : U64In w ao l) :
    Calls Tryd.prog 11 #[.int .u64 c, .slice ao l.length cap] w fun e w' => e = .returned (.int .u64 (Qu.bestTo c l (min l.length 7) (min l.length 7))) ∧ Only NoBlock w w' := by
  have hlm := hl.len
  unfold maxLen at hlm
  obtain ⟨K, hK⟩ : ∃ K, min l.length 7 = K := ⟨_, rfl⟩
  have hK1 : K ≤ l.length := by omega
  have hK2 : K ≤ 7 := by omega
  rw [hK]
  have HK := Lib.hid hK
  clear hK
  go_enter Tryd.func11, Tryd.ntmps11
  go_wp2_with fail
  go_loopw [5, 6] (fun b i wr => ∃ k : Nat, k ≤ K ∧ i = .int .i64 k ∧ b = .int .u64 (Qu.bestTo c l K k) ∧ Only NoBlock w wr) (fun _ i _ => K - (intOf i).toNat)
  case atStart => exact ⟨0, by omega, rfl, rfl, Only.refl _ _⟩
  case round =>
    obtain ⟨k, hk, rfl, rfl, ho⟩ := hrel
    by_cases hlt : k < K
    · have hkl : k < l.length := by omega
      have hk7 : k < 7 := by omega
      obtain ⟨ba, oa, rfl, hci⟩ := (hl.stay ho (fun _ _ h => h)).cell k hkl
      have hbt : Qu.bestTo c l K (k + 1) = if ((c % 128).testBit k = true ∧ Qu.needN c ≤ Qu.cntTo c l (l.getD k 0) K) ∧ Qu.bestTo c l K k < l.getD k 0 then l.getD k 0 else Qu.bestTo c l K k := rfl
      rw [← Qu.hasB_bit hk7] at hbt
      generalize Qu.bestTo c l K k = best at hbt
      obtain ⟨x, hx⟩ : ∃ x, l.getD k 0 = x := ⟨_, rfl⟩
      rw [hx] at hci hbt
      have HX := Lib.hid hx
      clear hx
      have hd7 : decide ((k : Int) < 7) = true := by simp; omega
      have HBT := Lib.hid hbt
      clear hbt
      go_wp2_with fail
      go_loopw [7, 8] (fun n j wr2 => ∃ q : Nat, q ≤ K ∧ j = .int .i64 q ∧ n = .int .i64 (Qu.cntTo c l x q : Int) ∧ Only NoBlock w wr2) (fun _ j _ => K - (intOf j).toNat)
      case atStart => exact ⟨0, by omega, rfl, rfl, ho⟩
      case round =>
        clear hci
        obtain ⟨q, hq, rfl, rfl, ho2⟩ := hrel
        by_cases hqt : q < K
        · have hql : q < l.length := by omega
          have hq7 : q < 7 := by omega
          obtain ⟨b2, o2, e2, hcq⟩ := (hl.stay ho2 (fun _ _ h => h)).cell q hql
          obtain ⟨b3, o3, e3, hci⟩ := (hl.stay ho2 (fun _ _ h => h)).cell k hkl
          cases e2
          cases e3
          rw [HX.out] at hci
          have hsu := Qu.cntTo_succ c l x q
          have hcl := Qu.cntTo_le c l x q
          rw [← Qu.hasB_bit hq7] at hsu
          generalize l.getD q 0 = y at hcq hsu
          generalize Qu.cntTo c l x q = n at hsu hcl
          cases hb : Qu.hasB c q with
          | false =>
            rw [hb, Bool.false_and, if_neg (by decide)] at hsu
            replace hsu : Qu.cntTo c l x (q + 1) = n := hsu
            have HB := Lib.hid hb
            have HSU := Lib.hid hsu
            clear hb hsu
            go_wp2_with fail
            go_quiet ((go_at_call 19; exact Calls.quiet_of_same ((rhas6_at' _ c hc _).mono fun _ _ ⟨he, hw⟩ => ⟨by rw [he, HB.out], hw⟩)))
            go_wp2_with fail
            go_roundw
            case rel => first | exact ⟨q + 1, by omega, by go_num, by first | (rw [HSU.out]; done) | (rw [HSU.out]; go_num), ho2.drewN _⟩ | ((repeat apply Exists.intro); refine ⟨?_, rfl⟩; exact ⟨q + 1, by omega, by go_num, by first | (rw [HSU.out]; done) | (rw [HSU.out]; go_num), ho2.drewN _⟩)
            case measure => simp [intOf]; omega
          | true =>
            rw [hb, Bool.true_and] at hsu
            have HB := Lib.hid hb
            by_cases hxy : x ≤ y
            · rw [if_pos (by simpa using hxy)] at hsu
              have HSU := Lib.hid hsu
              have hd : decide (x ≤ y) = true := by simpa using hxy
              clear hb hsu
              go_wp2_with fail
              go_quiet ((go_at_call 19; exact Calls.quiet_of_same ((rhas6_at' _ c hc _).mono fun _ _ ⟨he, hw⟩ => ⟨by rw [he, HB.out], hw⟩)))
              go_wp2_with fail
              go_roundw
              case rel => first | exact ⟨q + 1, by omega, by go_num, by first | (rw [HSU.out]; done) | (rw [HSU.out]; go_num), ho2.drewN _⟩ | ((repeat apply Exists.intro); refine ⟨?_, rfl⟩; exact ⟨q + 1, by omega, by go_num, by first | (rw [HSU.out]; done) | (rw [HSU.out]; go_num), ho2.drewN _⟩)
              case measure => simp [intOf]; omega
            · rw [if_neg (by simpa using hxy)] at hsu
              replace hsu : Qu.cntTo c l x (q + 1) = n := hsu
              have HSU := Lib.hid hsu
              have hd : decide (x ≤ y) = false := by simpa using hxy
              clear hb hsu
              go_wp2_with fail
              go_quiet ((go_at_call 19; exact Calls.quiet_of_same ((rhas6_at' _ c hc _).mono fun _ _ ⟨he, hw⟩ => ⟨by rw [he, HB.out], hw⟩)))
              go_wp2_with fail
              go_roundw
              case rel => first | exact ⟨q + 1, by omega, by go_num, by first | (rw [HSU.out]; done) | (rw [HSU.out]; go_num), ho2.drewN _⟩ | ((repeat apply Exists.intro); refine ⟨?_, rfl⟩; exact ⟨q + 1, by omega, by go_num, by rw [HSU.out], ho2.drewN _⟩)
              case measure => simp [intOf]; omega
        · obtain rfl : q = K := by omega
          obtain ⟨b3, o3, e3, hci⟩ := (hl.stay ho2 (fun _ _ h => h)).cell k hkl
          cases e3
          rw [HX.out] at hci
          have hq7 : ¬ ((q : Int) < l.length) ∨ (q : Int) < l.length ∧ ¬ ((q : Int) < 7) := by have := HK.out; omega
          have hcle := Qu.cntTo_le c l x q
          have hneed : Qu.needN c ≤ 4 := by have := Qu.pop_le (c % 128); unfold Qu.needN; omega
          generalize Qu.cntTo c l x q = n at hcle HBT
          rcases hq7 with hq7 | ⟨hq7, hq8⟩
          all_goals
            cases hb : Qu.hasB c k with
            | false =>
              have HB := Lib.hid hb
              go_wp2_with fail
              refine (rhas6_at wr c hc k).mono ?_
              rintro e w3 ⟨rfl, rfl⟩
              rw [hb]
              clear hb
              go_wp2_with fail
              go_roundw
              case rel => exact ⟨k + 1, by omega, by go_num, by rw [HBT.out, if_neg (by rw [HB.out]; rintro ⟨⟨h, _⟩, _⟩; cases h)], ho2⟩
              case measure => simp [intOf]; omega
            | true =>
              have HB := Lib.hid hb
              go_wp2_with fail
              refine (rhas6_at wr c hc k).mono ?_
              rintro e w3 ⟨rfl, rfl⟩
              rw [hb]
              clear hb
              go_wp2_with fail
              refine (rneed_at wr c hc).mono ?_
              rintro e w3 ⟨rfl, ho3⟩
              have hO3 := ho2.trans ho3
              obtain ⟨b4, o4, e4, hci4⟩ := (hl.stay hO3 (fun _ _ h => h)).cell k hkl
              cases e4
              rw [HX.out] at hci4
              clear ho3
              generalize Qu.needN c = nd at hneed HBT
              by_cases hnd : nd ≤ n
              · have hd : decide ((nd : Int) ≤ (n : Int)) = true := by simp; omega
                by_cases hbx : best < x
                · have hd2 : decide (best < x) = true := by simpa using hbx
                  have HC := Lib.hid (And.intro hnd hbx)
                  go_wp2_with fail
                  go_roundw
                  case rel => exact ⟨k + 1, by omega, by go_num, by rw [HBT.out, if_pos ⟨⟨HB.out, HC.out.1⟩, HC.out.2⟩], hO3⟩
                  case measure => simp [intOf]; omega
                · have hd2 : decide (best < x) = false := by simpa using hbx
                  have HC : RowKit.Hid (¬ best < x) := Lib.hid hbx
                  go_wp2_with fail
                  go_roundw
                  case rel => exact ⟨k + 1, by omega, by go_num, by rw [HBT.out, if_neg (fun h => by have h1 := h.2; have := HC.out; omega)], hO3⟩
                  case measure => simp [intOf]; omega
              · have hd : decide ((nd : Int) ≤ (n : Int)) = false := by simp; omega
                have HC : RowKit.Hid (¬ nd ≤ n) := Lib.hid hnd
                go_wp2_with fail
                go_roundw
                case rel => exact ⟨k + 1, by omega, by go_num, by rw [HBT.out, if_neg (fun h => by have h1 := h.1.2; have := HC.out; omega)], hO3⟩
                case measure => simp [intOf]; omega
    · obtain rfl : k = K := by omega
      have hk7 : ¬ ((k : Int) < l.length) ∨ (k : Int) < l.length ∧ ¬ ((k : Int) < 7) := by have := HK.out; omega
      rcases hk7 with hk7 | ⟨hk7, hk8⟩
      · go_wp2_with fail
        go_ret
        exact ⟨rfl, ho⟩
      · go_wp2_with fail
        go_ret
        exact ⟨rfl, ho⟩

end Go.Proofs.YtlkonimjeoaljaaDoor
