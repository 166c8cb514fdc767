/- plan.Check: is it a saga's definition? -/
import Derived.Test.YtogeeeigfhmpmaaSteps
namespace Go.Proofs.Ytogeeeigfhmpmaa
open Go.RowKit
set_option maxRecDepth 100000

set_option maxHeartbeats 4000000 in
theorem check_at (w : World) (ao : Option Addr) (cap : Nat) (l : List StD) (h : StepsIn w ao l) :
    Calls Try.prog 77 #[.slice ao l.length cap] w fun e w' => e = .returned (.int .i64 (checkD l)) ∧ Only NoBlock w w' := by
  have hll := h.len
  unfold maxLen at hll
  go_enter Try.func77, Try.ntmps77
  by_cases h1 : l.length < 1
  · have hb : decide ((l.length : Int) < 1) = true := by rw [decide_eq_true_eq]; omega
    have HC : RowKit.Hid (checkD l = 44) := Lib.hid (by unfold checkD; rw [if_neg (by omega)])
    clear h1
    go_wp2_with fail
    go_ret
    exact ⟨by rw [HC.out]; rfl, Only.refl _ _⟩
  have hb : decide ((l.length : Int) < 1) = false := by rw [decide_eq_false_iff_not]; omega
  by_cases h2 : 64 < l.length
  · have hb2 : decide (64 < (l.length : Int)) = true := by rw [decide_eq_true_eq]; omega
    have HC : RowKit.Hid (checkD l = 44) := Lib.hid (by unfold checkD; rw [if_neg (by omega)])
    clear h1 h2
    go_wp2_with fail
    go_ret
    exact ⟨by rw [HC.out]; rfl, Only.refl _ _⟩
  have hb2 : decide (64 < (l.length : Int)) = false := by rw [decide_eq_false_iff_not]; omega
  have HL : RowKit.Hid (1 ≤ l.length ∧ l.length ≤ 64) := Lib.hid (by omega)
  clear h1 h2
  go_wp2_with fail
  go_loopw [15] (fun u15 wr => ∃ k : Nat, k ≤ l.length ∧ u15 = .int .i64 k ∧ RowKit.Hid (∀ j (hj : j < l.length), j < k → l[j].ok = true) ∧ Only NoBlock w wr) (fun u15 _ => l.length - (intOf u15).toNat)
  case atStart => exact ⟨0, by omega, rfl, Lib.hid (fun j _ hj => by omega), Only.refl _ _⟩
  case round =>
    obtain ⟨k, hk, rfl, HN, ho⟩ := hrel
    by_cases hlt : k < l.length
    · obtain ⟨b, off, rfl, hc⟩ := (h.keeps ho (fun _ _ h => h)).step k hlt
      obtain ⟨s, hs⟩ : ∃ s, l[k] = s := ⟨_, rfl⟩
      rw [hs] at hc
      have HS := Lib.hid hs
      obtain ⟨c0, c1, c2, cn⟩ := hc
      obtain ⟨sp, sn, sb⟩ := s
      simp only at c0 c1 c2 cn
      unfold maxLen at cn
      have hA := (Only.refl NoBlock wr).alloc (Obj.cells #[.int .i64 sp, .string sn, .int .i64 sb] 38)
      have BAD : StD.ok ⟨sp, sn, sb⟩ = false → checkD l = 44 := fun hb => by
        unfold checkD
        rw [if_neg]
        rintro ⟨_, _, ha⟩
        have := List.all_eq_true.1 ha l[k] (List.getElem_mem hlt)
        rw [HS.out, hb] at this
        cases this
      clear hs
      by_cases q0 : sp < 0
      · have p0 : decide (sp < 0) = true := by rw [decide_eq_true_eq]; omega
        have HB := Lib.hid (BAD (by unfold StD.ok; simp; omega))
        clear BAD q0
        go_wp2_with fail
        go_ret
        exact ⟨by rw [HB.out]; rfl, ho.trans hA⟩
      have p0 : decide (sp < 0) = false := by rw [decide_eq_false_iff_not]; omega
      by_cases q1 : 4 ≤ sp
      · have p1 : decide (4 ≤ sp) = true := by rw [decide_eq_true_eq]; omega
        have HB := Lib.hid (BAD (by unfold StD.ok; simp; omega))
        clear BAD q0 q1
        go_wp2_with fail
        go_ret
        exact ⟨by rw [HB.out]; rfl, ho.trans hA⟩
      have p1 : decide (4 ≤ sp) = false := by rw [decide_eq_false_iff_not]; omega
      by_cases q2 : sn.size = 0
      · have p2 : (sn.toList.isEmpty) = true := empty_of_size q2
        have HB := Lib.hid (BAD (by unfold StD.ok; simp; omega))
        clear BAD q0 q1 q2
        go_wp2_with fail
        go_ret
        exact ⟨by rw [HB.out]; rfl, ho.trans hA⟩
      have p2 : (sn.toList.isEmpty) = false := full_of_size q2
      by_cases q3 : 16 < sn.size
      · have p3 : decide (16 < (sn.size : Int)) = true := by rw [decide_eq_true_eq]; omega
        have HB := Lib.hid (BAD (by unfold StD.ok; simp; omega))
        clear BAD q0 q1 q2 q3
        go_wp2_with fail
        go_ret
        exact ⟨by rw [HB.out]; rfl, ho.trans hA⟩
      have p3 : decide (16 < (sn.size : Int)) = false := by rw [decide_eq_false_iff_not]; omega
      by_cases q4 : sb < 1
      · have p4 : decide (sb < 1) = true := by rw [decide_eq_true_eq]; omega
        have HB := Lib.hid (BAD (by unfold StD.ok; simp; omega))
        clear BAD q0 q1 q2 q3 q4
        go_wp2_with fail
        go_ret
        exact ⟨by rw [HB.out]; rfl, ho.trans hA⟩
      have p4 : decide (sb < 1) = false := by rw [decide_eq_false_iff_not]; omega
      by_cases q5 : 9 < sb
      · have p5 : decide (9 < sb) = true := by rw [decide_eq_true_eq]; omega
        have HB := Lib.hid (BAD (by unfold StD.ok; simp; omega))
        clear BAD q0 q1 q2 q3 q4 q5
        go_wp2_with fail
        go_ret
        exact ⟨by rw [HB.out]; rfl, ho.trans hA⟩
      have p5 : decide (9 < sb) = false := by rw [decide_eq_false_iff_not]; omega
      have HOK : RowKit.Hid (StD.ok ⟨sp, sn, sb⟩ = true) := Lib.hid (by unfold StD.ok; simp; omega)
      clear BAD q0 q1 q2 q3 q4 q5
      go_wp2_with fail
      go_roundw
      case rel =>
        exact ⟨k + 1, by omega, by go_num, Lib.hid (fun j hj hjk => by
          by_cases hjk' : j < k
          · exact HN.out j hj hjk'
          · obtain rfl : j = k := by omega
            exact (congrArg StD.ok HS.out).trans HOK.out), ho.trans hA⟩
      case measure =>
        (try simp [intOf])
        (try omega)
    · have HC : RowKit.Hid (checkD l = 0) := Lib.hid (by
        unfold checkD
        refine if_pos ⟨HL.out.1, HL.out.2, ?_⟩
        rw [List.all_eq_true]
        intro x hx
        obtain ⟨j, hj, rfl⟩ := List.mem_iff_getElem.1 hx
        exact HN.out j hj (by omega))
      obtain rfl : k = l.length := by omega
      go_wp2_with fail
      go_ret
      exact ⟨by rw [HC.out]; rfl, ho⟩
end Go.Proofs.Ytogeeeigfhmpmaa
