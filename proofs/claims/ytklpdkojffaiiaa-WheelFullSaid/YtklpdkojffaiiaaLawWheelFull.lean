/- As many timers as may be: the law's walk. -/
import Derived.Test.YtklpdkojffaiiaaWheelK
namespace Go.Proofs.Ytklpdkojffaiiaa
open Go.RowKit Go.Shelf
set_option maxRecDepth 100000

namespace Wf9
open Wh
def F (k : Nat) : List Tm := (List.range k).map (fun j : Nat => ⟨(j : Int), 5 + j, (j : Int) + 1⟩)
theorem F_len (k : Nat) : (F k).length = k := by simp [F]
theorem F_mem {k : Nat} {t : Tm} (h : t ∈ F k) : ∃ j : Nat, j < k ∧ t = ⟨(j : Int), 5 + j, (j : Int) + 1⟩ := by
  unfold F at h
  obtain ⟨j, hj, e⟩ := List.mem_map.1 h
  exact ⟨j, List.mem_range.1 hj, e.symm⟩
theorem F_has (k i : Nat) : hasA (F k) i = decide (i < k) := by
  unfold hasA
  by_cases h : i < k
  · rw [decide_eq_true h, List.any_eq_true]
    exact ⟨_, List.mem_map.2 ⟨i, List.mem_range.2 h, rfl⟩, by simp⟩
  · rw [decide_eq_false h, List.any_eq_false]
    intro t ht
    obtain ⟨j, hj, rfl⟩ := F_mem ht
    simp; omega
theorem F_succ (k : Nat) : F (k + 1) = F k ++ [⟨(k : Int), 5 + k, (k : Int) + 1⟩] := by
  unfold F; rw [List.range_succ, List.map_append]; rfl
theorem F_set {i : Nat} (h : i < 64) : setA (F i) 0 i i (5 + i) = (F (i + 1), 0, (i : Int) + 1) := by
  rw [setA_new (by omega) (by rw [F_has]; simp) (by rw [F_len]; omega), F_succ]
  congr 3
  simp only [List.cons.injEq, and_true, Tm.mk.injEq, true_and]
  omega
theorem F_full {i : Nat} (h : 64 ≤ i) (h2 : i < 80) : setA (F 64) 0 64 i (5 + i) = (F 64, 11, 64) :=
  setA_full (by omega) (by rw [F_has]; simp; omega) (by rw [F_len])
theorem due_F (k : Nat) : dueA (F k) 1 = [] := by
  unfold dueA
  rw [List.filter_eq_nil_iff]
  intro t ht
  obtain ⟨j, hj, rfl⟩ := F_mem ht
  simp; omega
theorem due_drop (k : Nat) (id : Int) : dueA (dropA (F k) id) 1 = [] := by
  unfold dueA
  rw [List.filter_eq_nil_iff]
  intro t ht
  obtain ⟨j, hj, rfl⟩ := F_mem (List.mem_filter.1 ht).1
  simp; omega
theorem due_push (A : List Tm) (id : Int) (turn : Int) (h : dueA A 1 = []) : dueA (A ++ [⟨id, 0 + Int.toNat 1, turn⟩]) (0 + 1) = [⟨id, 1, turn⟩] := by
  unfold dueA at h ⊢
  rw [List.filter_append, h]
  rfl
end Wf9
set_option maxHeartbeats 4000000 in
theorem walk9_full (w : World) (a0 a1 : Int) :
    Calls Try.prog 3 #[.int .i64 a0, .int .i64 a1] w fun e w' => e = .returned (.bool true) ∧ Only NoBlock w w' := by
  obtain ⟨n, hn, en⟩ := norm_mod a0 80 (by decide) (by decide)
  obtain ⟨id, hid, eid⟩ := norm_mod a1 80 (by decide) (by decide)
  replace en : (wrap64 (a0.tmod 80 + 80)).tmod 80 = (n : Int) := en
  replace eid : (wrap64 (a1.tmod 80 + 80)).tmod 80 = (id : Int) := eid
  go_enter Try.func3, Try.ntmps3
  go_wp2_with fail
  refine (begun9_ok w).mono ?_
  rintro e w1 ⟨rfl, o1⟩
  go_wp2_with fail
  refine (new_i w1).mono ?_
  rintro e w2 ⟨p, rfl, h2, o2⟩
  have hB := o1.size
  have o2 := o1.trans o2
  obtain ⟨B, hBe⟩ : ∃ B, w1.heap.size = B := ⟨_, rfl⟩
  rw [hBe] at h2 hB
  clear o1 hBe
  obtain ⟨X, hX⟩ : ∃ X : Nat → Prop, (fun _ => False) = X := ⟨_, rfl⟩
  rw [hX] at h2
  clear hX
  go_wp2_with fail
  go_loopw [19] (fun u19 wr => ∃ i : Nat, i ≤ n ∧ u19 = .int .i64 i ∧ WheelI wr B X p (Wf9.F (min i 64)) 0 ((min i 64 : Nat) : Int) ∧ Only NoBlock w wr) (fun u19 _ => n - (intOf u19).toNat)
  case atStart => exact ⟨0, by omega, rfl, (by exact h2), o2⟩
  case round =>
    obtain ⟨i, hi, rfl, hw, ho⟩ := hrel
    by_cases hlt : i < n
    · have hwr : IntKind.i64.wrap (5 + (i : Int)) = 5 + (i : Int) := IntWalk.i64_in _ (by omega)
      have hset := set_i wr B p 0 X _ _ hw (i : Int) (5 + (i : Int)) (Wh.wf_nat (by omega)) (by decide) (by omega)
      by_cases h64 : i < 64
      · rw [show min i 64 = i by omega, Wf9.F_set h64] at hset
        go_upto_region 8 with fail
        go_wp2_with fail
        refine hset.mono ?_
        rintro e w3 ⟨rfl, h3, o3⟩
        have o3 := Only.fresh ho o3 hB
        clear hset hw ho hwr
        simp only at h3 ⊢
        go_wp2_with fail
        go_roundw
        case rel => exact ⟨i + 1, by omega, by go_num, by rw [show min (i + 1) 64 = i + 1 by omega]; push_cast; exact h3, o3⟩
        case measure => simp [intOf]; omega
      · rw [show min i 64 = 64 by omega, show ((64 : Nat) : Int) = 64 from rfl, Wf9.F_full (by omega) (by omega)] at hset
        go_upto_region 8 with fail
        go_wp2_with fail
        refine hset.mono ?_
        rintro e w3 ⟨rfl, h3, o3⟩
        have o3 := Only.fresh ho o3 hB
        clear hset hw ho hwr
        simp only at h3 ⊢
        go_wp2_with fail
        go_roundw
        case rel => exact ⟨i + 1, by omega, by go_num, by rw [show min (i + 1) 64 = 64 by omega]; exact h3, o3⟩
        case measure => simp [intOf]; omega
    · obtain rfl : i = n := by omega
      clear en
      obtain ⟨m, hm⟩ : ∃ m, min i 64 = m := ⟨_, rfl⟩
      rw [hm] at hw
      have hset := set_i wr B p 0 X _ _ hw (id : Int) 1 (Wh.wf_nat (by omega)) (by decide) (by omega)
      have hlen := Wf9.F_len m
      have hhas := Wf9.F_has m id
      by_cases hc : id < m
      · rw [Wh.setA_had (by decide) (by rw [hhas]; simpa using hc)] at hset
        go_upto_region 13 with fail
        go_wp2_with fail
        refine hset.mono ?_
        rintro e w3 ⟨rfl, h3, o3⟩
        have o3 := Only.fresh ho o3 hB
        have htk := tick_i w3 B p 0 X _ _ h3 (by decide)
        rw [Wf9.due_push _ _ _ (Wf9.due_drop m id)] at htk
        clear hset hw ho eid hlen hhas h3
        simp only
        have hmn : m ≤ 64 ∧ m ≤ i := by omega
        have hmin : (min (i : Int) 64) = (m : Int) := by omega
        go_wp2_with fail
        refine htk.mono ?_
        rintro e w4 ⟨v, rfl, hI, h4, o4⟩
        have o4 := Only.fresh o3 o4 hB
        obtain ⟨ao, cap, rfl, hf⟩ := hI.first
        obtain ⟨b, off, rfl, hc1⟩ := hf _ _ rfl
        clear htk hI h4 hf
        simp only [List.map_cons, List.map_nil, List.length_cons, List.length_nil, Nat.zero_add]
        go_wp2_with fail
        go_ret
        exact ⟨rfl, o4⟩
      · by_cases hm64 : m = 64
        · subst hm64
          rw [Wh.setA_full (by decide) (by rw [hhas]; simpa using hc) hlen] at hset
          go_upto_region 13 with fail
          go_wp2_with fail
          refine hset.mono ?_
          rintro e w3 ⟨rfl, h3, o3⟩
          have o3 := Only.fresh ho o3 hB
          have htk := tick_i w3 B p 0 X _ _ h3 (by decide)
          rw [Nat.zero_add, Wf9.due_F] at htk
          clear hset hw ho eid hlen hhas h3
          simp only
          have hmin : (min (i : Int) 64) = 64 := by omega
          go_wp2_with fail
          refine htk.mono ?_
          rintro e w4 ⟨v, rfl, hI, h4, o4⟩
          have o4 := Only.fresh o3 o4 hB
          obtain ⟨ao, cap, rfl, hf⟩ := hI.first
          clear htk hI h4 hf
          simp only [List.map_nil, List.length_nil]
          go_wp2_with fail
          go_ret
          exact ⟨rfl, o4⟩
        · rw [Wh.setA_new (by decide) (by rw [hhas]; simpa using hc) (by omega)] at hset
          go_upto_region 13 with fail
          go_wp2_with fail
          refine hset.mono ?_
          rintro e w3 ⟨rfl, h3, o3⟩
          have o3 := Only.fresh ho o3 hB
          have htk := tick_i w3 B p 0 X _ _ h3 (by decide)
          rw [Wf9.due_push _ _ _ (Wf9.due_F m)] at htk
          clear hset hw ho eid hlen hhas h3
          simp only
          have hmi : m = i := by omega
          subst hmi
          have hlm : m < 64 := by omega
          have hlmi : decide ((m : Int) < 64) = true := by rw [decide_eq_true_eq]; omega
          have hmin : (min (m : Int) 64) = (m : Int) := by omega
          go_wp2_with fail
          refine htk.mono ?_
          rintro e w4 ⟨v, rfl, hI, h4, o4⟩
          have o4 := Only.fresh o3 o4 hB
          obtain ⟨ao, cap, rfl, hf⟩ := hI.first
          obtain ⟨b, off, rfl, hc1⟩ := hf _ _ rfl
          clear htk hI h4 hf
          simp only [List.map_cons, List.map_nil, List.length_cons, List.length_nil, Nat.zero_add]
          go_wp2_with fail
          go_ret
          exact ⟨rfl, o4⟩
theorem walk_WheelFull (a0 : Int) (_w0 : (Lit.int .i64 a0).wf = true) (a1 : Int) (_w1 : (Lit.int .i64 a1).wf = true) (w : World) :
    Calls Try.prog 3 #[.int .i64 a0, .int .i64 a1] w fun e w' => e = .returned (.bool true) ∧ Below w.heap.size w w' :=
  (walk9_full w a0 a1).mono fun _ _ h => ⟨h.1, h.2.below (Nat.le_refl _) (fun _ h => h.elim)⟩
end Go.Proofs.Ytklpdkojffaiiaa
