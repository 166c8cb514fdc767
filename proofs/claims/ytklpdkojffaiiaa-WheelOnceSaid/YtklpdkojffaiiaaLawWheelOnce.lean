/- A timer is due just once: the law's walk. -/
import Derived.Test.YtklpdkojffaiiaaWheelK
import Derived.Test.YtklpdkojffaiiaaDue
namespace Go.Proofs.Ytklpdkojffaiiaa
open Go.RowKit Go.Shelf
set_option maxRecDepth 100000

namespace Wo9
open Wh
def D (s d i : Nat) : List Tm := if i < d then [⟨7, s + d, 1⟩] else []
theorem D_due (s d i : Nat) : dueA (D s d i) (s + i + 1) = if i + 1 = d then [⟨7, s + d, 1⟩] else [] := by
  unfold D dueA
  by_cases h : i + 1 = d
  · rw [if_pos (by omega), if_pos h]; simp; omega
  · rw [if_neg h]
    split
    · simp; omega
    · rfl
theorem D_rest (s d i : Nat) : restA (D s d i) (s + i + 1) = D s d (i + 1) := by
  unfold D restA
  by_cases h : i + 1 = d
  · rw [if_pos (by omega), if_neg (by omega)]; simp; omega
  · by_cases h2 : i < d
    · rw [if_pos h2, if_pos (by omega)]; simp; omega
    · rw [if_neg h2, if_neg (by omega)]; rfl
theorem D_next (s d i : Nat) : nextA (D s d i) (s + i) = d - i := by
  unfold D nextA nextL
  split
  · simp [least]; omega
  · simp; omega
end Wo9
set_option maxHeartbeats 4000000 in
theorem walk9_once (w : World) (a0 a1 : Int) :
    Calls Try.prog 5 #[.int .i64 a0, .int .i64 a1] w fun e w' => e = .returned (.bool true) ∧ Only NoBlock w w' := by
  obtain ⟨s, hs, es⟩ := norm_mod a0 9000 (by decide) (by decide)
  obtain ⟨d, hd, ed⟩ := norm_mod a1 9000 (by decide) (by decide)
  replace es : (wrap64 (a0.tmod 9000 + 9000)).tmod 9000 = (s : Int) := es
  replace ed : (wrap64 (a1.tmod 9000 + 9000)).tmod 9000 = (d : Int) := ed
  go_enter Try.func5, Try.ntmps5
  go_wp2_with fail
  refine (begun9_ok w).mono ?_
  rintro e w1 ⟨rfl, o1⟩
  have hwr : IntKind.i64.wrap ((d : Int) + 1) = (d : Int) + 1 := IntWalk.i64_in _ (by omega)
  go_wp2_with fail
  refine (new_i w1).mono ?_
  rintro e w2 ⟨p, rfl, h2, o2⟩
  have hB := o1.size
  have o2 := o1.trans o2
  obtain ⟨B, hBe⟩ : ∃ B, w1.heap.size = B := ⟨_, rfl⟩
  rw [hBe] at h2 hB
  obtain ⟨X, hX⟩ : ∃ X : Nat → Prop, (fun _ => False) = X := ⟨_, rfl⟩
  rw [hX] at h2
  clear o1 hBe hX es ed hwr
  go_wp2_with fail
  go_loopw [21] (fun u21 wr => ∃ i : Nat, i ≤ s ∧ u21 = .int .i64 i ∧ WheelI wr B X p [] i 0 ∧ Only NoBlock w wr) (fun u21 _ => s - (intOf u21).toNat)
  case atStart => exact ⟨0, by omega, rfl, h2, o2⟩
  case round =>
    obtain ⟨i, hi, rfl, hw, ho⟩ := hrel
    by_cases hlt : i < s
    · have htk := tick_i wr B p i X _ _ hw (by omega)
      rw [show Wh.restA [] (i + 1) = [] from rfl] at htk
      go_upto_region 7 with fail
      go_wp2_with fail
      refine htk.mono ?_
      rintro e w4 ⟨v, rfl, hI, h4y, o4⟩
      have o4 := Only.fresh ho o4 hB
      have h4 : WheelI w4 B X p _ _ _ := h4y.less (fun b e => .inl e)
      clear htk hw ho h4y hI
      go_wp2_with fail
      go_roundw
      case rel => exact ⟨i + 1, by omega, by go_num, h4, o4⟩
      case measure => simp [intOf]; omega
    · obtain rfl : i = s := by omega
      have hset := set_i wr B p i X _ _ hw 7 ((d : Int) + 1) (by decide) (by omega) (by decide)
      rw [Wh.setA_new (by omega) rfl (by decide)] at hset
      have hst : ([] ++ [⟨7, i + ((d : Int) + 1).toNat, 0 + 1⟩] : List Wh.Tm) = Wo9.D i (d + 1) 0 := by
        unfold Wo9.D
        rw [if_pos (by omega), List.nil_append, show ((d : Int) + 1).toNat = d + 1 by omega]
        rfl
      rw [hst] at hset
      clear hst hw
      go_upto_region 9 with fail
      go_wp2_with fail
      refine hset.mono ?_
      rintro e w3 ⟨rfl, h3, o3⟩
      have o3 := Only.fresh ho o3 hB
      have hwr : IntKind.i64.wrap ((d : Int) + 1 + 300) = (d : Int) + 301 := by rw [IntWalk.i64_in _ (by omega)]; omega
      have hwr2 : IntKind.i64.wrap ((d : Int) + 301) = (d : Int) + 301 := IntWalk.i64_in _ (by omega)
      clear hset ho
      simp only [Int.zero_add] at h3 ⊢
      go_wp2_with fail
      clear hwr hwr2
      go_loopw [32] (fun u32 wr => ∃ j : Nat, j ≤ d + 301 ∧ u32 = .int .i64 j ∧ WheelI wr B X p (Wo9.D i (d + 1) j) (i + j) 1 ∧ Only NoBlock w wr) (fun u32 _ => d + 301 - (intOf u32).toNat)
      case atStart => exact ⟨0, by omega, rfl, h3, o3⟩
      case round =>
        obtain ⟨j, hj, rfl, hw, ho⟩ := hrel
        by_cases hlt2 : j < d + 301
        · have hjd : decide ((j : Int) < (d : Int) + 301) = true := by rw [decide_eq_true_eq]; omega
          have hdue := due_i wr B p (i + j) X _ _ hw
          rw [Wo9.D_next] at hdue
          have htk := fun (w5 : World) (ho5 : Only NoBlock wr w5) => tick_i w5 B p (i + j) X _ _ (hw.keeps ho5) (by omega)
          simp only [Wo9.D_due, Wo9.D_rest] at htk
          have HLT := Lib.hid hlt2
          clear hlt2
          by_cases hjl : j < d + 1
          · obtain ⟨E, hE⟩ : ∃ E : Nat, d + 1 - j = E := ⟨_, rfl⟩
            rw [hE] at hdue
            have hsub : IntKind.i64.wrap ((d : Int) + 1 - (j : Int)) = (E : Int) := by rw [IntWalk.i64_in _ (by omega)]; omega
            have hsub2 : (d : Int) + 1 - (j : Int) = (E : Int) := by omega
            have hmax : max 0 (E : Int) = (E : Int) := by omega
            have hcv : IntKind.u64.wrap (E : Int) = (E : Int) := by rw [IntKind.wrap_u64]; omega
            have HE := Lib.hid hE
            clear hE
            by_cases hjd1 : j = d
            · subst hjd1
              rw [if_pos rfl] at htk
              go_upto_region 14 with fail
              go_wp2_with fail
              refine hdue.mono ?_
              rintro e w5 ⟨rfl, ho5⟩
              have htk := htk w5 ho5
              have ho6 := ho.trans ho5
              clear hdue hw ho ho5
              go_wp2_with fail
              clear hsub hsub2 hmax hcv
              refine htk.mono ?_
              rintro e w4 ⟨v, rfl, hI, h4y, o4⟩
              have o4 := Only.fresh ho6 o4 hB
              have h4 : WheelI w4 B X p _ _ _ := h4y.less (fun b e => .inl e)
              clear htk h4y ho6
              obtain ⟨ao, cap, rfl, hf⟩ := hI.first
              obtain ⟨b, off, rfl, hc1⟩ := hf _ _ rfl
              clear hf hI
              simp only [List.map_cons, List.map_nil, List.length_cons, List.length_nil, Nat.zero_add]
              go_wp2_with fail
              go_roundw
              case rel => exact ⟨j + 1, (by have := HLT.out; omega), by go_num, h4, o4⟩
              case measure =>
                have := HLT.out
                (try simp [intOf])
                (try omega)
            · rw [if_neg (by omega)] at htk
              have hn1 : ((j : Int) + 1 == (d : Int) + 1) = false := by rw [beq_eq_false_iff_ne]; omega
              have hn2 : ((j : Int) == (d : Int)) = false := by rw [beq_eq_false_iff_ne]; omega
              have hn3 : (j == d) = false := by rw [beq_eq_false_iff_ne]; omega
              have HJ := Lib.hid hjd1
              clear hjd1
              go_upto_region 14 with fail
              go_wp2_with fail
              refine hdue.mono ?_
              rintro e w5 ⟨rfl, ho5⟩
              have htk := htk w5 ho5
              have ho6 := ho.trans ho5
              clear hdue hw ho ho5
              go_wp2_with fail
              clear hsub hsub2 hmax hcv
              refine htk.mono ?_
              rintro e w4 ⟨v, rfl, hI, h4y, o4⟩
              have o4 := Only.fresh ho6 o4 hB
              have h4 : WheelI w4 B X p _ _ _ := h4y.less (fun b e => .inl e)
              clear htk h4y ho6
              obtain ⟨ao, cap, rfl, hf⟩ := hI.first
              clear hf hI
              simp only [List.map_cons, List.map_nil, List.length_cons, List.length_nil, Nat.zero_add]
              go_wp2_with fail
              go_roundw
              case rel => exact ⟨j + 1, (by have := HLT.out; omega), by go_num, h4, o4⟩
              case measure =>
                have := HLT.out
                (try simp [intOf])
                (try omega)
          · have hE : d + 1 - j = 0 := by omega
            rw [hE] at hdue
            have hsub : IntKind.i64.wrap ((d : Int) + 1 - (j : Int)) = (d : Int) + 1 - (j : Int) := IntWalk.i64_in _ (by omega)
            have hsub2 : True := trivial
            have hmax : max 0 ((d : Int) + 1 - (j : Int)) = 0 := by omega
            have hcv : True := trivial
            rw [if_neg (by omega)] at htk
            have hn1 : ((j : Int) + 1 == (d : Int) + 1) = false := by rw [beq_eq_false_iff_ne]; omega
            have hn2 : ((j : Int) == (d : Int)) = false := by rw [beq_eq_false_iff_ne]; omega
            have hn3 : (j == d) = false := by rw [beq_eq_false_iff_ne]; omega
            have HJ := Lib.hid hjl
            clear hjl hE
            go_upto_region 14 with fail
            go_wp2_with fail
            refine hdue.mono ?_
            rintro e w5 ⟨rfl, ho5⟩
            have htk := htk w5 ho5
            have ho6 := ho.trans ho5
            clear hdue hw ho ho5
            go_wp2_with fail
            clear hsub hsub2 hmax hcv
            refine htk.mono ?_
            rintro e w4 ⟨v, rfl, hI, h4y, o4⟩
            have o4 := Only.fresh ho6 o4 hB
            have h4 : WheelI w4 B X p _ _ _ := h4y.less (fun b e => .inl e)
            clear htk h4y ho6
            obtain ⟨ao, cap, rfl, hf⟩ := hI.first
            clear hf hI
            simp only [List.map_cons, List.map_nil, List.length_cons, List.length_nil, Nat.zero_add]
            go_wp2_with fail
            go_roundw
            case rel => exact ⟨j + 1, (by have := HLT.out; omega), by go_num, h4, o4⟩
            case measure =>
              have := HLT.out
              (try simp [intOf])
              (try omega)
        · obtain rfl : j = d + 301 := by omega
          have hjd : decide (((d + 301 : Nat) : Int) < (d : Int) + 301) = false := by rw [decide_eq_false_iff_not]; omega
          rw [show Wo9.D i (d + 1) (d + 301) = [] by unfold Wo9.D; rw [if_neg (by omega)]] at hw
          clear hlt2
          go_wp2_with fail
          refine (len_i wr B p _ X _ _ hw).mono ?_
          rintro e w5 ⟨rfl, rfl⟩
          simp only [List.length_nil]
          go_wp2_with fail
          go_ret
          exact ⟨rfl, ho⟩
theorem walk_WheelOnce (a0 : Int) (_w0 : (Lit.int .i64 a0).wf = true) (a1 : Int) (_w1 : (Lit.int .i64 a1).wf = true) (w : World) :
    Calls Try.prog 5 #[.int .i64 a0, .int .i64 a1] w fun e w' => e = .returned (.bool true) ∧ Below w.heap.size w w' :=
  (walk9_once w a0 a1).mono fun _ _ h => ⟨h.1, h.2.below (Nat.le_refl _) (fun _ h => h.elim)⟩
end Go.Proofs.Ytklpdkojffaiiaa
