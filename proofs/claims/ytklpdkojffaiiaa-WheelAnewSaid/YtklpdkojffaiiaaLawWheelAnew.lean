/- A timer that is set anew: the law's walk. -/
import Derived.Test.YtklpdkojffaiiaaWheelK
import Derived.Test.YtklpdkojffaiiaaOpen9
namespace Go.Proofs.Ytklpdkojffaiiaa
open Go.RowKit Go.Shelf
set_option maxRecDepth 100000

namespace Wa9
open Wh
def A (last : Nat) (i : Nat) : List Tm := if i = 0 then [] else [⟨3, last, (i : Int)⟩]
theorem A_set (last d i : Nat) (h1 : 1 ≤ d) (h2 : d ≤ 400) : setA (A last i) 0 i 3 d = (A d (i + 1), 0, (i : Int) + 1) := by
  by_cases h : i = 0
  · subst h
    rw [setA_new (by omega) (by rfl) (by simp [A])]
    simp [A]
  · rw [setA_had (by omega) (by simp [A, h, hasA])]
    simp [A, h, dropA]
def D (last n i : Nat) : List Tm := if i < last then [⟨3, last, (n : Int)⟩] else []
theorem D_due (last n i : Nat) : dueA (D last n i) (i + 1) = if i + 1 = last then [⟨3, last, (n : Int)⟩] else [] := by
  unfold D dueA
  by_cases h : i + 1 = last
  · rw [if_pos (by omega), if_pos h]; simp [h]
  · rw [if_neg h]
    split
    · simp; omega
    · rfl
theorem D_rest (last n i : Nat) : restA (D last n i) (i + 1) = D last n (i + 1) := by
  unfold D restA
  by_cases h : i + 1 = last
  · rw [if_pos (by omega), if_neg (by omega)]; simp [h]
  · by_cases h2 : i < last
    · rw [if_pos h2, if_pos (by omega)]; simp; omega
    · rw [if_neg h2, if_neg (by omega)]; rfl
end Wa9
set_option maxHeartbeats 4000000 in
theorem walk9_anew (w : World) (l : List Int) (ao : Option Addr) (cap : Nat) (hin : IntsIn w ao l) (stop : Bool) :
    Calls Try.prog 4 #[.slice ao l.length cap, .bool stop] w fun e w' => e = .returned (.bool true) ∧ Only NoBlock w w' := by
  go_enter Try.func4, Try.ntmps4
  go_wp2_with fail
  refine (begun9_ok w).mono ?_
  rintro e w1 ⟨rfl, o1⟩
  by_cases h0 : l.length = 0
  · have hb0 : ((l.length : Int) == 0) = true := by rw [beq_iff_eq]; omega
    clear h0
    go_wp2_with fail
    go_ret
    exact ⟨rfl, o1⟩
  have hb0 : ((l.length : Int) == 0) = false := by rw [beq_eq_false_iff_ne]; omega
  by_cases h50 : 50 < l.length
  · have hb5 : decide (50 < (l.length : Int)) = true := by rw [decide_eq_true_eq]; omega
    clear h0 h50
    go_wp2_with fail
    go_ret
    exact ⟨rfl, o1⟩
  have hb5 : decide (50 < (l.length : Int)) = false := by rw [decide_eq_false_iff_not]; omega
  have H0 := Lib.hid h0
  have h50' : l.length ≤ 50 := by omega
  clear h0 h50
  go_wp2_with fail
  refine (new_i w1).mono ?_
  rintro e w2 ⟨p, rfl, h2, o2⟩
  have hB := o1.size
  have o2 := o1.trans o2
  obtain ⟨B, hBe⟩ : ∃ B, w1.heap.size = B := ⟨_, rfl⟩
  rw [hBe] at h2 hB
  clear o1 hBe
  obtain ⟨X, hX⟩ : ∃ X : Nat → Prop, (fun _ => False) = X := ⟨_, rfl⟩
  rw [hX] at h2
  clear hX
  go_wp2_with fail
  go_loopw [24, 6] (fun u24 u6 wr => ∃ i last : Nat, i ≤ l.length ∧ u24 = .int .i64 i ∧ u6 = .int .i64 last ∧ last ≤ 400 ∧ (i = 0 ∨ 1 ≤ last) ∧ WheelI wr B X p (Wa9.A last i) 0 (i : Int) ∧ Only NoBlock w wr) (fun u24 _ _ => l.length - (intOf u24).toNat)
  case atStart => exact ⟨0, 0, by omega, rfl, rfl, by omega, .inl rfl, (by exact h2), o2⟩
  case round =>
    obtain ⟨i, last, hi, rfl, rfl, hl4, hl1, hw, ho⟩ := hrel
    by_cases hlt : i < l.length
    · obtain ⟨b, off, rfl, hc⟩ := (hin.stay ho (fun _ _ h => h)).cell i hlt
      obtain ⟨x, hx⟩ : ∃ x, l.getD i 0 = x := ⟨_, rfl⟩
      rw [hx] at hc
      obtain ⟨d, hd, ed⟩ := norm_mod x 400 (by decide) (by decide)
      replace ed : (wrap64 (x.tmod 400 + 400)).tmod 400 = (d : Int) := ed
      have hwr : IntKind.i64.wrap ((d : Int) + 1) = ((d + 1 : Nat) : Int) := by rw [IntWalk.i64_in _ (by omega)]; push_cast; rfl
      have ha := Wa9.A_set last (d + 1) i (by omega) (by omega)
      have hset := set_i wr B p 0 X _ _ hw 3 ((d : Int) + 1) (by decide) (by decide) (by omega)
      push_cast at ha
      rw [ha] at hset
      clear hx ha
      go_upto_region 11 with fail
      go_wp2_with fail
      refine hset.mono ?_
      rintro e w3 ⟨rfl, h3, o3⟩
      have o3 := Only.fresh ho o3 hB
      clear hset hw hwr ed hc hin
      simp only at h3 ⊢
      go_wp2_with fail
      go_roundw
      case rel => exact ⟨i + 1, d + 1, by omega, by go_num, by go_num, by omega, .inr (by omega), (by push_cast; exact h3), o3⟩
      case measure => simp [intOf]; omega
    · obtain rfl : i = l.length := by omega
      have hA : Wa9.A last l.length = [⟨3, last, (l.length : Int)⟩] := by unfold Wa9.A; rw [if_neg H0.out]
      rw [hA] at hw
      have hl1' : 1 ≤ last := by have := H0.out; omega
      clear hA hl1 hin
      obtain ⟨N, hN⟩ : ∃ N, l.length = N := ⟨_, rfl⟩
      have hN50 : N ≤ 50 := by omega
      rw [hN] at hw ⊢
      clear hN H0 h50' hb0 hb5 hi hlt
      cases stop with
      | true =>
        go_wp2_with fail
        refine (stop_i wr B p 0 X _ _ hw 3).mono ?_
        rintro e w3 ⟨rfl, h3, o3⟩
        have o3 := Only.fresh ho o3 hB
        rw [show Wh.hasA [⟨3, last, (N : Int)⟩] 3 = true from rfl]
        rw [show Wh.dropA [⟨3, last, (N : Int)⟩] 3 = [] from rfl] at h3
        clear hw ho
        have hw := h3
        have ho := o3
        clear h3 o3
        go_wp2_with fail
        go_loopw [43] (fun u43 wr => ∃ i : Nat, i ≤ 500 ∧ u43 = .int .i64 i ∧ WheelI wr B X p [] i (N : Int) ∧ Only NoBlock w wr) (fun u43 _ => 500 - (intOf u43).toNat)
        case atStart => exact ⟨0, by omega, rfl, hw, ho⟩
        case round =>
          obtain ⟨i, hi, rfl, hw, ho⟩ := hrel
          by_cases hlt : i < 500
          · have htk := tick_i wr B p i X _ _ hw (by omega)
            rw [show Wh.dueA [] (i + 1) = [] from rfl, show Wh.restA [] (i + 1) = [] from rfl] at htk
            go_upto_region 18 with fail
            go_wp2_with fail
            refine htk.mono ?_
            rintro e w4 ⟨v, rfl, hI, h4y, o4⟩
            have o4 := Only.fresh ho o4 hB
            have h4 : WheelI w4 B X p _ _ _ := h4y.less (fun b e => .inl e)
            clear h4y
            clear htk hw ho
            obtain ⟨ao, cap, rfl, hf⟩ := hI.first
            clear hf hI
            simp only [List.map_nil, List.length_nil]
            go_wp2_with fail
            go_roundw
            case rel => exact ⟨i + 1, by omega, by go_num, h4, o4⟩
            case measure => simp [intOf]; omega
          · obtain rfl : i = 500 := by omega
            skip
            go_wp2_with fail
            refine (len_i wr B p 500 X _ _ hw).mono ?_
            rintro e w5 ⟨rfl, rfl⟩
            simp only [List.length_nil]
            go_wp2_with fail
            refine (stop_i wr B p 500 X _ _ hw 3).mono ?_
            rintro e w6 ⟨rfl, _, o6⟩
            have o6 := Only.fresh ho o6 hB
            have hh : Wh.hasA [] 3 = false := rfl
            rw [hh]
            go_wp2_with fail
            go_ret
            exact ⟨rfl, o6⟩
      | false =>
        go_upto_region 15 with fail
        go_wp2_with fail
        go_loopw [43] (fun u43 wr => ∃ i : Nat, i ≤ 500 ∧ u43 = .int .i64 i ∧ WheelI wr B X p (Wa9.D last N i) i (N : Int) ∧ Only NoBlock w wr) (fun u43 _ => 500 - (intOf u43).toNat)
        case atStart => exact ⟨0, by omega, rfl, (by unfold Wa9.D; rw [if_pos (by omega)]; exact hw), ho⟩
        case round =>
          obtain ⟨i, hi, rfl, hw, ho⟩ := hrel
          by_cases hlt : i < 500
          · have htk := tick_i wr B p i X _ _ hw (by omega)
            rw [Wa9.D_due, Wa9.D_rest] at htk
            go_upto_region 18 with fail
            go_wp2_with fail
            refine htk.mono ?_
            rintro e w4 ⟨v, rfl, hI, h4y, o4⟩
            have o4 := Only.fresh ho o4 hB
            have h4 : WheelI w4 B X p _ _ _ := h4y.less (fun b e => .inl e)
            clear h4y
            clear htk hw ho
            by_cases hd : i + 1 = last
            · rw [if_pos hd] at hI
              have heq : ((i : Int) + 1 == (last : Int)) = true := by rw [beq_iff_eq]; omega
              obtain ⟨ao, cap, rfl, hf⟩ := hI.first
              clear hf hI
              have HD := Lib.hid hd
              clear hd
              simp only [List.map_cons, List.map_nil, List.length_cons, List.length_nil, Nat.zero_add]
              go_wp2_with fail
              go_roundw
              case rel => exact ⟨i + 1, by omega, by go_num, h4, o4⟩
              case measure => simp [intOf]; omega
            · rw [if_neg hd] at hI
              have hne : ((i : Int) + 1 == (last : Int)) = false := by rw [beq_eq_false_iff_ne]; omega
              obtain ⟨ao, cap, rfl, hf⟩ := hI.first
              clear hf hI
              have HD := Lib.hid hd
              clear hd
              simp only [List.map_nil, List.length_nil]
              go_wp2_with fail
              go_roundw
              case rel => exact ⟨i + 1, by omega, by go_num, h4, o4⟩
              case measure => simp [intOf]; omega
          · obtain rfl : i = 500 := by omega
            rw [show Wa9.D last N 500 = [] by unfold Wa9.D; rw [if_neg (by omega)]] at hw
            go_wp2_with fail
            refine (len_i wr B p 500 X _ _ hw).mono ?_
            rintro e w5 ⟨rfl, rfl⟩
            simp only [List.length_nil]
            go_wp2_with fail
            refine (stop_i wr B p 500 X _ _ hw 3).mono ?_
            rintro e w6 ⟨rfl, _, o6⟩
            have o6 := Only.fresh ho o6 hB
            have hh : Wh.hasA [] 3 = false := rfl
            rw [hh]
            go_wp2_with fail
            go_ret
            exact ⟨rfl, o6⟩
theorem walk_WheelAnew {w : World} (a0 : List Int × Option Addr × Nat) (h0 : IntsIn w a0.2.1 a0.1) (a1 : Bool) :
    Calls Try.prog 4 #[.slice a0.2.1 a0.1.length a0.2.2, .bool a1] w fun e w' => e = .returned (.bool true) ∧ Below w.heap.size w w' :=
  (walk9_anew w a0.1 a0.2.1 a0.2.2 h0 a1).mono fun _ _ h => ⟨h.1, h.2.below (Nat.le_refl _) (fun _ h => h.elim)⟩
end Go.Proofs.Ytklpdkojffaiiaa
