/- The wheel's lists, one behind the other. -/
import Derived.Test.YtklpdkojffaiiaaProg
import Derived.Test.YtklpdkojffaiiaaRangeL
import Derived.Test.YtklpdkojffaiiaaBase
namespace Go.Proofs.Ytklpdkojffaiiaa
open Go.RowKit Go.Shelf
set_option maxRecDepth 100000
attribute [local go_sem] Oper.semAt_some

namespace Wh
/-- where list number q lies -/
def loc (p r0 r1 r2 q : Nat) : Addr := if q < 64 then ⟨r0, q, none⟩ else if q < 192 then ⟨r1, q - 64, none⟩ else if q < 448 then ⟨r2, q - 192, none⟩ else ⟨p, 5, none⟩
def Rv (p r0 r1 r2 q : Nat) : Value := .pointer (some (loc p r0 r1 r2 q))
/-- the three rings -/
def RG (p r0 r1 r2 : Nat) (w : World) : Prop := w.cell? ⟨p, 2, none⟩ = some (.slice (some ⟨r0, 0, none⟩) 64 64) ∧ w.cell? ⟨p, 3, none⟩ = some (.slice (some ⟨r1, 0, none⟩) 128 128) ∧ w.cell? ⟨p, 4, none⟩ = some (.slice (some ⟨r2, 0, none⟩) 256 256)
theorem rv0 {p r0 r1 r2 k : Nat} (h : k < 64) : Rv p r0 r1 r2 k = .pointer (some ⟨r0, k, none⟩) := by unfold Rv loc; rw [if_pos h]
theorem rv1 {p r0 r1 r2 k : Nat} (h : k < 128) : Rv p r0 r1 r2 (64 + k) = .pointer (some ⟨r1, k, none⟩) := by unfold Rv loc; rw [if_neg (by omega), if_pos (by omega), Nat.add_sub_cancel_left]
theorem rv2 {p r0 r1 r2 k : Nat} (h : k < 256) : Rv p r0 r1 r2 (192 + k) = .pointer (some ⟨r2, k, none⟩) := by unfold Rv loc; rw [if_neg (by omega), if_neg (by omega), if_pos (by omega), Nat.add_sub_cancel_left]
theorem rv3 {p r0 r1 r2 : Nat} : Rv p r0 r1 r2 448 = .pointer (some ⟨p, 5, none⟩) := rfl
def start : Nat → Nat
  | 0 => 0
  | 1 => 64
  | 2 => 192
  | _ => 448
end Wh

set_option maxHeartbeats 2000000 in
theorem lists_iter (n p r0 r1 r2 : Nat) : Iter n Try.prog 27 #[.pointer (some ⟨p, 0, none⟩)] 449 (Wh.Rv p r0 r1 r2) (Wh.RG p r0 r1 r2) := by
  intro l J Jx W h0 hRG hY
  refine callsIn_of_wp Try.func27 rfl trivial ?_
  simp only [Try.ntmps27, List.size_toArray, List.length_cons, List.length_nil, Nat.reduceAdd, Nat.reduceSub, Array.replicate_succ, Array.replicate_zero, List.push_toArray, List.append_toArray, List.nil_append, List.cons_append]
  have HY := Lib.hid hY
  have HRG := Lib.hid hRG
  clear hY hRG
  gi_wp2
  gi_loopw [6] (fun u6 wr => ∃ i : Nat, i ≤ 3 ∧ u6 = .int .i64 i ∧ J (Wh.start i) wr) (fun u6 _ => 3 - (intOf u6).toNat)
  case atStart => exact ⟨0, by omega, rfl, h0⟩
  case round =>
    obtain ⟨i, hi, rfl, hJ⟩ := hrel
    obtain ⟨g0, g1, g2⟩ := HRG.out _ _ hJ
    have hcase : i = 0 ∨ i = 1 ∨ i = 2 ∨ i = 3 := by omega
    rcases hcase with rfl | rfl | rfl | rfl
    · gi_wp2
      gi_loopw [16] (fun u16 wq => ∃ k : Nat, k ≤ 64 ∧ u16 = .int .i64 k ∧ J (k) wq) (fun u16 _ => 64 - (intOf u16).toNat)
      case atStart => exact ⟨0, by omega, rfl, hJ⟩
      case round =>
        obtain ⟨k, hk, rfl, hJk⟩ := hrel
        obtain ⟨g0, g1, g2⟩ := HRG.out _ _ hJk
        by_cases hlt : k < 64
        · obtain ⟨fn, tmps, assign, body, hy, hR⟩ := HY.out (k) _ (by omega) hJk
          rw [Wh.rv0 hlt] at hy
          gi_wp2
          refine ⟨fun h => (by cases h), hR.mono ?_⟩
          rintro e W' (⟨rfl, hJ'⟩ | ⟨rfl, hJx'⟩)
          · gi_wp2
            go_roundw
            case rel =>
              first
                | exact ⟨k + 1, by omega, by go_num, hJ'⟩
                | ((repeat apply Exists.intro); exact ⟨⟨k + 1, by omega, by go_num, hJ'⟩, rfl⟩)
            case measure => simp [intOf]; omega
          · gi_wp2
            refine bodyPost_ret (results_none rfl _ _ _) rfl ?_
            exact ⟨⟨_, rfl⟩, .inr hJx'⟩
        · obtain rfl : k = 64 := by omega
          gi_wp2
          go_roundw
          case rel =>
            first
              | exact ⟨1, by omega, by go_num, hJk⟩
              | ((repeat apply Exists.intro); exact ⟨⟨1, by omega, by go_num, hJk⟩, rfl⟩)
          case measure => simp [intOf]
    · gi_wp2
      gi_loopw [16] (fun u16 wq => ∃ k : Nat, k ≤ 128 ∧ u16 = .int .i64 k ∧ J (64 + k) wq) (fun u16 _ => 128 - (intOf u16).toNat)
      case atStart => exact ⟨0, by omega, rfl, hJ⟩
      case round =>
        obtain ⟨k, hk, rfl, hJk⟩ := hrel
        obtain ⟨g0, g1, g2⟩ := HRG.out _ _ hJk
        by_cases hlt : k < 128
        · obtain ⟨fn, tmps, assign, body, hy, hR⟩ := HY.out (64 + k) _ (by omega) hJk
          rw [Wh.rv1 hlt] at hy
          gi_wp2
          refine ⟨fun h => (by cases h), hR.mono ?_⟩
          rintro e W' (⟨rfl, hJ'⟩ | ⟨rfl, hJx'⟩)
          · gi_wp2
            go_roundw
            case rel =>
              first
                | exact ⟨k + 1, by omega, by go_num, hJ'⟩
                | ((repeat apply Exists.intro); exact ⟨⟨k + 1, by omega, by go_num, hJ'⟩, rfl⟩)
            case measure => simp [intOf]; omega
          · gi_wp2
            refine bodyPost_ret (results_none rfl _ _ _) rfl ?_
            exact ⟨⟨_, rfl⟩, .inr hJx'⟩
        · obtain rfl : k = 128 := by omega
          gi_wp2
          go_roundw
          case rel =>
            first
              | exact ⟨2, by omega, by go_num, hJk⟩
              | ((repeat apply Exists.intro); exact ⟨⟨2, by omega, by go_num, hJk⟩, rfl⟩)
          case measure => simp [intOf]
    · gi_wp2
      gi_loopw [16] (fun u16 wq => ∃ k : Nat, k ≤ 256 ∧ u16 = .int .i64 k ∧ J (192 + k) wq) (fun u16 _ => 256 - (intOf u16).toNat)
      case atStart => exact ⟨0, by omega, rfl, hJ⟩
      case round =>
        obtain ⟨k, hk, rfl, hJk⟩ := hrel
        obtain ⟨g0, g1, g2⟩ := HRG.out _ _ hJk
        by_cases hlt : k < 256
        · obtain ⟨fn, tmps, assign, body, hy, hR⟩ := HY.out (192 + k) _ (by omega) hJk
          rw [Wh.rv2 hlt] at hy
          gi_wp2
          refine ⟨fun h => (by cases h), hR.mono ?_⟩
          rintro e W' (⟨rfl, hJ'⟩ | ⟨rfl, hJx'⟩)
          · gi_wp2
            go_roundw
            case rel =>
              first
                | exact ⟨k + 1, by omega, by go_num, hJ'⟩
                | ((repeat apply Exists.intro); exact ⟨⟨k + 1, by omega, by go_num, hJ'⟩, rfl⟩)
            case measure => simp [intOf]; omega
          · gi_wp2
            refine bodyPost_ret (results_none rfl _ _ _) rfl ?_
            exact ⟨⟨_, rfl⟩, .inr hJx'⟩
        · obtain rfl : k = 256 := by omega
          gi_wp2
          go_roundw
          case rel =>
            first
              | exact ⟨3, by omega, by go_num, hJk⟩
              | ((repeat apply Exists.intro); exact ⟨⟨3, by omega, by go_num, hJk⟩, rfl⟩)
          case measure => simp [intOf]
    · obtain ⟨fn, tmps, assign, body, hy, hR⟩ := HY.out 448 _ (by omega) hJ
      rw [Wh.rv3] at hy
      gi_wp2
      refine ⟨fun h => (by cases h), hR.mono ?_⟩
      rintro e W' (⟨rfl, hJ'⟩ | ⟨rfl, hJx'⟩)
      · gi_wp2
        go_end0
        exact ⟨⟨_, rfl⟩, .inl hJ'⟩
      · gi_wp2
        go_end0
        exact ⟨⟨_, rfl⟩, .inr hJx'⟩
end Go.Proofs.Ytklpdkojffaiiaa
