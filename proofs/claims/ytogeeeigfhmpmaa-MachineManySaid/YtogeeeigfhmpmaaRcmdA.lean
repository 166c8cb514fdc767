/- The document's commands (layers 13, 16): Check, Bytes, bare, May, nums, truth. -/
import Derived.Test.YtogeeeigfhmpmaaNumsB
import Derived.Test.YtogeeeigfhmpmaaMay
import Derived.Test.YtogeeeigfhmpmaaReadK
import Derived.Deep.RegionHeld3
namespace Go.Proofs.Ytogeeeigfhmpmaa
open Go.RowKit
set_option maxRecDepth 100000

set_option maxHeartbeats 1000000 in
theorem rnums16_at (w : World) (ao : Option Addr) (cap : Nat) (l : List Nat) (hl : U64sIn w ao l) :
    Calls Try.prog 23 #[.slice ao l.length cap] w fun e w' => e = .returned (.string (textOf (numsB l))) ∧ Only NoBlock w w' := by
  have hlen := hl.len
  go_enter Try.func23, Try.ntmps23
  go_wp2_with fail
  go_loopw [3, 4] (fun u3 u4 wr => ∃ (k : Nat), k ≤ l.length ∧ u4 = .int .i64 k ∧ u3 = .string (textOf (numsB (l.take k))) ∧ Only NoBlock w wr) (fun _ u4 _ => l.length - (intOf u4).toNat)
  case atStart => exact ⟨0, by omega, rfl, rfl, Only.refl _ _⟩
  case round =>
    obtain ⟨k, hk, rfl, rfl, hn⟩ := hrel
    by_cases hlt : k < l.length
    · obtain ⟨b, off, rfl, hc⟩ := (hl.keeps hn (fun _ _ h => h)).cell k hlt
      have hw : l.getD k 0 < 18446744073709551616 := by rw [List.getD_eq_getElem?_getD, List.getElem?_eq_getElem hlt]; exact hl.wf _ (List.getElem_mem hlt)
      have hs := numsB_snoc hlt
      have hz := numsB_len (l := l.take k) (fun x hx => hl.wf x (List.mem_of_mem_take hx))
      rw [List.length_take, Nat.min_eq_left hk] at hz
      have HS := Lib.hid hs
      clear hs
      generalize l.getD k 0 = x at hc hw HS
      have hxl := num_len hw
      have hcat : (9223372036854775807 < (textOf (numsB (l.take k))).size + (textOf (Pk.num x)).size) = False := by rw [textOf_size, textOf_size]; simp; omega
      go_wp2_with fail
      refine (dnum_at _ x hw).mono ?_
      rintro e w2 ⟨rfl, hO⟩
      go_wp2_with fail
      go_roundw
      case rel => exact ⟨k + 1, by omega, by go_num, by rw [HS.out, textOf_append], hn.trans hO⟩
      case measure => simp [intOf]; omega
    · obtain rfl : k = l.length := by omega
      rw [List.take_length]
      go_wp2_with fail
      go_ret
      exact ⟨rfl, hn⟩
theorem rnums16_as {w : World} {ao : Option Addr} {cap len : Nat} {l : List Nat} (hl : U64sIn w ao l) (hlen : l.length = len) {s : ByteArray} (hs : textOf (numsB l) = s) :
    Calls Try.prog 23 #[.slice ao len cap] w fun e w' => e = .returned (.string s) ∧ Only NoBlock w w' := by
  subst hlen; subst hs; exact rnums16_at w ao cap l hl


theorem truth_at (w : World) (b : Bool) :
    Calls Try.prog 25 #[.bool b] w fun e w' => e = .returned (.int .u64 (Pk.truth b : Nat)) ∧ w = w' := by
  cases b with
  | true =>
    go_enter Try.func25, Try.ntmps25
    go_wp2_with fail
    go_ret
    exact ⟨rfl, rfl⟩
  | false =>
    go_enter Try.func25, Try.ntmps25
    go_wp2_with fail
    go_ret
    exact ⟨rfl, rfl⟩
end Go.Proofs.Ytogeeeigfhmpmaa
