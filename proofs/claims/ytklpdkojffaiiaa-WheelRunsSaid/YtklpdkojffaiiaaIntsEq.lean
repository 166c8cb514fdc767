/- Two lists of numbers are compared. -/
import Derived.Test.YtklpdkojffaiiaaInts
namespace Go.Proofs.Ytklpdkojffaiiaa
open Go.RowKit
set_option maxRecDepth 100000

theorem ints_at (w : World) (ao bo : Option Addr) (ca cb : Nat) (l m : List Int) (ha : IntsIn w ao l) (hb : IntsIn w bo m) :
    Calls Try.prog 18 #[.slice ao l.length ca, .slice bo m.length cb] w fun e w' => e = .returned (.bool (decide (l = m))) ∧ ∃ q, w' = w.drewN q := by
  have hla := ha.len
  have hlb := hb.len
  unfold maxLen at hla hlb
  by_cases hlen : l.length = m.length
  · have HL := Lib.hid hlen
    have h1 : ((l.length : Int) != (m.length : Int)) = false := by simp [hlen]
    clear hlen
    go_enter Try.func18, Try.ntmps18
    go_wp2
    clear h1
    go_loopw [5] (fun i wr => ∃ (k q : Nat), k ≤ l.length ∧ i = .int .i64 k ∧ l.take k = m.take k ∧ wr = w.drewN q) (fun i _ => l.length - (intOf i).toNat)
    case atStart => exact ⟨0, 0, by omega, rfl, rfl, rfl⟩
    case round =>
      obtain ⟨k, q, hk, rfl, htk, rfl⟩ := hrel
      have HT := Lib.hid htk
      clear htk
      by_cases hlt : k < l.length
      · have hlt2 : k < m.length := by have := HL.out; omega
        obtain ⟨b1, o1, rfl, c1⟩ := ha.cell k hlt
        obtain ⟨b2, o2, rfl, c2⟩ := hb.cell k hlt2
        obtain ⟨x, hx⟩ : ∃ x, l.getD k 0 = x := ⟨_, rfl⟩
        obtain ⟨y, hy⟩ : ∃ y, m.getD k 0 = y := ⟨_, rfl⟩
        rw [hx] at c1
        rw [hy] at c2
        have e1 : l[k]? = some x := by rw [List.getElem?_eq_getElem hlt]; rw [← hx]; simp [List.getD, hlt]
        have e2 : m[k]? = some y := by rw [List.getElem?_eq_getElem hlt2]; rw [← hy]; simp [List.getD, hlt2]
        have E1 := Lib.hid e1
        have E2 := Lib.hid e2
        clear hx hy e1 e2 ha hb
        by_cases hxy : x = y
        · subst hxy
          go_wp2_with fail
          go_quiet (fail)
          go_wp2_with fail
          go_roundw
          case rel =>
            refine ⟨k + 1, _, by omega, by go_num, ?_, rfl⟩
            rw [List.take_add_one, List.take_add_one, HT.out, E1.out, E2.out]
          case measure => simp [intOf]; omega
        · have hne : (x != y) = true := by simp [hxy]
          have HN := Lib.hid hxy
          clear hxy
          go_wp2_with fail
          go_quiet (fail)
          go_wp2_with fail
          go_ret
          refine ⟨?_, _, World.drewN_drewN _ _ _⟩
          have : l ≠ m := by
            intro e
            have := E1.out
            rw [e, E2.out] at this
            cases this
            exact HN.out rfl
          simp [this]
      · have hkl : k = l.length := by omega
        subst hkl
        go_wp2
        go_ret
        refine ⟨?_, q, rfl⟩
        have : l = m := by
          have h1 := HT.out
          rw [List.take_length, HL.out, List.take_length] at h1
          exact h1
        simp [this]
  · have h1 : ((l.length : Int) != (m.length : Int)) = true := by simp; omega
    have hne : l ≠ m := fun e => hlen (by rw [e])
    have HN := Lib.hid hne
    clear hlen hne
    go_enter Try.func18, Try.ntmps18
    go_wp2
    go_ret
    exact ⟨by simp [HN.out], 0, rfl⟩

end Go.Proofs.Ytklpdkojffaiiaa
