/- The document's Check and Bytes of a saga's steps (layer 13). -/
import Derived.Test.YtogeeeigfhmpmaaRcmdA
namespace Go.Proofs.Ytogeeeigfhmpmaa
open Go.RowKit
set_option maxRecDepth 100000

theorem okSs_take {l : List Pk.Stp} (h1 : 1 ≤ l.length) (h64 : l.length ≤ 64) : Pk.okSs l = l.all Pk.okS := by
  unfold Pk.okSs
  simp [h1, h64]
theorem all_take {l : List Pk.Stp} {k : Nat} (hk : k < l.length) {t : Pk.Stp} (ht : l.getD k stpK.zero = t) : (l.take (k + 1)).all Pk.okS = ((l.take k).all Pk.okS && Pk.okS t) := by
  rw [List.take_succ_eq_append_getElem hk, List.all_append]
  rw [List.getD_eq_getElem?_getD, List.getElem?_eq_getElem hk] at ht
  simp at ht
  simp [ht]
/-- tontineref13.Check's answer -/
def checkV (l : List Pk.Stp) : Int := if Pk.okSs l = true then 0 else 44
theorem checkV_yes {l : List Pk.Stp} (h : Pk.okSs l = true) : checkV l = 0 := by unfold checkV; rw [if_pos h]
theorem checkV_no {l : List Pk.Stp} (h : Pk.okSs l = false) : checkV l = 44 := by unfold checkV; rw [if_neg (by simp [h])]
set_option maxHeartbeats 1600000 in
theorem rcheck_at (w : World) (ao : Option Addr) (cap : Nat) (l : List Pk.Stp) (h : RowIn stpK 38 w ao l) (hs : Smalls l) :
    Calls Try.prog 21 #[.slice ao l.length cap] w fun e w' => e = .returned (.int .i64 (checkV l)) ∧ Only NoBlock w w' := by
  have hn64 := hs.1
  go_enter Try.func21, Try.ntmps21
  by_cases h0 : l.length = 0
  · obtain rfl : l = [] := List.length_eq_zero_iff.1 h0
    have HC : RowKit.Hid (checkV [] = 44) := Lib.hid rfl
    clear h hs hn64 h0
    simp only [List.length_nil]
    go_wp2_with fail
    go_loopw [3, 4] (fun v3 v4 wr => v3 = .bool true ∧ v4 = .int .i64 0 ∧ Only NoBlock w wr) (fun _ _ _ => 0)
    case atStart => exact ⟨rfl, rfl, Only.refl _ _⟩
    case round =>
      obtain ⟨rfl, rfl, hO⟩ := hrel
      go_wp2_with fail
      go_ret
      exact ⟨by rw [HC.out]; rfl, hO⟩
  have d0 : ((l.length : Int) == 0) = false := by rw [beq_eq_false_iff_ne]; omega
  have d64 : decide (64 < (l.length : Int)) = false := by rw [decide_eq_false_iff_not]; omega
  have HOK := Lib.hid (okSs_take (l := l) (by omega) hn64)
  go_wp2_with fail
  go_loopw [3, 4] (fun v3 v4 wr => ∃ (k : Nat) (bd : Bool), k ≤ l.length ∧ v3 = .bool bd ∧ v4 = .int .i64 k ∧ RowKit.Hid ((l.take k).all Pk.okS = !bd) ∧ Only NoBlock w wr) (fun _ v4 _ => l.length - (intOf v4).toNat)
  case atStart => exact ⟨0, false, by omega, rfl, rfl, Lib.hid rfl, Only.refl _ _⟩
  case round =>
    obtain ⟨k, bd, hk, rfl, rfl, HB, hO⟩ := hrel
    by_cases hlt : k < l.length
    · cases bd with
      | true =>
        have HF : RowKit.Hid (checkV l = 44) := Lib.hid (by
          refine checkV_no ?_
          rw [HOK.out]
          have h1 : (l.take k).all Pk.okS = false := by simpa using HB.out
          rw [Bool.eq_false_iff]
          intro hall
          rw [← List.take_append_drop k l, List.all_append, h1] at hall
          simp at hall)
        go_wp2_with fail
        go_ret
        exact ⟨by rw [HF.out]; rfl, hO⟩
      | false =>
        have hin := h.keepsN hO
        obtain ⟨b, off, rfl⟩ := hin.shape (by omega)
        have e0 := hin.at hlt (j := 0) (by decide)
        have e1 := hin.at hlt (j := 1) (by decide)
        have e2 := hin.at hlt (j := 2) (by decide)
        obtain ⟨⟨pt, nm, bg⟩, ht⟩ : ∃ t, l.getD k stpK.zero = t := ⟨_, rfl⟩
        have hsm : SmallS ⟨pt, nm, bg⟩ := by
          rw [← ht, List.getD_eq_getElem?_getD, List.getElem?_eq_getElem hlt]
          exact hs.2 _ (List.getElem_mem hlt)
        obtain ⟨s1, s2, s3⟩ := hsm
        have HA := Lib.hid (all_take hlt ht)
        rw [ht] at e0 e1 e2
        simp only [stpK, List.getElem?_cons_succ, List.getElem?_cons_zero, Nat.add_zero] at e0 e1 e2
        simp only at s1 s2 s3
        clear ht hin
        have hA := (Only.refl NoBlock wr).alloc (Obj.cells #[.int .i64 (pt : Int), .string (textOf nm), .int .i64 (bg : Int)] 38)
        have hts : (textOf nm).size = nm.length := textOf_size nm
        have q1 : decide ((pt : Int) < 0) = false := by rw [decide_eq_false_iff_not]; omega
        have q2 : decide (3 < (pt : Int)) = false := by simp; omega
        have q4 : decide (16 < (nm.length : Int)) = false := by simp; omega
        have q6 : decide (9 < (bg : Int)) = false := by simp; omega
        have step : ∀ v : Bool, Pk.okS ⟨pt, nm, bg⟩ = !v → (l.take (k + 1)).all Pk.okS = !v := fun v hv => by rw [HA.out, HB.out, hv]; simp
        by_cases hn : nm.length < 1
        · have q3 : decide ((nm.length : Int) < 1) = true := by simp; omega
          have HV := Lib.hid (step true (by unfold Pk.okS; simp; try omega))
          clear step HA hn
          go_wp2_with fail
          go_roundw
          case rel => exact ⟨k + 1, true, by omega, rfl, by go_num, HV, hO.trans hA⟩
          case measure => simp [intOf]; omega
        · have q3 : decide ((nm.length : Int) < 1) = false := by simp; omega
          by_cases hb : bg < 1
          · have q5 : decide ((bg : Int) < 1) = true := by simp; omega
            have HV := Lib.hid (step true (by unfold Pk.okS; simp; omega))
            clear step HA hn hb
            go_wp2_with fail
            go_roundw
            case rel => exact ⟨k + 1, true, by omega, rfl, by go_num, HV, hO.trans hA⟩
            case measure => simp [intOf]; omega
          · have q5 : decide ((bg : Int) < 1) = false := by simp; omega
            have HV := Lib.hid (step false (by unfold Pk.okS; simp; omega))
            clear step HA hn hb
            go_wp2_with fail
            go_roundw
            case rel => exact ⟨k + 1, false, by omega, rfl, by go_num, HV, hO.trans hA⟩
            case measure => simp [intOf]; omega
    · obtain rfl : k = l.length := by omega
      have hF : Pk.okSs l = !bd := by rw [HOK.out, ← HB.out, List.take_length]
      have HF1 := Lib.hid hF
      clear hF
      cases bd with
      | true =>
        have HF : RowKit.Hid (checkV l = 44) := Lib.hid (checkV_no HF1.out)
        clear HF1
        go_wp2_with fail
        go_ret
        exact ⟨by rw [HF.out]; rfl, hO⟩
      | false =>
        have HF : RowKit.Hid (checkV l = 0) := Lib.hid (checkV_yes HF1.out)
        clear HF1
        go_wp2_with fail
        go_ret
        exact ⟨by rw [HF.out]; rfl, hO⟩
def numSs (l : List Pk.Stp) : List Int := l.flatMap Pk.encS
theorem numSs_snoc {l : List Pk.Stp} {k : Nat} (h : k < l.length) {t : Pk.Stp} (ht : l.getD k stpK.zero = t) : numSs (l.take (k + 1)) = numSs (l.take k) ++ Pk.encS t := by
  rw [List.take_succ_eq_append_getElem h]
  rw [List.getD_eq_getElem?_getD, List.getElem?_eq_getElem h] at ht
  simp at ht
  unfold numSs
  simp [ht]
theorem encS_len {t : Pk.Stp} (h : SmallS t) : (Pk.encS t).length ≤ 60 := by
  have h1 := num_len (x := t.part) (by have := h.part; omega)
  have h2 := num_len (x := t.name.length) (by have := h.name; omega)
  have h3 := num_len (x := t.budget) (by have := h.budget; omega)
  have := h.name
  unfold Pk.encS Pk.text
  simp only [List.length_append]
  omega
theorem numSs_len {l : List Pk.Stp} (h : ∀ t ∈ l, SmallS t) : (numSs l).length ≤ 60 * l.length := by
  induction l with
  | nil => simp [numSs]
  | cons x r ih =>
    have h1 := encS_len (h x (by simp))
    have h2 := ih (fun y hy => h y (by simp [hy]))
    have e : numSs (x :: r) = Pk.encS x ++ numSs r := by simp [numSs]
    rw [e, List.length_append, List.length_cons]; omega
theorem SmallS.name_byte_nums {nm : List Int} (hb : ∀ c ∈ nm, 0 ≤ c ∧ c ≤ 255) : nums (textOf nm) = nm := nums_textOf hb
end Go.Proofs.Ytogeeeigfhmpmaa
