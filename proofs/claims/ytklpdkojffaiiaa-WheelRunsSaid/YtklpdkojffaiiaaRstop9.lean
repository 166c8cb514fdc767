/- The document's wheel: Stop, Next. -/
import Derived.Test.YtklpdkojffaiiaaRdrop9
import Derived.Test.YtklpdkojffaiiaaDue
namespace Go.Proofs.Ytklpdkojffaiiaa
open Go.RowKit Go.Shelf
set_option maxRecDepth 100000

namespace Wh
theorem erase_drop {id : Int} : ∀ {A : List Tm} {i : Nat}, (A.map (·.id)).Nodup → i < A.length → (A.getD i Tm.zero).id = id → A.eraseIdx i = dropA A id
  | [], _, _, h, _ => by simp at h
  | t :: r, 0, hn, _, hid => by
    have hid' : t.id = id := hid
    have hp := drop_perm (A := t :: r) (R := r) hn (.refl _)
    rw [List.map_cons, List.nodup_cons] at hn
    show r = dropA (t :: r) id
    unfold dropA
    rw [List.filter_cons, hid']
    simp only [decide_true, Bool.not_true, Bool.false_eq_true, if_false]
    symm
    rw [List.filter_eq_self]
    intro x hx
    have : x.id ≠ id := fun e => hn.1 (by rw [hid', ← e]; exact List.mem_map.2 ⟨x, hx, rfl⟩)
    simpa using this
  | t :: r, i + 1, hn, h, hid => by
    rw [List.map_cons, List.nodup_cons] at hn
    have hi : i < r.length := by simpa using h
    have hid' : (r.getD i Tm.zero).id = id := by rw [List.getD_cons_succ] at hid; exact hid
    have hmem : r.getD i Tm.zero ∈ r := by rw [List.getD_eq_getElem?_getD, List.getElem?_eq_getElem hi]; exact List.getElem_mem hi
    have hne : t.id ≠ id := fun e => hn.1 (by rw [e, ← hid']; exact List.mem_map.2 ⟨_, hmem, rfl⟩)
    rw [List.eraseIdx_cons_succ, erase_drop hn.2 hi hid']
    unfold dropA
    rw [List.filter_cons]
    simp [hne]
theorem take_ne {A : List Tm} {i : Nat} (h0 : ¬ i = 0) (hi : i < A.length) : A.take i ≠ [] := by
  intro e
  have h9 : (A.take i).length = 0 := by rw [e]; rfl
  rw [List.length_take] at h9
  omega
theorem map_getD {B : Type} (f : Tm → B) (b : B) {A : List Tm} {i : Nat} (h : i < A.length) : (A.map f).getD i b = f (A.getD i Tm.zero) := by
  rw [List.getD_eq_getElem?_getD, List.getD_eq_getElem?_getD, List.getElem?_map, List.getElem?_eq_getElem h]
  rfl
end Wh
set_option maxHeartbeats 4000000 in
theorem rstop_at (w : World) (R : Nat → Prop) (r now : Nat) (A : List Wh.Tm) (h : Rw.RefW w R r now A) (hids : (A.map (·.id)).Nodup) (hlen : A.length ≤ 1000) (id : Int) :
    Calls Try.prog 17 #[.pointer (some ⟨r, 0, none⟩), .int .i64 id] w fun e w' => e = .returned (.bool (Wh.hasA A id)) ∧ Rw.RefW w' (Rw.plus R w w') r now (Wh.dropA A id) ∧ Only R w w' := by
  obtain ⟨vi, vd, hb, hri, hrd, hrest⟩ := _root_.id h
  obtain ⟨ao, cap, rfl, hca, hcm, hnone⟩ := hri.shape
  have c1 : w.cell? ⟨r, 1, none⟩ = some (.slice ao (A.map (·.id)).length cap) := by rw [hb.cell]; rfl
  rw [List.length_map] at c1
  clear hb hrd hrest
  go_enter Try.func17, Try.ntmps17
  go_wp2_with fail
  go_loopw [5] (fun u5 wr => ∃ i : Nat, i ≤ A.length ∧ u5 = .int .i64 i ∧ wr = w ∧ RowKit.Hid (∀ j, j < i → (A.getD j Wh.Tm.zero).id ≠ id)) (fun u5 _ => A.length - (intOf u5).toNat)
  case atStart => exact ⟨0, by omega, rfl, rfl, Lib.hid (fun j hj => by omega)⟩
  case round =>
    obtain ⟨i, hi, rfl, rfl, HN⟩ := hrel
    by_cases hlt : i < A.length
    · obtain ⟨g, rfl, hc⟩ := hri.at_ (i := i) (by rw [List.length_map]; exact hlt)
      rw [Wh.map_getD (·.id) 0 hlt] at hc
      obtain ⟨x, hx⟩ : ∃ x, (A.getD i Wh.Tm.zero).id = x := ⟨_, rfl⟩
      rw [hx] at hc
      have HX := Lib.hid hx
      clear hx hri hca hcm hnone
      by_cases he : x = id
      · have hbb : (x == id) = true := by simpa using he
        have HE := Lib.hid he
        have hdr := rdrop_at wr R r now A h i hlt hlen
        rw [Wh.erase_drop hids hlt (HX.out.trans he)] at hdr
        have HH : RowKit.Hid (Wh.hasA A id = true) := Lib.hid (List.any_eq_true.2 ⟨_, (by rw [List.getD_eq_getElem?_getD, List.getElem?_eq_getElem hlt]; exact List.getElem_mem hlt : A.getD i Wh.Tm.zero ∈ A), by simpa using HX.out.trans he⟩)
        clear he
        go_upto_region 5 with fail
        go_wp2_with fail
        refine hdr.mono ?_
        rintro e w5 ⟨⟨v, rfl⟩, h5, o5⟩
        clear hdr
        go_wp2_with fail
        go_ret
        exact ⟨by rw [HH.out]; rfl, h5, o5⟩
      · have hbb : (x == id) = false := by simpa using he
        have HE := Lib.hid he
        clear he
        go_wp2_with fail
        go_roundw
        case rel =>
          exact ⟨i + 1, by omega, by go_num, (by first | rfl | trivial), Lib.hid (fun j hj => by
            by_cases hji : j < i
            · exact HN.out j hji
            · obtain rfl : j = i := by omega
              rw [HX.out]; exact HE.out)⟩
        case measure => simp [intOf]; omega
    · obtain rfl : i = A.length := by omega
      have HH : Wh.hasA A id = false := by
        unfold Wh.hasA
        rw [List.any_eq_false]
        intro t ht
        obtain ⟨j, hj, rfl⟩ := List.mem_iff_getElem.1 ht
        have := HN.out j hj
        rw [List.getD_eq_getElem?_getD, List.getElem?_eq_getElem hj] at this
        simpa using this
      have H2 := Lib.hid HH
      clear HH
      go_wp2_with fail
      go_ret
      exact ⟨by rw [H2.out]; rfl, by rw [Wh.dropA_none H2.out]; exact h.more (fun b e => .inl e), Only.refl _ _⟩
set_option maxHeartbeats 4000000 in
theorem rnext_at (w : World) (R : Nat → Prop) (r now : Nat) (A : List Wh.Tm) (h : Rw.RefW w R r now A) (hd : ∀ t ∈ A, now < t.due ∧ t.due < 18446744073709551616) (hlen : A.length ≤ 1000) :
    Calls Try.prog 21 #[.pointer (some ⟨r, 0, none⟩)] w fun e w' => e = .returned (.int .u64 (Wh.nextA A now)) ∧ Only NoBlock w w' := by
  obtain ⟨vi, vd, hb, hri, hrd, hrest⟩ := _root_.id h
  obtain ⟨ao, cap, rfl, hca, hcm, hnone⟩ := hrd.shape
  have c2 : w.cell? ⟨r, 2, none⟩ = some (.slice ao (A.map (fun t => (t.due : Int))).length cap) := by rw [hb.cell]; rfl
  have c0 : w.cell? ⟨r, 0, none⟩ = some (.int .u64 now) := by rw [hb.cell]; rfl
  rw [List.length_map] at c2
  clear hb hri hrest
  go_enter Try.func21, Try.ntmps21
  go_wp2_with fail
  go_loopw [4, 3] (fun u4 u3 wr => ∃ i : Nat, i ≤ A.length ∧ u4 = .int .i64 i ∧ u3 = .int .u64 (Wh.nextL (A.take i) now 0) ∧ Only NoBlock w wr) (fun u4 _ _ => A.length - (intOf u4).toNat)
  case atStart => exact ⟨0, by omega, rfl, rfl, Only.refl _ _⟩
  case round =>
    obtain ⟨i, hi, rfl, rfl, ho⟩ := hrel
    have c2' := Wh.cell_same ho c2
    have c0' := Wh.cell_same ho c0
    by_cases hlt : i < A.length
    · obtain ⟨g, rfl, hc⟩ := hrd.at_ (i := i) (by rw [List.length_map]; exact hlt)
      rw [Wh.map_getD (fun t => (t.due : Int)) 0 hlt] at hc
      have hc' := Wh.cell_same ho hc
      have hmem : A.getD i Wh.Tm.zero ∈ A := by rw [List.getD_eq_getElem?_getD, List.getElem?_eq_getElem hlt]; exact List.getElem_mem hlt
      obtain ⟨hg1, hg2⟩ := hd _ hmem
      have HS := Lib.hid (Wh.nextL_take hlt now 0)
      have hpos : i = 0 ∨ 1 ≤ Wh.nextL (A.take i) now 0 := by
        by_cases h0 : i = 0
        · exact .inl h0
        · exact .inr (Wh.nextL_pos (fun t ht => (hd t (List.mem_of_mem_take ht)).1) (.inr (Wh.take_ne h0 hlt)))
      have hz0 : i = 0 → Wh.nextL (A.take i) now 0 = 0 := fun e => by subst e; rfl
      obtain ⟨td, htd⟩ : ∃ td, (A.getD i Wh.Tm.zero).due = td := ⟨_, rfl⟩
      rw [htd] at hc hc' hg1 hg2 HS
      obtain ⟨Z, hZ⟩ : ∃ Z, Wh.nextL (A.take i) now 0 = Z := ⟨_, rfl⟩
      rw [hZ] at HS hpos hz0 ⊢
      obtain ⟨D, hD⟩ : ∃ D, td - now = D := ⟨_, rfl⟩
      rw [hD] at HS
      have hsub : IntKind.u64.wrap ((td : Int) - (now : Int)) = (D : Int) := by rw [IntKind.wrap_u64]; omega
      have HDD := Lib.hid hD
      clear hD hZ htd hmem hc c2 c0
      go_upto_region 5 with fail
      go_region
      have ho2 := ho.drew
      generalize wr.drew = w3 at ho2 ⊢
      clear c2' c0' hc' hsub ho
      by_cases h0 : i = 0
      · have hz := hz0 h0
        have hq : ((i : Int) == 0) = true := by rw [beq_iff_eq]; omega
        have HL : RowKit.Hid (Wh.least Z D = D) := Lib.hid (by rw [hz]; rfl)
        have hi1 : ((i : Int) = 0) := by omega
        clear hpos hz0 hz
        subst h0
        go_wp2_with fail
        go_roundw
        case rel => exact ⟨0 + 1, by omega, rfl, (by rw [HS.out, HL.out]), ho2⟩
        case measure => simp [intOf]; omega
      · have hq : ((i : Int) == 0) = false := by rw [beq_eq_false_iff_ne]; omega
        have hzp : 1 ≤ Z := hpos.resolve_left h0
        by_cases hl : D < Z
        · have hq1 : decide ((D : Int) < (Z : Int)) = true := by rw [decide_eq_true_eq]; omega
          have hq2 : decide (D < Z) = true := by rw [decide_eq_true_eq]; omega
          have HL : RowKit.Hid (Wh.least Z D = D) := Lib.hid (by unfold Wh.least; rw [if_pos (.inr hl)])
          clear hpos hz0 h0 hl
          go_wp2_with fail
          go_roundw
          case rel => exact ⟨i + 1, by omega, by go_num, (by rw [HS.out, HL.out]), ho2⟩
          case measure => simp [intOf]; omega
        · have hq1 : decide ((D : Int) < (Z : Int)) = false := by rw [decide_eq_false_iff_not]; omega
          have hq2 : decide (D < Z) = false := by rw [decide_eq_false_iff_not]; omega
          have HL : RowKit.Hid (Wh.least Z D = Z) := Lib.hid (by unfold Wh.least; rw [if_neg (by omega)])
          clear hpos hz0 h0 hl
          go_wp2_with fail
          go_roundw
          case rel => exact ⟨i + 1, by omega, by go_num, (by rw [HS.out, HL.out]), ho2⟩
          case measure => simp [intOf]; omega
    · obtain rfl : i = A.length := by omega
      rw [List.take_length]
      go_wp2_with fail
      go_ret
      exact ⟨rfl, ho⟩
end Go.Proofs.Ytklpdkojffaiiaa
