/- session.Table's Clock, Register. -/
import Derived.Test.YtogeeeigfhmpmaaTab
import Derived.Deep.RegionHeld3
namespace Go.Proofs.Ytogeeeigfhmpmaa
open Go.RowKit
set_option maxRecDepth 100000

theorem filter_take_yes {p : Mc.Ses → Bool} {l : List Mc.Ses} {k : Nat} (hk : k < l.length) (h : p l[k] = true) : (l.take (k + 1)).filter p = (l.take k).filter p ++ [l[k]] := by
  rw [List.take_succ_eq_append_getElem hk, List.filter_append]
  simp [h]
theorem filter_take_no {p : Mc.Ses → Bool} {l : List Mc.Ses} {k : Nat} (hk : k < l.length) (h : p l[k] = false) : (l.take (k + 1)).filter p = (l.take k).filter p := by
  rw [List.take_succ_eq_append_getElem hk, List.filter_append]
  simp [h]
set_option maxHeartbeats 1600000 in
theorem clock_at (w : World) (tb : Nat) (v : Value) (t : Mc.Tab) (h : TabAt w tb v t) (hk : t.Ok) (now : Nat) (hn : now < 18446744073709551616) :
    Calls Try.prog 27 #[.pointer (some ⟨tb, 0, none⟩), .int .u64 now] w fun e w' => e = .returned (.tuple #[]) ∧ ∃ v', TabTo tb v (t.clock now) w w' v' := by
  have hused := hk.used
  have hlen := hk.len
  obtain ⟨tnow, next, l⟩ := t
  have h0 := h
  obtain ⟨hB, hrow⟩ := h
  simp only at hB hrow hused hlen
  have htl := hB.lt
  have c0 := hB.cell 0
  have f0 := hB.free 0
  simp only [List.getElem?_toArray, List.getElem?_cons_zero] at c0
  by_cases hle : now ≤ tnow
  · have HC : RowKit.Hid (Mc.Tab.clock ⟨tnow, next, l⟩ now = ⟨tnow, next, l⟩) := Lib.hid (by unfold Mc.Tab.clock; rw [if_pos hle])
    have d0 : decide ((now : Int) ≤ (tnow : Int)) = true := by simp; omega
    have d1 : decide (now ≤ tnow) = true := by simp; omega
    clear hle
    go_enter Try.func27, Try.ntmps27
    go_wp2_with fail
    refine bodyPost_ret (results_none rfl _ _ _) rfl ?_
    exact ⟨rfl, v, by rw [HC.out]; exact ⟨h0, fun k hk => .inl hk, Only.refl _ _⟩⟩
  · have HC : RowKit.Hid (Mc.Tab.clock ⟨tnow, next, l⟩ now = ⟨now, next, l.filter (fun x => decide (now - x.used ≤ 1000))⟩) := Lib.hid (by unfold Mc.Tab.clock; rw [if_neg hle])
    have d0 : decide ((now : Int) ≤ (tnow : Int)) = false := by simp; omega
    have d1 : decide (now ≤ tnow) = false := by simp; omega
    have HT : RowKit.Hid (∀ x ∈ l, x.used ≤ now) := Lib.hid (fun x hx => by have := hused x hx; omega)
    clear hle hused hk h0
    go_enter Try.func27, Try.ntmps27
    go_upto_region 2 with fail
    have hB1 : Blk (w.setCell ⟨tb, 0, none⟩ (.int .u64 (now : Int))) tb #[.int .u64 now, .int .u64 next, v] 112 := hB.setCell 0 (.int .u64 (now : Int))
    have hO1 := (Only.refl (fun k => k = tb) w).setCell (p := ⟨tb, 0, none⟩) (fun _ => rfl) (.int .u64 (now : Int))
    have hrow1 := hrow.keeps hO1 (fun k hk e => (hrow.ofT hk).ne_blk hB (by decide) e)
    generalize w.setCell ⟨tb, 0, none⟩ (.int .u64 (now : Int)) = w1 at hB1 hO1 hrow1 ⊢
    clear c0 f0 hB hrow
    obtain ⟨ao, cap, rfl, hin⟩ := hrow1.read
    have c2 := hB1.cell 2
    simp only [List.getElem?_toArray, List.getElem?_cons_succ, List.getElem?_cons_zero] at c2
    go_wp2_with fail
    go_loopw [4, 26] (fun v4 v26 wr => ∃ (k : Nat) (u : Value), k ≤ l.length ∧ v26 = .int .i64 k ∧ u = v4 ∧ RowAt sesK 58 wr w1.heap.size u ((l.take k).filter (fun x => decide (now - x.used ≤ 1000))) ∧ Only NoBlock w1 wr) (fun _ v26 _ => l.length - (intOf v26).toNat)
    case atStart => exact ⟨0, _, by omega, rfl, rfl, RowAt.nil _ _ _ _, Only.refl _ _⟩
    case round =>
      obtain ⟨k, u, hk, rfl, rfl, hru, hO⟩ := hrel
      by_cases hlt : k < l.length
      · have hin2 := hin.keepsN hO
        obtain ⟨b, off, rfl⟩ := hin2.shape (by omega)
        have hg : l.getD k sesK.zero = l[k] := by rw [List.getD_eq_getElem?_getD, List.getElem?_eq_getElem hlt]; rfl
        have e0 := hin2.at hlt (j := 0) (by decide)
        have e1 := hin2.at hlt (j := 1) (by decide)
        have e2 := hin2.at hlt (j := 2) (by decide)
        have e3 := hin2.at hlt (j := 3) (by decide)
        have e4 := hin2.at hlt (j := 4) (by decide)
        have e5 := hin2.at hlt (j := 5) (by decide)
        rw [hg] at e0 e1 e2 e3 e4 e5
        have hfy := filter_take_yes (p := fun x => decide (now - x.used ≤ 1000)) hlt
        have hfn := filter_take_no (p := fun x => decide (now - x.used ≤ 1000)) hlt
        have hxu := HT.out l[k] (List.getElem_mem hlt)
        obtain ⟨⟨xi, xu, xs, ⟨ye, yn, yx⟩⟩, hx⟩ : ∃ x, l[k] = x := ⟨_, rfl⟩
        rw [hx] at e0 e1 e2 e3 e4 e5 hfy hfn hxu
        have HX := Lib.hid hx
        clear hx hg hin2
        simp only [sesK, List.getElem?_cons_succ, List.getElem?_cons_zero, Nat.add_zero] at e0 e1 e2 e3 e4 e5
        simp only at hxu hfy hfn
        have hA := (Only.refl NoBlock wr).alloc (Obj.cells #[.int .u64 xi, .int .u64 xu, .int .u64 xs, .int .i64 ye, .int .u64 yn, .int .u64 yx] 58)
        have hsz := hO.size
        have hsz1 := hO1.size
        have hxi : (xu : Int) ≤ (now : Int) := by omega
        have hln : ((l.take k).filter (fun x => decide (now - x.used ≤ 1000))).length ≤ 16 := Nat.le_trans (List.length_filter_le _ _) (by rw [List.length_take]; omega)
        generalize hfl : (l.take k).filter (fun x => decide (now - x.used ≤ 1000)) = fl at hru hln hfy hfn
        clear hfl
        by_cases hage : now - xu ≤ 1000
        · have HF : RowKit.Hid ((l.take (k + 1)).filter (fun x => decide (now - x.used ≤ 1000)) = fl ++ [⟨xi, xu, xs, ⟨ye, yn, yx⟩⟩]) := Lib.hid (hfy (by simpa using hage))
          have d2 : decide ((now : Int) - (xu : Int) ≤ 1000) = true := by simp; omega
          clear hfy hfn hage
          go_wp2_with (first
            | (at_builtin; refine wpList_append_row1 sesT _ rfl _ _ rfl w1.heap.size _ fl ⟨xi, xu, xs, ⟨ye, yn, yx⟩⟩ (wr.heap.size + 1) 1 rfl ((hru.keepsN hA).keepsN ((Only.refl NoBlock _).alloc _)) rfl (made_cells sesK _ _ _ (by simp) _ _ rfl) (by omega) (by simp; omega) ?_; intro v8 w8 hrow8 hg8 hv8))
          have hO8 : Only NoBlock w1 w8 := ((hO.trans hA).alloc _).appended ((hru.keepsN hA).keepsN ((Only.refl NoBlock _).alloc _)) (Nat.le_refl _) hg8
          go_roundw
          case rel => exact ⟨k + 1, _, by omega, by go_num, rfl, by rw [HF.out]; exact hrow8, hO8⟩
          case measure => simp [intOf]; omega
        · have HF : RowKit.Hid ((l.take (k + 1)).filter (fun x => decide (now - x.used ≤ 1000)) = fl) := Lib.hid (hfn (by simpa using hage))
          have d2 : decide ((now : Int) - (xu : Int) ≤ 1000) = false := by simp; omega
          clear hfy hfn hage
          go_wp2_with fail
          go_roundw
          case rel => exact ⟨k + 1, u, by omega, by go_num, rfl, by rw [HF.out]; exact hru.keepsN hA, hO.trans hA⟩
          case measure => simp [intOf]; omega
      · obtain rfl : k = l.length := by omega
        rw [List.take_length] at hru
        have hB2 := hB1.keeps hO (fun h => h)
        have f2 := hB2.free 2
        have c2' := hB2.cell 2
        simp only [List.getElem?_toArray, List.getElem?_cons_succ, List.getElem?_cons_zero] at c2'
        generalize hfl : l.filter (fun x => decide (now - x.used ≤ 1000)) = fl at hru
        have HFL := Lib.hid hfl
        clear hfl
        obtain ⟨ao2, cap2, rfl⟩ := hru.shape
        go_wp2_with fail
        go_end0
        have hap : ∀ j, (Value.slice ao2 fl.length cap2).ownBlock = some j → j ≠ tb := fun j hj => (hru.ofT hj).ne_blk hB2 (by decide)
        have hS := (Only.refl (fun k => k = tb) wr).setCell (p := ⟨tb, 2, none⟩) (fun _ => rfl) (.slice ao2 fl.length cap2)
        refine ⟨rfl, .slice ao2 fl.length cap2, ?_⟩
        rw [HC.out, HFL.out]
        refine ⟨⟨hB2.setCell 2 (.slice ao2 fl.length cap2), (hru.keeps hS hap).lower (Nat.zero_le _)⟩, fun j hj => .inr (Nat.le_trans hO1.size (World.ownsRow.lt hru j hj).1), ?_⟩
        exact ((hO1.trans hO.of_no).trans hS).mono (fun k hk => .inl hk)
end Go.Proofs.Ytogeeeigfhmpmaa
