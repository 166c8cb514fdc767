/- The document's wheel: a place is gone. -/
import Derived.Test.YtklpdkojffaiiaaRw9
import Derived.Test.YtklpdkojffaiiaaPutA
import Derived.Deep.RegionLaw
import Derived.Deep.RegionHeld3
namespace Go.Proofs.Ytklpdkojffaiiaa
open Go.RowKit Go.Shelf
set_option maxRecDepth 100000

theorem erase_map {B C : Type} (f : B → C) : ∀ (l : List B) (i : Nat), (l.eraseIdx i).map f = (l.map f).eraseIdx i
  | [], _ => rfl
  | _ :: _, 0 => rfl
  | x :: r, i + 1 => by rw [List.eraseIdx_cons_succ, List.map_cons, List.map_cons, List.eraseIdx_cons_succ, erase_map f r i]
theorem take_cell {l : List Int} {i j : Nat} (h : j < (l.take i).length) : (l.take i).getD j 0 = l.getD j 0 := by
  rw [List.length_take] at h
  rw [List.getD_eq_getElem?_getD, List.getD_eq_getElem?_getD, List.getElem?_take, if_pos (by omega)]
set_option maxHeartbeats 4000000 in
theorem rdrop_at (w : World) (R : Nat → Prop) (r now : Nat) (A : List Wh.Tm) (h : Rw.RefW w R r now A) (i : Nat) (hi : i < A.length) (hlen : A.length ≤ 1000) :
    Calls Try.prog 28 #[.pointer (some ⟨r, 0, none⟩), .int .i64 i] w fun e w' => (∃ v, e = .returned v) ∧ Rw.RefW w' (Rw.plus R w w') r now (A.eraseIdx i) ∧ Only R w w' := by
  obtain ⟨vi, vd, hb, hri, hrd, hRr, hRi, hRd⟩ := h
  obtain ⟨li, hli⟩ : ∃ li, A.map (·.id) = li := ⟨_, rfl⟩
  obtain ⟨ld, hld⟩ : ∃ ld, A.map (fun t => (t.due : Int)) = ld := ⟨_, rfl⟩
  have hl1 : li.length = A.length := by rw [← hli, List.length_map]
  have hl2 : ld.length = A.length := by rw [← hld, List.length_map]
  have heri : (A.eraseIdx i).map (·.id) = li.eraseIdx i := by rw [← hli, erase_map]
  have herd : (A.eraseIdx i).map (fun t => (t.due : Int)) = ld.eraseIdx i := by rw [← hld, erase_map]
  rw [hli] at hri
  rw [hld] at hrd
  have hi1 : i < li.length := by omega
  have hi2 : i < ld.length := by omega
  have hk1 : li.length ≤ 1000 := by omega
  have hk2 : ld.length ≤ 1000 := by omega
  clear hl1 hl2 hli hld
  have herasea : li.take i ++ li.drop (i + 1) = li.eraseIdx i := (List.eraseIdx_eq_take_drop_succ li i).symm
  have heraseb : ld.take i ++ ld.drop (i + 1) = ld.eraseIdx i := (List.eraseIdx_eq_take_drop_succ ld i).symm
  obtain ⟨ao, capa, rfl, hca, hcm, hnone⟩ := hri.shape
  obtain ⟨ga, rfl, _⟩ := hri.at_ (i := i) (by omega)
  obtain ⟨bo, capb, rfl, hcb, hcmb, hnoneb⟩ := hrd.shape
  obtain ⟨gb, rfl, _⟩ := hrd.at_ (i := i) (by omega)
  have hc1a : ∀ j, j < (li.take i).length → w.drew.cell? ((⟨ga, 0, none⟩ : Addr).add j) = some (.int .i64 ((li.take i).getD j 0)) := fun j hj => by
    rw [take_cell hj, Addr.add_lit, Nat.zero_add]
    obtain ⟨g', e, hc⟩ := hri.at_ (i := j) (by simp at hj; omega)
    cases e
    exact hc
  have slha := Rw.sl_h1 27 Rw.uei Rw.uzi ga li.length capa i (by omega)
  obtain ⟨ada, slla, hc2a, _⟩ := Rw.sl_l1 27 Rw.uei Rw.uzi hri (i + 1) (by omega)
  push_cast at slla
  have hw1 : IntKind.i64.wrap ((i : Int) + 1) = (i : Int) + 1 := IntWalk.i64_in _ (by omega)
  have c0w : w.cell? ⟨r, 1, none⟩ = some (.slice (some ⟨ga, 0, none⟩) li.length capa) := by rw [hb.cell]; rfl
  go_enter Try.func28, Try.ntmps28
  have hMID : ∀ {w2 : World} {a2 : Option Addr} {cp2 : Nat}, Rw.Row 3 .i64 w2 w.heap.size (.slice a2 (li.eraseIdx i).length cp2) (li.eraseIdx i) → Only NoBlock w w2 →
      Rw.Row 3 .i64 (w2.setCell ⟨r, 1, none⟩ (.slice a2 (li.eraseIdx i).length cp2)) w.heap.size (.slice a2 (li.eraseIdx i).length cp2) (li.eraseIdx i) ∧ Only (fun k => k = r) w (w2.setCell ⟨r, 1, none⟩ (.slice a2 (li.eraseIdx i).length cp2)) ∧ Blk (w2.setCell ⟨r, 1, none⟩ (.slice a2 (li.eraseIdx i).length cp2)) r #[.int .u64 now, .slice a2 (li.eraseIdx i).length cp2, .slice (some ⟨gb, 0, none⟩) ld.length capb] 42 := by
    intro w2 a2 cp2 hr2 hO2
    have hbk2 := hb.keeps hO2 (fun h => h)
    refine ⟨hr2.keeps (S := fun k => k = r) (Only.setCell (S := fun k => k = r) (p := ⟨r, 1, none⟩) (Only.refl _ _) (fun _ => rfl) _) (fun b e hk => by subst hk; exact hr2.apart hbk2 (by decide) e), Only.setCell (S := fun k => k = r) (p := ⟨r, 1, none⟩) hO2.of_no (fun _ => rfl) _, ?_⟩
    have := hbk2.setCell 1 (.slice a2 (li.eraseIdx i).length cp2)
    exact this
  go_upto_region 0 with fail
  refine wp_region_held_drew (S := fun _ => True) (by kernel_rfl) trivial (fun _ => ?_)
  have hO0a := (Only.refl NoBlock w).drew
  have c0a : (w.drew).cell? ⟨r, 1, none⟩ = some (.slice (some ⟨ga, 0, none⟩) li.length capa) := by rw [(hb.drew).cell]; rfl
  refine Wh.take (i := 0) (d := some 4) (v := ?v1) rfl (by rfl) (by kernel_rfl) (by kernel_rfl) (by kernel_rfl) (fun _ _ _ h => h) (Or.inl ⟨by rfl, ?h1⟩) trivial ?r1
  case h1 => (intro w hSw; go_simp; all_goals (try with_reducible rfl))
  simp only [Act.put, List.setIfInBounds_toArray, List.set_cons_zero, List.set_cons_succ]
  refine Wh.take (i := 1) (d := some 5) (v := ?v2) rfl (by rfl) (by kernel_rfl) (by kernel_rfl) (by kernel_rfl) (fun _ _ _ h => h) (Or.inl ⟨by rfl, ?h2⟩) trivial ?r2
  case h2 => (intro w hSw; go_simp; all_goals (try with_reducible rfl))
  simp only [Act.put, List.setIfInBounds_toArray, List.set_cons_zero, List.set_cons_succ]
  refine Wh.take (i := 2) (d := some 6) (v := ?v3) rfl (by rfl) (by kernel_rfl) (by kernel_rfl) (by kernel_rfl) (fun _ _ _ h => h) (Or.inl ⟨by rfl, ?h3⟩) trivial ?r3
  case h3 => (intro w hSw; go_simp; all_goals (try with_reducible rfl))
  simp only [Act.put, List.setIfInBounds_toArray, List.set_cons_zero, List.set_cons_succ]
  refine Wh.take (i := 3) (d := some 7) (v := ?v4) rfl (by rfl) (by kernel_rfl) (by kernel_rfl) (by kernel_rfl) (fun _ _ _ h => h) (Or.inl ⟨by rfl, ?h4⟩) trivial ?r4
  case h4 => (intro w hSw; go_simp; all_goals (try with_reducible rfl))
  simp only [Act.put, List.setIfInBounds_toArray, List.set_cons_zero, List.set_cons_succ]
  refine Wh.take (i := 5) (d := some 9) (v := ?v5) rfl (by rfl) (by kernel_rfl) (by kernel_rfl) (by kernel_rfl) (fun _ _ _ h => h) (Or.inl ⟨by rfl, ?h5⟩) trivial ?r5
  case h5 => (intro w hSw; go_simp; all_goals (try with_reducible rfl))
  simp only [Act.put, List.setIfInBounds_toArray, List.set_cons_zero, List.set_cons_succ]
  refine Wh.take (i := 8) (d := some 12) (v := ?v6) rfl (by rfl) (by kernel_rfl) (by kernel_rfl) (by kernel_rfl) (fun _ _ _ h => h) (Or.inl ⟨by rfl, ?h6⟩) trivial ?r6
  case h6 => (intro w hSw; go_simp; all_goals (try with_reducible rfl))
  simp only [Act.put, List.setIfInBounds_toArray, List.set_cons_zero, List.set_cons_succ]
  refine Wh.take (i := 9) (d := some 13) (v := ?v7) rfl (by rfl) (by kernel_rfl) (by kernel_rfl) (by kernel_rfl) (fun _ _ _ h => h) (Or.inl ⟨by rfl, ?h7⟩) trivial ?r7
  case h7 => (intro w hSw; go_simp; all_goals (try with_reducible rfl))
  simp only [Act.put, List.setIfInBounds_toArray, List.set_cons_zero, List.set_cons_succ]
  refine Wh.take (i := 10) (d := some 14) (v := ?v8) rfl (by rfl) (by kernel_rfl) (by kernel_rfl) (by kernel_rfl) (fun _ _ _ h => h) (Or.inl ⟨by rfl, ?h8⟩) trivial ?r8
  case h8 => (intro w hSw; go_simp; all_goals (try with_reducible rfl))
  simp only [Act.put, List.setIfInBounds_toArray, List.set_cons_zero, List.set_cons_succ]
  refine Wh.take (i := 12) (d := some 16) (v := ?v9) rfl (by rfl) (by kernel_rfl) (by kernel_rfl) (by kernel_rfl) (fun _ _ _ h => h) (Or.inl ⟨by rfl, ?h9⟩) trivial ?r9
  case h9 => (intro w hSw; go_simp; all_goals (try with_reducible rfl))
  simp only [Act.put, List.setIfInBounds_toArray, List.set_cons_zero, List.set_cons_succ]
  refine Wh.take (i := 13) (d := some 17) (v := ?v10) rfl (by rfl) (by kernel_rfl) (by kernel_rfl) (by kernel_rfl) (fun _ _ _ h => h) (Or.inl ⟨by rfl, ?h10⟩) trivial ?r10
  case h10 => (intro w hSw; go_simp; all_goals (try with_reducible rfl))
  simp only [Act.put, List.setIfInBounds_toArray, List.set_cons_zero, List.set_cons_succ]
  refine wpAnyH_ready (rs := [4, 11]) (by kernel_rfl) (by simp) ?_
  refine AllReadyH.cons rfl (fun K hK => ?_) (AllReadyH.cons rfl (fun K hK => ?_) AllReadyH.nil)
  · go_simp
    refine hK.out _ _ trivial (fun _ => ?_)
    clear hK K
    try simp only [Act.put, List.setIfInBounds_toArray, List.set_cons_zero, List.set_cons_succ]
    refine Wh.take (i := 6) (d := some 10) (v := .slice (some ⟨ga, 0, none⟩) i capa) rfl (by rfl) (by kernel_rfl) (by kernel_rfl) (by kernel_rfl) (fun _ _ _ h => h) (Or.inl ⟨by rfl, ?h35⟩) trivial ?r35
    case h35 => (intro w hSw; exact Rw.exec_h (by rfl) (by rfl) (by rfl) (by kernel_rfl) (slha w))
    simp only [Act.put, List.setIfInBounds_toArray, List.set_cons_zero, List.set_cons_succ]
    refine wpAnyH_ready (rs := [7, 11]) (by kernel_rfl) (by simp) ?_
    refine AllReadyH.cons rfl (fun K hK => ?_) (AllReadyH.cons rfl (fun K hK => ?_) AllReadyH.nil)
    · refine Rw.step_append_row _ 27 3 .i64 Rw.u_i Rw.i_i (by rfl) _ _ (by rfl) w.heap.size _ [] (li.take i) ⟨ga, 0, none⟩ i capa (by rfl) (Rw.Row.nil _ _ _ _) (by rw [List.length_take, Nat.min_eq_left (by omega)]) (by rfl) (fun j hj => hc1a j hj) (by simp; omega) (by simp) ?_
      intro v1 w1 hr1 hg1 hor1
      have hO1 : Only NoBlock w w1 := hO0a.grown hg1 (fun k e => by simp [Value.ownBlock] at e)
      have c1 := Wh.cell_same hO1 c0w
      refine hK.out _ _ trivial (fun _ => ?_)
      clear hK K
      try simp only [Act.put, List.setIfInBounds_toArray]
      refine wpAnyH_ready (rs := [11]) (by kernel_rfl) (by simp) ?_
      refine AllReadyH.cons rfl (fun K hK => ?_) AllReadyH.nil
      go_simp
      refine hK.out _ _ trivial (fun _ => ?_)
      clear hK K
      try simp only [Act.put, List.setIfInBounds_toArray, List.set_cons_zero, List.set_cons_succ]
      refine Wh.take (i := 14) (d := some 18) (v := .slice (some ada) (li.length - (i + 1)) (capa - (i + 1))) rfl (by rfl) (by kernel_rfl) (by kernel_rfl) (by kernel_rfl) (fun _ _ _ h => h) (Or.inl ⟨by rfl, ?h11⟩) trivial ?r11
      case h11 => (intro w hSw; exact Wh.exec_l (by rfl) (by rfl) (by rfl) (by kernel_rfl) (slla w))
      simp only [Act.put, List.setIfInBounds_toArray, List.set_cons_zero, List.set_cons_succ]
      refine wpAnyH_ready (rs := [15]) (by kernel_rfl) (by simp) ?_
      refine AllReadyH.cons rfl (fun K hK => ?_) AllReadyH.nil
      refine Rw.step_append_row _ 27 3 .i64 Rw.u_i Rw.i_i (by rfl) _ _ (by rfl) w.heap.size _ _ (li.drop (i + 1)) ada (li.length - (i + 1)) (capa - (i + 1)) (by rfl) hr1 (by rw [List.length_drop]) (by rfl) (fun j hj => Wh.cell_same hO1 (hc2a j hj)) (by simp; omega) (by have := hO1.size; omega) ?_
      intro v2 w2 hr2 hg2 hor2
      have hO2 : Only NoBlock w w2 := hO1.grown hg2 (fun k e hlt => by have := (hr1.lt k e).1; omega)
      rw [List.nil_append, herasea] at hr2
      have hbk2 := hb.keeps hO2 (fun h => h)
      have c2 : w2.cell? ⟨r, 1, none⟩ = some (.slice (some ⟨ga, 0, none⟩) li.length capa) := by rw [hbk2.cell]; rfl
      have f2 := hbk2.free 1
      obtain ⟨a2, cp2, rfl, _⟩ := hr2.shape
      refine hK.out _ _ trivial (fun _ => ?_)
      clear hK K
      try simp only [Act.put, List.setIfInBounds_toArray]
      refine Wh.take (i := 16) (d := some 20) (v := ?v12) rfl (by rfl) (by kernel_rfl) (by kernel_rfl) (by kernel_rfl) (fun _ _ _ h => h) (Or.inl ⟨by rfl, ?h12⟩) trivial ?r12
      case h12 => (intro w hSw; go_simp; all_goals (try with_reducible rfl))
      simp only [Act.put]
      refine Wh.take (i := 17) (d := some 21) (v := ?v13) rfl (by rfl) (by kernel_rfl) (by kernel_rfl) (by kernel_rfl) (fun _ _ _ h => h) (Or.inl ⟨by rfl, ?h13⟩) trivial ?r13
      case h13 => (intro w hSw; go_simp; all_goals (try with_reducible rfl))
      simp only [Act.put]
      refine wpAnyH_ready (rs := [18]) (by kernel_rfl) (by simp) ?_
      refine AllReadyH.cons rfl (fun K hK => ?_) AllReadyH.nil
      go_simp
      refine hK.out _ _ trivial (fun _ => ?_)
      clear hK K
      refine wpAnyH_done (by kernel_rfl) ?_ _
      try simp only [Act.put, List.setIfInBounds_toArray, List.set_cons_zero, List.set_cons_succ]
      have hM := hMID hr2 hO2
      generalize World.setCell w2 ⟨r, 1, none⟩ (.slice a2 (li.eraseIdx i).length cp2) = wm at hM ⊢
      obtain ⟨hrm, hom, hbm⟩ := hM
      have hrdm := hrd.keeps hom (fun b e hk => by subst hk; exact hrd.apart hb (by decide) e)
      have c0m : wm.cell? ⟨r, 2, none⟩ = some (.slice (some ⟨gb, 0, none⟩) ld.length capb) := by rw [hbm.cell]; rfl
      have hc1b : ∀ j, j < (ld.take i).length → wm.drew.cell? ((⟨gb, 0, none⟩ : Addr).add j) = some (.int .u64 ((ld.take i).getD j 0)) := fun j hj => by
        rw [take_cell hj, Addr.add_lit, Nat.zero_add]
        obtain ⟨g', e, hc⟩ := hrdm.at_ (i := j) (by simp at hj; omega)
        cases e
        exact hc
      have slhb := Rw.sl_h1 40 Rw.ueu Rw.uzu gb ld.length capb i (by omega)
      obtain ⟨adb, sllb, hc2b, _⟩ := Rw.sl_l1 40 Rw.ueu Rw.uzu hrdm (i + 1) (by omega)
      push_cast at sllb
      have HEND : ∀ {wx : World} {ax : Option Addr} {cx : Nat}, Rw.Row 33 .u64 wx wm.heap.size (.slice ax (ld.eraseIdx i).length cx) (ld.eraseIdx i) → Only NoBlock wm wx →
          Rw.RefW (wx.setCell ⟨r, 2, none⟩ (.slice ax (ld.eraseIdx i).length cx)) (Rw.plus R w (wx.setCell ⟨r, 2, none⟩ (.slice ax (ld.eraseIdx i).length cx))) r now (A.eraseIdx i) ∧ Only R w (wx.setCell ⟨r, 2, none⟩ (.slice ax (ld.eraseIdx i).length cx)) := by
        intro wx ax cx hrx hox
        have hbx := hbm.keeps hox (fun h => h)
        have hby := hbx.setCell 2 (.slice ax (ld.eraseIdx i).length cx)
        have hoy : Only (fun k => k = r) wx (wx.setCell ⟨r, 2, none⟩ (.slice ax (ld.eraseIdx i).length cx))   := Only.setCell (S := fun k => k = r) (p := ⟨r, 2, none⟩) (Only.refl _ _) (fun _ => rfl) _
        have hri' := (hrm.keeps hox (fun _ _ h => h))
        have hsz1 := hom.size
        have hsz2 := hox.size
        refine ⟨⟨_, _, hby, ?_, ?_, .inl hRr, fun b e => .inr ?_, fun b e => .inr ?_⟩, (hom.mono (fun k e => by subst e; exact hRr)).trans (hox.of_no.trans (hoy.mono (fun k e => by subst e; exact hRr)))⟩
        · rw [heri]; exact (hri'.keeps hoy (fun b e hk => by subst hk; exact hri'.apart hbx (by decide) e)).less (Nat.zero_le _)
        · rw [herd]; exact (hrx.keeps hoy (fun b e hk => by subst hk; exact hrx.apart hbx (by decide) e)).less (Nat.zero_le _)
        · have := hri'.lt b e
          simp only [World.size_setCell]
          omega
        · have := hrx.lt b e
          simp only [World.size_setCell]
          omega
      clear hr1 hg1 hor1 hr2 hg2 hor2 hO1 hO2 c1 c2 f2 hbk2 hc1a hc2a slha slla c0a
      go_upto_region 1 with fail
      refine wp_region_held_drew (S := fun _ => True) (by kernel_rfl) trivial (fun _ => ?_)
      have hO0b := (Only.refl NoBlock wm).drew
      have c0b : (wm.drew).cell? ⟨r, 2, none⟩ = some (.slice (some ⟨gb, 0, none⟩) ld.length capb) := by rw [(hbm.drew).cell]; rfl
      refine Wh.take (i := 0) (d := some 22) (v := ?v14) rfl (by rfl) (by kernel_rfl) (by kernel_rfl) (by kernel_rfl) (fun _ _ _ h => h) (Or.inl ⟨by rfl, ?h14⟩) trivial ?r14
      case h14 => (intro w hSw; go_simp; all_goals (try with_reducible rfl))
      simp only [Act.put, List.setIfInBounds_toArray, List.set_cons_zero, List.set_cons_succ]
      refine Wh.take (i := 1) (d := some 23) (v := ?v15) rfl (by rfl) (by kernel_rfl) (by kernel_rfl) (by kernel_rfl) (fun _ _ _ h => h) (Or.inl ⟨by rfl, ?h15⟩) trivial ?r15
      case h15 => (intro w hSw; go_simp; all_goals (try with_reducible rfl))
      simp only [Act.put, List.setIfInBounds_toArray, List.set_cons_zero, List.set_cons_succ]
      refine Wh.take (i := 2) (d := some 24) (v := ?v16) rfl (by rfl) (by kernel_rfl) (by kernel_rfl) (by kernel_rfl) (fun _ _ _ h => h) (Or.inl ⟨by rfl, ?h16⟩) trivial ?r16
      case h16 => (intro w hSw; go_simp; all_goals (try with_reducible rfl))
      simp only [Act.put, List.setIfInBounds_toArray, List.set_cons_zero, List.set_cons_succ]
      refine Wh.take (i := 3) (d := some 25) (v := ?v17) rfl (by rfl) (by kernel_rfl) (by kernel_rfl) (by kernel_rfl) (fun _ _ _ h => h) (Or.inl ⟨by rfl, ?h17⟩) trivial ?r17
      case h17 => (intro w hSw; go_simp; all_goals (try with_reducible rfl))
      simp only [Act.put, List.setIfInBounds_toArray, List.set_cons_zero, List.set_cons_succ]
      refine Wh.take (i := 5) (d := some 27) (v := ?v18) rfl (by rfl) (by kernel_rfl) (by kernel_rfl) (by kernel_rfl) (fun _ _ _ h => h) (Or.inl ⟨by rfl, ?h18⟩) trivial ?r18
      case h18 => (intro w hSw; go_simp; all_goals (try with_reducible rfl))
      simp only [Act.put, List.setIfInBounds_toArray, List.set_cons_zero, List.set_cons_succ]
      refine Wh.take (i := 8) (d := some 30) (v := ?v19) rfl (by rfl) (by kernel_rfl) (by kernel_rfl) (by kernel_rfl) (fun _ _ _ h => h) (Or.inl ⟨by rfl, ?h19⟩) trivial ?r19
      case h19 => (intro w hSw; go_simp; all_goals (try with_reducible rfl))
      simp only [Act.put, List.setIfInBounds_toArray, List.set_cons_zero, List.set_cons_succ]
      refine Wh.take (i := 9) (d := some 31) (v := ?v20) rfl (by rfl) (by kernel_rfl) (by kernel_rfl) (by kernel_rfl) (fun _ _ _ h => h) (Or.inl ⟨by rfl, ?h20⟩) trivial ?r20
      case h20 => (intro w hSw; go_simp; all_goals (try with_reducible rfl))
      simp only [Act.put, List.setIfInBounds_toArray, List.set_cons_zero, List.set_cons_succ]
      refine Wh.take (i := 10) (d := some 32) (v := ?v21) rfl (by rfl) (by kernel_rfl) (by kernel_rfl) (by kernel_rfl) (fun _ _ _ h => h) (Or.inl ⟨by rfl, ?h21⟩) trivial ?r21
      case h21 => (intro w hSw; go_simp; all_goals (try with_reducible rfl))
      simp only [Act.put, List.setIfInBounds_toArray, List.set_cons_zero, List.set_cons_succ]
      refine Wh.take (i := 12) (d := some 34) (v := ?v22) rfl (by rfl) (by kernel_rfl) (by kernel_rfl) (by kernel_rfl) (fun _ _ _ h => h) (Or.inl ⟨by rfl, ?h22⟩) trivial ?r22
      case h22 => (intro w hSw; go_simp; all_goals (try with_reducible rfl))
      simp only [Act.put, List.setIfInBounds_toArray, List.set_cons_zero, List.set_cons_succ]
      refine Wh.take (i := 13) (d := some 35) (v := ?v23) rfl (by rfl) (by kernel_rfl) (by kernel_rfl) (by kernel_rfl) (fun _ _ _ h => h) (Or.inl ⟨by rfl, ?h23⟩) trivial ?r23
      case h23 => (intro w hSw; go_simp; all_goals (try with_reducible rfl))
      simp only [Act.put, List.setIfInBounds_toArray, List.set_cons_zero, List.set_cons_succ]
      refine wpAnyH_ready (rs := [4, 11]) (by kernel_rfl) (by simp) ?_
      refine AllReadyH.cons rfl (fun K hK => ?_) (AllReadyH.cons rfl (fun K hK => ?_) AllReadyH.nil)
      · go_simp
        refine hK.out _ _ trivial (fun _ => ?_)
        clear hK K
        try simp only [Act.put, List.setIfInBounds_toArray, List.set_cons_zero, List.set_cons_succ]
        refine Wh.take (i := 6) (d := some 28) (v := .slice (some ⟨gb, 0, none⟩) i capb) rfl (by rfl) (by kernel_rfl) (by kernel_rfl) (by kernel_rfl) (fun _ _ _ h => h) (Or.inl ⟨by rfl, ?h27⟩) trivial ?r27
        case h27 => (intro w hSw; exact Rw.exec_h (by rfl) (by rfl) (by rfl) (by kernel_rfl) (slhb w))
        simp only [Act.put, List.setIfInBounds_toArray, List.set_cons_zero, List.set_cons_succ]
        refine wpAnyH_ready (rs := [7, 11]) (by kernel_rfl) (by simp) ?_
        refine AllReadyH.cons rfl (fun K hK => ?_) (AllReadyH.cons rfl (fun K hK => ?_) AllReadyH.nil)
        · refine Rw.step_append_row _ 40 33 .u64 Rw.u_u Rw.i_u (by rfl) _ _ (by rfl) wm.heap.size _ [] (ld.take i) ⟨gb, 0, none⟩ i capb (by rfl) (Rw.Row.nil _ _ _ _) (by rw [List.length_take, Nat.min_eq_left (by omega)]) (by rfl) (fun j hj => hc1b j hj) (by simp; omega) (by simp) ?_
          intro v1 w1 hr1 hg1 hor1
          have hO1 : Only NoBlock wm w1 := hO0b.grown hg1 (fun k e => by simp [Value.ownBlock] at e)
          have c1 := Wh.cell_same hO1 c0m
          refine hK.out _ _ trivial (fun _ => ?_)
          clear hK K
          try simp only [Act.put, List.setIfInBounds_toArray]
          refine wpAnyH_ready (rs := [11]) (by kernel_rfl) (by simp) ?_
          refine AllReadyH.cons rfl (fun K hK => ?_) AllReadyH.nil
          go_simp
          refine hK.out _ _ trivial (fun _ => ?_)
          clear hK K
          try simp only [Act.put, List.setIfInBounds_toArray, List.set_cons_zero, List.set_cons_succ]
          refine Wh.take (i := 14) (d := some 36) (v := .slice (some adb) (ld.length - (i + 1)) (capb - (i + 1))) rfl (by rfl) (by kernel_rfl) (by kernel_rfl) (by kernel_rfl) (fun _ _ _ h => h) (Or.inl ⟨by rfl, ?h24⟩) trivial ?r24
          case h24 => (intro w hSw; exact Wh.exec_l (by rfl) (by rfl) (by rfl) (by kernel_rfl) (sllb w))
          simp only [Act.put, List.setIfInBounds_toArray, List.set_cons_zero, List.set_cons_succ]
          refine wpAnyH_ready (rs := [15]) (by kernel_rfl) (by simp) ?_
          refine AllReadyH.cons rfl (fun K hK => ?_) AllReadyH.nil
          refine Rw.step_append_row _ 40 33 .u64 Rw.u_u Rw.i_u (by rfl) _ _ (by rfl) wm.heap.size _ _ (ld.drop (i + 1)) adb (ld.length - (i + 1)) (capb - (i + 1)) (by rfl) hr1 (by rw [List.length_drop]) (by rfl) (fun j hj => Wh.cell_same hO1 (hc2b j hj)) (by simp; omega) (by have := hO1.size; omega) ?_
          intro v2 w2 hr2 hg2 hor2
          have hO2 : Only NoBlock wm w2 := hO1.grown hg2 (fun k e hlt => by have := (hr1.lt k e).1; omega)
          rw [List.nil_append, heraseb] at hr2
          have hbk2 := hbm.keeps hO2 (fun h => h)
          have c2 : w2.cell? ⟨r, 2, none⟩ = some (.slice (some ⟨gb, 0, none⟩) ld.length capb) := by rw [hbk2.cell]; rfl
          have f2 := hbk2.free 2
          obtain ⟨a2, cp2, rfl, _⟩ := hr2.shape
          refine hK.out _ _ trivial (fun _ => ?_)
          clear hK K
          try simp only [Act.put, List.setIfInBounds_toArray]
          refine Wh.take (i := 16) (d := some 38) (v := ?v25) rfl (by rfl) (by kernel_rfl) (by kernel_rfl) (by kernel_rfl) (fun _ _ _ h => h) (Or.inl ⟨by rfl, ?h25⟩) trivial ?r25
          case h25 => (intro w hSw; go_simp; all_goals (try with_reducible rfl))
          simp only [Act.put]
          refine Wh.take (i := 17) (d := some 39) (v := ?v26) rfl (by rfl) (by kernel_rfl) (by kernel_rfl) (by kernel_rfl) (fun _ _ _ h => h) (Or.inl ⟨by rfl, ?h26⟩) trivial ?r26
          case h26 => (intro w hSw; go_simp; all_goals (try with_reducible rfl))
          simp only [Act.put]
          refine wpAnyH_ready (rs := [18]) (by kernel_rfl) (by simp) ?_
          refine AllReadyH.cons rfl (fun K hK => ?_) AllReadyH.nil
          go_simp
          refine hK.out _ _ trivial (fun _ => ?_)
          clear hK K
          refine wpAnyH_done (by kernel_rfl) ?_ _
          try simp only [Act.put, List.setIfInBounds_toArray, List.set_cons_zero, List.set_cons_succ]
          have hE := HEND hr2 hO2
          generalize World.setCell w2 ⟨r, 2, none⟩ (.slice a2 (ld.eraseIdx i).length cp2) = we at hE ⊢
          clear hr1 hg1 hor1 hr2 hg2 hor2 hO1 hO2 c1 c2 f2 hbk2 hc1b hc2b slhb sllb c0b
          go_wp2_with fail
          go_end0
          exact ⟨⟨_, rfl⟩, hE⟩
        · go_simp
          refine hK.out _ _ trivial (fun _ => ?_)
          clear hK K
          try simp only [Act.put, List.setIfInBounds_toArray, List.set_cons_zero, List.set_cons_succ]
          refine Wh.take (i := 14) (d := some 36) (v := .slice (some adb) (ld.length - (i + 1)) (capb - (i + 1))) rfl (by rfl) (by kernel_rfl) (by kernel_rfl) (by kernel_rfl) (fun _ _ _ h => h) (Or.inl ⟨by rfl, ?h28⟩) trivial ?r28
          case h28 => (intro w hSw; exact Wh.exec_l (by rfl) (by rfl) (by rfl) (by kernel_rfl) (sllb w))
          simp only [Act.put, List.setIfInBounds_toArray, List.set_cons_zero, List.set_cons_succ]
          refine wpAnyH_ready (rs := [7]) (by kernel_rfl) (by simp) ?_
          refine AllReadyH.cons rfl (fun K hK => ?_) AllReadyH.nil
          refine Rw.step_append_row _ 40 33 .u64 Rw.u_u Rw.i_u (by rfl) _ _ (by rfl) wm.heap.size _ [] (ld.take i) ⟨gb, 0, none⟩ i capb (by rfl) (Rw.Row.nil _ _ _ _) (by rw [List.length_take, Nat.min_eq_left (by omega)]) (by rfl) (fun j hj => hc1b j hj) (by simp; omega) (by simp) ?_
          intro v1 w1 hr1 hg1 hor1
          have hO1 : Only NoBlock wm w1 := hO0b.grown hg1 (fun k e => by simp [Value.ownBlock] at e)
          have c1 := Wh.cell_same hO1 c0m
          refine hK.out _ _ trivial (fun _ => ?_)
          clear hK K
          try simp only [Act.put, List.setIfInBounds_toArray]
          refine wpAnyH_ready (rs := [15]) (by kernel_rfl) (by simp) ?_
          refine AllReadyH.cons rfl (fun K hK => ?_) AllReadyH.nil
          refine Rw.step_append_row _ 40 33 .u64 Rw.u_u Rw.i_u (by rfl) _ _ (by rfl) wm.heap.size _ _ (ld.drop (i + 1)) adb (ld.length - (i + 1)) (capb - (i + 1)) (by rfl) hr1 (by rw [List.length_drop]) (by rfl) (fun j hj => Wh.cell_same hO1 (hc2b j hj)) (by simp; omega) (by have := hO1.size; omega) ?_
          intro v2 w2 hr2 hg2 hor2
          have hO2 : Only NoBlock wm w2 := hO1.grown hg2 (fun k e hlt => by have := (hr1.lt k e).1; omega)
          rw [List.nil_append, heraseb] at hr2
          have hbk2 := hbm.keeps hO2 (fun h => h)
          have c2 : w2.cell? ⟨r, 2, none⟩ = some (.slice (some ⟨gb, 0, none⟩) ld.length capb) := by rw [hbk2.cell]; rfl
          have f2 := hbk2.free 2
          obtain ⟨a2, cp2, rfl, _⟩ := hr2.shape
          refine hK.out _ _ trivial (fun _ => ?_)
          clear hK K
          try simp only [Act.put]
          refine Wh.take (i := 16) (d := some 38) (v := ?v29) rfl (by rfl) (by kernel_rfl) (by kernel_rfl) (by kernel_rfl) (fun _ _ _ h => h) (Or.inl ⟨by rfl, ?h29⟩) trivial ?r29
          case h29 => (intro w hSw; go_simp; all_goals (try with_reducible rfl))
          simp only [Act.put]
          refine Wh.take (i := 17) (d := some 39) (v := ?v30) rfl (by rfl) (by kernel_rfl) (by kernel_rfl) (by kernel_rfl) (fun _ _ _ h => h) (Or.inl ⟨by rfl, ?h30⟩) trivial ?r30
          case h30 => (intro w hSw; go_simp; all_goals (try with_reducible rfl))
          simp only [Act.put]
          refine wpAnyH_ready (rs := [18]) (by kernel_rfl) (by simp) ?_
          refine AllReadyH.cons rfl (fun K hK => ?_) AllReadyH.nil
          go_simp
          refine hK.out _ _ trivial (fun _ => ?_)
          clear hK K
          refine wpAnyH_done (by kernel_rfl) ?_ _
          try simp only [Act.put, List.setIfInBounds_toArray, List.set_cons_zero, List.set_cons_succ]
          have hE := HEND hr2 hO2
          generalize World.setCell w2 ⟨r, 2, none⟩ (.slice a2 (ld.eraseIdx i).length cp2) = we at hE ⊢
          clear hr1 hg1 hor1 hr2 hg2 hor2 hO1 hO2 c1 c2 f2 hbk2 hc1b hc2b slhb sllb c0b
          go_wp2_with fail
          go_end0
          exact ⟨⟨_, rfl⟩, hE⟩
      · go_simp
        refine hK.out _ _ trivial (fun _ => ?_)
        clear hK K
        try simp only [Act.put, List.setIfInBounds_toArray, List.set_cons_zero, List.set_cons_succ]
        refine Wh.take (i := 14) (d := some 36) (v := .slice (some adb) (ld.length - (i + 1)) (capb - (i + 1))) rfl (by rfl) (by kernel_rfl) (by kernel_rfl) (by kernel_rfl) (fun _ _ _ h => h) (Or.inl ⟨by rfl, ?h31⟩) trivial ?r31
        case h31 => (intro w hSw; exact Wh.exec_l (by rfl) (by rfl) (by rfl) (by kernel_rfl) (sllb w))
        simp only [Act.put, List.setIfInBounds_toArray, List.set_cons_zero, List.set_cons_succ]
        refine wpAnyH_ready (rs := [4]) (by kernel_rfl) (by simp) ?_
        refine AllReadyH.cons rfl (fun K hK => ?_) AllReadyH.nil
        go_simp
        refine hK.out _ _ trivial (fun _ => ?_)
        clear hK K
        try simp only [Act.put, List.setIfInBounds_toArray, List.set_cons_zero, List.set_cons_succ]
        refine Wh.take (i := 6) (d := some 28) (v := .slice (some ⟨gb, 0, none⟩) i capb) rfl (by rfl) (by kernel_rfl) (by kernel_rfl) (by kernel_rfl) (fun _ _ _ h => h) (Or.inl ⟨by rfl, ?h32⟩) trivial ?r32
        case h32 => (intro w hSw; exact Rw.exec_h (by rfl) (by rfl) (by rfl) (by kernel_rfl) (slhb w))
        simp only [Act.put, List.setIfInBounds_toArray, List.set_cons_zero, List.set_cons_succ]
        refine wpAnyH_ready (rs := [7]) (by kernel_rfl) (by simp) ?_
        refine AllReadyH.cons rfl (fun K hK => ?_) AllReadyH.nil
        refine Rw.step_append_row _ 40 33 .u64 Rw.u_u Rw.i_u (by rfl) _ _ (by rfl) wm.heap.size _ [] (ld.take i) ⟨gb, 0, none⟩ i capb (by rfl) (Rw.Row.nil _ _ _ _) (by rw [List.length_take, Nat.min_eq_left (by omega)]) (by rfl) (fun j hj => hc1b j hj) (by simp; omega) (by simp) ?_
        intro v1 w1 hr1 hg1 hor1
        have hO1 : Only NoBlock wm w1 := hO0b.grown hg1 (fun k e => by simp [Value.ownBlock] at e)
        have c1 := Wh.cell_same hO1 c0m
        refine hK.out _ _ trivial (fun _ => ?_)
        clear hK K
        try simp only [Act.put, List.setIfInBounds_toArray]
        refine wpAnyH_ready (rs := [15]) (by kernel_rfl) (by simp) ?_
        refine AllReadyH.cons rfl (fun K hK => ?_) AllReadyH.nil
        refine Rw.step_append_row _ 40 33 .u64 Rw.u_u Rw.i_u (by rfl) _ _ (by rfl) wm.heap.size _ _ (ld.drop (i + 1)) adb (ld.length - (i + 1)) (capb - (i + 1)) (by rfl) hr1 (by rw [List.length_drop]) (by rfl) (fun j hj => Wh.cell_same hO1 (hc2b j hj)) (by simp; omega) (by have := hO1.size; omega) ?_
        intro v2 w2 hr2 hg2 hor2
        have hO2 : Only NoBlock wm w2 := hO1.grown hg2 (fun k e hlt => by have := (hr1.lt k e).1; omega)
        rw [List.nil_append, heraseb] at hr2
        have hbk2 := hbm.keeps hO2 (fun h => h)
        have c2 : w2.cell? ⟨r, 2, none⟩ = some (.slice (some ⟨gb, 0, none⟩) ld.length capb) := by rw [hbk2.cell]; rfl
        have f2 := hbk2.free 2
        obtain ⟨a2, cp2, rfl, _⟩ := hr2.shape
        refine hK.out _ _ trivial (fun _ => ?_)
        clear hK K
        try simp only [Act.put]
        refine Wh.take (i := 16) (d := some 38) (v := ?v33) rfl (by rfl) (by kernel_rfl) (by kernel_rfl) (by kernel_rfl) (fun _ _ _ h => h) (Or.inl ⟨by rfl, ?h33⟩) trivial ?r33
        case h33 => (intro w hSw; go_simp; all_goals (try with_reducible rfl))
        simp only [Act.put]
        refine Wh.take (i := 17) (d := some 39) (v := ?v34) rfl (by rfl) (by kernel_rfl) (by kernel_rfl) (by kernel_rfl) (fun _ _ _ h => h) (Or.inl ⟨by rfl, ?h34⟩) trivial ?r34
        case h34 => (intro w hSw; go_simp; all_goals (try with_reducible rfl))
        simp only [Act.put]
        refine wpAnyH_ready (rs := [18]) (by kernel_rfl) (by simp) ?_
        refine AllReadyH.cons rfl (fun K hK => ?_) AllReadyH.nil
        go_simp
        refine hK.out _ _ trivial (fun _ => ?_)
        clear hK K
        refine wpAnyH_done (by kernel_rfl) ?_ _
        try simp only [Act.put, List.setIfInBounds_toArray, List.set_cons_zero, List.set_cons_succ]
        have hE := HEND hr2 hO2
        generalize World.setCell w2 ⟨r, 2, none⟩ (.slice a2 (ld.eraseIdx i).length cp2) = we at hE ⊢
        clear hr1 hg1 hor1 hr2 hg2 hor2 hO1 hO2 c1 c2 f2 hbk2 hc1b hc2b slhb sllb c0b
        go_wp2_with fail
        go_end0
        exact ⟨⟨_, rfl⟩, hE⟩
    · go_simp
      refine hK.out _ _ trivial (fun _ => ?_)
      clear hK K
      try simp only [Act.put, List.setIfInBounds_toArray, List.set_cons_zero, List.set_cons_succ]
      refine Wh.take (i := 14) (d := some 18) (v := .slice (some ada) (li.length - (i + 1)) (capa - (i + 1))) rfl (by rfl) (by kernel_rfl) (by kernel_rfl) (by kernel_rfl) (fun _ _ _ h => h) (Or.inl ⟨by rfl, ?h36⟩) trivial ?r36
      case h36 => (intro w hSw; exact Wh.exec_l (by rfl) (by rfl) (by rfl) (by kernel_rfl) (slla w))
      simp only [Act.put, List.setIfInBounds_toArray, List.set_cons_zero, List.set_cons_succ]
      refine wpAnyH_ready (rs := [7]) (by kernel_rfl) (by simp) ?_
      refine AllReadyH.cons rfl (fun K hK => ?_) AllReadyH.nil
      refine Rw.step_append_row _ 27 3 .i64 Rw.u_i Rw.i_i (by rfl) _ _ (by rfl) w.heap.size _ [] (li.take i) ⟨ga, 0, none⟩ i capa (by rfl) (Rw.Row.nil _ _ _ _) (by rw [List.length_take, Nat.min_eq_left (by omega)]) (by rfl) (fun j hj => hc1a j hj) (by simp; omega) (by simp) ?_
      intro v1 w1 hr1 hg1 hor1
      have hO1 : Only NoBlock w w1 := hO0a.grown hg1 (fun k e => by simp [Value.ownBlock] at e)
      have c1 := Wh.cell_same hO1 c0w
      refine hK.out _ _ trivial (fun _ => ?_)
      clear hK K
      try simp only [Act.put, List.setIfInBounds_toArray]
      refine wpAnyH_ready (rs := [15]) (by kernel_rfl) (by simp) ?_
      refine AllReadyH.cons rfl (fun K hK => ?_) AllReadyH.nil
      refine Rw.step_append_row _ 27 3 .i64 Rw.u_i Rw.i_i (by rfl) _ _ (by rfl) w.heap.size _ _ (li.drop (i + 1)) ada (li.length - (i + 1)) (capa - (i + 1)) (by rfl) hr1 (by rw [List.length_drop]) (by rfl) (fun j hj => Wh.cell_same hO1 (hc2a j hj)) (by simp; omega) (by have := hO1.size; omega) ?_
      intro v2 w2 hr2 hg2 hor2
      have hO2 : Only NoBlock w w2 := hO1.grown hg2 (fun k e hlt => by have := (hr1.lt k e).1; omega)
      rw [List.nil_append, herasea] at hr2
      have hbk2 := hb.keeps hO2 (fun h => h)
      have c2 : w2.cell? ⟨r, 1, none⟩ = some (.slice (some ⟨ga, 0, none⟩) li.length capa) := by rw [hbk2.cell]; rfl
      have f2 := hbk2.free 1
      obtain ⟨a2, cp2, rfl, _⟩ := hr2.shape
      refine hK.out _ _ trivial (fun _ => ?_)
      clear hK K
      try simp only [Act.put]
      refine Wh.take (i := 16) (d := some 20) (v := ?v37) rfl (by rfl) (by kernel_rfl) (by kernel_rfl) (by kernel_rfl) (fun _ _ _ h => h) (Or.inl ⟨by rfl, ?h37⟩) trivial ?r37
      case h37 => (intro w hSw; go_simp; all_goals (try with_reducible rfl))
      simp only [Act.put]
      refine Wh.take (i := 17) (d := some 21) (v := ?v38) rfl (by rfl) (by kernel_rfl) (by kernel_rfl) (by kernel_rfl) (fun _ _ _ h => h) (Or.inl ⟨by rfl, ?h38⟩) trivial ?r38
      case h38 => (intro w hSw; go_simp; all_goals (try with_reducible rfl))
      simp only [Act.put]
      refine wpAnyH_ready (rs := [18]) (by kernel_rfl) (by simp) ?_
      refine AllReadyH.cons rfl (fun K hK => ?_) AllReadyH.nil
      go_simp
      refine hK.out _ _ trivial (fun _ => ?_)
      clear hK K
      refine wpAnyH_done (by kernel_rfl) ?_ _
      try simp only [Act.put, List.setIfInBounds_toArray, List.set_cons_zero, List.set_cons_succ]
      have hM := hMID hr2 hO2
      generalize World.setCell w2 ⟨r, 1, none⟩ (.slice a2 (li.eraseIdx i).length cp2) = wm at hM ⊢
      obtain ⟨hrm, hom, hbm⟩ := hM
      have hrdm := hrd.keeps hom (fun b e hk => by subst hk; exact hrd.apart hb (by decide) e)
      have c0m : wm.cell? ⟨r, 2, none⟩ = some (.slice (some ⟨gb, 0, none⟩) ld.length capb) := by rw [hbm.cell]; rfl
      have hc1b : ∀ j, j < (ld.take i).length → wm.drew.cell? ((⟨gb, 0, none⟩ : Addr).add j) = some (.int .u64 ((ld.take i).getD j 0)) := fun j hj => by
        rw [take_cell hj, Addr.add_lit, Nat.zero_add]
        obtain ⟨g', e, hc⟩ := hrdm.at_ (i := j) (by simp at hj; omega)
        cases e
        exact hc
      have slhb := Rw.sl_h1 40 Rw.ueu Rw.uzu gb ld.length capb i (by omega)
      obtain ⟨adb, sllb, hc2b, _⟩ := Rw.sl_l1 40 Rw.ueu Rw.uzu hrdm (i + 1) (by omega)
      push_cast at sllb
      have HEND : ∀ {wx : World} {ax : Option Addr} {cx : Nat}, Rw.Row 33 .u64 wx wm.heap.size (.slice ax (ld.eraseIdx i).length cx) (ld.eraseIdx i) → Only NoBlock wm wx →
          Rw.RefW (wx.setCell ⟨r, 2, none⟩ (.slice ax (ld.eraseIdx i).length cx)) (Rw.plus R w (wx.setCell ⟨r, 2, none⟩ (.slice ax (ld.eraseIdx i).length cx))) r now (A.eraseIdx i) ∧ Only R w (wx.setCell ⟨r, 2, none⟩ (.slice ax (ld.eraseIdx i).length cx)) := by
        intro wx ax cx hrx hox
        have hbx := hbm.keeps hox (fun h => h)
        have hby := hbx.setCell 2 (.slice ax (ld.eraseIdx i).length cx)
        have hoy : Only (fun k => k = r) wx (wx.setCell ⟨r, 2, none⟩ (.slice ax (ld.eraseIdx i).length cx))   := Only.setCell (S := fun k => k = r) (p := ⟨r, 2, none⟩) (Only.refl _ _) (fun _ => rfl) _
        have hri' := (hrm.keeps hox (fun _ _ h => h))
        have hsz1 := hom.size
        have hsz2 := hox.size
        refine ⟨⟨_, _, hby, ?_, ?_, .inl hRr, fun b e => .inr ?_, fun b e => .inr ?_⟩, (hom.mono (fun k e => by subst e; exact hRr)).trans (hox.of_no.trans (hoy.mono (fun k e => by subst e; exact hRr)))⟩
        · rw [heri]; exact (hri'.keeps hoy (fun b e hk => by subst hk; exact hri'.apart hbx (by decide) e)).less (Nat.zero_le _)
        · rw [herd]; exact (hrx.keeps hoy (fun b e hk => by subst hk; exact hrx.apart hbx (by decide) e)).less (Nat.zero_le _)
        · have := hri'.lt b e
          simp only [World.size_setCell]
          omega
        · have := hrx.lt b e
          simp only [World.size_setCell]
          omega
      clear hr1 hg1 hor1 hr2 hg2 hor2 hO1 hO2 c1 c2 f2 hbk2 hc1a hc2a slha slla c0a
      go_upto_region 1 with fail
      refine wp_region_held_drew (S := fun _ => True) (by kernel_rfl) trivial (fun _ => ?_)
      have hO0b := (Only.refl NoBlock wm).drew
      have c0b : (wm.drew).cell? ⟨r, 2, none⟩ = some (.slice (some ⟨gb, 0, none⟩) ld.length capb) := by rw [(hbm.drew).cell]; rfl
      refine Wh.take (i := 0) (d := some 22) (v := ?v39) rfl (by rfl) (by kernel_rfl) (by kernel_rfl) (by kernel_rfl) (fun _ _ _ h => h) (Or.inl ⟨by rfl, ?h39⟩) trivial ?r39
      case h39 => (intro w hSw; go_simp; all_goals (try with_reducible rfl))
      simp only [Act.put, List.setIfInBounds_toArray, List.set_cons_zero, List.set_cons_succ]
      refine Wh.take (i := 1) (d := some 23) (v := ?v40) rfl (by rfl) (by kernel_rfl) (by kernel_rfl) (by kernel_rfl) (fun _ _ _ h => h) (Or.inl ⟨by rfl, ?h40⟩) trivial ?r40
      case h40 => (intro w hSw; go_simp; all_goals (try with_reducible rfl))
      simp only [Act.put, List.setIfInBounds_toArray, List.set_cons_zero, List.set_cons_succ]
      refine Wh.take (i := 2) (d := some 24) (v := ?v41) rfl (by rfl) (by kernel_rfl) (by kernel_rfl) (by kernel_rfl) (fun _ _ _ h => h) (Or.inl ⟨by rfl, ?h41⟩) trivial ?r41
      case h41 => (intro w hSw; go_simp; all_goals (try with_reducible rfl))
      simp only [Act.put, List.setIfInBounds_toArray, List.set_cons_zero, List.set_cons_succ]
      refine Wh.take (i := 3) (d := some 25) (v := ?v42) rfl (by rfl) (by kernel_rfl) (by kernel_rfl) (by kernel_rfl) (fun _ _ _ h => h) (Or.inl ⟨by rfl, ?h42⟩) trivial ?r42
      case h42 => (intro w hSw; go_simp; all_goals (try with_reducible rfl))
      simp only [Act.put, List.setIfInBounds_toArray, List.set_cons_zero, List.set_cons_succ]
      refine Wh.take (i := 5) (d := some 27) (v := ?v43) rfl (by rfl) (by kernel_rfl) (by kernel_rfl) (by kernel_rfl) (fun _ _ _ h => h) (Or.inl ⟨by rfl, ?h43⟩) trivial ?r43
      case h43 => (intro w hSw; go_simp; all_goals (try with_reducible rfl))
      simp only [Act.put, List.setIfInBounds_toArray, List.set_cons_zero, List.set_cons_succ]
      refine Wh.take (i := 8) (d := some 30) (v := ?v44) rfl (by rfl) (by kernel_rfl) (by kernel_rfl) (by kernel_rfl) (fun _ _ _ h => h) (Or.inl ⟨by rfl, ?h44⟩) trivial ?r44
      case h44 => (intro w hSw; go_simp; all_goals (try with_reducible rfl))
      simp only [Act.put, List.setIfInBounds_toArray, List.set_cons_zero, List.set_cons_succ]
      refine Wh.take (i := 9) (d := some 31) (v := ?v45) rfl (by rfl) (by kernel_rfl) (by kernel_rfl) (by kernel_rfl) (fun _ _ _ h => h) (Or.inl ⟨by rfl, ?h45⟩) trivial ?r45
      case h45 => (intro w hSw; go_simp; all_goals (try with_reducible rfl))
      simp only [Act.put, List.setIfInBounds_toArray, List.set_cons_zero, List.set_cons_succ]
      refine Wh.take (i := 10) (d := some 32) (v := ?v46) rfl (by rfl) (by kernel_rfl) (by kernel_rfl) (by kernel_rfl) (fun _ _ _ h => h) (Or.inl ⟨by rfl, ?h46⟩) trivial ?r46
      case h46 => (intro w hSw; go_simp; all_goals (try with_reducible rfl))
      simp only [Act.put, List.setIfInBounds_toArray, List.set_cons_zero, List.set_cons_succ]
      refine Wh.take (i := 12) (d := some 34) (v := ?v47) rfl (by rfl) (by kernel_rfl) (by kernel_rfl) (by kernel_rfl) (fun _ _ _ h => h) (Or.inl ⟨by rfl, ?h47⟩) trivial ?r47
      case h47 => (intro w hSw; go_simp; all_goals (try with_reducible rfl))
      simp only [Act.put, List.setIfInBounds_toArray, List.set_cons_zero, List.set_cons_succ]
      refine Wh.take (i := 13) (d := some 35) (v := ?v48) rfl (by rfl) (by kernel_rfl) (by kernel_rfl) (by kernel_rfl) (fun _ _ _ h => h) (Or.inl ⟨by rfl, ?h48⟩) trivial ?r48
      case h48 => (intro w hSw; go_simp; all_goals (try with_reducible rfl))
      simp only [Act.put, List.setIfInBounds_toArray, List.set_cons_zero, List.set_cons_succ]
      refine wpAnyH_ready (rs := [4, 11]) (by kernel_rfl) (by simp) ?_
      refine AllReadyH.cons rfl (fun K hK => ?_) (AllReadyH.cons rfl (fun K hK => ?_) AllReadyH.nil)
      · go_simp
        refine hK.out _ _ trivial (fun _ => ?_)
        clear hK K
        try simp only [Act.put, List.setIfInBounds_toArray, List.set_cons_zero, List.set_cons_succ]
        refine Wh.take (i := 6) (d := some 28) (v := .slice (some ⟨gb, 0, none⟩) i capb) rfl (by rfl) (by kernel_rfl) (by kernel_rfl) (by kernel_rfl) (fun _ _ _ h => h) (Or.inl ⟨by rfl, ?h52⟩) trivial ?r52
        case h52 => (intro w hSw; exact Rw.exec_h (by rfl) (by rfl) (by rfl) (by kernel_rfl) (slhb w))
        simp only [Act.put, List.setIfInBounds_toArray, List.set_cons_zero, List.set_cons_succ]
        refine wpAnyH_ready (rs := [7, 11]) (by kernel_rfl) (by simp) ?_
        refine AllReadyH.cons rfl (fun K hK => ?_) (AllReadyH.cons rfl (fun K hK => ?_) AllReadyH.nil)
        · refine Rw.step_append_row _ 40 33 .u64 Rw.u_u Rw.i_u (by rfl) _ _ (by rfl) wm.heap.size _ [] (ld.take i) ⟨gb, 0, none⟩ i capb (by rfl) (Rw.Row.nil _ _ _ _) (by rw [List.length_take, Nat.min_eq_left (by omega)]) (by rfl) (fun j hj => hc1b j hj) (by simp; omega) (by simp) ?_
          intro v1 w1 hr1 hg1 hor1
          have hO1 : Only NoBlock wm w1 := hO0b.grown hg1 (fun k e => by simp [Value.ownBlock] at e)
          have c1 := Wh.cell_same hO1 c0m
          refine hK.out _ _ trivial (fun _ => ?_)
          clear hK K
          try simp only [Act.put, List.setIfInBounds_toArray]
          refine wpAnyH_ready (rs := [11]) (by kernel_rfl) (by simp) ?_
          refine AllReadyH.cons rfl (fun K hK => ?_) AllReadyH.nil
          go_simp
          refine hK.out _ _ trivial (fun _ => ?_)
          clear hK K
          try simp only [Act.put, List.setIfInBounds_toArray, List.set_cons_zero, List.set_cons_succ]
          refine Wh.take (i := 14) (d := some 36) (v := .slice (some adb) (ld.length - (i + 1)) (capb - (i + 1))) rfl (by rfl) (by kernel_rfl) (by kernel_rfl) (by kernel_rfl) (fun _ _ _ h => h) (Or.inl ⟨by rfl, ?h49⟩) trivial ?r49
          case h49 => (intro w hSw; exact Wh.exec_l (by rfl) (by rfl) (by rfl) (by kernel_rfl) (sllb w))
          simp only [Act.put, List.setIfInBounds_toArray, List.set_cons_zero, List.set_cons_succ]
          refine wpAnyH_ready (rs := [15]) (by kernel_rfl) (by simp) ?_
          refine AllReadyH.cons rfl (fun K hK => ?_) AllReadyH.nil
          refine Rw.step_append_row _ 40 33 .u64 Rw.u_u Rw.i_u (by rfl) _ _ (by rfl) wm.heap.size _ _ (ld.drop (i + 1)) adb (ld.length - (i + 1)) (capb - (i + 1)) (by rfl) hr1 (by rw [List.length_drop]) (by rfl) (fun j hj => Wh.cell_same hO1 (hc2b j hj)) (by simp; omega) (by have := hO1.size; omega) ?_
          intro v2 w2 hr2 hg2 hor2
          have hO2 : Only NoBlock wm w2 := hO1.grown hg2 (fun k e hlt => by have := (hr1.lt k e).1; omega)
          rw [List.nil_append, heraseb] at hr2
          have hbk2 := hbm.keeps hO2 (fun h => h)
          have c2 : w2.cell? ⟨r, 2, none⟩ = some (.slice (some ⟨gb, 0, none⟩) ld.length capb) := by rw [hbk2.cell]; rfl
          have f2 := hbk2.free 2
          obtain ⟨a2, cp2, rfl, _⟩ := hr2.shape
          refine hK.out _ _ trivial (fun _ => ?_)
          clear hK K
          try simp only [Act.put, List.setIfInBounds_toArray]
          refine Wh.take (i := 16) (d := some 38) (v := ?v50) rfl (by rfl) (by kernel_rfl) (by kernel_rfl) (by kernel_rfl) (fun _ _ _ h => h) (Or.inl ⟨by rfl, ?h50⟩) trivial ?r50
          case h50 => (intro w hSw; go_simp; all_goals (try with_reducible rfl))
          simp only [Act.put]
          refine Wh.take (i := 17) (d := some 39) (v := ?v51) rfl (by rfl) (by kernel_rfl) (by kernel_rfl) (by kernel_rfl) (fun _ _ _ h => h) (Or.inl ⟨by rfl, ?h51⟩) trivial ?r51
          case h51 => (intro w hSw; go_simp; all_goals (try with_reducible rfl))
          simp only [Act.put]
          refine wpAnyH_ready (rs := [18]) (by kernel_rfl) (by simp) ?_
          refine AllReadyH.cons rfl (fun K hK => ?_) AllReadyH.nil
          go_simp
          refine hK.out _ _ trivial (fun _ => ?_)
          clear hK K
          refine wpAnyH_done (by kernel_rfl) ?_ _
          try simp only [Act.put, List.setIfInBounds_toArray, List.set_cons_zero, List.set_cons_succ]
          have hE := HEND hr2 hO2
          generalize World.setCell w2 ⟨r, 2, none⟩ (.slice a2 (ld.eraseIdx i).length cp2) = we at hE ⊢
          clear hr1 hg1 hor1 hr2 hg2 hor2 hO1 hO2 c1 c2 f2 hbk2 hc1b hc2b slhb sllb c0b
          go_wp2_with fail
          go_end0
          exact ⟨⟨_, rfl⟩, hE⟩
        · go_simp
          refine hK.out _ _ trivial (fun _ => ?_)
          clear hK K
          try simp only [Act.put, List.setIfInBounds_toArray, List.set_cons_zero, List.set_cons_succ]
          refine Wh.take (i := 14) (d := some 36) (v := .slice (some adb) (ld.length - (i + 1)) (capb - (i + 1))) rfl (by rfl) (by kernel_rfl) (by kernel_rfl) (by kernel_rfl) (fun _ _ _ h => h) (Or.inl ⟨by rfl, ?h53⟩) trivial ?r53
          case h53 => (intro w hSw; exact Wh.exec_l (by rfl) (by rfl) (by rfl) (by kernel_rfl) (sllb w))
          simp only [Act.put, List.setIfInBounds_toArray, List.set_cons_zero, List.set_cons_succ]
          refine wpAnyH_ready (rs := [7]) (by kernel_rfl) (by simp) ?_
          refine AllReadyH.cons rfl (fun K hK => ?_) AllReadyH.nil
          refine Rw.step_append_row _ 40 33 .u64 Rw.u_u Rw.i_u (by rfl) _ _ (by rfl) wm.heap.size _ [] (ld.take i) ⟨gb, 0, none⟩ i capb (by rfl) (Rw.Row.nil _ _ _ _) (by rw [List.length_take, Nat.min_eq_left (by omega)]) (by rfl) (fun j hj => hc1b j hj) (by simp; omega) (by simp) ?_
          intro v1 w1 hr1 hg1 hor1
          have hO1 : Only NoBlock wm w1 := hO0b.grown hg1 (fun k e => by simp [Value.ownBlock] at e)
          have c1 := Wh.cell_same hO1 c0m
          refine hK.out _ _ trivial (fun _ => ?_)
          clear hK K
          try simp only [Act.put, List.setIfInBounds_toArray]
          refine wpAnyH_ready (rs := [15]) (by kernel_rfl) (by simp) ?_
          refine AllReadyH.cons rfl (fun K hK => ?_) AllReadyH.nil
          refine Rw.step_append_row _ 40 33 .u64 Rw.u_u Rw.i_u (by rfl) _ _ (by rfl) wm.heap.size _ _ (ld.drop (i + 1)) adb (ld.length - (i + 1)) (capb - (i + 1)) (by rfl) hr1 (by rw [List.length_drop]) (by rfl) (fun j hj => Wh.cell_same hO1 (hc2b j hj)) (by simp; omega) (by have := hO1.size; omega) ?_
          intro v2 w2 hr2 hg2 hor2
          have hO2 : Only NoBlock wm w2 := hO1.grown hg2 (fun k e hlt => by have := (hr1.lt k e).1; omega)
          rw [List.nil_append, heraseb] at hr2
          have hbk2 := hbm.keeps hO2 (fun h => h)
          have c2 : w2.cell? ⟨r, 2, none⟩ = some (.slice (some ⟨gb, 0, none⟩) ld.length capb) := by rw [hbk2.cell]; rfl
          have f2 := hbk2.free 2
          obtain ⟨a2, cp2, rfl, _⟩ := hr2.shape
          refine hK.out _ _ trivial (fun _ => ?_)
          clear hK K
          try simp only [Act.put]
          refine Wh.take (i := 16) (d := some 38) (v := ?v54) rfl (by rfl) (by kernel_rfl) (by kernel_rfl) (by kernel_rfl) (fun _ _ _ h => h) (Or.inl ⟨by rfl, ?h54⟩) trivial ?r54
          case h54 => (intro w hSw; go_simp; all_goals (try with_reducible rfl))
          simp only [Act.put]
          refine Wh.take (i := 17) (d := some 39) (v := ?v55) rfl (by rfl) (by kernel_rfl) (by kernel_rfl) (by kernel_rfl) (fun _ _ _ h => h) (Or.inl ⟨by rfl, ?h55⟩) trivial ?r55
          case h55 => (intro w hSw; go_simp; all_goals (try with_reducible rfl))
          simp only [Act.put]
          refine wpAnyH_ready (rs := [18]) (by kernel_rfl) (by simp) ?_
          refine AllReadyH.cons rfl (fun K hK => ?_) AllReadyH.nil
          go_simp
          refine hK.out _ _ trivial (fun _ => ?_)
          clear hK K
          refine wpAnyH_done (by kernel_rfl) ?_ _
          try simp only [Act.put, List.setIfInBounds_toArray, List.set_cons_zero, List.set_cons_succ]
          have hE := HEND hr2 hO2
          generalize World.setCell w2 ⟨r, 2, none⟩ (.slice a2 (ld.eraseIdx i).length cp2) = we at hE ⊢
          clear hr1 hg1 hor1 hr2 hg2 hor2 hO1 hO2 c1 c2 f2 hbk2 hc1b hc2b slhb sllb c0b
          go_wp2_with fail
          go_end0
          exact ⟨⟨_, rfl⟩, hE⟩
      · go_simp
        refine hK.out _ _ trivial (fun _ => ?_)
        clear hK K
        try simp only [Act.put, List.setIfInBounds_toArray, List.set_cons_zero, List.set_cons_succ]
        refine Wh.take (i := 14) (d := some 36) (v := .slice (some adb) (ld.length - (i + 1)) (capb - (i + 1))) rfl (by rfl) (by kernel_rfl) (by kernel_rfl) (by kernel_rfl) (fun _ _ _ h => h) (Or.inl ⟨by rfl, ?h56⟩) trivial ?r56
        case h56 => (intro w hSw; exact Wh.exec_l (by rfl) (by rfl) (by rfl) (by kernel_rfl) (sllb w))
        simp only [Act.put, List.setIfInBounds_toArray, List.set_cons_zero, List.set_cons_succ]
        refine wpAnyH_ready (rs := [4]) (by kernel_rfl) (by simp) ?_
        refine AllReadyH.cons rfl (fun K hK => ?_) AllReadyH.nil
        go_simp
        refine hK.out _ _ trivial (fun _ => ?_)
        clear hK K
        try simp only [Act.put, List.setIfInBounds_toArray, List.set_cons_zero, List.set_cons_succ]
        refine Wh.take (i := 6) (d := some 28) (v := .slice (some ⟨gb, 0, none⟩) i capb) rfl (by rfl) (by kernel_rfl) (by kernel_rfl) (by kernel_rfl) (fun _ _ _ h => h) (Or.inl ⟨by rfl, ?h57⟩) trivial ?r57
        case h57 => (intro w hSw; exact Rw.exec_h (by rfl) (by rfl) (by rfl) (by kernel_rfl) (slhb w))
        simp only [Act.put, List.setIfInBounds_toArray, List.set_cons_zero, List.set_cons_succ]
        refine wpAnyH_ready (rs := [7]) (by kernel_rfl) (by simp) ?_
        refine AllReadyH.cons rfl (fun K hK => ?_) AllReadyH.nil
        refine Rw.step_append_row _ 40 33 .u64 Rw.u_u Rw.i_u (by rfl) _ _ (by rfl) wm.heap.size _ [] (ld.take i) ⟨gb, 0, none⟩ i capb (by rfl) (Rw.Row.nil _ _ _ _) (by rw [List.length_take, Nat.min_eq_left (by omega)]) (by rfl) (fun j hj => hc1b j hj) (by simp; omega) (by simp) ?_
        intro v1 w1 hr1 hg1 hor1
        have hO1 : Only NoBlock wm w1 := hO0b.grown hg1 (fun k e => by simp [Value.ownBlock] at e)
        have c1 := Wh.cell_same hO1 c0m
        refine hK.out _ _ trivial (fun _ => ?_)
        clear hK K
        try simp only [Act.put, List.setIfInBounds_toArray]
        refine wpAnyH_ready (rs := [15]) (by kernel_rfl) (by simp) ?_
        refine AllReadyH.cons rfl (fun K hK => ?_) AllReadyH.nil
        refine Rw.step_append_row _ 40 33 .u64 Rw.u_u Rw.i_u (by rfl) _ _ (by rfl) wm.heap.size _ _ (ld.drop (i + 1)) adb (ld.length - (i + 1)) (capb - (i + 1)) (by rfl) hr1 (by rw [List.length_drop]) (by rfl) (fun j hj => Wh.cell_same hO1 (hc2b j hj)) (by simp; omega) (by have := hO1.size; omega) ?_
        intro v2 w2 hr2 hg2 hor2
        have hO2 : Only NoBlock wm w2 := hO1.grown hg2 (fun k e hlt => by have := (hr1.lt k e).1; omega)
        rw [List.nil_append, heraseb] at hr2
        have hbk2 := hbm.keeps hO2 (fun h => h)
        have c2 : w2.cell? ⟨r, 2, none⟩ = some (.slice (some ⟨gb, 0, none⟩) ld.length capb) := by rw [hbk2.cell]; rfl
        have f2 := hbk2.free 2
        obtain ⟨a2, cp2, rfl, _⟩ := hr2.shape
        refine hK.out _ _ trivial (fun _ => ?_)
        clear hK K
        try simp only [Act.put]
        refine Wh.take (i := 16) (d := some 38) (v := ?v58) rfl (by rfl) (by kernel_rfl) (by kernel_rfl) (by kernel_rfl) (fun _ _ _ h => h) (Or.inl ⟨by rfl, ?h58⟩) trivial ?r58
        case h58 => (intro w hSw; go_simp; all_goals (try with_reducible rfl))
        simp only [Act.put]
        refine Wh.take (i := 17) (d := some 39) (v := ?v59) rfl (by rfl) (by kernel_rfl) (by kernel_rfl) (by kernel_rfl) (fun _ _ _ h => h) (Or.inl ⟨by rfl, ?h59⟩) trivial ?r59
        case h59 => (intro w hSw; go_simp; all_goals (try with_reducible rfl))
        simp only [Act.put]
        refine wpAnyH_ready (rs := [18]) (by kernel_rfl) (by simp) ?_
        refine AllReadyH.cons rfl (fun K hK => ?_) AllReadyH.nil
        go_simp
        refine hK.out _ _ trivial (fun _ => ?_)
        clear hK K
        refine wpAnyH_done (by kernel_rfl) ?_ _
        try simp only [Act.put, List.setIfInBounds_toArray, List.set_cons_zero, List.set_cons_succ]
        have hE := HEND hr2 hO2
        generalize World.setCell w2 ⟨r, 2, none⟩ (.slice a2 (ld.eraseIdx i).length cp2) = we at hE ⊢
        clear hr1 hg1 hor1 hr2 hg2 hor2 hO1 hO2 c1 c2 f2 hbk2 hc1b hc2b slhb sllb c0b
        go_wp2_with fail
        go_end0
        exact ⟨⟨_, rfl⟩, hE⟩
  · go_simp
    refine hK.out _ _ trivial (fun _ => ?_)
    clear hK K
    try simp only [Act.put, List.setIfInBounds_toArray, List.set_cons_zero, List.set_cons_succ]
    refine Wh.take (i := 14) (d := some 18) (v := .slice (some ada) (li.length - (i + 1)) (capa - (i + 1))) rfl (by rfl) (by kernel_rfl) (by kernel_rfl) (by kernel_rfl) (fun _ _ _ h => h) (Or.inl ⟨by rfl, ?h60⟩) trivial ?r60
    case h60 => (intro w hSw; exact Wh.exec_l (by rfl) (by rfl) (by rfl) (by kernel_rfl) (slla w))
    simp only [Act.put, List.setIfInBounds_toArray, List.set_cons_zero, List.set_cons_succ]
    refine wpAnyH_ready (rs := [4]) (by kernel_rfl) (by simp) ?_
    refine AllReadyH.cons rfl (fun K hK => ?_) AllReadyH.nil
    go_simp
    refine hK.out _ _ trivial (fun _ => ?_)
    clear hK K
    try simp only [Act.put, List.setIfInBounds_toArray, List.set_cons_zero, List.set_cons_succ]
    refine Wh.take (i := 6) (d := some 10) (v := .slice (some ⟨ga, 0, none⟩) i capa) rfl (by rfl) (by kernel_rfl) (by kernel_rfl) (by kernel_rfl) (fun _ _ _ h => h) (Or.inl ⟨by rfl, ?h61⟩) trivial ?r61
    case h61 => (intro w hSw; exact Rw.exec_h (by rfl) (by rfl) (by rfl) (by kernel_rfl) (slha w))
    simp only [Act.put, List.setIfInBounds_toArray, List.set_cons_zero, List.set_cons_succ]
    refine wpAnyH_ready (rs := [7]) (by kernel_rfl) (by simp) ?_
    refine AllReadyH.cons rfl (fun K hK => ?_) AllReadyH.nil
    refine Rw.step_append_row _ 27 3 .i64 Rw.u_i Rw.i_i (by rfl) _ _ (by rfl) w.heap.size _ [] (li.take i) ⟨ga, 0, none⟩ i capa (by rfl) (Rw.Row.nil _ _ _ _) (by rw [List.length_take, Nat.min_eq_left (by omega)]) (by rfl) (fun j hj => hc1a j hj) (by simp; omega) (by simp) ?_
    intro v1 w1 hr1 hg1 hor1
    have hO1 : Only NoBlock w w1 := hO0a.grown hg1 (fun k e => by simp [Value.ownBlock] at e)
    have c1 := Wh.cell_same hO1 c0w
    refine hK.out _ _ trivial (fun _ => ?_)
    clear hK K
    try simp only [Act.put, List.setIfInBounds_toArray]
    refine wpAnyH_ready (rs := [15]) (by kernel_rfl) (by simp) ?_
    refine AllReadyH.cons rfl (fun K hK => ?_) AllReadyH.nil
    refine Rw.step_append_row _ 27 3 .i64 Rw.u_i Rw.i_i (by rfl) _ _ (by rfl) w.heap.size _ _ (li.drop (i + 1)) ada (li.length - (i + 1)) (capa - (i + 1)) (by rfl) hr1 (by rw [List.length_drop]) (by rfl) (fun j hj => Wh.cell_same hO1 (hc2a j hj)) (by simp; omega) (by have := hO1.size; omega) ?_
    intro v2 w2 hr2 hg2 hor2
    have hO2 : Only NoBlock w w2 := hO1.grown hg2 (fun k e hlt => by have := (hr1.lt k e).1; omega)
    rw [List.nil_append, herasea] at hr2
    have hbk2 := hb.keeps hO2 (fun h => h)
    have c2 : w2.cell? ⟨r, 1, none⟩ = some (.slice (some ⟨ga, 0, none⟩) li.length capa) := by rw [hbk2.cell]; rfl
    have f2 := hbk2.free 1
    obtain ⟨a2, cp2, rfl, _⟩ := hr2.shape
    refine hK.out _ _ trivial (fun _ => ?_)
    clear hK K
    try simp only [Act.put]
    refine Wh.take (i := 16) (d := some 20) (v := ?v62) rfl (by rfl) (by kernel_rfl) (by kernel_rfl) (by kernel_rfl) (fun _ _ _ h => h) (Or.inl ⟨by rfl, ?h62⟩) trivial ?r62
    case h62 => (intro w hSw; go_simp; all_goals (try with_reducible rfl))
    simp only [Act.put]
    refine Wh.take (i := 17) (d := some 21) (v := ?v63) rfl (by rfl) (by kernel_rfl) (by kernel_rfl) (by kernel_rfl) (fun _ _ _ h => h) (Or.inl ⟨by rfl, ?h63⟩) trivial ?r63
    case h63 => (intro w hSw; go_simp; all_goals (try with_reducible rfl))
    simp only [Act.put]
    refine wpAnyH_ready (rs := [18]) (by kernel_rfl) (by simp) ?_
    refine AllReadyH.cons rfl (fun K hK => ?_) AllReadyH.nil
    go_simp
    refine hK.out _ _ trivial (fun _ => ?_)
    clear hK K
    refine wpAnyH_done (by kernel_rfl) ?_ _
    try simp only [Act.put, List.setIfInBounds_toArray, List.set_cons_zero, List.set_cons_succ]
    have hM := hMID hr2 hO2
    generalize World.setCell w2 ⟨r, 1, none⟩ (.slice a2 (li.eraseIdx i).length cp2) = wm at hM ⊢
    obtain ⟨hrm, hom, hbm⟩ := hM
    have hrdm := hrd.keeps hom (fun b e hk => by subst hk; exact hrd.apart hb (by decide) e)
    have c0m : wm.cell? ⟨r, 2, none⟩ = some (.slice (some ⟨gb, 0, none⟩) ld.length capb) := by rw [hbm.cell]; rfl
    have hc1b : ∀ j, j < (ld.take i).length → wm.drew.cell? ((⟨gb, 0, none⟩ : Addr).add j) = some (.int .u64 ((ld.take i).getD j 0)) := fun j hj => by
      rw [take_cell hj, Addr.add_lit, Nat.zero_add]
      obtain ⟨g', e, hc⟩ := hrdm.at_ (i := j) (by simp at hj; omega)
      cases e
      exact hc
    have slhb := Rw.sl_h1 40 Rw.ueu Rw.uzu gb ld.length capb i (by omega)
    obtain ⟨adb, sllb, hc2b, _⟩ := Rw.sl_l1 40 Rw.ueu Rw.uzu hrdm (i + 1) (by omega)
    push_cast at sllb
    have HEND : ∀ {wx : World} {ax : Option Addr} {cx : Nat}, Rw.Row 33 .u64 wx wm.heap.size (.slice ax (ld.eraseIdx i).length cx) (ld.eraseIdx i) → Only NoBlock wm wx →
        Rw.RefW (wx.setCell ⟨r, 2, none⟩ (.slice ax (ld.eraseIdx i).length cx)) (Rw.plus R w (wx.setCell ⟨r, 2, none⟩ (.slice ax (ld.eraseIdx i).length cx))) r now (A.eraseIdx i) ∧ Only R w (wx.setCell ⟨r, 2, none⟩ (.slice ax (ld.eraseIdx i).length cx)) := by
      intro wx ax cx hrx hox
      have hbx := hbm.keeps hox (fun h => h)
      have hby := hbx.setCell 2 (.slice ax (ld.eraseIdx i).length cx)
      have hoy : Only (fun k => k = r) wx (wx.setCell ⟨r, 2, none⟩ (.slice ax (ld.eraseIdx i).length cx))   := Only.setCell (S := fun k => k = r) (p := ⟨r, 2, none⟩) (Only.refl _ _) (fun _ => rfl) _
      have hri' := (hrm.keeps hox (fun _ _ h => h))
      have hsz1 := hom.size
      have hsz2 := hox.size
      refine ⟨⟨_, _, hby, ?_, ?_, .inl hRr, fun b e => .inr ?_, fun b e => .inr ?_⟩, (hom.mono (fun k e => by subst e; exact hRr)).trans (hox.of_no.trans (hoy.mono (fun k e => by subst e; exact hRr)))⟩
      · rw [heri]; exact (hri'.keeps hoy (fun b e hk => by subst hk; exact hri'.apart hbx (by decide) e)).less (Nat.zero_le _)
      · rw [herd]; exact (hrx.keeps hoy (fun b e hk => by subst hk; exact hrx.apart hbx (by decide) e)).less (Nat.zero_le _)
      · have := hri'.lt b e
        simp only [World.size_setCell]
        omega
      · have := hrx.lt b e
        simp only [World.size_setCell]
        omega
    clear hr1 hg1 hor1 hr2 hg2 hor2 hO1 hO2 c1 c2 f2 hbk2 hc1a hc2a slha slla c0a
    go_upto_region 1 with fail
    refine wp_region_held_drew (S := fun _ => True) (by kernel_rfl) trivial (fun _ => ?_)
    have hO0b := (Only.refl NoBlock wm).drew
    have c0b : (wm.drew).cell? ⟨r, 2, none⟩ = some (.slice (some ⟨gb, 0, none⟩) ld.length capb) := by rw [(hbm.drew).cell]; rfl
    refine Wh.take (i := 0) (d := some 22) (v := ?v64) rfl (by rfl) (by kernel_rfl) (by kernel_rfl) (by kernel_rfl) (fun _ _ _ h => h) (Or.inl ⟨by rfl, ?h64⟩) trivial ?r64
    case h64 => (intro w hSw; go_simp; all_goals (try with_reducible rfl))
    simp only [Act.put, List.setIfInBounds_toArray, List.set_cons_zero, List.set_cons_succ]
    refine Wh.take (i := 1) (d := some 23) (v := ?v65) rfl (by rfl) (by kernel_rfl) (by kernel_rfl) (by kernel_rfl) (fun _ _ _ h => h) (Or.inl ⟨by rfl, ?h65⟩) trivial ?r65
    case h65 => (intro w hSw; go_simp; all_goals (try with_reducible rfl))
    simp only [Act.put, List.setIfInBounds_toArray, List.set_cons_zero, List.set_cons_succ]
    refine Wh.take (i := 2) (d := some 24) (v := ?v66) rfl (by rfl) (by kernel_rfl) (by kernel_rfl) (by kernel_rfl) (fun _ _ _ h => h) (Or.inl ⟨by rfl, ?h66⟩) trivial ?r66
    case h66 => (intro w hSw; go_simp; all_goals (try with_reducible rfl))
    simp only [Act.put, List.setIfInBounds_toArray, List.set_cons_zero, List.set_cons_succ]
    refine Wh.take (i := 3) (d := some 25) (v := ?v67) rfl (by rfl) (by kernel_rfl) (by kernel_rfl) (by kernel_rfl) (fun _ _ _ h => h) (Or.inl ⟨by rfl, ?h67⟩) trivial ?r67
    case h67 => (intro w hSw; go_simp; all_goals (try with_reducible rfl))
    simp only [Act.put, List.setIfInBounds_toArray, List.set_cons_zero, List.set_cons_succ]
    refine Wh.take (i := 5) (d := some 27) (v := ?v68) rfl (by rfl) (by kernel_rfl) (by kernel_rfl) (by kernel_rfl) (fun _ _ _ h => h) (Or.inl ⟨by rfl, ?h68⟩) trivial ?r68
    case h68 => (intro w hSw; go_simp; all_goals (try with_reducible rfl))
    simp only [Act.put, List.setIfInBounds_toArray, List.set_cons_zero, List.set_cons_succ]
    refine Wh.take (i := 8) (d := some 30) (v := ?v69) rfl (by rfl) (by kernel_rfl) (by kernel_rfl) (by kernel_rfl) (fun _ _ _ h => h) (Or.inl ⟨by rfl, ?h69⟩) trivial ?r69
    case h69 => (intro w hSw; go_simp; all_goals (try with_reducible rfl))
    simp only [Act.put, List.setIfInBounds_toArray, List.set_cons_zero, List.set_cons_succ]
    refine Wh.take (i := 9) (d := some 31) (v := ?v70) rfl (by rfl) (by kernel_rfl) (by kernel_rfl) (by kernel_rfl) (fun _ _ _ h => h) (Or.inl ⟨by rfl, ?h70⟩) trivial ?r70
    case h70 => (intro w hSw; go_simp; all_goals (try with_reducible rfl))
    simp only [Act.put, List.setIfInBounds_toArray, List.set_cons_zero, List.set_cons_succ]
    refine Wh.take (i := 10) (d := some 32) (v := ?v71) rfl (by rfl) (by kernel_rfl) (by kernel_rfl) (by kernel_rfl) (fun _ _ _ h => h) (Or.inl ⟨by rfl, ?h71⟩) trivial ?r71
    case h71 => (intro w hSw; go_simp; all_goals (try with_reducible rfl))
    simp only [Act.put, List.setIfInBounds_toArray, List.set_cons_zero, List.set_cons_succ]
    refine Wh.take (i := 12) (d := some 34) (v := ?v72) rfl (by rfl) (by kernel_rfl) (by kernel_rfl) (by kernel_rfl) (fun _ _ _ h => h) (Or.inl ⟨by rfl, ?h72⟩) trivial ?r72
    case h72 => (intro w hSw; go_simp; all_goals (try with_reducible rfl))
    simp only [Act.put, List.setIfInBounds_toArray, List.set_cons_zero, List.set_cons_succ]
    refine Wh.take (i := 13) (d := some 35) (v := ?v73) rfl (by rfl) (by kernel_rfl) (by kernel_rfl) (by kernel_rfl) (fun _ _ _ h => h) (Or.inl ⟨by rfl, ?h73⟩) trivial ?r73
    case h73 => (intro w hSw; go_simp; all_goals (try with_reducible rfl))
    simp only [Act.put, List.setIfInBounds_toArray, List.set_cons_zero, List.set_cons_succ]
    refine wpAnyH_ready (rs := [4, 11]) (by kernel_rfl) (by simp) ?_
    refine AllReadyH.cons rfl (fun K hK => ?_) (AllReadyH.cons rfl (fun K hK => ?_) AllReadyH.nil)
    · go_simp
      refine hK.out _ _ trivial (fun _ => ?_)
      clear hK K
      try simp only [Act.put, List.setIfInBounds_toArray, List.set_cons_zero, List.set_cons_succ]
      refine Wh.take (i := 6) (d := some 28) (v := .slice (some ⟨gb, 0, none⟩) i capb) rfl (by rfl) (by kernel_rfl) (by kernel_rfl) (by kernel_rfl) (fun _ _ _ h => h) (Or.inl ⟨by rfl, ?h77⟩) trivial ?r77
      case h77 => (intro w hSw; exact Rw.exec_h (by rfl) (by rfl) (by rfl) (by kernel_rfl) (slhb w))
      simp only [Act.put, List.setIfInBounds_toArray, List.set_cons_zero, List.set_cons_succ]
      refine wpAnyH_ready (rs := [7, 11]) (by kernel_rfl) (by simp) ?_
      refine AllReadyH.cons rfl (fun K hK => ?_) (AllReadyH.cons rfl (fun K hK => ?_) AllReadyH.nil)
      · refine Rw.step_append_row _ 40 33 .u64 Rw.u_u Rw.i_u (by rfl) _ _ (by rfl) wm.heap.size _ [] (ld.take i) ⟨gb, 0, none⟩ i capb (by rfl) (Rw.Row.nil _ _ _ _) (by rw [List.length_take, Nat.min_eq_left (by omega)]) (by rfl) (fun j hj => hc1b j hj) (by simp; omega) (by simp) ?_
        intro v1 w1 hr1 hg1 hor1
        have hO1 : Only NoBlock wm w1 := hO0b.grown hg1 (fun k e => by simp [Value.ownBlock] at e)
        have c1 := Wh.cell_same hO1 c0m
        refine hK.out _ _ trivial (fun _ => ?_)
        clear hK K
        try simp only [Act.put, List.setIfInBounds_toArray]
        refine wpAnyH_ready (rs := [11]) (by kernel_rfl) (by simp) ?_
        refine AllReadyH.cons rfl (fun K hK => ?_) AllReadyH.nil
        go_simp
        refine hK.out _ _ trivial (fun _ => ?_)
        clear hK K
        try simp only [Act.put, List.setIfInBounds_toArray, List.set_cons_zero, List.set_cons_succ]
        refine Wh.take (i := 14) (d := some 36) (v := .slice (some adb) (ld.length - (i + 1)) (capb - (i + 1))) rfl (by rfl) (by kernel_rfl) (by kernel_rfl) (by kernel_rfl) (fun _ _ _ h => h) (Or.inl ⟨by rfl, ?h74⟩) trivial ?r74
        case h74 => (intro w hSw; exact Wh.exec_l (by rfl) (by rfl) (by rfl) (by kernel_rfl) (sllb w))
        simp only [Act.put, List.setIfInBounds_toArray, List.set_cons_zero, List.set_cons_succ]
        refine wpAnyH_ready (rs := [15]) (by kernel_rfl) (by simp) ?_
        refine AllReadyH.cons rfl (fun K hK => ?_) AllReadyH.nil
        refine Rw.step_append_row _ 40 33 .u64 Rw.u_u Rw.i_u (by rfl) _ _ (by rfl) wm.heap.size _ _ (ld.drop (i + 1)) adb (ld.length - (i + 1)) (capb - (i + 1)) (by rfl) hr1 (by rw [List.length_drop]) (by rfl) (fun j hj => Wh.cell_same hO1 (hc2b j hj)) (by simp; omega) (by have := hO1.size; omega) ?_
        intro v2 w2 hr2 hg2 hor2
        have hO2 : Only NoBlock wm w2 := hO1.grown hg2 (fun k e hlt => by have := (hr1.lt k e).1; omega)
        rw [List.nil_append, heraseb] at hr2
        have hbk2 := hbm.keeps hO2 (fun h => h)
        have c2 : w2.cell? ⟨r, 2, none⟩ = some (.slice (some ⟨gb, 0, none⟩) ld.length capb) := by rw [hbk2.cell]; rfl
        have f2 := hbk2.free 2
        obtain ⟨a2, cp2, rfl, _⟩ := hr2.shape
        refine hK.out _ _ trivial (fun _ => ?_)
        clear hK K
        try simp only [Act.put, List.setIfInBounds_toArray]
        refine Wh.take (i := 16) (d := some 38) (v := ?v75) rfl (by rfl) (by kernel_rfl) (by kernel_rfl) (by kernel_rfl) (fun _ _ _ h => h) (Or.inl ⟨by rfl, ?h75⟩) trivial ?r75
        case h75 => (intro w hSw; go_simp; all_goals (try with_reducible rfl))
        simp only [Act.put]
        refine Wh.take (i := 17) (d := some 39) (v := ?v76) rfl (by rfl) (by kernel_rfl) (by kernel_rfl) (by kernel_rfl) (fun _ _ _ h => h) (Or.inl ⟨by rfl, ?h76⟩) trivial ?r76
        case h76 => (intro w hSw; go_simp; all_goals (try with_reducible rfl))
        simp only [Act.put]
        refine wpAnyH_ready (rs := [18]) (by kernel_rfl) (by simp) ?_
        refine AllReadyH.cons rfl (fun K hK => ?_) AllReadyH.nil
        go_simp
        refine hK.out _ _ trivial (fun _ => ?_)
        clear hK K
        refine wpAnyH_done (by kernel_rfl) ?_ _
        try simp only [Act.put, List.setIfInBounds_toArray, List.set_cons_zero, List.set_cons_succ]
        have hE := HEND hr2 hO2
        generalize World.setCell w2 ⟨r, 2, none⟩ (.slice a2 (ld.eraseIdx i).length cp2) = we at hE ⊢
        clear hr1 hg1 hor1 hr2 hg2 hor2 hO1 hO2 c1 c2 f2 hbk2 hc1b hc2b slhb sllb c0b
        go_wp2_with fail
        go_end0
        exact ⟨⟨_, rfl⟩, hE⟩
      · go_simp
        refine hK.out _ _ trivial (fun _ => ?_)
        clear hK K
        try simp only [Act.put, List.setIfInBounds_toArray, List.set_cons_zero, List.set_cons_succ]
        refine Wh.take (i := 14) (d := some 36) (v := .slice (some adb) (ld.length - (i + 1)) (capb - (i + 1))) rfl (by rfl) (by kernel_rfl) (by kernel_rfl) (by kernel_rfl) (fun _ _ _ h => h) (Or.inl ⟨by rfl, ?h78⟩) trivial ?r78
        case h78 => (intro w hSw; exact Wh.exec_l (by rfl) (by rfl) (by rfl) (by kernel_rfl) (sllb w))
        simp only [Act.put, List.setIfInBounds_toArray, List.set_cons_zero, List.set_cons_succ]
        refine wpAnyH_ready (rs := [7]) (by kernel_rfl) (by simp) ?_
        refine AllReadyH.cons rfl (fun K hK => ?_) AllReadyH.nil
        refine Rw.step_append_row _ 40 33 .u64 Rw.u_u Rw.i_u (by rfl) _ _ (by rfl) wm.heap.size _ [] (ld.take i) ⟨gb, 0, none⟩ i capb (by rfl) (Rw.Row.nil _ _ _ _) (by rw [List.length_take, Nat.min_eq_left (by omega)]) (by rfl) (fun j hj => hc1b j hj) (by simp; omega) (by simp) ?_
        intro v1 w1 hr1 hg1 hor1
        have hO1 : Only NoBlock wm w1 := hO0b.grown hg1 (fun k e => by simp [Value.ownBlock] at e)
        have c1 := Wh.cell_same hO1 c0m
        refine hK.out _ _ trivial (fun _ => ?_)
        clear hK K
        try simp only [Act.put, List.setIfInBounds_toArray]
        refine wpAnyH_ready (rs := [15]) (by kernel_rfl) (by simp) ?_
        refine AllReadyH.cons rfl (fun K hK => ?_) AllReadyH.nil
        refine Rw.step_append_row _ 40 33 .u64 Rw.u_u Rw.i_u (by rfl) _ _ (by rfl) wm.heap.size _ _ (ld.drop (i + 1)) adb (ld.length - (i + 1)) (capb - (i + 1)) (by rfl) hr1 (by rw [List.length_drop]) (by rfl) (fun j hj => Wh.cell_same hO1 (hc2b j hj)) (by simp; omega) (by have := hO1.size; omega) ?_
        intro v2 w2 hr2 hg2 hor2
        have hO2 : Only NoBlock wm w2 := hO1.grown hg2 (fun k e hlt => by have := (hr1.lt k e).1; omega)
        rw [List.nil_append, heraseb] at hr2
        have hbk2 := hbm.keeps hO2 (fun h => h)
        have c2 : w2.cell? ⟨r, 2, none⟩ = some (.slice (some ⟨gb, 0, none⟩) ld.length capb) := by rw [hbk2.cell]; rfl
        have f2 := hbk2.free 2
        obtain ⟨a2, cp2, rfl, _⟩ := hr2.shape
        refine hK.out _ _ trivial (fun _ => ?_)
        clear hK K
        try simp only [Act.put]
        refine Wh.take (i := 16) (d := some 38) (v := ?v79) rfl (by rfl) (by kernel_rfl) (by kernel_rfl) (by kernel_rfl) (fun _ _ _ h => h) (Or.inl ⟨by rfl, ?h79⟩) trivial ?r79
        case h79 => (intro w hSw; go_simp; all_goals (try with_reducible rfl))
        simp only [Act.put]
        refine Wh.take (i := 17) (d := some 39) (v := ?v80) rfl (by rfl) (by kernel_rfl) (by kernel_rfl) (by kernel_rfl) (fun _ _ _ h => h) (Or.inl ⟨by rfl, ?h80⟩) trivial ?r80
        case h80 => (intro w hSw; go_simp; all_goals (try with_reducible rfl))
        simp only [Act.put]
        refine wpAnyH_ready (rs := [18]) (by kernel_rfl) (by simp) ?_
        refine AllReadyH.cons rfl (fun K hK => ?_) AllReadyH.nil
        go_simp
        refine hK.out _ _ trivial (fun _ => ?_)
        clear hK K
        refine wpAnyH_done (by kernel_rfl) ?_ _
        try simp only [Act.put, List.setIfInBounds_toArray, List.set_cons_zero, List.set_cons_succ]
        have hE := HEND hr2 hO2
        generalize World.setCell w2 ⟨r, 2, none⟩ (.slice a2 (ld.eraseIdx i).length cp2) = we at hE ⊢
        clear hr1 hg1 hor1 hr2 hg2 hor2 hO1 hO2 c1 c2 f2 hbk2 hc1b hc2b slhb sllb c0b
        go_wp2_with fail
        go_end0
        exact ⟨⟨_, rfl⟩, hE⟩
    · go_simp
      refine hK.out _ _ trivial (fun _ => ?_)
      clear hK K
      try simp only [Act.put, List.setIfInBounds_toArray, List.set_cons_zero, List.set_cons_succ]
      refine Wh.take (i := 14) (d := some 36) (v := .slice (some adb) (ld.length - (i + 1)) (capb - (i + 1))) rfl (by rfl) (by kernel_rfl) (by kernel_rfl) (by kernel_rfl) (fun _ _ _ h => h) (Or.inl ⟨by rfl, ?h81⟩) trivial ?r81
      case h81 => (intro w hSw; exact Wh.exec_l (by rfl) (by rfl) (by rfl) (by kernel_rfl) (sllb w))
      simp only [Act.put, List.setIfInBounds_toArray, List.set_cons_zero, List.set_cons_succ]
      refine wpAnyH_ready (rs := [4]) (by kernel_rfl) (by simp) ?_
      refine AllReadyH.cons rfl (fun K hK => ?_) AllReadyH.nil
      go_simp
      refine hK.out _ _ trivial (fun _ => ?_)
      clear hK K
      try simp only [Act.put, List.setIfInBounds_toArray, List.set_cons_zero, List.set_cons_succ]
      refine Wh.take (i := 6) (d := some 28) (v := .slice (some ⟨gb, 0, none⟩) i capb) rfl (by rfl) (by kernel_rfl) (by kernel_rfl) (by kernel_rfl) (fun _ _ _ h => h) (Or.inl ⟨by rfl, ?h82⟩) trivial ?r82
      case h82 => (intro w hSw; exact Rw.exec_h (by rfl) (by rfl) (by rfl) (by kernel_rfl) (slhb w))
      simp only [Act.put, List.setIfInBounds_toArray, List.set_cons_zero, List.set_cons_succ]
      refine wpAnyH_ready (rs := [7]) (by kernel_rfl) (by simp) ?_
      refine AllReadyH.cons rfl (fun K hK => ?_) AllReadyH.nil
      refine Rw.step_append_row _ 40 33 .u64 Rw.u_u Rw.i_u (by rfl) _ _ (by rfl) wm.heap.size _ [] (ld.take i) ⟨gb, 0, none⟩ i capb (by rfl) (Rw.Row.nil _ _ _ _) (by rw [List.length_take, Nat.min_eq_left (by omega)]) (by rfl) (fun j hj => hc1b j hj) (by simp; omega) (by simp) ?_
      intro v1 w1 hr1 hg1 hor1
      have hO1 : Only NoBlock wm w1 := hO0b.grown hg1 (fun k e => by simp [Value.ownBlock] at e)
      have c1 := Wh.cell_same hO1 c0m
      refine hK.out _ _ trivial (fun _ => ?_)
      clear hK K
      try simp only [Act.put, List.setIfInBounds_toArray]
      refine wpAnyH_ready (rs := [15]) (by kernel_rfl) (by simp) ?_
      refine AllReadyH.cons rfl (fun K hK => ?_) AllReadyH.nil
      refine Rw.step_append_row _ 40 33 .u64 Rw.u_u Rw.i_u (by rfl) _ _ (by rfl) wm.heap.size _ _ (ld.drop (i + 1)) adb (ld.length - (i + 1)) (capb - (i + 1)) (by rfl) hr1 (by rw [List.length_drop]) (by rfl) (fun j hj => Wh.cell_same hO1 (hc2b j hj)) (by simp; omega) (by have := hO1.size; omega) ?_
      intro v2 w2 hr2 hg2 hor2
      have hO2 : Only NoBlock wm w2 := hO1.grown hg2 (fun k e hlt => by have := (hr1.lt k e).1; omega)
      rw [List.nil_append, heraseb] at hr2
      have hbk2 := hbm.keeps hO2 (fun h => h)
      have c2 : w2.cell? ⟨r, 2, none⟩ = some (.slice (some ⟨gb, 0, none⟩) ld.length capb) := by rw [hbk2.cell]; rfl
      have f2 := hbk2.free 2
      obtain ⟨a2, cp2, rfl, _⟩ := hr2.shape
      refine hK.out _ _ trivial (fun _ => ?_)
      clear hK K
      try simp only [Act.put]
      refine Wh.take (i := 16) (d := some 38) (v := ?v83) rfl (by rfl) (by kernel_rfl) (by kernel_rfl) (by kernel_rfl) (fun _ _ _ h => h) (Or.inl ⟨by rfl, ?h83⟩) trivial ?r83
      case h83 => (intro w hSw; go_simp; all_goals (try with_reducible rfl))
      simp only [Act.put]
      refine Wh.take (i := 17) (d := some 39) (v := ?v84) rfl (by rfl) (by kernel_rfl) (by kernel_rfl) (by kernel_rfl) (fun _ _ _ h => h) (Or.inl ⟨by rfl, ?h84⟩) trivial ?r84
      case h84 => (intro w hSw; go_simp; all_goals (try with_reducible rfl))
      simp only [Act.put]
      refine wpAnyH_ready (rs := [18]) (by kernel_rfl) (by simp) ?_
      refine AllReadyH.cons rfl (fun K hK => ?_) AllReadyH.nil
      go_simp
      refine hK.out _ _ trivial (fun _ => ?_)
      clear hK K
      refine wpAnyH_done (by kernel_rfl) ?_ _
      try simp only [Act.put, List.setIfInBounds_toArray, List.set_cons_zero, List.set_cons_succ]
      have hE := HEND hr2 hO2
      generalize World.setCell w2 ⟨r, 2, none⟩ (.slice a2 (ld.eraseIdx i).length cp2) = we at hE ⊢
      clear hr1 hg1 hor1 hr2 hg2 hor2 hO1 hO2 c1 c2 f2 hbk2 hc1b hc2b slhb sllb c0b
      go_wp2_with fail
      go_end0
      exact ⟨⟨_, rfl⟩, hE⟩
end Go.Proofs.Ytklpdkojffaiiaa
