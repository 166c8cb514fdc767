/- Is a timer set? -/
import Derived.Test.YtklpdkojffaiiaaWheelW
namespace Go.Proofs.Ytklpdkojffaiiaa
open Go.RowKit Go.Shelf
set_option maxRecDepth 100000
attribute [local go_sem] Oper.semAt_some

set_option maxHeartbeats 4000000 in
theorem has_at (w : World) (base p r0 r1 r2 : Nat) (X : Nat → Prop) (M : Wh.Wl) (h : Wh.WheelAt w base X p r0 r1 r2 M) (id : Int) :
    Calls Try.prog 22 #[.pointer (some ⟨p, 0, none⟩), .int .i64 id] w fun e w' => e = .returned (.bool (M.has id)) ∧ Only NoBlock w w' := by
  refine (callsIn_wide (n := 3)).1 ?_
  refine callsIn_of_wp_marks Try.func22 rfl trivial ?_ rfl
  simp only [Try.ntmps22, List.size_toArray, List.length_cons, List.length_nil, Nat.reduceAdd, Nat.reduceSub, Array.replicate_succ, Array.replicate_zero, List.push_toArray, List.append_toArray, List.nil_append, List.cons_append]
  have hn := ((Only.refl NoBlock w).alloc (Obj.cells #[.int .i64 id] 3)).alloc (Obj.cells #[.bool false] 4)
  have ci : Blk ((w.alloc (Obj.cells #[.int .i64 id] 3)).alloc (Obj.cells #[.bool false] 4)) w.heap.size #[.int .i64 id] 3 := (Blk.made w #[.int .i64 id] 3).alloc _
  have cr := Blk.made (w.alloc (Obj.cells #[.int .i64 id] 3)) #[.bool false] 4
  rw [World.size_alloc] at cr
  gi_wp2
  generalize (w.alloc (Obj.cells #[.int .i64 id] 3)).alloc (Obj.cells #[.bool false] 4) = w0 at hn ci cr ⊢
  refine range_law (gf := 27) (first := #[.pointer (some ⟨p, 0, none⟩)]) rfl (enters_of Try.func27 (by kernel_rfl) rfl) (lists_iter _ p r0 r1 r2)
    (fun q W => Only NoBlock w0 W ∧ ∀ j, j < q → (M.L j).any (fun t => decide (t.id = id)) = false)
    (fun c W => c = .ret ∧ M.has id = true ∧ W.cell? ⟨w.heap.size + 1, 0, none⟩ = some (.bool true) ∧ Only (fun k => k = w.heap.size + 1) w0 W)
    (fun q => ⟨fun o' h hl _ _ => ⟨only_put o' h.1 hl, h.2⟩, fun o h => ⟨h.1.alloc o, h.2⟩⟩)
    (fun c => ⟨fun o' h hl ho hc => ⟨h.1, h.2.1, cell_kept h.2.2.1 (grownBy_putObj' _ _ _) (fun r e => by cases e; exact ⟨_, ho, hc⟩), only_put o' h.2.2.2 hl⟩, fun o h => ⟨h.1, h.2.1, Wh.cell_same ((Only.refl _ _).alloc o) h.2.2.1, h.2.2.2.alloc o⟩⟩)
    ⟨Only.refl _ _, fun j hj => by omega⟩ (fun q W hh => (h.keeps (hn.trans hh.1)).rg)
    (fun q => { tmps := #[.pointer (some ⟨p, 0, none⟩), .int .i64 id, undef, .pointer (some ⟨w.heap.size, 0, none⟩), .pointer (some ⟨w.heap.size + 1, 0, none⟩), .pointer (some (Wh.loc p r0 r1 r2 q)), undef, undef, .pointer (some ⟨p, 0, none⟩), .func (.func 27) #[.pointer (some ⟨p, 0, none⟩)] #[], .pointer (some (Wh.loc p r0 r1 r2 q)), undef, undef, undef, undef, undef, undef, undef, undef, undef, undef, undef, undef, undef], defers := [] }) ?assign ?body ?done ?stop
  case assign =>
    intro l q W K hK
    gi_wp2
    exact hK
  case body =>
    rintro l q W hq ⟨hO, hno⟩
    have hwW := h.keeps (hn.trans hO)
    obtain ⟨V, hV⟩ := hwW.ex
    obtain ⟨hc, hT⟩ := hV.at_ q hq
    obtain ⟨ao, cap, hv⟩ := hT.shape
    rw [hv] at hc hT
    have hll := hT.2.2
    obtain ⟨L, hL⟩ : ∃ L, M.L q = L := ⟨_, rfl⟩
    rw [hL] at hc hT hll
    have HL := Lib.hid hL
    have HNO := Lib.hid hno
    have hany : ∀ i, i < L.length → (L.getD i Wh.Tm.zero).id = id → M.has id = true := fun i hi e => by
      unfold Wh.Wl.has
      rw [List.any_eq_true]
      refine ⟨q, List.mem_range.2 hq, ?_⟩
      rw [hL, List.any_eq_true]
      refine ⟨L[i], List.getElem_mem hi, ?_⟩
      rw [List.getD_eq_getElem?_getD, List.getElem?_eq_getElem hi] at e
      simpa using e
    have HANY := Lib.hid hany
    have x0 : W.cell? ⟨w.heap.size, 0, none⟩ = some (.int .i64 id) := by rw [(ci.keeps hO (fun h => h)).cell]; rfl
    have crW := cr.keeps hO (fun h => h)
    have y0 : W.cell? ⟨w.heap.size + 1, 0, none⟩ = some (.bool false) := by rw [crW.cell]; rfl
    have fy := crW.free 0
    have hne : w.heap.size ≠ w.heap.size + 1 := by omega
    clear hV hv hL hno hany hwW
    generalize Wh.loc p r0 r1 r2 q = A at hc ⊢
    gi_wp2
    gi_loopw [15] (fun u15 wr => ∃ k : Nat, k ≤ L.length ∧ u15 = .int .i64 k ∧ Only NoBlock W wr ∧ RowKit.Hid (∀ i, i < k → (L.getD i Wh.Tm.zero).id ≠ id)) (fun u15 _ => L.length - (intOf u15).toNat)
    case atStart => exact ⟨0, by omega, rfl, Only.refl _ _, Lib.hid (fun i hi => by omega)⟩
    case round =>
      obtain ⟨k, hk, rfl, hO1, HN⟩ := hrel
      have hT1 := hT.keeps hO1 (fun _ _ h => h)
      by_cases hlt : k < L.length
      · obtain ⟨g, rfl, c0, c1, c2⟩ := hT1.cell hlt
        have x1 := Wh.cell_same hO1 x0
        have y1 := Wh.cell_same hO1 y0
        have cr1 := crW.keeps hO1 (fun h => h)
        have fy1 := cr1.free 0
        have hA1 := (Only.refl NoBlock wr).alloc (Obj.cells #[.int .i64 (L.getD k Wh.Tm.zero).id, .int .u64 (L.getD k Wh.Tm.zero).due, .int .i64 (L.getD k Wh.Tm.zero).turn] 53)
        have HK : RowKit.Hid ((L.getD k Wh.Tm.zero).id = id → M.has id = true) := Lib.hid (HANY.out k hlt)
        obtain ⟨t, ht⟩ : ∃ t, L.getD k Wh.Tm.zero = t := ⟨_, rfl⟩
        rw [ht] at c0 c1 c2 hA1 HK
        have HT := Lib.hid ht
        clear ht
        obtain ⟨ti, td, tt⟩ := t
        simp only at c0 c1 c2 hA1 HK
        have x2 := Wh.cell_same hA1 x1
        have y2 := Wh.cell_same hA1 y1
        have cr2 := cr1.keeps hA1 (fun h => h)
        have fy2 := cr2.free 0
        by_cases he : ti = id
        · have hb : (ti == id) = true := by simpa using he
          have HHAS := Lib.hid (HK.out he)
          clear he
          gi_wp2
          have hO2 := hO1.trans hA1
          refine ⟨(keepsO hO2).trans (KeepsOthers.setCell _ _ _), rfl, HHAS.out, ?_, ?_⟩
          · exact World.cell?_setCell_same' _ _ _ (by rw [y2]; rfl)
          · exact Only.setCell (S := fun k => k = w.heap.size + 1) ((hO.trans hO2).of_no) (p := ⟨w.heap.size + 1, 0, none⟩) (fun _ => rfl) _
        · have hb : (ti == id) = false := by simpa using he
          have HE := Lib.hid he
          clear he
          gi_wp2
          go_roundw
          case rel =>
            have HN2 : RowKit.Hid (∀ i, i < k + 1 → (L.getD i Wh.Tm.zero).id ≠ id) := Lib.hid (fun i hi => by
              by_cases hik : i < k
              · exact HN.out i hik
              · obtain rfl : i = k := by omega
                rw [HT.out]; exact HE.out)
            first
              | exact ⟨k + 1, by omega, by go_num, hO1.trans hA1, HN2⟩
              | ((repeat apply Exists.intro); exact ⟨⟨k + 1, by omega, by go_num, hO1.trans hA1, HN2⟩, rfl⟩)
          case measure => simp [intOf]; omega
      · obtain rfl : k = L.length := by omega
        gi_wp2
        refine ⟨keepsO hO1, hO.trans hO1, fun j hj => ?_⟩
        by_cases hjq : j < q
        · exact HNO.out j hjq
        · obtain rfl : j = q := by omega
          rw [HL.out, List.any_eq_false]
          intro t ht
          obtain ⟨i, hi, rfl⟩ := List.mem_iff_getElem.1 ht
          have := HN.out i hi
          rw [List.getD_eq_getElem?_getD, List.getElem?_eq_getElem hi] at this
          simpa using this
  case done =>
    rintro D W hD ⟨hO, hno⟩ hK
    have crW := cr.keeps hO (fun h => h)
    have y0 : W.cell? ⟨w.heap.size + 1, 0, none⟩ = some (.bool false) := by rw [crW.cell]; rfl
    have fy := crW.free 0
    have hhas : M.has id = false := by
      unfold Wh.Wl.has
      rw [List.any_eq_false]
      intro q hq
      rw [hno q (List.mem_range.1 hq)]
      decide
    have HH := Lib.hid hhas
    have hzn := hn.size
    clear hno hhas
    gi_wp2
    have hK' := (KeepsOthers.setCell W ⟨w.heap.size + 1, 0, none⟩ (.bool false)).same D _ hK rfl
    refine ⟨by simp, .inl ⟨_, _, rfl, run_takeDeferred hK', ?_⟩⟩
    have hc5 := cell_kept (World.cell?_setCell_same' W ⟨w.heap.size + 1, 0, none⟩ (.bool false) (by rw [y0]; rfl)) (grownBy_putObj' _ D (.deferred none)) (fun r e => by cases e; exact ⟨_, hK', rfl⟩)
    refine ⟨.bool false, ?_, by rw [HH.out], only_put _ ((hn.trans hO).setCell (p := ⟨w.heap.size + 1, 0, none⟩) (fun hlt => by simp at hlt; omega) _) (by omega)⟩
    simp [results, Try.f22, go_sem, hc5]
  case stop =>
    rintro D c W hD ⟨rfl, hhas, hcr, hO⟩ hK
    have HH := Lib.hid hhas
    have hzn := hn.size
    clear hhas
    gi_wp2
    refine ⟨by simp, .inl ⟨_, _, rfl, run_takeDeferred hK, ?_⟩⟩
    have hc5 := cell_kept hcr (grownBy_putObj' _ D (.deferred none)) (fun r e => by cases e; exact ⟨_, hK, rfl⟩)
    refine ⟨.bool true, ?_, by rw [HH.out], only_put _ (hn.andThen hO (fun i hi e => by have e' : i = w.heap.size + 1 := e; omega)) (by omega)⟩
    simp [results, Try.f22, go_sem, hc5]
end Go.Proofs.Ytklpdkojffaiiaa
